/-
  Several texts in one:
  A row of metas as an array; (slices.swapRangeCmpFunc). Conditions: lengths that a slice has.
  (slices.rotateCmpFunc) of metas by Plan's comparison: the same metas, in some order. Conditions: lengths that a slice has.
  (slices.insertionSortCmpFunc) of metas by Plan's comparison: the same metas, in some order. Conditions: lengths that a slice has.
-/
import Derived.Test.YtjoaonppaokhhaaGreatPart43
import Derived.Test.YtjoaonppaokhhaaGreatPart27
import Derived.Test.YtjoaonppaokhhaaGreatPart13
import Derived.CellFam

namespace Go.Proofs.YtjoaonppaokhhaaGreat
open Go.RowKit

instance : Inhabited MtM := ⟨⟨⟨0, 0, 0, 0, [], 0, 0⟩, none, 0, 0⟩⟩
/-- a row of metas, as an array -/
def MA (w : World) (base : Nat) (g n c : Nat) (d : Array MtM) : Prop := OE elMt w base 28 (some ⟨g, 0, none⟩) n c d.toList
theorem MA.size {w : World} {base g n c : Nat} {d : Array MtM} (h : MA w base g n c d) : d.size = n := by
  have := OE.len (by decide) h
  simpa using this
/-- the seven cells of each element -/
structure MFam (w : World) (g o n : Nat) (G : Nat → MtM) : Prop where
  c0 : ∀ k, k < n → w.cell? ⟨g, o + k * 7, none⟩ = some (.int .u64 ((G k).m.id : Int))
  c1 : ∀ k, k < n → w.cell? ⟨g, o + k * 7 + 1, none⟩ = some (.int .i64 (G k).m.lo)
  c2 : ∀ k, k < n → w.cell? ⟨g, o + k * 7 + 2, none⟩ = some (.int .i64 (G k).m.hi)
  c3 : ∀ k, k < n → w.cell? ⟨g, o + k * 7 + 3, none⟩ = some (.int .i64 (G k).m.lv)
  c4 : ∀ k, k < n → w.cell? ⟨g, o + k * 7 + 4, none⟩ = some (.slice (G k).A (G k).n (G k).c)
  c5 : ∀ k, k < n → w.cell? ⟨g, o + k * 7 + 5, none⟩ = some (.int .i64 (G k).m.sr)
  c6 : ∀ k, k < n → w.cell? ⟨g, o + k * 7 + 6, none⟩ = some (.int .i64 (G k).m.pt)
  fr : ∀ k, w.frozen? ⟨g, k, none⟩ = false
theorem MA.cellAt {w : World} {base g n c : Nat} {d : Array MtM} (h : MA w base g n c d) {k j : Nat} (hk : k < n) (hj : j < 7) : w.cell? ⟨g, k * 7 + j, none⟩ = (elMt.cells d[k]!)[j]? := by
  have hs := h.size
  obtain ⟨g', e, _, _, hc, _, _⟩ := Own.at_ h (by omega)
  injection e with e
  injection e with e
  subst e
  have hd : d[k]! = d[k]'(by omega) := getElem!_pos d k (by omega)
  have hx : d.toList[k]? = some (d[k]!) := by rw [Array.getElem?_toList, hd, Array.getElem?_eq_getElem (by omega)]
  rw [hc (k * 7 + j) (by show k * 7 + j < n * 7; omega)]
  exact elMt.flat_get d.toList (k := k) (j := j) hx hj
theorem MA.fam {w : World} {base g n c o : Nat} {d : Array MtM} (h : MA w base g n c d) (ho : o = 0) (hn : 0 < n) (G : Nat → MtM) (hG : ∀ k, G k = d[k]!) : MFam w g o n G := by
  subst ho
  refine ⟨fun k hk => ?_, fun k hk => ?_, fun k hk => ?_, fun k hk => ?_, fun k hk => ?_, fun k hk => ?_, fun k hk => ?_, fun k => ?_⟩
  · rw [Nat.zero_add, hG]; exact h.cellAt (j := 0) hk (by decide)
  · rw [Nat.zero_add, hG]; exact h.cellAt (j := 1) hk (by decide)
  · rw [Nat.zero_add, hG]; exact h.cellAt (j := 2) hk (by decide)
  · rw [Nat.zero_add, hG]; exact h.cellAt (j := 3) hk (by decide)
  · rw [Nat.zero_add, hG]; exact h.cellAt (j := 4) hk (by decide)
  · rw [Nat.zero_add, hG]; exact h.cellAt (j := 5) hk (by decide)
  · rw [Nat.zero_add, hG]; exact h.cellAt (j := 6) hk (by decide)
  · obtain ⟨g', e, _, _, _, hf, _⟩ := Own.at_ h hn
    injection e with e
    injection e with e
    subst e
    exact hf k

/-- an element is stored -/
def setMt (w : World) (g p : Nat) (x : MtM) : World :=
  ((((((w.setCell ⟨g, p, none⟩ (.int .u64 (x.m.id : Int))).setCell ⟨g, p + 1, none⟩ (.int .i64 x.m.lo)).setCell ⟨g, p + 2, none⟩ (.int .i64 x.m.hi)).setCell ⟨g, p + 3, none⟩ (.int .i64 x.m.lv)).setCell ⟨g, p + 4, none⟩ (.slice x.A x.n x.c)).setCell ⟨g, p + 5, none⟩ (.int .i64 x.m.sr)).setCell ⟨g, p + 6, none⟩ (.int .i64 x.m.pt)
theorem flat_setMt (l : List MtM) (k : Nat) (x y : MtM) (hk : l[k]? = some y) :
    ((((((((elMt.flat l).set (k * 7) (.int .u64 (x.m.id : Int))).set (k * 7 + 1) (.int .i64 x.m.lo)).set (k * 7 + 2) (.int .i64 x.m.hi)).set (k * 7 + 3) (.int .i64 x.m.lv)).set (k * 7 + 4) (.slice x.A x.n x.c)).set (k * 7 + 5) (.int .i64 x.m.sr)).set (k * 7 + 6) (.int .i64 x.m.pt)) = elMt.flat (l.set k x) := by
  have hlen : (elMt.flat l).length = l.length * 7 := elMt.flat_length l
  have hk2 : k < l.length := (List.getElem?_eq_some_iff.1 hk).1
  apply List.ext_getElem?
  intro i
  rw [flat_set_cells elMt l k x y hk]
  by_cases h : k * elMt.sz ≤ i ∧ i < k * elMt.sz + elMt.sz
  · rw [if_pos h]
    have h7 : k * 7 ≤ i ∧ i < k * 7 + 7 := h
    obtain ⟨j, rfl⟩ : ∃ j, i = k * 7 + j := ⟨i - k * 7, by omega⟩
    have hj : j < 7 := by omega
    have e : k * 7 + j - k * elMt.sz = j := by show k * 7 + j - k * 7 = j; omega
    rw [e]
    rcases (by omega : j = 0 ∨ j = 1 ∨ j = 2 ∨ j = 3 ∨ j = 4 ∨ j = 5 ∨ j = 6) with rfl | rfl | rfl | rfl | rfl | rfl | rfl
    all_goals
      simp only [List.getElem?_set, List.length_set, hlen, Nat.add_right_cancel_iff, Nat.add_zero]
      simp
      first
        | done
        | (rw [if_pos (by omega)]; rfl)
        | rfl
  · rw [if_neg h]
    have h7 : ¬ (k * 7 ≤ i ∧ i < k * 7 + 7) := h
    simp only [List.getElem?_set, List.length_set]
    rw [if_neg (by omega), if_neg (by omega), if_neg (by omega), if_neg (by omega), if_neg (by omega), if_neg (by omega), if_neg (by omega)]
theorem MA.set {w : World} {base g n c : Nat} {d : Array MtM} (h : MA w base g n c d) {k : Nat} (hk : k < n) (x : MtM) : MA (setMt w g (k * 7) x) base g n c (d.setIfInBounds k x) := by
  have hs := h.size
  have hy : d.toList[k]? = some d[k]! := by
    have hd : d[k]! = d[k]'(by omega) := getElem!_pos d k (by omega)
    rw [Array.getElem?_toList, hd, Array.getElem?_eq_getElem (by omega)]
  unfold MA OE
  rw [Array.toList_setIfInBounds, ← flat_setMt _ _ _ _ hy]
  exact Own.set (Own.set (Own.set (Own.set (Own.set (Own.set (Own.set h _ _) _ _) _ _) _ _) _ _) _ _) _ _
theorem MA.swpo {w : World} {base g n c o : Nat} {d : Array MtM} (h : MA w base g n c d) (ho : o = 0) {i j : Nat} (hi : i < n) (hj : j < n) (x y : MtM) (hx : d[i]! = x) (hy : d[j]! = y) : MA (setMt (setMt w g (o + i * 7) y) g (o + j * 7) x) base g n c (Go.Sort.swp d i j) := by
  subst ho
  subst hx
  subst hy
  rw [Nat.zero_add, Nat.zero_add]
  exact (h.set hi _).set hj _
theorem Chg.setMt {w0 w : World} {g : Nat} (h : Chg (fun k => k = g) w0 w) (p : Nat) (x : MtM) : Chg (fun k => k = g) w0 (setMt w g p x) :=
  ((((((h.setCell (.inr rfl) _).setCell (.inr rfl) _).setCell (.inr rfl) _).setCell (.inr rfl) _).setCell (.inr rfl) _).setCell (.inr rfl) _).setCell (.inr rfl) _
theorem MA.far {S : Nat → Prop} {w w' : World} {base g n c : Nat} {d : Array MtM} (h : MA w base g n c d) (hc : Chg S w w') (hn : ¬ S g) : MA w' base g n c d := OE.chg h hc fun ad e => by
  injection e with e
  subst e
  exact hn
theorem MA.drew {w : World} {base g n c : Nat} {d : Array MtM} (h : MA w base g n c d) : MA w.drew base g n c d := h
/-- what a function of the stable sort does to a row: the elements change their places -/
def MsTo (base g n c : Nat) (w : World) (d' : Array MtM) (w' : World) : Prop := MA w' base g n c d' ∧ Chg (fun k => k = g) w w'
def MpTo (base g n c : Nat) (d : Array MtM) (w : World) (w' : World) : Prop := ∃ d', Go.Sort.PermIn 0 n d d' ∧ MsTo base g n c w d' w'
theorem MsTo.trans {base g n c : Nat} {w w1 w2 : World} {d1 d2 : Array MtM} (h1 : MsTo base g n c w d1 w1) (h2 : MsTo base g n c w1 d2 w2) : MsTo base g n c w d2 w2 := ⟨h2.1, h1.2.trans h2.2⟩
theorem MsTo.grow {base g n c : Nat} {w w1 w2 : World} {d : Array MtM} (h1 : MsTo base g n c w d w1) (h2 : Grew w1 w2) : MsTo base g n c w d w2 := ⟨OE.grew h1.1 h2, h1.2.grow h2⟩
theorem mt_swap {n i j : Nat} {d e : Array MtM} (h : Go.Sort.PermIn 0 n d e) (hs : e.size = n) (hi : i < n) (hj : j < n) : Go.Sort.PermIn 0 n d (Go.Sort.swp e i j) := Go.Sort.permIn_trans _ _ _ 0 n h (Go.Sort.swp_permIn e 0 n i j (Nat.zero_le _) hi (Nat.zero_le _) hj (by omega))

set_option maxRecDepth 100000 in
set_option maxHeartbeats 8000000 in
theorem mswapr_any (base g o n c a b m : Nat) (F : Value) (d : Array MtM) (w : World) (ho : o = 0) (h : MA w base g n c d) (hab : a + m ≤ b) (hb : b + m ≤ n) (hn : n < 100000) :
    Calls Tryz.prog 144 #[.slice (some ⟨g, o, none⟩) n c, .int .i64 (a : Int), .int .i64 (b : Int), .int .i64 (m : Int), F] w fun e w' => e = .returned (.tuple #[]) ∧ MpTo base g n c d w w' := by
  replace ho := Lib.hid ho
  go_enter Tryz.func144, Tryz.ntmps144
  go_wp2
  go_loopw [10] (fun vi wr => ∃ (i : Nat) (e : Array MtM), i ≤ m ∧ vi = .int .i64 (i : Int) ∧ Go.Sort.PermIn 0 n d e ∧ MsTo base g n c w e wr) (fun vi _ => m - (intOf vi).toNat)
  case atStart => exact ⟨0, d, by omega, by go_num, Go.Sort.permIn_refl _ _ _, h, Chg.refl _ _⟩
  case round =>
    obtain ⟨i, e, hi, rfl, hp, hu⟩ := hrel
    clear h
    by_cases hlt : i < m
    · have hltz : (i : Int) < (m : Int) := by omega
      obtain ⟨u, hu0⟩ : ∃ u, u = a + i := ⟨_, rfl⟩
      obtain ⟨v, hv0⟩ : ∃ v, v = b + i := ⟨_, rfl⟩
      have hau : (a : Int) + (i : Int) = (u : Int) := by omega
      have hbv : (b : Int) + (i : Int) = (v : Int) := by omega
      have huv : u < v := by omega
      have hvn : v < n := by omega
      clear hu0 hv0
      obtain ⟨G, hG⟩ : ∃ G : Nat → MtM, ∀ k, G k = e[k]! := ⟨fun k => e[k]!, fun _ => rfl⟩
      obtain ⟨c0, c1, c2, c3, c4, c5, c6, fr⟩ := hu.1.fam ho.out (by omega) G hG
      have x0 := c0 u (by omega)
      have x1 := c1 u (by omega)
      have x2 := c2 u (by omega)
      have x3 := c3 u (by omega)
      have x4 := c4 u (by omega)
      have x5 := c5 u (by omega)
      have x6 := c6 u (by omega)
      have y0 := c0 v (by omega)
      have y1 := c1 v (by omega)
      have y2 := c2 v (by omega)
      have y3 := c3 v (by omega)
      have y4 := c4 v (by omega)
      have y5 := c5 v (by omega)
      have y6 := c6 v (by omega)
      have S1 := Lib.hid (hu.1.swpo ho.out (i := u) (j := v) (by omega) (by omega) _ _ (hG _).symm (hG _).symm)
      have C1 := Lib.hid ((hu.2.setMt (o + u * 7) (G v)).setMt (o + v * 7) (G u))
      have P1 := Lib.hid (mt_swap hp hu.1.size (i := u) (j := v) (by omega) (by omega))
      clear c0 c1 c2 c3 c4 c5 c6 hp hu hG
      go_wp2_with fail
      go_region
      clear x0 x1 x2 x3 x4 x5 x6 y0 y1 y2 y3 y4 y5 y6 fr
      obtain ⟨W1, hW1⟩ : ∃ W1, W1 = (setMt (setMt wr g (o + u * 7) (G v)) g (o + v * 7) (G u)).drew := ⟨_, rfl⟩
      have R1 : Hid (MsTo base g n c w (Go.Sort.swp e u v) W1) := by rw [hW1]; exact ⟨S1.out.drew, C1.out.drew⟩
      unfold setMt at hW1
      rw [← hW1]
      clear hW1 S1 C1
      go_wp2
      go_roundw
      case rel => exact ⟨i + 1, _, by omega, by go_num, P1.out, R1.out⟩
      case measure => simp [intOf]; omega
    · have hltz : ¬ ((i : Int) < (m : Int)) := by omega
      replace hp := Lib.hid hp
      replace hu := Lib.hid hu
      go_wp2
      first
        | go_end0
        | refine bodyPost_ret (results_none rfl _ _ _) rfl ?_
      exact ⟨rfl, e, hp.out, hu.out⟩
end Go.Proofs.YtjoaonppaokhhaaGreat

namespace Go.Proofs.YtjoaonppaokhhaaGreat
open Go.RowKit

theorem subV {a b : Nat} (h : b ≤ a) : Value.int .i64 ((a : Int) - (b : Int)) = .int .i64 ((a - b : Nat) : Int) := by
  rw [show ((a - b : Nat) : Int) = (a : Int) - (b : Int) by omega]

set_option maxRecDepth 100000 in
set_option maxHeartbeats 8000000 in
theorem mrot_any (base g o n c a m b : Nat) (F : Value) (d : Array MtM) (w : World) (ho : o = 0) (h : MA w base g n c d) (ham : a < m) (hmb : m < b) (hb : b ≤ n) (hn : n < 100000) :
    Calls Tryz.prog 131 #[.slice (some ⟨g, o, none⟩) n c, .int .i64 (a : Int), .int .i64 (m : Int), .int .i64 (b : Int), F] w fun e w' => e = .returned (.tuple #[]) ∧ MpTo base g n c d w w' := by
  replace ho := Lib.hid ho
  go_enter Tryz.func131, Tryz.ntmps131
  go_wp2
  go_loopw [10, 11] (fun vi vj wr => ∃ (i j : Nat) (e : Array MtM), vi = .int .i64 (i : Int) ∧ vj = .int .i64 (j : Int) ∧ 0 < i ∧ 0 < j ∧ i ≤ m ∧ m + j ≤ n ∧ Go.Sort.PermIn 0 n d e ∧ MsTo base g n c w e wr) (fun vi vj _ => (intOf vi).toNat + (intOf vj).toNat)
  case atStart => exact ⟨m - a, b - m, d, subV (by omega), subV (by omega), by omega, by omega, by omega, by omega, Go.Sort.permIn_refl _ _ _, h, Chg.refl _ _⟩
  case round =>
    obtain ⟨i, j, e, rfl, rfl, hi0, hj0, him, hjn, hp, hu⟩ := hrel
    clear h
    obtain ⟨u, hu0⟩ : ∃ u, u = m - i := ⟨_, rfl⟩
    have hmu : (m : Int) - (i : Int) = (u : Int) := by omega
    have hum : u + i ≤ m := by omega
    have hum2 : m ≤ u + i := by omega
    clear hu0
    by_cases hij : i = j
    · have hz1 : (i : Int) = (j : Int) := by omega
      have hz2 : ((i : Int) != (j : Int)) = false := by simp [hij]
      have hQ := mswapr_any base g o n c u m i F e wr ho.out hu.1 (by omega) (by omega) hn
      replace hp := Lib.hid hp
      replace hu := Lib.hid hu
      subst hij
      clear hz1
      go_wp2_with fail
      refine hQ.mono ?_
      rintro x w1 ⟨rfl, f, hp1, hu1⟩
      have P1 := Lib.hid (Go.Sort.permIn_trans _ _ _ 0 n hp.out hp1)
      have R1 := Lib.hid (hu.out.trans hu1)
      clear hQ hp1 hu1
      go_wp2
      first
        | go_end0
        | refine bodyPost_ret (results_none rfl _ _ _) rfl ?_
      exact ⟨rfl, f, P1.out, R1.out⟩
    · have hz1 : ¬ ((i : Int) = (j : Int)) := by omega
      have hz2 : ((i : Int) != (j : Int)) = true := by simpa using hz1
      by_cases hlt : j < i
      · have hltz : (j : Int) < (i : Int) := by omega
        have hQ := mswapr_any base g o n c u m j F e wr ho.out hu.1 (by omega) (by omega) hn
        replace hp := Lib.hid hp
        replace hu := Lib.hid hu
        go_wp2_with fail
        refine hQ.mono ?_
        rintro x w1 ⟨rfl, f, hp1, hu1⟩
        have P1 := Lib.hid (Go.Sort.permIn_trans _ _ _ 0 n hp.out hp1)
        have R1 := Lib.hid (hu.out.trans hu1)
        clear hQ hp1 hu1
        go_wp2
        go_roundw
        case rel => exact ⟨i - j, j, f, subV (by omega), rfl, by omega, by omega, by omega, by omega, P1.out, R1.out⟩
        case measure => simp [intOf]; omega
      · have hltz : ¬ ((j : Int) < (i : Int)) := by omega
        obtain ⟨v, hv0⟩ : ∃ v, v = m + j - i := ⟨_, rfl⟩
        have hmv : (m : Int) + (j : Int) - (i : Int) = (v : Int) := by omega
        have hv1 : v + i ≤ m + j := by omega
        have hv2 : m + j ≤ v + i := by omega
        clear hv0
        have hQ := mswapr_any base g o n c u v i F e wr ho.out hu.1 (by omega) (by omega) hn
        replace hp := Lib.hid hp
        replace hu := Lib.hid hu
        go_wp2_with fail
        refine hQ.mono ?_
        rintro x w1 ⟨rfl, f, hp1, hu1⟩
        have P1 := Lib.hid (Go.Sort.permIn_trans _ _ _ 0 n hp.out hp1)
        have R1 := Lib.hid (hu.out.trans hu1)
        clear hQ hp1 hu1
        go_wp2
        go_roundw
        case rel => exact ⟨i, j - i, f, rfl, subV (by omega), by omega, by omega, by omega, by omega, P1.out, R1.out⟩
        case measure => simp [intOf]; omega
end Go.Proofs.YtjoaonppaokhhaaGreat

namespace Go.Proofs.YtjoaonppaokhhaaGreat
open Go.RowKit

set_option maxRecDepth 100000 in
set_option maxHeartbeats 8000000 in
theorem mins_any (base g o n c a b : Nat) (d : Array MtM) (w : World) (ho : o = 0) (h : MA w base g n c d) (hab : a ≤ b) (hb : b ≤ n) (hn : n < 100000) :
    Calls Tryz.prog 123 #[.slice (some ⟨g, o, none⟩) n c, .int .i64 (a : Int), .int .i64 (b : Int), .func (.func 75) #[] #[]] w fun e w' => e = .returned (.tuple #[]) ∧ MpTo base g n c d w w' := by
  replace ho := Lib.hid ho
  go_enter Tryz.func123, Tryz.ntmps123
  go_wp2
  go_loopw [8] (fun vi wr => ∃ (i : Nat) (e : Array MtM), vi = .int .i64 (i : Int) ∧ a < i ∧ i ≤ b + 1 ∧ Go.Sort.PermIn 0 n d e ∧ MsTo base g n c w e wr) (fun vi _ => b + 1 - (intOf vi).toNat)
  case atStart => exact ⟨a + 1, d, by go_num, by omega, by omega, Go.Sort.permIn_refl _ _ _, h, Chg.refl _ _⟩
  case round =>
    obtain ⟨i, e, rfl, hai, hib, hp, hu⟩ := hrel
    clear h
    by_cases hlt : i < b
    · have hltz : (i : Int) < (b : Int) := by omega
      replace hp := Lib.hid hp
      replace hu := Lib.hid hu
      go_wp2
      go_loopw [9] (fun vj wq => ∃ (j : Nat) (f : Array MtM), vj = .int .i64 (j : Int) ∧ a ≤ j ∧ j ≤ i ∧ Go.Sort.PermIn 0 n d f ∧ MsTo base g n c w f wq) (fun vj _ => (intOf vj).toNat)
      case atStart => exact ⟨i, e, rfl, by omega, Nat.le_refl _, hp.out, hu.out⟩
      case round =>
        clear hp hu
        obtain ⟨j, e, rfl, haj, hji, hp, hu⟩ := hrel
        by_cases hja : a < j
        · have hjaz : (a : Int) < (j : Int) := by omega
          obtain ⟨u, hu0⟩ : ∃ u, u = j - 1 := ⟨_, rfl⟩
          have hju : (j : Int) - 1 = (u : Int) := by omega
          have huj : u < j := by omega
          have hua : a ≤ u := by omega
          clear hu0
          obtain ⟨G, hG⟩ : ∃ G : Nat → MtM, ∀ k, G k = e[k]! := ⟨fun k => e[k]!, fun _ => rfl⟩
          obtain ⟨c0, c1, c2, c3, c4, c5, c6, fr⟩ := hu.1.fam ho.out (by omega) G hG
          replace hG := Lib.hid hG
          have x0 := c0 j (by omega)
          have x1 := c1 j (by omega)
          have x2 := c2 j (by omega)
          have x3 := c3 j (by omega)
          have x4 := c4 j (by omega)
          have x5 := c5 j (by omega)
          have x6 := c6 j (by omega)
          have y0 := c0 u (by omega)
          have y1 := c1 u (by omega)
          have y2 := c2 u (by omega)
          have y3 := c3 u (by omega)
          have y4 := c4 u (by omega)
          have y5 := c5 u (by omega)
          have y6 := c6 u (by omega)
          clear c0 c1 c2 c3 c4 c5 c6
          replace hp := Lib.hid hp
          replace hu := Lib.hid hu
          go_wp2_with fail
          refine wp_region_text [(3, 1)] (by kernel_rfl) (by kernel_rfl) ?_
          simp only [instr, chk, look, Nat.reduceBEq, if_true, if_false, Nat.reduceEqDiff, List.cons_append, List.nil_append]
          go_wp2_with fail
          refine (plan1_any (G j).m (G u).m (G j).A (G u).A (G j).n (G j).c (G u).n (G u).c _).mono ?_
          rintro x w1 ⟨rfl, g1⟩
          have gw1 : Grew wr w1 := Chg.trans (by repeat (first | exact Chg.refl _ _ | apply Chg.alloc | apply Chg.drew)) g1
          clear g1 x0 x1 x2 x3 x4 x5 x6 y0 y1 y2 y3 y4 y5 y6 fr
          generalize cmpM (G j).m (G u).m = z
          go_wp2_with fail
          refine OnlyN.normal ?_
          go_wp2_with fail
          · have hu1 := Lib.hid (hu.out.grow gw1)
            clear hu gw1
            obtain ⟨G, hG⟩ : ∃ G : Nat → MtM, ∀ k, G k = e[k]! := ⟨fun k => e[k]!, fun _ => rfl⟩
            obtain ⟨c0, c1, c2, c3, c4, c5, c6, fr⟩ := hu1.out.1.fam ho.out (by omega) G hG
            replace hG := Lib.hid hG
            have x0 := c0 j (by omega)
            have x1 := c1 j (by omega)
            have x2 := c2 j (by omega)
            have x3 := c3 j (by omega)
            have x4 := c4 j (by omega)
            have x5 := c5 j (by omega)
            have x6 := c6 j (by omega)
            have y0 := c0 u (by omega)
            have y1 := c1 u (by omega)
            have y2 := c2 u (by omega)
            have y3 := c3 u (by omega)
            have y4 := c4 u (by omega)
            have y5 := c5 u (by omega)
            have y6 := c6 u (by omega)
            clear c0 c1 c2 c3 c4 c5 c6
            have S1 := Lib.hid (hu1.out.1.swpo ho.out (i := j) (j := u) (by omega) (by omega) _ _ (hG.out _).symm (hG.out _).symm)
            have C1 := Lib.hid ((hu1.out.2.setMt (o + j * 7) (G u)).setMt (o + u * 7) (G j))
            have P1 := Lib.hid (mt_swap hp.out hu1.out.1.size (i := j) (j := u) (by omega) (by omega))
            go_wp2_with fail
            go_region
            clear x0 x1 x2 x3 x4 x5 x6 y0 y1 y2 y3 y4 y5 y6 fr
            obtain ⟨W1, hW1⟩ : ∃ W1, W1 = (setMt (setMt w1 g (o + j * 7) (G u)) g (o + u * 7) (G j)).drew := ⟨_, rfl⟩
            have R1 : Hid (MsTo base g n c w (Go.Sort.swp e j u) W1) := by rw [hW1]; exact ⟨S1.out.drew, C1.out.drew⟩
            unfold setMt at hW1
            rw [← hW1]
            clear hW1 S1 C1
            go_wp2
            go_roundw
            case rel => exact ⟨u, _, rfl, hua, by omega, P1.out, R1.out⟩
            case measure => simp [intOf]; omega
          · have hu1 := Lib.hid (hu.out.grow gw1)
            clear hu gw1
            go_wp2
            go_roundw
            case rel => exact ⟨i + 1, e, by go_num, by omega, by omega, hp.out, hu1.out⟩
            case measure => simp [intOf]; omega
        · have hjaz : decide ((a : Int) < (j : Int)) = false := decide_eq_false (by omega)
          have hR : MsTo base g n c w e wr.drew := ⟨hu.1.drew, hu.2.drew⟩
          replace hp := Lib.hid hp
          replace hR := Lib.hid hR
          clear hu
          go_wp2_with fail
          refine wp_region_text [(3, 1)] (by kernel_rfl) (by kernel_rfl) ?_
          simp only [instr, chk, look, Nat.reduceBEq, if_true, if_false, Nat.reduceEqDiff, List.cons_append, List.nil_append]
          go_wp2_with fail
          refine OnlyN.normal ?_
          go_wp2
          go_roundw
          case rel => exact ⟨i + 1, e, by go_num, by omega, by omega, hp.out, hR.out⟩
          case measure => simp [intOf]; omega
    · have hltz : ¬ ((i : Int) < (b : Int)) := by omega
      replace hp := Lib.hid hp
      replace hu := Lib.hid hu
      go_wp2
      first
        | go_end0
        | refine bodyPost_ret (results_none rfl _ _ _) rfl ?_
      exact ⟨rfl, e, hp.out, hu.out⟩
end Go.Proofs.YtjoaonppaokhhaaGreat
