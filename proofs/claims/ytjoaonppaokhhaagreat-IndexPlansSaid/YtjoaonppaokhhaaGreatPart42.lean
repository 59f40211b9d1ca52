/-
  Several texts in one:
  (slices.Compact) of numbers: each run of equal numbers once. Conditions: lengths that a slice has.
  (slices.Sort) and (slices.Compact) of any numbers: what they make, in plain words. Conditions: lengths that a slice has.
  (index.gather) walked at (upright)'s closure. Conditions: two IDs and more gathered; slices.Sort as a premise.
-/
import Derived.Test.YtjoaonppaokhhaaGreatPart41
import Derived.Test.YtjoaonppaokhhaaGreatPart25

namespace Go.Proofs.YtjoaonppaokhhaaGreat
open Go.RowKit

/-- the first j numbers without those that equal the one ahead -/
def cmpK (d : Array Nat) : Nat → List Nat
  | 0 => []
  | j + 1 => if 0 < j ∧ d[j]! = d[j - 1]! then cmpK d j else cmpK d j ++ [d[j]!]
theorem cmpK_eq {d : Array Nat} {j : Nat} (h0 : 0 < j) (h : d[j]! = d[j - 1]!) : cmpK d (j + 1) = cmpK d j := by rw [cmpK, if_pos ⟨h0, h⟩]
theorem cmpK_ne {d : Array Nat} {j : Nat} (h : d[j]! ≠ d[j - 1]!) : cmpK d (j + 1) = cmpK d j ++ [d[j]!] := by rw [cmpK, if_neg (fun e => h e.2)]
theorem cmpK_one {d : Array Nat} : cmpK d 1 = [d[0]!] := by rw [cmpK, if_neg (by omega), cmpK]; rfl
theorem take_succU {d : Array Nat} {k : Nat} (h : k < d.size) : d.toList.take (k + 1) = d.toList.take k ++ [d[k]!] := by
  have hd : d[k]! = d[k]'h := getElem!_pos d k h
  rw [List.take_add_one, Array.getElem?_toList, Array.getElem?_eq_getElem h, hd]
  rfl

set_option maxRecDepth 100000 in
set_option maxHeartbeats 4000000 in
theorem clearU (base g n c k : Nat) (d : Array Nat) (w : World) (h : UA w base 22 g n c d) (hk : k < n) :
    ∃ W, (∀ ty, (Builtin.clear_ #[26] ty #[.slice (some ⟨g, k, none⟩) (n - k) (c - k)]).run Tryz.prog w = .ok (.tuple #[]) W) ∧ OE elU W base 22 (some ⟨g, 0, none⟩) k c (d.toList.take k) ∧ Chg (fun j => j = g) w W := by
  obtain ⟨i0, hi0, hz0, hzs, hzb⟩ := info_parts infoU64
  rcases h.2 with ⟨e, h3⟩ | ⟨g', cap, cur, e, hbase, hg, h3, h4, h5, h6⟩
  · cases e
  injection e with e1 e2 e3
  injection e1 with e1
  injection e1 with e1
  subst e1
  subst e3
  have hcs : cur.size = c := by rw [h5]; show c * 1 = c; omega
  have h6' : cur.toList.take n = elU.flat d.toList := by
    have : n * elU.sz = n := Nat.mul_one n
    rw [this] at h6
    exact h6
  have hs := h.size
  have hzl : (Builtin.zeroCells (Value.int .u64 0).cells (n - k)).toList.length = n - k := by
    rw [Array.length_toList, size_zeroCells]
    show (n - k) * 1 = n - k
    omega
  have hz1 : ∀ u ∈ (Builtin.zeroCells (Value.int .u64 0).cells (n - k)).toList, u.oneCell' = true := by
    intro u hu
    rw [Array.mem_toList_iff] at hu
    unfold Builtin.zeroCells at hu
    obtain ⟨i, hi, rfl⟩ := Array.mem_map.1 hu
    show ((#[Value.int .u64 0] : Array Value)[i % 1]!).oneCell' = true
    rw [Nat.mod_one]
    rfl
  have hcB : ∀ ty, (Builtin.clear_ #[26] ty #[.slice (some ⟨g, k, none⟩) (n - k) (c - k)]).run Tryz.prog w = _ := fun ty =>
    run_clearE w 26 ty 22 i0 _ Tryz.underlying26 hi0 hz0 g k (n - k) (c - k) (by omega) cur hg (by rw [hzl, hcs]; omega) hz1
  refine ⟨_, hcB, ?_, Chg.row w g _⟩
  have bR := Blk.row (w := w) hg (cur.toList.take k ++ (Builtin.zeroCells (Value.int .u64 0).cells (n - k)).toList ++ cur.toList.drop (k + (Builtin.zeroCells (Value.int .u64 0).cells (n - k)).toList.length)).toArray
  refine ⟨?_, .inr ⟨g, c, _, rfl, hbase, bR, by omega, h4, ?_, ?_⟩⟩
  · rw [elU.flat_length, List.length_take, Array.length_toList, hs, Nat.min_eq_left (by omega)]
  · simp only [List.size_toArray, List.length_append, List.length_take, List.length_drop, Array.length_toList, hcs, hzl]
    show _ = c * 1
    omega
  · show List.take (k * 1) _ = _
    rw [Nat.mul_one, List.append_assoc, List.take_append_of_le_length (by rw [List.length_take, Array.length_toList, hcs]; omega), List.take_take, Nat.min_self]
    have := elU.flat_take d.toList k
    rw [show k * elU.sz = k from Nat.mul_one k] at this
    rw [← this, ← h6', List.take_take, Nat.min_eq_left (by omega)]

theorem UA.set1 {w : World} {base g n c : Nat} {t : TypeId} {d : Array Nat} (h : UA w base t g n c d) (k x : Nat) : UA (w.setCell ⟨g, k, none⟩ (.int .u64 (x : Int))) base t g n c (d.setIfInBounds k x) := by
  unfold UA
  rw [Array.toList_setIfInBounds]
  exact OE.setU h x

set_option maxRecDepth 100000 in
set_option maxHeartbeats 8000000 in
theorem ucompact_any (base g o n c : Nat) (d : Array Nat) (w : World) (ho : o = 0) (h : UA w base 22 g n c d) (hn : n < 4611686018427387904) :
    Calls Tryz.prog 126 #[.slice (some ⟨g, o, none⟩) n c] w fun e w' => e = .returned (.slice (some ⟨g, o, none⟩) (cmpK d n).length c) ∧ OE elU w' base 22 (some ⟨g, 0, none⟩) (cmpK d n).length c (cmpK d n) ∧ Chg (fun k => k = g) w w' := by
  have hs := h.size
  have hcap := OE.cap h
  have hfull : d.toList.take n = d.toList := by rw [List.take_of_length_le]; rw [Array.length_toList]; omega
  obtain ⟨z, hz⟩ : ∃ z, cmpK d n = z := ⟨_, rfl⟩
  by_cases h2 : n < 2
  · have hz2 : z = d.toList := by
      rcases (by omega : n = 0 ∨ n = 1) with e | e
      · subst e
        rw [← hz, cmpK]
        exact (List.eq_nil_of_length_eq_zero (by rw [Array.length_toList]; exact hs)).symm
      · subst e
        rw [← hz, cmpK_one, ← hfull, take_succU (by omega)]
        rfl
    have hzl : z.length = n := by rw [hz2, Array.length_toList]; exact hs
    have hR : Hid (OE elU w base 22 (some ⟨g, 0, none⟩) n c z) := by rw [hz2]; exact h
    rw [hz, hzl]
    clear hz hz2 hfull hs hzl
    go_enter Tryz.func126, Tryz.ntmps126
    go_wp2
    go_ret
    exact ⟨rfl, hR.out, Chg.refl _ _⟩
  rw [hz]
  replace ho := Lib.hid ho
  replace h := Lib.hid h
  replace hz := Lib.hid hz
  replace hs := Lib.hid hs
  replace hfull := Lib.hid hfull
  go_enter Tryz.func126, Tryz.ntmps126
  go_wp2
  go_loopw [3] (fun i wr => ∃ k : Nat, 1 ≤ k ∧ k ≤ n ∧ i = .int .i64 (k : Int) ∧ cmpK d k = d.toList.take k ∧ Grew w wr) (fun i _ => n - (intOf i).toNat)
  case atStart => exact ⟨1, by omega, by omega, rfl, by rw [cmpK_one, take_succU (by rw [hs.out]; omega)]; rfl, Chg.refl _ _⟩
  case round =>
    obtain ⟨k, hk1, hk, rfl, hc, hg⟩ := hrel
    by_cases hlt : k < n
    · have hltz : (k : Int) < (n : Int) := by omega
      obtain ⟨u, hu0⟩ : ∃ u, u = k - 1 := ⟨_, rfl⟩
      have huz : (k : Int) - 1 = (u : Int) := by omega
      have hun : u < n := by omega
      obtain ⟨x, hx⟩ : ∃ x, d[k]! = x := ⟨_, rfl⟩
      obtain ⟨y, hy⟩ : ∃ y, d[u]! = y := ⟨_, rfl⟩
      have hW : UA wr base 22 g n c d := OE.grew h.out hg
      have x0 : wr.cell? ⟨g, o + k, none⟩ = some (.int .u64 (x : Int)) := by rw [← hx]; exact hW.fam ho.out k hlt
      have y0 : wr.cell? ⟨g, o + u, none⟩ = some (.int .u64 (y : Int)) := by rw [← hy]; exact hW.fam ho.out u hun
      replace hu0 := Lib.hid hu0
      replace hx := Lib.hid hx
      replace hy := Lib.hid hy
      replace hc := Lib.hid hc
      replace hW := Lib.hid hW
      by_cases hxy : x = y
      · have hxz : ((x : Int) == (y : Int)) = true := by simp [hxy]
        have hE1 : Hid (cmpK d (k + 1) = d.toList.take k) := by
          rw [cmpK_eq hk1 (by rw [hx.out, hxy, ← hy.out, hu0.out])]
          exact hc.out
        replace hxy := Lib.hid hxy
        go_wp2_with fail
        refine wp_region_text [(3, 1), (22, 1)] (by kernel_rfl) (by kernel_rfl) ?_
        simp only [instr, chk, look, Nat.reduceBEq, Bool.false_eq_true, if_true, if_false, Nat.reduceEqDiff, List.cons_append, List.nil_append]
        go_wp2_with fail
        refine OnlyN.normal ?_
        clear x0 y0 hxz huz
        go_wp2
        have hcast : ((n - k : Nat) : Int) = (n : Int) - (k : Int) := by omega
        go_loopw [3, 5] (fun vi vj wq => ∃ (p q : Nat) (e : Array Nat), vi = .int .i64 (p : Int) ∧ vj = .int .i64 (q : Int) ∧ k ≤ p ∧ 1 ≤ q ∧ q ≤ n - k ∧ p + 1 ≤ k + q ∧ UA wq base 22 g n c e ∧ e.toList.take p = cmpK d (k + q) ∧ (∀ j, k + q - 1 ≤ j → j < n → e[j]! = d[j]!) ∧ Chg (fun k => k = g) w wq) (fun _ vj _ => n - (intOf vj).toNat)
        case atStart => exact ⟨k, 1, d, rfl, rfl, Nat.le_refl _, Nat.le_refl _, by omega, by omega, OE.grew h.out hg.drew, hE1.out.symm, fun j _ _ => rfl, Chg.of_grew hg.drew⟩
        case round =>
          clear hW hg hE1 hx hy hxy
          obtain ⟨p, q, e, rfl, rfl, hp1, hq1, hqn, hpq, hue, het, heq, hcg⟩ := hrel
          by_cases hql : q < n - k
          · have hqlz : (q : Int) < ((n - k : Nat) : Int) := by omega
            obtain ⟨v, hv0⟩ : ∃ v, v = q - 1 := ⟨_, rfl⟩
            have hvz : (q : Int) - 1 = (v : Int) := by omega
            have hvn : v < n - k := by omega
            obtain ⟨x, hx⟩ : ∃ x, e[k + q]! = x := ⟨_, rfl⟩
            obtain ⟨y, hy⟩ : ∃ y, e[k + v]! = y := ⟨_, rfl⟩
            have hxd : Hid (d[k + q]! = x) := by rw [← heq (k + q) (by omega) (by omega)]; exact hx
            have hyd : Hid (d[k + q - 1]! = y) := by rw [← heq (k + q - 1) (by omega) (by omega), show k + q - 1 = k + v by omega]; exact hy
            have x0 : wr.cell? ⟨g, o + k + q, none⟩ = some (.int .u64 (x : Int)) := by rw [← hx, Nat.add_assoc]; exact hue.fam ho.out (k + q) (by omega)
            have y0 : wr.cell? ⟨g, o + k + v, none⟩ = some (.int .u64 (y : Int)) := by rw [← hy, Nat.add_assoc]; exact hue.fam ho.out (k + v) (by omega)
            clear hv0 hx hy
            have hes := hue.size
            by_cases hxy : x = y
            · have hxz : ((x : Int) != (y : Int)) = false := by simp [hxy]
              have hE2 : Hid (e.toList.take p = cmpK d (k + (q + 1))) := by
                rw [show k + (q + 1) = k + q + 1 by omega, cmpK_eq (by omega) (by rw [hxd.out, hyd.out, hxy])]
                exact het
              have hE3 : Hid (∀ j, k + (q + 1) - 1 ≤ j → j < n → e[j]! = d[j]!) := fun j h1 h2 => heq j (by omega) h2
              have hE4 : Hid (UA wr.drew base 22 g n c e) := hue.drew
              have hE5 : Hid (Chg (fun k => k = g) w wr.drew) := hcg.drew
              clear het heq hue hcg hes
              replace hxy := Lib.hid hxy
              go_wp2_with fail
              refine wp_region_text [(3, 1), (22, 1)] (by kernel_rfl) (by kernel_rfl) ?_
              simp only [instr, chk, look, Nat.reduceBEq, Bool.false_eq_true, if_true, if_false, Nat.reduceEqDiff, List.cons_append, List.nil_append]
              go_wp2_with fail
              refine OnlyN.normal ?_
              go_wp2
              go_roundw
              case rel => exact ⟨p, q + 1, e, rfl, by go_num, hp1, by omega, by omega, by omega, hE4.out, hE2.out, hE3.out, hE5.out⟩
              case measure => simp [intOf]; omega
            · have hxz : ((x : Int) != (y : Int)) = true := by simp; omega
              have hp0 : wr.cell? ⟨g, o + p, none⟩ = some (.int .u64 ((e[p]! : Nat) : Int)) := hue.fam ho.out p (by omega)
              have hpf : wr.frozen? ⟨g, o + p, none⟩ = false := hue.fre p (by omega)
              generalize e[p]! = yp at hp0
              have hE2 : Hid ((e.setIfInBounds p x).toList.take (p + 1) = cmpK d (k + (q + 1))) := by
                rw [show k + (q + 1) = k + q + 1 by omega, cmpK_ne (by rw [hxd.out, hyd.out]; exact hxy), hxd.out, ← het, take_succU (by rw [Array.size_setIfInBounds]; omega), Array.toList_setIfInBounds]
                rw [List.take_set_of_le (Nat.le_refl _), getElem!_pos _ _ (by rw [Array.size_setIfInBounds]; omega), Array.getElem_setIfInBounds_self]
                exact rfl
              have hE3 : Hid (∀ j, k + (q + 1) - 1 ≤ j → j < n → (e.setIfInBounds p x)[j]! = d[j]!) := fun j h1 h2 => by
                rw [getElem!_pos _ _ (by rw [Array.size_setIfInBounds]; omega), Array.getElem_setIfInBounds_ne (by omega) (by omega), ← getElem!_pos e j (by omega)]
                exact heq j (by omega) h2
              have hE4 : Hid (UA ((wr.setCell ⟨g, o + p, none⟩ (.int .u64 (x : Int))).drew) base 22 g n c (e.setIfInBounds p x)) := by
                have := (hue.set1 p x).drew
                rw [show o + p = p by have := ho.out; omega]
                exact this
              have hE5 : Hid (Chg (fun k => k = g) w (wr.setCell ⟨g, o + p, none⟩ (.int .u64 (x : Int))).drew) := (hcg.setCell (p := ⟨g, o + p, none⟩) (.inr rfl) _).drew
              clear het heq hue hcg hes
              replace hxy := Lib.hid hxy
              go_wp2_with fail
              refine wp_region_text [(3, 1), (22, 1)] (by kernel_rfl) (by kernel_rfl) ?_
              simp only [instr, chk, look, Nat.reduceBEq, Bool.false_eq_true, if_true, if_false, Nat.reduceEqDiff, List.cons_append, List.nil_append]
              go_wp2_with fail
              refine OnlyN.normal ?_
              go_wp2
              go_roundw
              case rel => exact ⟨p + 1, q + 1, _, by go_num, by go_num, by omega, by omega, by omega, by omega, hE4.out, hE2.out, hE3.out, hE5.out⟩
              case measure => simp [intOf]; omega
          · have hqlz : ¬ ((q : Int) < ((n - k : Nat) : Int)) := by omega
            have hqe : k + q = n := by omega
            have hes := hue.size
            have hzz : e.toList.take p = z := by rw [het, hqe]; exact hz.out
            have hzl : z.length = p := by rw [← hzz, List.length_take, Array.length_toList, hes, Nat.min_eq_left (by omega)]
            obtain ⟨W, hW1, hW2, hW3⟩ := clearU base g n c p e wr hue (by omega)
            rw [hzz] at hW2
            have hW10 : (Builtin.clear_ #[26] 0 #[.slice (some ⟨g, o + p, none⟩) (n - p) (c - p)]).run Tryz.prog wr = .ok (.tuple #[]) W := by
              rw [show o + p = p by have := ho.out; omega]
              exact hW1 0
            clear hW1
            have hcg2 := Lib.hid (hcg.trans hW3)
            replace hW2 := Lib.hid hW2
            replace hzl := Lib.hid hzl
            have hpn : p < n := by omega
            clear hzz het heq hqe hue hcg hes hW3
            go_wp2
            go_ret
            refine ⟨by rw [hzl.out]; rfl, ?_, hcg2.out⟩
            rw [hzl.out]
            exact hW2.out
      · have hxz : ((x : Int) == (y : Int)) = false := by simp; omega
        have hE1 : Hid (cmpK d (k + 1) = d.toList.take (k + 1)) := by
          rw [cmpK_ne (by rw [hx.out, ← hu0.out, hy.out]; exact hxy), hc.out, take_succU (by rw [hs.out]; exact hlt)]
          exact rfl
        replace hxy := Lib.hid hxy
        go_wp2_with fail
        refine wp_region_text [(3, 1), (22, 1)] (by kernel_rfl) (by kernel_rfl) ?_
        simp only [instr, chk, look, Nat.reduceBEq, Bool.false_eq_true, if_true, if_false, Nat.reduceEqDiff, List.cons_append, List.nil_append]
        go_wp2_with fail
        refine OnlyN.normal ?_
        go_wp2
        go_roundw
        case rel => exact ⟨k + 1, by omega, by omega, by go_num, hE1.out, hg.drew⟩
        case measure => simp [intOf]; omega
    · have hltz : ¬ ((k : Int) < (n : Int)) := by omega
      have hkn : k = n := by omega
      have hzz : z = d.toList := by rw [← hz.out, ← hkn, hc, hkn]; exact hfull.out
      have hzl : z.length = n := by rw [hzz, Array.length_toList]; exact hs.out
      have hR : Hid (OE elU wr base 22 (some ⟨g, 0, none⟩) z.length c z) := by rw [hzl, hzz]; exact OE.grew h.out hg
      replace hzl := Lib.hid hzl
      clear hzz hkn hc
      go_wp2
      go_ret
      exact ⟨by rw [hzl.out]; rfl, hR.out, Chg.of_grew hg⟩
end Go.Proofs.YtjoaonppaokhhaaGreat

namespace Go.Proofs.YtjoaonppaokhhaaGreat
open Go.RowKit

/-- a row's numbers, sorted -/
def srtN (l : List Nat) : List Nat := l.mergeSort fun x y => !ltU y x
/-- .. and each once -/
def uniN (l : List Nat) : List Nat := cmpK (srtN l).toArray (srtN l).length
theorem srtN_perm (l : List Nat) : (srtN l).Perm l := List.mergeSort_perm _ _
theorem srtN_len (l : List Nat) : (srtN l).length = l.length := (srtN_perm l).length_eq
theorem srtN_le (l : List Nat) : (srtN l).Pairwise (· ≤ ·) := by
  have h := List.pairwise_mergeSort (le := fun x y => !ltU y x) (fun a b c h1 h2 => by simp [ltU] at *; omega) (fun a b => by simp [ltU]; omega) l
  exact h.imp fun h => by simpa [ltU] using h
theorem sorts_all (ys : List Nat) (hy : ys.length < 4611686018427387904) : Sorts ys (srtN ys) := by
  intro A n c base w h
  have hl := OE.len (by decide) h
  rcases Nat.eq_zero_or_pos n with h0 | h0
  · have e : ys = [] := List.eq_nil_of_length_eq_zero (by omega)
    have e2 : srtN ys = ys := by rw [e]; simp [srtN]
    rw [e2]
    exact Sorts.rising (by rw [e]; exact List.Pairwise.nil) (by omega) A n c base w h
  · obtain ⟨g, rfl, _⟩ := Own.at_ h h0
    have hU : UA w base 22 g n c ys.toArray := h
    refine (usort_any base g 0 n c 22 ys.toArray w rfl hU h0 (by omega)).mono ?_
    rintro e w' ⟨rfl, d', hp, hs, hd, hc⟩
    have hsz : ys.toArray.size = n := by simpa using hl
    have e := Go.Sort.sorted_unique_holds swoU (fun x y h1 h2 => by simp [ltU] at h1 h2; omega) ys.toArray d' (by rw [hsz]; exact hp) (by rw [hsz]; exact hs)
    have e2 : srtN ys = d'.toList := by rw [e]; rfl
    refine ⟨rfl, ?_, hc.mono fun k _ e => ⟨_, rfl, e⟩⟩
    rw [e2]
    exact hd
theorem compacts_all (zs : List Nat) (hy : zs.length < 4611686018427387904) : Compacts zs (cmpK zs.toArray zs.length) := by
  intro A n c base w h
  have hl := OE.len (by decide) h
  rcases Nat.eq_zero_or_pos n with h0 | h0
  · have e : zs = [] := List.eq_nil_of_length_eq_zero (by omega)
    subst e
    exact Compacts.rising (by exact List.Pairwise.nil) A n c base w h
  · obtain ⟨g, rfl, _⟩ := Own.at_ h h0
    have hU : UA w base 22 g n c zs.toArray := h
    refine (ucompact_any base g 0 n c zs.toArray w rfl hU (by omega)).mono ?_
    rintro e w' ⟨rfl, hd, hc⟩
    rw [hl]
    exact ⟨rfl, hd, hc.mono fun k _ e => ⟨_, rfl, e⟩⟩
theorem cmpK_facts {d : Array Nat} (hs : ∀ i j, i < j → j < d.size → d[i]! ≤ d[j]!) : ∀ n, n ≤ d.size → Ris (cmpK d n) ∧ (∀ x, x ∈ cmpK d n ↔ ∃ i, i < n ∧ d[i]! = x) ∧ (cmpK d n).length ≤ n := by
  intro n
  induction n with
  | zero => exact fun _ => ⟨List.Pairwise.nil, fun x => ⟨fun h => by simp [cmpK] at h, fun ⟨i, hi, _⟩ => by omega⟩, Nat.le_refl _⟩
  | succ n ih =>
    intro hn
    obtain ⟨h1, h2, h3⟩ := ih (by omega)
    by_cases hc : 0 < n ∧ d[n]! = d[n - 1]!
    · rw [cmpK, if_pos hc]
      refine ⟨h1, fun x => ?_, by omega⟩
      rw [h2]
      constructor
      · rintro ⟨i, hi, e⟩
        exact ⟨i, by omega, e⟩
      · rintro ⟨i, hi, e⟩
        rcases Nat.lt_or_ge i n with h | h
        · exact ⟨i, h, e⟩
        · have : i = n := by omega
          subst this
          exact ⟨i - 1, by omega, by rw [← hc.2]; exact e⟩
    · rw [cmpK, if_neg hc]
      refine ⟨?_, fun x => ?_, by rw [List.length_append]; simp; omega⟩
      · unfold Ris at *
        rw [List.pairwise_append]
        refine ⟨h1, by simp, fun x hx y hy => ?_⟩
        rw [List.mem_singleton] at hy
        subst hy
        obtain ⟨i, hi, rfl⟩ := (h2 x).1 hx
        have h5 := hs (n - 1) n (by omega) (by omega)
        have h6 : d[i]! ≤ d[n - 1]! := by
          rcases Nat.lt_or_ge i (n - 1) with h | h
          · exact hs i (n - 1) h (by omega)
          · have : i = n - 1 := by omega
            rw [this]
            exact Nat.le_refl _
        have h7 : d[n]! ≠ d[n - 1]! := fun e => hc ⟨by omega, e⟩
        omega
      · rw [List.mem_append, h2, List.mem_singleton]
        constructor
        · rintro (⟨i, hi, e⟩ | e)
          · exact ⟨i, by omega, e⟩
          · exact ⟨n, by omega, e.symm⟩
        · rintro ⟨i, hi, e⟩
          rcases Nat.lt_or_ge i n with h | h
          · exact .inl ⟨i, h, e⟩
          · have : i = n := by omega
            subst this
            exact .inr e.symm
theorem uniN_facts (l : List Nat) : Ris (uniN l) ∧ (∀ x, x ∈ uniN l ↔ x ∈ l) ∧ (uniN l).length ≤ l.length := by
  have hs : ∀ i j, i < j → j < (srtN l).toArray.size → (srtN l).toArray[i]! ≤ (srtN l).toArray[j]! := fun i j hij hj => by
    rw [getElem!_pos _ i (by omega), getElem!_pos _ j hj]
    simp only [List.size_toArray] at hj
    have h := srtN_le l
    rw [List.pairwise_iff_getElem] at h
    exact h i j (by omega) hj hij
  obtain ⟨h1, h2, h3⟩ := cmpK_facts hs (srtN l).length (by simp)
  refine ⟨h1, fun x => ?_, by rw [← srtN_len l]; exact h3⟩
  unfold uniN
  rw [h2, ← (srtN_perm l).mem_iff, List.mem_iff_getElem]
  constructor
  · rintro ⟨i, hi, e⟩
    refine ⟨i, hi, ?_⟩
    rw [← e, getElem!_pos _ i (by simpa using hi)]
    simp
  · rintro ⟨i, hi, e⟩
    refine ⟨i, hi, ?_⟩
    rw [getElem!_pos _ i (by simpa using hi)]
    simpa using e
end Go.Proofs.YtjoaonppaokhhaaGreat

namespace Go.Proofs.YtjoaonppaokhhaaGreat
open Go.RowKit

set_option maxRecDepth 100000 in
set_option maxHeartbeats 8000000 in
theorem gather_up (ids zs : List Nat) (c1 c2 : Value) (w : World) (h2 : 2 ≤ ids.length) (hl : ids.length ≤ 100000) (hs : Sorts ids zs)
    (hE : ∀ W g, Grew w W → w.heap.size ≤ g → Lst W g [] [] → Calls Tryz.prog 108 #[.func (.func 106) #[.pointer (some ⟨g, 0, none⟩)] #[], c1, c2] W fun e w' => e = .returned (.tuple #[]) ∧ (∃ all, Lst w' g ids all) ∧ Chg (fun k => g ≤ k) W w') :
    Calls Tryz.prog 107 #[.func (.func 108) #[] #[c1, c2]] w fun e w' => ∃ A n c, e = .returned (.slice A n c) ∧ OE elU w' w.heap.size 22 A n c zs ∧ Grew w w' := by
  have hmf : ∀ (fn : Fn) (first cap : Array Value) (w : World), (Instr.makeFunc fn first cap).run Tryz.prog w = .ok (.func fn first cap) w := fun _ _ _ _ => rfl
  have hL0 := Lst.new w
  have g0 : Grew w (w.alloc (.cells #[.slice none 0 0, .slice none 0 0] 123)) := (Chg.refl _ w).alloc _
  obtain ⟨W, hW⟩ : ∃ W, W = w.alloc (.cells #[.slice none 0 0, .slice none 0 0] 123) := ⟨_, rfl⟩
  rw [← hW] at hL0 g0
  have hC := hE W w.heap.size g0 (Nat.le_refl _) hL0
  clear hE
  go_enter Tryz.func107, Tryz.ntmps107
  go_wp2_with fail
  rw [← hW]
  refine hC.mono ?_
  rintro e w1 ⟨rfl, ⟨all, A, c, B, k, d, hL⟩, hch⟩
  have i0 : w1.cell? ⟨w.heap.size, 0, none⟩ = some (.slice A ids.length c) := hL.bk.cell 0
  have gw1 : Grew w w1 := g0.step hch fun k hk e => by omega
  have hlt : ¬ (ids.length : Int) < 2 := by omega
  clear hC hW
  go_wp2_with fail
  refine (hs A ids.length c w.heap.size _ hL.ri).mono ?_
  rintro e w2 ⟨rfl, o2, ch2⟩
  have i2 : w2.cell? ⟨w.heap.size, 0, none⟩ = some (.slice A ids.length c) := (hL.bk.chg ch2 fun ⟨ad, e, hk⟩ => Own.ne_blk hL.ri hL.bk (by decide) ad e hk.symm).cell 0
  have gw2 : Grew w w2 := gw1.step ch2 fun k hk ⟨ad, e, hk2⟩ => by have := (Own.blk_lt hL.ri ad e).1; omega
  clear i0 hlt ch2 hch gw1
  go_wp2
  go_ret
  exact ⟨A, _, c, rfl, o2, gw2⟩
end Go.Proofs.YtjoaonppaokhhaaGreat
