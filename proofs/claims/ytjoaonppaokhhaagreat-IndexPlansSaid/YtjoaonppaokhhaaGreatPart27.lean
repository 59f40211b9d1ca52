/-
  Several texts in one:
  (index.Overlaps) walked. Conditions: lengths that a slice has.
  The statements' own helpers on lists of bytes: SameBytes, CopyBytes, LendBytes, KeptBytes, SpoilBytes: what each call does. Conditions: lengths that memory bears.
  append of a string's bytes onto a row of bytes of the call's own; a string out of bytes. Conditions: none; the two types' numbers are the program's.
-/
import Derived.Test.YtjoaonppaokhhaaGreatPart26
import Derived.Test.YtjoaonppaokhhaaGreatPart1
import Derived.Test.YtjoaonppaokhhaaGreatRows

namespace Go.Proofs.YtjoaonppaokhhaaGreat
open Go.RowKit

theorem MXo.len {w : World} {base : Nat} {A : Option Addr} {n c : Nat} {ms : List MtM} (h : MXo w base A n c ms) : ms.length = n := OE.len (by decide) h.row
theorem map_get {α β : Type} {f : α → β} {l : List α} {r : List β} {k : Nat} {x : α} (h : l.map f = r) (hx : l[k]? = some x) : r[k]? = some (f x) := by
  rw [← h, List.getElem?_map, hx]
  rfl

set_option maxRecDepth 100000 in
set_option maxHeartbeats 4000000 in
theorem overlaps_ok (v : Nat) (fl : Int) (A : Option Addr) (n c : Nat) (es : List Ent) (w : World) (h : RX w A n es) (hok : IxOk fl es) :
    Calls Tryz.prog 35 #[.agg #[.int .u64 (v : Int), .int .i64 fl, .slice A n c]] w fun e w' => e = .returned (.bool (ovL (livM es))) ∧ Grew w w' := by
  have hgb : Grew w (w.alloc (.cells #[.int .u64 (v : Int), .int .i64 fl, .slice A n c] 25)) := (Chg.refl _ w).alloc _
  have hL := liveM_ok v fl A n c es _ (h.grew hgb) hok
  obtain ⟨z, hz⟩ : ∃ z, ovL (livM es) = z := ⟨_, rfl⟩
  rw [hz]
  generalize livM es = ls at *
  unfold ovL at hz
  replace hz := Lib.hid hz
  clear h hok
  go_enter Tryz.func35, Tryz.ntmps35
  go_wp2_with fail
  refine hL.mono ?_
  rintro e w1 ⟨B, p, C, ms, rfl, hm, hmap, hg1⟩
  have hg := hgb.trans hg1
  have hln : ls.length = p := by rw [← hmap, List.length_map]; exact hm.len
  have hz0 : Hid (z = ovG (ls.take 0) (ls.drop 0)) := Lib.hid hz.out.symm
  have hcap := hm.row.cap
  replace hln := Lib.hid hln
  replace hmap := Lib.hid hmap
  clear hL hz hgb hg1
  go_wp2
  go_loopw [12] (fun i wr => ∃ k : Nat, k ≤ p ∧ i = .int .i64 (k : Int) ∧ Hid (z = ovG (ls.take k) (ls.drop k)) ∧ Grew w1 wr) (fun i _ => p - (intOf i).toNat)
  case atStart => exact ⟨0, by omega, rfl, hz0, Chg.refl _ _⟩
  case round =>
    obtain ⟨k, hk, rfl, hc, hgr⟩ := hrel
    by_cases hlt : k < p
    · obtain ⟨ad, a, rfl, ha, hae, x0, x1, x2, x3, x4, x5, x6⟩ := (hm.grew hgr).at_ hlt
      have hla := map_get hmap.out ha
      have hv := hc.out
      rw [drop_at hla, ovG_cons] at hv
      have hz1 : Hid (z = (((ls.take k).drop 0).any (ovB a.m) || ovG (ls.take k ++ [a.m]) (ls.drop (k + 1)))) := Lib.hid hv
      have hkl : Hid ((ls.take k).length = k) := Lib.hid (by rw [List.length_take, hln.out]; omega)
      have htk : Hid (ls.take (k + 1) = ls.take k ++ [a.m]) := Lib.hid (by rw [List.take_add_one, hla]; rfl)
      obtain ⟨W, hW⟩ : ∃ W, W = wr.alloc (.cells #[.int .u64 (a.m.id : Int), .int .i64 a.m.lo, .int .i64 a.m.hi, .int .i64 a.m.lv, .slice a.A a.n a.c, .int .i64 a.m.sr, .int .i64 a.m.pt] 28) := ⟨_, rfl⟩
      have hgW : Grew wr W := by rw [hW]; exact (Chg.refl _ wr).alloc _
      have hbW : Blk W wr.heap.size 28 #[.int .u64 (a.m.id : Int), .int .i64 a.m.lo, .int .i64 a.m.hi, .int .i64 a.m.lv, .slice a.A a.n a.c, .int .i64 a.m.sr, .int .i64 a.m.pt] := by rw [hW]; exact Blk.new wr _ _
      have hgg := hgr.trans hgW
      clear hc hv hla ha hae
      go_wp2
      rw [← hW]
      clear x0 x1 x2 x3 x4 x5 x6 hW
      obtain ⟨gx, hgx⟩ : ∃ gx, wr.heap.size = gx := ⟨_, rfl⟩
      rw [hgx] at hbW ⊢
      clear hgx
      generalize W = wo at *
      go_loopw [21] (fun i wr2 => ∃ j : Nat, j ≤ k ∧ i = .int .i64 (j : Int) ∧ Hid (z = (((ls.take k).drop j).any (ovB a.m) || ovG (ls.take k ++ [a.m]) (ls.drop (k + 1)))) ∧ Grew wo wr2) (fun i _ => k - (intOf i).toNat)
      case atStart => exact ⟨0, by omega, rfl, hz1, Chg.refl _ _⟩
      case round =>
        obtain ⟨j, hj, rfl, hc, hg2⟩ := hrel
        by_cases hjk : j < k
        · obtain ⟨ad2, b, e2, hb, hbe, y0, y1, y2, y3, y4, y5, y6⟩ := (hm.grew (hgg.trans hg2)).at_ (k := j) (by omega)
          injection e2 with e2
          subst e2
          have hlb : (ls.take k)[j]? = some b.m := by rw [List.getElem?_take, if_pos hjk]; exact map_get hmap.out hb
          have hv := hc.out
          rw [drop_at hlb, List.any_cons] at hv
          obtain ⟨W2, hW2⟩ : ∃ W2, W2 = wr.alloc (.cells #[.int .u64 (b.m.id : Int), .int .i64 b.m.lo, .int .i64 b.m.hi, .int .i64 b.m.lv, .slice b.A b.n b.c, .int .i64 b.m.sr, .int .i64 b.m.pt] 28) := ⟨_, rfl⟩
          have hgW2 : Grew wr W2 := by rw [hW2]; exact (Chg.refl _ wr).alloc _
          have hO := overlap_any a.m b.m a.A b.A a.n a.c b.n b.c W2
          have hbx := (hbW.grew hg2).grew hgW2
          have q0 := hbx.cell 0
          have q1 := hbx.cell 1
          have q2 := hbx.cell 2
          have q3 := hbx.cell 3
          have q4 := hbx.cell 4
          have q5 := hbx.cell 5
          have q6 := hbx.cell 6
          simp only [List.getElem?_toArray, List.getElem?_cons_succ, List.getElem?_cons_zero] at q0 q1 q2 q3 q4 q5 q6
          rw [hW2] at q0 q1 q2 q3 q4 q5 q6
          clear hc hb hbe hlb
          generalize ovB a.m b.m = ob at *
          go_wp2_with fail
          rw [← hW2]
          refine hO.mono ?_
          rintro e w8 ⟨rfl, hg8⟩
          clear hO y0 y1 y2 y3 y4 y5 y6 q0 q1 q2 q3 q4 q5 q6 hbx hW2
          have g8 := (hg2.trans hgW2).trans hg8
          cases ob
          · rw [Bool.false_or] at hv
            replace hv := Lib.hid hv
            go_wp2
            go_roundw
            case rel => exact ⟨j + 1, by omega, by go_num, hv, g8⟩
            case measure => simp [intOf]; omega
          · rw [Bool.true_or, Bool.true_or] at hv
            replace hv := Lib.hid hv
            go_wp2
            go_ret
            exact ⟨by rw [hv.out]; rfl, hg.trans (hgg.trans g8)⟩
        · obtain rfl : j = k := by omega
          have hv := hc.out
          rw [List.drop_of_length_le (by have := hkl.out; omega), List.any_nil, Bool.false_or, ← htk.out] at hv
          replace hv := Lib.hid hv
          clear hc
          go_wp2
          go_roundw
          case rel => exact ⟨j + 1, by omega, by go_num, hv, hgg.trans hg2⟩
          case measure => simp [intOf]; omega
    · obtain rfl : k = p := by omega
      have hv := hc.out
      rw [List.drop_of_length_le (by have := hln.out; omega), ovG] at hv
      replace hv := Lib.hid hv
      clear hc
      go_wp2
      go_ret
      exact ⟨by rw [hv.out]; rfl, hg.trans hgr⟩
end Go.Proofs.YtjoaonppaokhhaaGreat

namespace Go.Proofs.YtjoaonppaokhhaaGreat
open Go.RowKit

theorem infoU8 : (Tryz.prog.info? 5).map (fun i => (i.zero, i.size, i.bytes)) = some (some (.int .u8 0), 1, 1) := by kernel_rfl

/-- what an append of bytes leaves -/
def ApB (w : World) (base : Nat) (A : Option Addr) (n c : Nat) (l : List UInt8) (A' : Option Addr) (c' : Nat) (w' : World) : Prop := Apped w base 5 1 A n c (l.map byt) A' c' w'
theorem ApB.ob {w w' : World} {base : Nat} {A A' : Option Addr} {n c c' : Nat} {l : List UInt8} (h : ApB w base A n c l A' c' w') : OB w' base 5 A' n c' l := h.1
theorem ApB.chg {w w' : World} {base : Nat} {A A' : Option Addr} {n c c' : Nat} {l : List UInt8} (h : ApB w base A n c l A' c' w') : Chg (fun k => ∃ ad, A = some ad ∧ k = ad.block) w w' := h.2.1
/-- .. onto a row that was made just now: nothing older has turned -/
theorem ApB.grew {w0 w w' : World} {base : Nat} {A A' : Option Addr} {n c c' : Nat} {l : List UInt8} (h : ApB w base A n c l A' c' w') (hg : Grew w0 w) (hA : ∀ ad, A = some ad → w0.heap.size ≤ ad.block) : Grew w0 w' :=
  hg.step h.chg fun k hk ⟨ad, e, he⟩ => by have := hA ad e; omega

/-- append onto a row of bytes of the call's own -/
theorem wpList_appB {ops : Array Oper} {rest : List Oper} {o : Oper} {a : Act} {w : World} {Q : Exit → Act → World → Prop} (hgd : o.guard = none) (s x : Operand)
    (ho : o.op = .call { callee := .builtin .append, args := #[s, x], argTypes := #[42, 42] })
    (base : Nat) (A : Option Addr) (n c : Nat) (l : List UInt8) (hs : a.eval s = .slice A n c) (hown : OB w base 5 A n c l) (hbase : base ≤ w.heap.size)
    (B : Option Addr) (m d : Nat) (r : List UInt8) (hx : a.eval x = .slice B m d) (hr : RB w B m r) (hbytes : n + m ≤ 140737488355328)
    (h : ∀ A' c' w', ApB w base A (n + m) c (l ++ r) A' c' w' → wpList Tryz.prog ops Q rest (a.put o.dst (.slice A' (n + m) c')) w') : wpList Tryz.prog ops Q (o :: rest) a w := by
  obtain ⟨i0, hi, hz0, hz1, hz2⟩ := info_parts infoU8
  refine wpList_app w hgd s x 42 5 ho i0 (.int .u8 0) 1 1 Tryz.underlying42 hi hz0 hz1 hz2 rfl base A n c _ hs hown hbase B m d _ hx (by simpa using hr.1) hr.2 (byt_one r) (by unfold maxLen; omega) (by omega) ?_
  intro A' c' w' h1
  exact h A' c' w' (by unfold ApB; rw [List.map_append]; exact h1)

/-- new memory that holds these bytes; nothing that was there has turned -/
def NewB (w : World) (n : Nat) (l : List UInt8) (e : Ending) (w' : World) : Prop := ∃ A c, e = .returned (.slice A n c) ∧ OB w' w.heap.size 5 A n c l ∧ Grew w w'

theorem head_ge {w : World} {B : Nat} (h : B ≤ w.heap.size) : ∀ ad, (some ⟨w.heap.size, 0, none⟩ : Option Addr) = some ad → B ≤ ad.block := by
  rintro ad e
  injection e with e
  subst e
  exact h

/-- new bytes, laid by the walk -/
theorem RB.new (w : World) (l : List UInt8) (n : Nat) (cs : Array Value) (t : TypeId) (hn : l.length = n) (hc : cs = (l.map byt).toArray) : RB (w.alloc (.cells cs t)) (some ⟨w.heap.size, 0, none⟩) n l :=
  ⟨hn, by subst hc; exact Rd.new w (l.map byt).toArray t⟩
theorem RB.newAt {w : World} {B : Nat} {l : List UInt8} {n : Nat} {cs : Array Value} {t : TypeId} (hB : B = w.heap.size) (hn : l.length = n) (hc : cs = (l.map byt).toArray) : RB (w.alloc (.cells cs t)) (some ⟨B, 0, none⟩) n l := by
  subst hB
  exact RB.new w l n cs t hn hc
theorem RB.drop {w : World} {ad : Addr} {n : Nat} {l : List UInt8} (h : RB w (some ad) n l) (i : Nat) : RB w (some (ad.add i)) (n - i) (l.drop i) := by
  refine ⟨by rw [List.length_drop, h.1], ?_⟩
  rw [List.map_drop]
  exact h.2.drop i
theorem RB.take {w : World} {A : Option Addr} {n : Nat} {l : List UInt8} (h : RB w A n l) {i : Nat} (hi : i ≤ n) : RB w A i (l.take i) := by
  refine ⟨by rw [List.length_take, h.1]; omega, ?_⟩
  rw [List.map_take]
  exact h.2.take i

set_option maxHeartbeats 400000 in
theorem copyBytes_any (A : Option Addr) (n c : Nat) (l : List UInt8) (w : World) (h : RB w A n l) (hn : n ≤ 140737488355328) :
    Calls Tryz.prog 64 #[.slice A n c] w (NewB w n l) := by
  have hown : OB (w.alloc (.cells #[] 5)) w.heap.size 5 (some ⟨w.heap.size, 0, none⟩) 0 0 [] := Own.made w w.heap.size 5 1 (Nat.le_refl _)
  have hr : RB (w.alloc (.cells #[] 5)) A n l := h.grew ((Chg.refl _ w).alloc _)
  go_enter Tryz.func64, Tryz.ntmps64
  go_wp2_with (at_builtin; refine wpList_appB rfl _ _ rfl w.heap.size _ 0 0 [] rfl hown (by simp) A n c l rfl hr (by omega) ?_; intro A' c' w' h1)
  go_ret
  simp only [Nat.zero_add, List.nil_append] at h1
  exact ⟨A', c', by simp, h1.ob, h1.grew ((Chg.refl _ w).alloc _) (head_ge (Nat.le_refl _))⟩

set_option maxHeartbeats 400000 in
theorem sameBytes_any (A B : Option Addr) (n m c d : Nat) (l r : List UInt8) (w : World) (ha : RB w A n l) (hb : RB w B m r) (hn : n ≤ 9223372036854775807) (hm : m ≤ 9223372036854775807) :
    Calls Tryz.prog 30 #[.slice A n c, .slice B m d] w fun e w' => e = .returned (.bool (l == r)) ∧ ∃ k, w' = w.drewN k := by
  by_cases hnm : n = m
  · subst hnm
    go_enter Tryz.func30, Tryz.ntmps30
    go_wp2
    go_loopw [5] (fun i wr => ∃ k : Nat, k ≤ n ∧ i = .int .i64 k ∧ l.take k = r.take k ∧ ∃ j, wr = w.drewN j) (fun i _ => n - (intOf i).toNat)
    case atStart => exact ⟨0, Nat.zero_le _, rfl, rfl, 0, rfl⟩
    case round =>
      obtain ⟨k, hk, rfl, ht, j, rfl⟩ := hrel
      by_cases hlt : k < n
      · obtain ⟨ad, x, rfl, hx, hcx⟩ := ha.at_ hlt
        obtain ⟨bd, y, rfl, hy, hcy⟩ := hb.at_ hlt
        go_wp2
        go_quiet (fail)
        go_wp2
        · have hne : ((x.toNat : Int) != (y.toNat : Int)) = true := by assumption
          go_ret
          refine ⟨?_, j + nq, by simp⟩
          have : (l == r) = false := by
            simp only [beq_eq_false_iff_ne, ne_eq]
            rintro rfl
            rw [hx] at hy
            injection hy with hy
            subst hy
            simp at hne
          simp [this]
        · have he : ((x.toNat : Int) != (y.toNat : Int)) = false := by assumption
          go_roundw
          case rel =>
            refine ⟨k + 1, by omega, by go_num, ?_, _, rfl⟩
            have hxy : x = y := by
              simp only [bne_eq_false_iff_eq] at he
              exact UInt8.toNat_inj.1 (by omega)
            rw [List.take_add_one, List.take_add_one, ht, hx, hy, hxy]
          case measure => simp [intOf]; omega
      · have hkn : k = n := by omega
        subst hkn
        go_wp2
        go_ret
        refine ⟨?_, _, rfl⟩
        have h1 : l.take k = l := List.take_of_length_le (by rw [ha.1]; omega)
        have h2 : r.take k = r := List.take_of_length_le (by rw [hb.1]; omega)
        rw [h1, h2] at ht
        simp [ht]
  · go_enter Tryz.func30, Tryz.ntmps30
    go_wp2
    go_ret
    refine ⟨?_, 0, rfl⟩
    have : (l == r) = false := by
      have h1 := ha.1
      have h2 := hb.1
      simp only [beq_eq_false_iff_ne, ne_eq]
      rintro rfl
      omega
    simp [this]

theorem sameBytes_yes (A B : Option Addr) (n m c d : Nat) (l : List UInt8) (w : World) (ha : RB w A n l) (hb : RB w B m l) (hn : n ≤ 9223372036854775807) (hm : m ≤ 9223372036854775807) :
    Calls Tryz.prog 30 #[.slice A n c, .slice B m d] w fun e w' => e = .returned (.bool true) ∧ ∃ k, w' = w.drewN k := by
  have := sameBytes_any A B n m c d l l w ha hb hn hm
  simpa using this

/-- a list of bytes lent: a copy of them in new memory, two marks behind it -/
def LentB (w : World) (n : Nat) (l : List UInt8) (e : Ending) (w' : World) : Prop := ∃ A c, e = .returned (.slice A n c) ∧ OB w' w.heap.size 5 A (n + 2) c (l ++ [201, 201]) ∧ Grew w w'

set_option maxHeartbeats 400000 in
theorem lendBytes_any (A : Option Addr) (n c : Nat) (l : List UInt8) (w : World) (h : RB w A n l) (hn : n ≤ 140737488355320) :
    Calls Tryz.prog 26 #[.slice A n c] w (LentB w n l) := by
  go_enter Tryz.func26, Tryz.ntmps26
  go_wp2_with fail
  refine (copyBytes_any A n c l _ h (by omega)).mono ?_
  rintro e w1 ⟨A1, c1, rfl, h1, hg1⟩
  have h1a := h1.grew ((Chg.refl _ w1).alloc (.cells #[.int .u8 201, .int .u8 201] 5))
  have hr : RB (w1.alloc (.cells #[.int .u8 201, .int .u8 201] 5)) (some ⟨w1.heap.size, 0, none⟩) 2 [201, 201] := RB.new w1 [201, 201] 2 _ _ rfl rfl
  have hs1 := hg1.size
  go_wp2_with (at_builtin; refine wpList_appB rfl _ _ rfl w.heap.size A1 n c1 l rfl h1a (by simp; omega) _ 2 2 [201, 201] rfl hr (by omega) ?_; intro A2 c2 w2 h2; have hc2 := h2.ob.cap)
  go_ret
  refine ⟨A2, c2, by simp, h2.ob, ?_⟩
  exact h2.grew (hg1.alloc _) fun ad e => (Own.blk_lt h1 ad e).1

set_option maxHeartbeats 400000 in
theorem keptBytes_any (A : Option Addr) (n c : Nat) (l : List UInt8) (B : Option Addr) (d : Nat) (base : Nat) (w : World) (h : OB w base 5 A (n + 2) c (l ++ [201, 201])) (hb : RB w B n l) (hn : n ≤ 140737488355320) :
    Calls Tryz.prog 29 #[.slice A n c, .slice B n d] w fun e w' => e = .returned (.bool true) ∧ Chg (fun k => ∃ ad, A = some ad ∧ k = ad.block) w w' := by
  have hc := h.cap
  obtain ⟨g, rfl, hbg, hg, _⟩ := Own.at_ h (by omega)
  have hl : l.length = n := hb.1
  have ha : RB w (some ⟨g, 0, none⟩) n l := by have := h.rb.take (i := n) (by omega); rwa [List.take_left' hl] at this
  have hz : RB w (some ⟨g, n, none⟩) 2 [201, 201] := by
    have := h.rb.drop n
    rw [List.drop_left' hl, add_head] at this
    simpa using this
  go_enter Tryz.func29, Tryz.ntmps29
  go_wp2_with fail
  refine (sameBytes_yes _ _ n n c d l _ ha hb (by omega) (by omega)).mono ?_
  rintro e w1 ⟨rfl, k1, rfl⟩
  go_wp2_with fail
  have hr2 : RB ((w.drewN k1).alloc (.cells #[.int .u8 201, .int .u8 201] 5)) (some ⟨w.heap.size, 0, none⟩) 2 [201, 201] := RB.new (w.drewN k1) [201, 201] 2 _ _ rfl rfl
  refine (sameBytes_yes _ _ 2 2 _ _ [201, 201] _ ((hz.drewN k1).grew ((Chg.refl _ _).alloc _)) hr2 (by omega) (by omega)).mono ?_
  rintro e w2 ⟨rfl, k2, rfl⟩
  have hw : Wr (((w.drewN k1).alloc (.cells #[.int .u8 201, .int .u8 201] 5)).drewN k2) (some ⟨g, 0, none⟩) (n + 2) := by
    have := (Own.wr h).chg ((((Chg.refl (fun _ => False) w).drewN k1).alloc (.cells #[.int .u8 201, .int .u8 201] 5)).drewN k2) (fun _ _ e => e)
    simpa using this
  have hcg : Chg (fun k => ∃ ad, some (⟨g, 0, none⟩ : Addr) = some ad ∧ k = ad.block) w (((w.drewN k1).alloc (.cells #[.int .u8 201, .int .u8 201] 5)).drewN k2) := (((Chg.refl _ w).drewN k1).alloc _).drewN k2
  generalize (((w.drewN k1).alloc (.cells #[.int .u8 201, .int .u8 201] 5)).drewN k2) = w2 at hw hcg ⊢
  go_wp2
  go_loopw [7] (fun i wr => ∃ k : Nat, k ≤ n + 2 ∧ i = .int .i64 k ∧ Wr wr (some ⟨g, 0, none⟩) (n + 2) ∧ Chg (fun k => ∃ ad, some (⟨g, 0, none⟩ : Addr) = some ad ∧ k = ad.block) w wr) (fun i _ => n + 2 - (intOf i).toNat)
  case atStart => exact ⟨0, Nat.zero_le _, rfl, hw, hcg⟩
  case round =>
    obtain ⟨k, hk, rfl, hw, hcg⟩ := hrel
    by_cases hlt : k < n + 2
    · obtain ⟨ad, u, he, hcell, hfr⟩ := hw.at_ hlt
      injection he with he
      subst he
      rw [add_head] at hcell hfr
      go_wp2
      go_roundw
      case rel => exact ⟨k + 1, by omega, by go_num, hw.set _ _, hcg.setCell (p := ⟨g, k, none⟩) (.inr ⟨_, rfl, rfl⟩) _⟩
      case measure => simp [intOf]; omega
    · go_wp2
      go_ret
      exact ⟨by simp, hcg⟩

end Go.Proofs.YtjoaonppaokhhaaGreat

namespace Go.Proofs.YtjoaonppaokhhaaGreat
open Go.RowKit

section
variable {P : Program} (w : World)
theorem firstCells_str (s : ByteArray) : (Builtin.firstCells 1 s.size (.string s)).run P w = .ok ((s.data.toList.map byt).toArray) w := by
  simp only [Builtin.firstCells, Sem.run_pure]
  congr 1
  apply Array.ext'
  simp [byt]

theorem run_appS (t u ty e : TypeId) (i : TypeInfo) (z : Value) (ht : P.underlying t = some (.slice e)) (hu : P.underlying u = some .string) (hi : P.info? e = some i) (hz : i.zero = some z)
    (hsize : i.size = 1) (hby : i.bytes = 1) (hzs : z.cells.size = 1)
    (base : Nat) (A : Option Addr) (n c : Nat) (xs : List Value) (hown : Own w base e 1 A n c xs) (hbase : base ≤ w.heap.size)
    (s : ByteArray) (h63 : n + s.size ≤ maxLen) (hbytes : (n + s.size) * 1 ≤ 140737488355328) :
    ∃ A' c' w', (Builtin.append_ #[t, u] ty #[.slice A n c, .string s]).run P w = .ok (.slice A' (n + s.size) c') w' ∧ Apped w base e 1 A (n + s.size) c (xs ++ s.data.toList.map byt) A' c' w' := by
  have hl : (s.data.toList.map byt).length = s.size * 1 := by simp
  have hlen : (xs ++ s.data.toList.map byt).length = (n + s.size) * 1 := by rw [List.length_append, hown.len, hl, Nat.add_mul]
  have h1 := byt_one s.data.toList
  have hf : ∀ w : World, (Builtin.firstCells 1 s.size (.string s)).run P w = .ok ((s.data.toList.map byt).toArray) w := fun w => firstCells_str w s
  by_cases hroom : n + s.size ≤ c
  · rcases hown.2 with ⟨e', h3⟩ | ⟨g, cap, cur, e', hbg, hg, hnc, hcm, hcs, htake⟩
    · injection e' with e1 e2 e3
      subst e1; subst e3; subst h3
      have hn : s.data.toList.map byt = [] := List.eq_nil_of_length_eq_zero (by rw [hl]; omega)
      rw [hn]
      have h0 : s.size = 0 := by omega
      refine ⟨none, 0, w, ?_, by simpa [h0] using hown, Chg.refl _ _, .inl ⟨rfl, rfl, by omega, rfl⟩⟩
      have hf0 := hf w
      rw [hn, h0] at hf0
      simp [Builtin.append_, run_underlying ht, run_underlying hu, sizeOf, typeInfo, hi, hsize, Builtin.lenOf, hf0, h0]
    · injection e' with e1 e2 e3
      subst e1; subst e3
      have hfit : n * 1 + (s.data.toList.map byt).length ≤ cur.size := by rw [hl, hcs, ← Nat.add_mul]; exact Nat.mul_le_mul_right _ hroom
      have hst := run_storeCells_at P g (n * 1) e (s.data.toList.map byt) 0 cur w hg (by simpa using hfit) h1
      simp only [Nat.add_zero, Nat.mul_one] at hst
      refine ⟨some ⟨g, 0, none⟩, c, w.setRow g (cur.toList.take (n * 1) ++ s.data.toList.map byt ++ cur.toList.drop (n * 1 + (s.data.toList.map byt).length)).toArray, ?_, ⟨hlen, .inr ⟨g, c, _, rfl, hbg, setRow_heap w g cur _ e _ hg, hroom, hcm, ?_, ?_⟩⟩,
        ⟨rfl, rfl, rfl, by simp, fun k _ hk => setRow_other w g k _ (fun e => hk ⟨_, rfl, e⟩)⟩, .inl ⟨rfl, rfl, hroom, by simp⟩⟩
      · simp [Builtin.append_, run_underlying ht, run_underlying hu, sizeOf, typeInfo, hi, hsize, Builtin.lenOf, hroom, hf, Addr.add_lit]
        simp at hst
        rw [hst]
        simp
      · simp only [List.size_toArray, List.length_append, List.length_take, List.length_drop, Array.length_toList]
        omega
      · rw [htake, ← hlen]
        exact List.take_left
  · have hsmall : n + s.size ≤ 9223372036854775807 := by simp only [maxLen] at h63; omega
    have h63' : ¬ (9223372036854775807 < ((n : Int) + (s.size : Int))) := by omega
    have hgf := growslice_fits (old := c) (need := n + s.size) (bytes := 1) (by omega) hbytes
    have h48' : ¬ (281474976710656 < Builtin.nextslicecap (n + s.size) c) := by omega
    have hfo := firstCells_rd (P := P) w.drew 1 n c A xs hown.len hown.rd
    have hge := grownCap_ge w (n + s.size) c e
    have hcm : grownCap w (n + s.size) c e ≤ maxLen := grownCap_le_maxLen w (n + s.size) c e h63
    refine ⟨some ⟨w.heap.size, 0, none⟩, grownCap w (n + s.size) c e, w.drew.alloc (.cells (xs.toArray ++ (s.data.toList.map byt).toArray ++ Builtin.zeroCells z.cells (grownCap w (n + s.size) c e - (n + s.size))) e), ?_, ?_, ?_, .inr ⟨rfl, (Chg.refl _ w).drew.alloc _, by simp⟩⟩
    · have hfd := hf w.drew
      simp [Builtin.append_, run_underlying ht, run_underlying hu, sizeOf, typeInfo, zeroValue, hi, hz, hsize, hby, Builtin.lenOf, hroom, h63', h48', Question.forced, hfd, hfo, newRow, grownCap]
      congr 2
      apply Array.ext'
      simp [List.append_assoc]
    · refine ⟨hlen, .inr ⟨w.heap.size, _, _, rfl, hbase, heap_alloc_new w.drew _, hge, hcm, ?_, ?_⟩⟩
      · simp only [Array.size_append, List.size_toArray, size_zeroCells, hzs, hown.len, hl, ← Nat.add_mul]
        congr 1
        omega
      · simp only [Array.toList_append, List.append_assoc]
        rw [← List.append_assoc, ← hlen]
        exact List.take_left
    · exact (Chg.refl _ w).drew.alloc _
end

/-- append of a string onto a row of bytes of the call's own -/
theorem wpList_appS {ops : Array Oper} {rest : List Oper} {o : Oper} {a : Act} {w : World} {Q : Exit → Act → World → Prop} (hgd : o.guard = none) (s x : Operand)
    (ho : o.op = .call { callee := .builtin .append, args := #[s, x], argTypes := #[42, 9] })
    (base : Nat) (A : Option Addr) (n c : Nat) (l : List UInt8) (hs : a.eval s = .slice A n c) (hown : OB w base 5 A n c l) (hbase : base ≤ w.heap.size)
    (r : ByteArray) (hx : a.eval x = .string r) (hbytes : n + r.size ≤ 140737488355328)
    (h : ∀ A' c' w', ApB w base A (n + r.size) c (l ++ r.data.toList) A' c' w' → wpList Tryz.prog ops Q rest (a.put o.dst (.slice A' (n + r.size) c')) w') : wpList Tryz.prog ops Q (o :: rest) a w := by
  obtain ⟨i0, hi, hz0, hz1, hz2⟩ := info_parts infoU8
  obtain ⟨A', c', w', hrun, h2⟩ := run_appS (P := Tryz.prog) w 42 9 o.type 5 i0 (.int .u8 0) Tryz.underlying42 Tryz.underlying9 hi hz0 hz1 hz2 rfl base A n c _ hown hbase r (by unfold maxLen; omega) (by omega)
  refine wpList_plain hgd fun K hK => ?_
  unfold Oper.wp execOp
  simp only [ho, resolve, invoke, builtin, Sem.run_bind, Sem.run_pure, Result.andThen_ok, List.map_toArray, List.map_cons, List.map_nil, hs, hx, hrun]
  exact hK _ _ (h A' c' w' (by unfold ApB; rw [List.map_append]; exact h2))
end Go.Proofs.YtjoaonppaokhhaaGreat
