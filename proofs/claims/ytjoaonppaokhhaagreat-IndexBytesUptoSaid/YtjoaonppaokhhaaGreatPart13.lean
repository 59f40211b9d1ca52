/-
  Several texts in one:
  (slices.Contains), (index.Covered), (index.live) walked. Conditions: lengths that a slice has.
-/
import Derived.Test.YtjoaonppaokhhaaGreatPart12

namespace Go.Proofs.YtjoaonppaokhhaaGreat
open Go.RowKit

theorem drop_at {α : Type} {l : List α} {k : Nat} {x : α} (hx : l[k]? = some x) : l.drop k = x :: l.drop (k + 1) := by
  obtain ⟨h1, h2⟩ := List.getElem?_eq_some_iff.1 hx
  rw [List.drop_eq_getElem_cons h1, h2]

theorem infoI : (Tryz.prog.info? 3).map (fun i => (i.zero, i.size, i.bytes)) = some (some (.int .i64 0), 1, 8) := by kernel_rfl
theorem List.append_cons_assoc' {α : Type} {a : List α} {x : α} {b : List α} : (a ++ [x]) ++ b = a ++ x :: b := by simp

set_option maxRecDepth 100000 in
set_option maxHeartbeats 4000000 in
theorem uindex_any (A : Option Addr) (n c : Nat) (l : List Nat) (x : Nat) (w : World) (h : RE elU w A n l) (hn : n ≤ 9223372036854775807) :
    Calls Tryz.prog 86 #[.slice A n c, .int .u64 (x : Int)] w fun e w' => ∃ i : Int, e = .returned (.int .i64 i) ∧ decide (0 ≤ i) = l.contains x ∧ w' = w := by
  have hln : l.length = n := h.1
  obtain ⟨b, hb⟩ : ∃ b, l.contains x = b := ⟨_, rfl⟩
  rw [hb]
  have hb0 : Hid (b = (l.drop 0).contains x) := hb.symm
  replace hln := Lib.hid hln
  clear hb
  go_enter Tryz.func86, Tryz.ntmps86
  go_wp2
  go_loopw [8] (fun i wr => ∃ k : Nat, k ≤ n ∧ i = .int .i64 (k : Int) ∧ Hid (b = (l.drop k).contains x) ∧ wr = w) (fun i _ => n - (intOf i).toNat)
  case atStart => exact ⟨0, by omega, rfl, hb0, rfl⟩
  case round =>
    obtain ⟨k, hk, rfl, hc, rfl⟩ := hrel
    by_cases hlt : k < n
    · obtain ⟨ad, y, rfl, hy, y0⟩ := h.uat hlt
      have hv := hc.out
      rw [drop_at hy, List.contains_cons] at hv
      clear hc hy
      by_cases hxy : x = y
      · subst hxy
        simp only [BEq.rfl, Bool.true_or] at hv
        replace hv := Lib.hid hv
        go_wp2
        go_ret
        exact ⟨k, rfl, by rw [hv.out]; simp, rfl⟩
      · rw [show (x == y) = false from by simpa using hxy, Bool.false_or] at hv
        replace hv := Lib.hid hv
        go_wp2
        go_roundw
        case rel => exact ⟨k + 1, by omega, by go_num, hv, by trivial⟩
        case measure => simp [intOf]; omega
    · obtain rfl : k = n := by omega
      have hv := hc.out
      rw [List.drop_of_length_le (by have := hln.out; omega)] at hv
      replace hv := Lib.hid hv
      clear hc
      go_wp2
      go_ret
      exact ⟨-1, rfl, by rw [hv.out]; simp, rfl⟩

set_option maxRecDepth 100000 in
set_option maxHeartbeats 4000000 in
theorem contains_any (A : Option Addr) (n c : Nat) (l : List Nat) (x : Nat) (w : World) (h : RE elU w A n l) (hn : n ≤ 9223372036854775807) :
    Calls Tryz.prog 45 #[.slice A n c, .int .u64 (x : Int)] w fun e w' => e = .returned (.bool (l.contains x)) ∧ w' = w := by
  have hI := uindex_any A n c l x w h hn
  obtain ⟨b, hb⟩ : ∃ b, l.contains x = b := ⟨_, rfl⟩
  rw [hb] at hI ⊢
  clear hb h
  go_enter Tryz.func45, Tryz.ntmps45
  go_wp2_with fail
  refine hI.mono ?_
  rintro e w1 ⟨i, rfl, hi, rfl⟩
  replace hi := Lib.hid hi
  clear hI
  go_wp2
  go_ret
  exact ⟨by rw [← hi.out]; simp, rfl⟩

set_option maxRecDepth 100000 in
set_option maxHeartbeats 4000000 in
theorem covered_any (v : Nat) (fl : Int) (A : Option Addr) (n c : Nat) (es : List Ent) (id : Nat) (most : Int) (w : World) (h : RX w A n es) (hn : n ≤ 9223372036854775807) :
    Calls Tryz.prog 31 #[.agg #[.int .u64 (v : Int), .int .i64 fl, .slice A n c], .int .u64 (id : Int), .int .i64 most] w fun e w' => e = .returned (.bool (covI fl es id most)) ∧ Grew w w' := by
  obtain ⟨z, hz⟩ : ∃ z, covI fl es id most = z := ⟨_, rfl⟩
  rw [hz]
  unfold covI at hz
  have hln : es.length = n := h.len
  replace hln := Lib.hid hln
  have hgb : Grew w (w.alloc (.cells #[.int .u64 (v : Int), .int .i64 fl, .slice A n c] 25)) := (Chg.refl _ w).alloc _
  have hC := check_any v fl A n c es _ (h.grew hgb) hn
  cases hck : chkI fl es
  · rw [hck, Bool.false_and] at hz
    rw [hck] at hC
    replace hz := Lib.hid hz
    clear hck
    go_enter Tryz.func31, Tryz.ntmps31
    go_wp2_with fail
    refine hC.mono ?_
    rintro e w1 ⟨rfl, hg1⟩
    unfold errI
    go_wp2
    go_ret
    exact ⟨by rw [hz.out]; rfl, hgb.trans hg1⟩
  rw [hck, Bool.true_and] at hz
  rw [hck] at hC
  have hz0 : Hid (z = ((es.drop 0).any (covE id) || decide (most < fl))) := hz.symm
  clear hck hz
  go_enter Tryz.func31, Tryz.ntmps31
  go_wp2_with fail
  refine hC.mono ?_
  rintro e w1 ⟨rfl, hg1⟩
  unfold errI
  have hg0 := hgb.trans hg1
  have hb1 := (Blk.new w 25 #[.int .u64 (v : Int), .int .i64 fl, .slice A n c]).grew hg1
  have b2 := hb1.cell 2
  clear hC
  go_wp2
  go_loopw [15] (fun i wr => ∃ k : Nat, k ≤ n ∧ i = .int .i64 (k : Int) ∧ Hid (z = ((es.drop k).any (covE id) || decide (most < fl))) ∧ Blk wr w.heap.size 25 #[.int .u64 (v : Int), .int .i64 fl, .slice A n c] ∧ Grew w wr) (fun i _ => n - (intOf i).toNat)
  case atStart => exact ⟨0, by omega, rfl, hz0, hb1, hg0⟩
  case round =>
    clear b2
    obtain ⟨k, hk, rfl, hc, hb, hg⟩ := hrel
    by_cases hlt : k < n
    · obtain ⟨ad, m, rfl, hx, hm, x0, x1, x2, x3, x4, x5, x6, x7, x8⟩ := (h.grew hg).at_ hlt
      have hv := hc.out
      rw [drop_at hx, List.any_cons] at hv
      unfold covE at hv
      obtain ⟨W, hW⟩ : ∃ W, W = wr.alloc (.cells #[.int .u64 (m.e.m.id : Int), .int .i64 m.e.m.lo, .int .i64 m.e.m.hi, .int .i64 m.e.m.lv, .slice m.A m.n m.c, .int .i64 m.e.m.sr, .int .i64 m.e.m.pt, .bool m.e.mkd, .int .i64 m.e.tm] 51) := ⟨_, rfl⟩
      have hgW : Grew wr W := by rw [hW]; exact (Chg.refl _ wr).alloc _
      have hbW : Blk W wr.heap.size 51 #[.int .u64 (m.e.m.id : Int), .int .i64 m.e.m.lo, .int .i64 m.e.m.hi, .int .i64 m.e.m.lv, .slice m.A m.n m.c, .int .i64 m.e.m.sr, .int .i64 m.e.m.pt, .bool m.e.mkd, .int .i64 m.e.tm] := by rw [hW]; exact Blk.new wr _ _
      have hM := contains_any m.A m.n m.c m.e.m.src id W (hm.row.grew hgW) (by have := hm.cap; omega)
      have hgg : Grew w W := hg.trans hgW
      have hbix := hb.grew hgW
      clear hc hx
      by_cases hid : m.e.m.id = id
      · rw [decide_eq_true hid, Bool.true_or, Bool.true_or, Bool.true_or] at hv
        replace hv := Lib.hid hv
        clear hM
        rw [hid] at x0 hW
        go_wp2
        go_ret
        exact ⟨by rw [hv.out]; rfl, by rw [← hW]; exact hgg⟩
      · rw [decide_eq_false hid, Bool.false_or] at hv
        replace hid := Lib.hid hid
        have hni : ¬ (m.e.m.id : Int) = (id : Int) := by have := hid.out; omega
        go_wp2_with fail
        rw [← hW]
        refine hM.mono ?_
        rintro e w2 ⟨rfl, rfl⟩
        clear hM
        cases hco : m.e.m.src.contains id
        · change z = ((m.e.m.src.contains id || _) || _) at hv
          rw [hco, Bool.false_or] at hv
          replace hv := Lib.hid hv
          clear hco
          go_wp2
          go_roundw
          case rel => exact ⟨k + 1, by omega, by go_num, hv, by rw [← hW]; exact hbix, by rw [← hW]; exact hgg⟩
          case measure => simp [intOf]; omega
        · change z = ((m.e.m.src.contains id || _) || _) at hv
          rw [hco, Bool.true_or, Bool.true_or] at hv
          replace hv := Lib.hid hv
          clear hco
          go_wp2
          go_ret
          exact ⟨by rw [hv.out]; rfl, by rw [← hW]; exact hgg⟩
    · obtain rfl : k = n := by omega
      have hv := hc.out
      rw [List.drop_of_length_le (by have := hln.out; omega), List.any_nil, Bool.false_or] at hv
      replace hv := Lib.hid hv
      have b1 := hb.cell 1
      clear hc
      go_wp2
      go_ret
      exact ⟨by rw [hv.out]; rfl, hg⟩

set_option maxRecDepth 100000 in
set_option maxHeartbeats 4000000 in
theorem live_any (v : Nat) (fl : Int) (A : Option Addr) (n c : Nat) (es : List Ent) (w : World) (h : RX w A n es) (hn : n ≤ 256) :
    Calls Tryz.prog 44 #[.agg #[.int .u64 (v : Int), .int .i64 fl, .slice A n c]] w fun e w' => ∃ B m d, e = .returned (.slice B m d) ∧ OE elI w' w.heap.size 3 B m d ((livI es).map fun k : Nat => (k : Int)) ∧ Grew w w' := by
  have hln : es.length = n := h.len
  replace hln := Lib.hid hln
  have hL0 : Hid (livI es = [] ++ livF 0 (es.drop 0)) := Lib.hid rfl
  go_enter Tryz.func44, Tryz.ntmps44
  go_wp2
  go_loopw [3, 9] (fun o i wr => ∃ (k : Nat) (B : Option Addr) (p C : Nat) (L : List Nat), k ≤ n ∧ p ≤ k ∧ i = .int .i64 (k : Int) ∧ o = .slice B p C ∧ Hid (livI es = L ++ livF k (es.drop k)) ∧ OE elI wr w.heap.size 3 B p C (L.map fun j : Nat => (j : Int)) ∧ Grew w wr) (fun o i _ => n - (intOf i).toNat)
  case atStart => exact ⟨0, none, 0, 0, [], by omega, by omega, rfl, rfl, hL0, OE.nil _ _ _, (Chg.refl _ w).alloc _⟩
  case round =>
    obtain ⟨k, B, p, C, L, hk, hpk, rfl, rfl, hc, ho, hg⟩ := hrel
    have hcap := ho.cap
    by_cases hlt : k < n
    · obtain ⟨ad, m, rfl, hx, hm, x0, x1, x2, x3, x4, x5, x6, x7, x8⟩ := (h.grew hg).at_ hlt
      have hv := hc.out
      rw [drop_at hx, livF] at hv
      obtain ⟨W, hW⟩ : ∃ W, W = wr.alloc (.cells #[.int .u64 (m.e.m.id : Int), .int .i64 m.e.m.lo, .int .i64 m.e.m.hi, .int .i64 m.e.m.lv, .slice m.A m.n m.c, .int .i64 m.e.m.sr, .int .i64 m.e.m.pt, .bool m.e.mkd, .int .i64 m.e.tm] 51) := ⟨_, rfl⟩
      have hgW : Grew wr W := by rw [hW]; exact (Chg.refl _ wr).alloc _
      have hoW := ho.grew hgW
      have hgg : Grew w W := hg.trans hgW
      have hsz := hgg.size
      clear hc hx
      cases hmk : m.e.mkd
      · rw [hmk, if_neg (by simp), ← List.append_cons_assoc'] at hv
        replace hv := Lib.hid hv
        rw [hmk] at x7 hW
        clear hmk
        have hsrc : RE elI (W.alloc (.cells #[.int .i64 (k : Int)] 3)) (some ⟨wr.heap.size + 1, 0, none⟩) 1 [(k : Int)] := RE.newAt (by rw [hW]; simp) rfl rfl
        have hoW2 : OE elI (W.alloc (.cells #[.int .i64 (k : Int)] 3)) w.heap.size 3 B p C (L.map fun j : Nat => (j : Int)) := hoW.grew ((Chg.refl _ W).alloc _)
        rw [hW] at hsrc hoW2
        go_wp2_with (at_builtin; go_loud (refine wpList_appE rfl _ _ 65 3 infoI rfl Tryz.underlying65 rfl w.heap.size B p C _ rfl hoW2 (by rw [← hW]; simp; omega) _ 1 1 [(k : Int)] rfl hsrc (by unfold maxLen; omega) (by omega) ?_); intro B2 C2 w5 h5)
        go_roundw
        case rel =>
          refine ⟨k + 1, B2, p + 1, C2, L ++ [k], by omega, by omega, by go_num, rfl, hv, ?_, h5.grew (by rw [← hW]; exact hgg.alloc _) (fun ad e => (Own.blk_lt ho ad e).1)⟩
          have := h5.oe
          rw [List.map_append]
          exact this
        case measure => simp [intOf]; omega
      · rw [hmk, if_pos rfl] at hv
        replace hv := Lib.hid hv
        rw [hmk] at x7 hW
        clear hmk
        go_wp2
        go_roundw
        case rel => exact ⟨k + 1, B, p, C, L, by omega, by omega, by go_num, rfl, hv, by rw [← hW]; exact hoW, by rw [← hW]; exact hgg⟩
        case measure => simp [intOf]; omega
    · obtain rfl : k = n := by omega
      have hv := hc.out
      rw [List.drop_of_length_le (by have := hln.out; omega), livF, List.append_nil] at hv
      replace hv := Lib.hid hv
      clear hc
      go_wp2
      go_ret
      refine ⟨B, p, C, rfl, ?_, hg⟩
      rw [hv.out]
      exact ho
end Go.Proofs.YtjoaonppaokhhaaGreat
