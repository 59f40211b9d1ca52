/-
  Several texts in one:
  (index.Plan)'s comparison of two metas. Conditions: none.
  (slices.SortStableFunc) by (index.Plan)'s comparison at three given blocks, which lie sorted. Conditions: none.
  (index.Plan) at three given blocks; the statements' (some). Conditions: none.
-/
import Derived.Test.YtjoaonppaokhhaaGreatPart38

namespace Go.Proofs.YtjoaonppaokhhaaGreat
open Go.RowKit

set_option maxHeartbeats 1000000 in
theorem or_two (x y : Int) (g : Nat) (w : World) (h0 : w.cell? ⟨g, 0, none⟩ = some (.int .i64 x)) (h1 : w.cell? ⟨g, 1, none⟩ = some (.int .i64 y)) :
    Calls Tryz.prog 76 #[.slice (some ⟨g, 0, none⟩) 2 2] w fun e w' => e = .returned (.int .i64 (if x ≠ 0 then x else y)) ∧ w = w' := by
  by_cases hx : x = 0
  · subst hx
    rw [if_neg (by simp)]
    by_cases hy : y = 0
    · subst hy
      go_enter Tryz.func76, Tryz.ntmps76
      go_wp2
      refine wp_loop_rounds 3 ?_
      rw [rounds_succ]
      go_wp2
      rw [rounds_succ]
      go_wp2
      rw [rounds_succ]
      go_wp2
      go_ret
      exact ⟨by simp, rfl⟩
    · have e1 : (y != 0) = true := by simpa using hy
      go_enter Tryz.func76, Tryz.ntmps76
      go_wp2
      refine wp_loop_rounds 3 ?_
      rw [rounds_succ]
      go_wp2
      rw [rounds_succ]
      go_wp2
      go_ret
      exact ⟨by simp, rfl⟩
  · rw [if_pos hx]
    have e1 : (x != 0) = true := by simpa using hx
    go_enter Tryz.func76, Tryz.ntmps76
    go_wp2
    refine wp_loop_rounds 3 ?_
    rw [rounds_succ]
    go_wp2
    go_ret
    exact ⟨by simp, rfl⟩

/-- how two moments compare -/
def cmpZ (a b : Int) : Int := if a < b then -1 else if b < a then 1 else 0
set_option maxRecDepth 100000 in
set_option maxHeartbeats 4000000 in
theorem isNaNI_any (a : Int) (w : World) : Calls Tryz.prog 104 #[.int .i64 a] w fun e w' => e = .returned (.bool false) ∧ w' = w := by
  go_enter Tryz.func104, Tryz.ntmps104
  go_wp2
  go_ret
  exact ⟨by simp, rfl⟩
set_option maxRecDepth 100000 in
set_option maxHeartbeats 4000000 in
theorem compareI_any (a b : Int) (w : World) : Calls Tryz.prog 77 #[.int .i64 a, .int .i64 b] w fun e w' => e = .returned (.int .i64 (cmpZ a b)) ∧ w' = w := by
  have hA := fun w => isNaNI_any a w
  have hB := fun w => isNaNI_any b w
  by_cases h : a < b
  · rw [show cmpZ a b = -1 by unfold cmpZ; rw [if_pos h]]
    go_enter Tryz.func77, Tryz.ntmps77
    go_wp2_with fail
    refine (hA _).mono ?_
    rintro e w1 ⟨rfl, rfl⟩
    go_wp2_with fail
    refine (hB _).mono ?_
    rintro e w1 ⟨rfl, rfl⟩
    go_wp2
    go_ret
    exact ⟨rfl, rfl⟩
  · by_cases h2 : b < a
    · rw [show cmpZ a b = 1 by unfold cmpZ; rw [if_neg h, if_pos h2]]
      go_enter Tryz.func77, Tryz.ntmps77
      go_wp2_with fail
      refine (hA _).mono ?_
      rintro e w1 ⟨rfl, rfl⟩
      go_wp2_with fail
      refine (hB _).mono ?_
      rintro e w1 ⟨rfl, rfl⟩
      go_wp2
      go_ret
      exact ⟨rfl, rfl⟩
    · rw [show cmpZ a b = 0 by unfold cmpZ; rw [if_neg h, if_neg h2]]
      go_enter Tryz.func77, Tryz.ntmps77
      go_wp2_with fail
      refine (hA _).mono ?_
      rintro e w1 ⟨rfl, rfl⟩
      go_wp2_with fail
      refine (hB _).mono ?_
      rintro e w1 ⟨rfl, rfl⟩
      go_wp2
      go_ret
      exact ⟨rfl, rfl⟩
/-- how Plan compares two blocks -/
def cmpM (a b : Met) : Int := if cmpZ a.lo b.lo ≠ 0 then cmpZ a.lo b.lo else cmpN a.id b.id

set_option maxRecDepth 100000 in
set_option maxHeartbeats 8000000 in
theorem plan1_any (a b : Met) (A B : Option Addr) (n c m d : Nat) (w : World) :
    Calls Tryz.prog 75 #[.agg #[.int .u64 (a.id : Int), .int .i64 a.lo, .int .i64 a.hi, .int .i64 a.lv, .slice A n c, .int .i64 a.sr, .int .i64 a.pt],
      .agg #[.int .u64 (b.id : Int), .int .i64 b.lo, .int .i64 b.hi, .int .i64 b.lv, .slice B m d, .int .i64 b.sr, .int .i64 b.pt]] w fun e w' => e = .returned (.int .i64 (cmpM a b)) ∧ Grew w w' := by
  have hZ := fun w => compareI_any a.lo b.lo w
  have hN := fun w => compareU_any a.id b.id w
  unfold cmpM
  generalize cmpZ a.lo b.lo = z at *
  generalize cmpN a.id b.id = y at *
  obtain ⟨r, hr⟩ : ∃ r, (if z ≠ 0 then z else y) = r := ⟨_, rfl⟩
  rw [hr]
  replace hr := Lib.hid hr
  obtain ⟨W, hW⟩ : ∃ W, W = allocL w [.cells #[.int .u64 (a.id : Int), .int .i64 a.lo, .int .i64 a.hi, .int .i64 a.lv, .slice A n c, .int .i64 a.sr, .int .i64 a.pt] 28, .cells #[.int .u64 (b.id : Int), .int .i64 b.lo, .int .i64 b.hi, .int .i64 b.lv, .slice B m d, .int .i64 b.sr, .int .i64 b.pt] 28] := ⟨_, rfl⟩
  have gW : Grew w W := by rw [hW]; exact allocL_grew _ _
  have bA : Blk W w.heap.size 28 #[.int .u64 (a.id : Int), .int .i64 a.lo, .int .i64 a.hi, .int .i64 a.lv, .slice A n c, .int .i64 a.sr, .int .i64 a.pt] := by rw [hW]; exact allocL_at _ _ 0 _ _ rfl
  have bB : Blk W (w.heap.size + 1) 28 #[.int .u64 (b.id : Int), .int .i64 b.lo, .int .i64 b.hi, .int .i64 b.lv, .slice B m d, .int .i64 b.sr, .int .i64 b.pt] := by rw [hW]; exact allocL_at _ _ 1 _ _ rfl
  have a0 : W.cell? ⟨w.heap.size, 0, none⟩ = some (.int .u64 (a.id : Int)) := bA.cell 0
  have a1 : W.cell? ⟨w.heap.size, 1, none⟩ = some (.int .i64 a.lo) := bA.cell 1
  have b0 : W.cell? ⟨w.heap.size + 1, 0, none⟩ = some (.int .u64 (b.id : Int)) := bB.cell 0
  have b1 : W.cell? ⟨w.heap.size + 1, 1, none⟩ = some (.int .i64 b.lo) := bB.cell 1
  have hcs : CellsIn [w.heap.size, w.heap.size + 1] W := cellsIn_two bA bB
  have hsame : Hid (∀ W1, Grew W W1 → SameIn [w.heap.size, w.heap.size + 1] W W1) := fun W1 h1 => sameIn_of h1 hcs fun _ _ e => e
  go_enter Tryz.func75, Tryz.ntmps75
  go_wp2_with fail
  rw [show (w.alloc (.cells #[.int .u64 (a.id : Int), .int .i64 a.lo, .int .i64 a.hi, .int .i64 a.lv, .slice A n c, .int .i64 a.sr, .int .i64 a.pt] 28)).alloc (.cells #[.int .u64 (b.id : Int), .int .i64 b.lo, .int .i64 b.hi, .int .i64 b.lv, .slice B m d, .int .i64 b.sr, .int .i64 b.pt] 28) = W from hW.symm]
  clear hW
  refine wp_region_textS [] [w.heap.size, w.heap.size + 1] (by kernel_rfl) (by kernel_rfl) hcs ?_
  simp only [wpU, tagOf, chk, List.cons_append, List.nil_append]
  intro K hK
  go_wp2_with fail
  refine OnlyN.normal (hK _ _ (fun _ => ⟨_, _, _, rfl, rfl, by simp⟩) ?_)
  clear hK K
  intro K hK
  go_wp2_with fail
  refine OnlyN.normal (hK _ _ (fun _ => ⟨_, _, _, rfl, rfl, by simp⟩) ?_)
  clear hK K
  intro K hK
  go_wp2_with fail
  refine (hZ _).mono ?_
  rintro e w1 ⟨rfl, rfl⟩
  go_wp2_with fail
  refine OnlyN.normal (hK _ _ (hsame.out _ (Chg.refl _ W).drew) ?_)
  clear hK K
  intro K hK
  go_wp2_with fail
  refine OnlyN.normal (hK _ _ (fun _ => ⟨_, _, _, rfl, rfl, by simp⟩) ?_)
  clear hK K
  intro K hK
  go_wp2_with fail
  refine OnlyN.normal (hK _ _ (fun _ => ⟨_, _, _, rfl, rfl, by simp⟩) ?_)
  clear hK K
  intro K hK
  go_wp2_with fail
  refine (hN _).mono ?_
  rintro e w1 ⟨rfl, rfl⟩
  go_wp2_with fail
  refine OnlyN.normal (hK _ _ (hsame.out _ (Chg.refl _ W).drew) ?_)
  clear hK K
  intro K hK
  go_wp2_with fail
  refine OnlyN.normal (hK _ _ (hsame.out _ ((Chg.refl _ W).drew.alloc _)) ?_)
  clear hK K
  have hO := or_two z y W.heap.size (W.drew.alloc (.cells #[.int .i64 z, .int .i64 y] 3)) ((Blk.new W.drew _ _).cell 0) ((Blk.new W.drew _ _).cell 1)
  rw [hr.out] at hO
  intro K hK
  go_wp2_with fail
  refine hO.mono ?_
  rintro e w1 ⟨rfl, rfl⟩
  go_wp2_with fail
  refine OnlyN.normal (hK _ _ (hsame.out _ ((Chg.refl _ W).drew.alloc _)) ?_)
  clear hK K
  go_wp2
  refine OnlyN.normal ?_
  go_wp2
  go_ret
  exact ⟨rfl, (gW.drew).alloc _⟩
end Go.Proofs.YtjoaonppaokhhaaGreat

namespace Go.Proofs.YtjoaonppaokhhaaGreat
open Go.RowKit

set_option maxRecDepth 100000 in
set_option maxHeartbeats 8000000 in
theorem minsert_some (gb C : Nat) (A1 : Option Addr) (c1 : Nat) (A2 : Option Addr) (c2 : Nat) (A3 : Option Addr) (c3 : Nat) (w : World) (h : Th3 w gb A1 c1 A2 c2 A3 c3) :
    Calls Tryz.prog 123 #[.slice (some ⟨gb, 0, none⟩) 3 C, .int .i64 0, .int .i64 3, .func (.func 75) #[] #[]] w fun e w' => e = .returned (.tuple #[]) ∧ Grew w w' := by
  obtain ⟨x0, x1, x2, x3, x4, x5, x6⟩ := h.at1
  obtain ⟨y0, y1, y2, y3, y4, y5, y6⟩ := h.at2
  have hP := fun w => plan1_any mt2 mt1 A2 A1 0 c2 0 c1 w
  have hv : cmpM mt2 mt1 = 1 := by decide
  rw [hv] at hP
  clear hv
  go_enter Tryz.func123, Tryz.ntmps123
  go_wp2
  refine wp_loop_rounds 3 ?_
  rw [rounds_succ]
  go_wp2
  refine wp_loop_rounds 1 ?_
  rw [rounds_succ]
  go_wp2_with fail
  refine wp_region_text [(3, 1)] (by kernel_rfl) (by kernel_rfl) ?_
  simp only [instr, chk, look, Nat.reduceBEq, if_true, if_false, Nat.reduceEqDiff, List.cons_append, List.nil_append]
  go_wp2_with fail
  refine (hP _).mono ?_
  rintro e w1 ⟨rfl, g1⟩
  have gw1 : Grew w w1 := Chg.trans (by repeat (first | exact Chg.refl _ _ | apply Chg.alloc | apply Chg.drew)) g1
  have h1 := h.chg gw1 (fun e => e)
  clear x0 x1 x2 x3 x4 x5 x6 y0 y1 y2 y3 y4 y5 y6 hP g1
  obtain ⟨x0, x1, x2, x3, x4, x5, x6⟩ := h1.at2
  obtain ⟨y0, y1, y2, y3, y4, y5, y6⟩ := h1.at3
  have hP := fun w => plan1_any mt3 mt2 A3 A2 0 c3 0 c2 w
  have hv : cmpM mt3 mt2 = 1 := by decide
  rw [hv] at hP
  clear hv
  go_wp2_with fail
  refine OnlyN.normal ?_
  go_wp2
  rw [rounds_succ]
  go_wp2
  refine wp_loop_rounds 1 ?_
  rw [rounds_succ]
  go_wp2_with fail
  refine wp_region_text [(3, 1)] (by kernel_rfl) (by kernel_rfl) ?_
  simp only [instr, chk, look, Nat.reduceBEq, if_true, if_false, Nat.reduceEqDiff, List.cons_append, List.nil_append]
  go_wp2_with fail
  refine (hP _).mono ?_
  rintro e w2 ⟨rfl, g2⟩
  have gw2 : Grew w1 w2 := Chg.trans (by repeat (first | exact Chg.refl _ _ | apply Chg.alloc | apply Chg.drew)) g2
  go_wp2_with fail
  refine OnlyN.normal ?_
  go_wp2
  rw [rounds_succ]
  go_wp2
  first
    | go_end0
    | refine bodyPost_ret (results_none rfl _ _ _) rfl ?_
  exact ⟨rfl, gw1.trans gw2⟩

set_option maxRecDepth 100000 in
set_option maxHeartbeats 8000000 in
theorem mstable_some (gb C : Nat) (A1 : Option Addr) (c1 : Nat) (A2 : Option Addr) (c2 : Nat) (A3 : Option Addr) (c3 : Nat) (w : World) (h : Th3 w gb A1 c1 A2 c2 A3 c3) :
    Calls Tryz.prog 103 #[.slice (some ⟨gb, 0, none⟩) 3 C, .int .i64 3, .func (.func 75) #[] #[]] w fun e w' => e = .returned (.tuple #[]) ∧ Grew w w' := by
  have hI := minsert_some gb C A1 c1 A2 c2 A3 c3 w h
  go_enter Tryz.func103, Tryz.ntmps103
  go_wp2
  refine wp_loop_rounds 1 ?_
  rw [rounds_succ]
  go_wp2_with fail
  refine hI.mono ?_
  rintro e w1 ⟨rfl, g1⟩
  go_wp2
  refine wp_loop_rounds 1 ?_
  rw [rounds_succ]
  go_wp2
  first
    | go_end0
    | refine bodyPost_ret (results_none rfl _ _ _) rfl ?_
  exact ⟨rfl, g1⟩

set_option maxRecDepth 100000 in
set_option maxHeartbeats 8000000 in
theorem msort_some (gb C : Nat) (A1 : Option Addr) (c1 : Nat) (A2 : Option Addr) (c2 : Nat) (A3 : Option Addr) (c3 : Nat) (w : World) (h : Th3 w gb A1 c1 A2 c2 A3 c3) :
    Calls Tryz.prog 74 #[.slice (some ⟨gb, 0, none⟩) 3 C, .func (.func 75) #[] #[]] w fun e w' => e = .returned (.tuple #[]) ∧ Grew w w' := by
  have hI := mstable_some gb C A1 c1 A2 c2 A3 c3 w h
  go_enter Tryz.func74, Tryz.ntmps74
  go_wp2_with fail
  refine hI.mono ?_
  rintro e w1 ⟨rfl, g1⟩
  go_wp2
  first
    | go_end0
    | refine bodyPost_ret (results_none rfl _ _ _) rfl ?_
  exact ⟨rfl, g1⟩
end Go.Proofs.YtjoaonppaokhhaaGreat

namespace Go.Proofs.YtjoaonppaokhhaaGreat
open Go.RowKit

/-- the index that awake plans for -/
def someE : List Ent := [⟨mt1, false, 0⟩, ⟨mt2, false, 0⟩, ⟨mt3, false, 0⟩]
theorem th3_of {w : World} {base : Nat} {B : Option Addr} {p C : Nat} {ms : List MtM} (h : MXo w base B p C ms) (hm : ms.map MtM.m = [mt1, mt2, mt3]) :
    ∃ gb A1 c1 A2 c2 A3 c3, p = 3 ∧ B = some ⟨gb, 0, none⟩ ∧ Th3 w gb A1 c1 A2 c2 A3 c3 := by
  have hlen := OE.len (by decide) h.row
  match ms, hm with
  | [⟨m1, A1, n1, c1⟩, ⟨m2, A2, n2, c2⟩, ⟨m3, A3, n3, c3⟩], hm =>
    simp only [List.map_cons, List.map_nil, List.cons.injEq, and_true] at hm
    obtain ⟨rfl, rfl, rfl⟩ := hm
    have e1 := OE.len (by decide) (h.el ⟨mt1, A1, n1, c1⟩ (by simp))
    have e2 := OE.len (by decide) (h.el ⟨mt2, A2, n2, c2⟩ (by simp))
    have e3 := OE.len (by decide) (h.el ⟨mt3, A3, n3, c3⟩ (by simp))
    obtain rfl : 0 = n1 := e1
    obtain rfl : 0 = n2 := e2
    obtain rfl : 0 = n3 := e3
    obtain rfl : 3 = p := hlen
    obtain ⟨g, e, _, hg, hc, _⟩ := Own.at_ h.row (by decide)
    exact ⟨g, A1, c1, A2, c2, A3, c3, rfl, e, hg, fun j hj => hc j hj⟩

set_option maxRecDepth 100000 in
set_option maxHeartbeats 8000000 in
theorem plan_some (v : Nat) (now : Int) (A : Option Addr) (c : Nat) (w : World) (h : RX w A 3 someE) :
    Calls Tryz.prog 32 #[.agg #[.int .u64 (v : Int), .int .i64 0, .slice A 3 c], .int .i64 now] w fun e w' => ∃ B n d, e = .returned (.slice B n d) ∧ OE elU w' w.heap.size 22 B n d [1, 2] ∧ Grew w w' := by
  have hok : IxOk 0 someE := (chkI_iff 0 someE).1 (by decide)
  obtain ⟨W, hW⟩ : ∃ W, W = w.alloc (.cells #[.int .u64 (v : Int), .int .i64 0, .slice A 3 c] 25) := ⟨_, rfl⟩
  have gW : Grew w W := by rw [hW]; exact (Chg.refl _ w).alloc _
  have hL := liveM_ok v 0 A 3 c someE W (h.grew gW) hok
  have hlm : livM someE = [mt1, mt2, mt3] := rfl
  rw [hlm] at hL
  clear hlm
  go_enter Tryz.func32, Tryz.ntmps32
  go_wp2_with fail
  rw [← hW]
  clear hW
  refine hL.mono ?_
  rintro e w1 ⟨B, p, C, ms, rfl, hM, hmm, g1⟩
  obtain ⟨gb, A1, c1, A2, c2, A3, c3, rfl, rfl, hT⟩ := th3_of hM hmm
  clear hM hmm hL
  go_wp2_with fail
  refine (msort_some gb C A1 c1 A2 c2 A3 c3 _ hT).mono ?_
  rintro e w2 ⟨rfl, g2⟩
  go_wp2_with fail
  refine (upright_some gb C A1 c1 A2 c2 A3 c3 _ (hT.chg g2 (fun e => e))).mono ?_
  rintro e w3 ⟨B, n, d, rfl, o3, g3⟩
  have hn : 2 = n := OE.len (by decide) o3
  subst hn
  have gw := (gW.trans g1).trans g2
  have hz := gw.size
  clear gW g1 hT
  go_wp2
  go_ret
  exact ⟨B, 2, d, rfl, Own.mono o3 hz, gw.trans g3⟩

set_option maxRecDepth 100000 in
set_option maxHeartbeats 8000000 in
theorem some_any (w : World) : Calls Tryz.prog 53 #[] w fun e w' => ∃ B c, e = .returned (.agg #[.int .u64 0, .int .i64 0, .slice B 3 c]) ∧ RX w' B 3 someE ∧ Grew w w' := by
  go_enter Tryz.func53, Tryz.ntmps53
  go_wp2
  have q := (Blk.new w 25 #[.int .u64 0, .int .i64 0, .slice (some ⟨w.heap.size + 1, 0, none⟩) 3 3]).alloc (.cells #[.int .u64 1, .int .i64 0, .int .i64 9, .int .i64 0, .slice none 0 0, .int .i64 0, .int .i64 0, .bool false, .int .i64 0, .int .u64 2, .int .i64 5, .int .i64 20, .int .i64 0, .slice none 0 0, .int .i64 0, .int .i64 0, .bool false, .int .i64 0, .int .u64 3, .int .i64 30, .int .i64 40, .int .i64 0, .slice none 0 0, .int .i64 0, .int .i64 0, .bool false, .int .i64 0] 51)
  have q0 := q.cell 0
  have q1 := q.cell 1
  have q2 := q.cell 2
  simp only [List.getElem?_toArray, List.getElem?_cons_succ, List.getElem?_cons_zero] at q0 q1 q2
  refine bodyPost_ret (v := .agg #[.int .u64 0, .int .i64 0, .slice (some ⟨w.heap.size + 1, 0, none⟩) 3 3]) ?_ rfl ⟨some ⟨w.heap.size + 1, 0, none⟩, 3, rfl, ⟨[⟨⟨mt1, false, 0⟩, none, 0, 0⟩, ⟨⟨mt2, false, 0⟩, none, 0, 0⟩, ⟨⟨mt3, false, 0⟩, none, 0, 0⟩], RE.newAt (by simp) rfl rfl, rfl, ?_⟩, ((Chg.refl _ w).alloc _).alloc _⟩
  · simp [results, Tryz.results53, go_sem, q0, q1, q2]
  · intro m hm
    simp only [List.mem_cons, List.not_mem_nil, or_false] at hm
    rcases hm with rfl | rfl | rfl <;> exact ⟨RE.nil _ _, by decide⟩
end Go.Proofs.YtjoaonppaokhhaaGreat
