/-
  Several texts in one:
  (index.upright)'s closure at three given blocks, of which the first two overlap. Conditions: none.
  (index.upright) at three given blocks, of which the first two overlap. Conditions: none.
  (index.Plan)'s comparison of two metas. Conditions: none.
-/
import Derived.Test.YtjoaonppaokhhaaGreatPart42

namespace Go.Proofs.YtjoaonppaokhhaaGreat
open Go.RowKit

theorem ladd_fit (g : Nat) (ids all ys : List Nat) (m : Met) (M : Option Addr) (mn mc : Nat) (w : World) (h : Lst w g ids all) (hm : RE elU w M mn m.src) (hsz : ids.length ≤ 100000) (haz : all.length ≤ 100000) (hmn : mn ≤ 100000)
    (he : addsTo all m = ys) (hr : Ris ys) (hys : ys.length ≤ 12) :
    Calls Tryz.prog 106 #[.pointer (some ⟨g, 0, none⟩), .agg #[.int .u64 (m.id : Int), .int .i64 m.lo, .int .i64 m.hi, .int .i64 m.lv, .slice M mn mc, .int .i64 m.sr, .int .i64 m.pt]] w fun e w' =>
      e = .returned (.bool true) ∧ Lst w' g (ids ++ [m.id]) ys ∧ Chg (fun k => g ≤ k) w w' := by
  refine (ladd_any g ids all ys ys m M mn mc w h hm hsz haz hmn (by rw [he]; exact Sorts.rising hr hys) (Compacts.rising hr) (by omega)).mono ?_
  rintro e w' (⟨h1, _⟩ | ⟨_, h2⟩)
  · omega
  · exact h2

/-- the three blocks that awake plans for -/
def mt1 : Met := ⟨1, 0, 9, 0, [], 0, 0⟩
def mt2 : Met := ⟨2, 5, 20, 0, [], 0, 0⟩
def mt3 : Met := ⟨3, 30, 40, 0, [], 0, 0⟩
/-- their metas in a row's cells -/
structure Th3 (w : World) (gb : Nat) (A1 : Option Addr) (c1 : Nat) (A2 : Option Addr) (c2 : Nat) (A3 : Option Addr) (c3 : Nat) : Prop where
  lt : gb < w.heap.size
  cs : ∀ j, j < 21 → w.cell? ⟨gb, j, none⟩ = (elMt.flat [⟨mt1, A1, 0, c1⟩, ⟨mt2, A2, 0, c2⟩, ⟨mt3, A3, 0, c3⟩])[j]?
theorem Th3.chg {S : Nat → Prop} {w w' : World} {gb : Nat} {A1 : Option Addr} {c1 : Nat} {A2 : Option Addr} {c2 : Nat} {A3 : Option Addr} {c3 : Nat} (h : Th3 w gb A1 c1 A2 c2 A3 c3) (hc : Chg S w w') (hn : ¬ S gb) : Th3 w' gb A1 c1 A2 c2 A3 c3 :=
  ⟨Nat.lt_of_lt_of_le h.lt hc.size, fun j hj => (World.cell?_of_block (hc.block gb h.lt hn)).trans (h.cs j hj)⟩
theorem Th3.at1 {w : World} {gb : Nat} {A1 : Option Addr} {c1 : Nat} {A2 : Option Addr} {c2 : Nat} {A3 : Option Addr} {c3 : Nat} (h : Th3 w gb A1 c1 A2 c2 A3 c3) :
    w.cell? ⟨gb, 0, none⟩ = some (.int .u64 1) ∧ w.cell? ⟨gb, 1, none⟩ = some (.int .i64 0) ∧ w.cell? ⟨gb, 2, none⟩ = some (.int .i64 9) ∧ w.cell? ⟨gb, 3, none⟩ = some (.int .i64 0) ∧ w.cell? ⟨gb, 4, none⟩ = some (.slice A1 0 c1) ∧ w.cell? ⟨gb, 5, none⟩ = some (.int .i64 0) ∧ w.cell? ⟨gb, 6, none⟩ = some (.int .i64 0) :=
  ⟨h.cs 0 (by decide), h.cs 1 (by decide), h.cs 2 (by decide), h.cs 3 (by decide), h.cs 4 (by decide), h.cs 5 (by decide), h.cs 6 (by decide)⟩
theorem Th3.at2 {w : World} {gb : Nat} {A1 : Option Addr} {c1 : Nat} {A2 : Option Addr} {c2 : Nat} {A3 : Option Addr} {c3 : Nat} (h : Th3 w gb A1 c1 A2 c2 A3 c3) :
    w.cell? ⟨gb, 7, none⟩ = some (.int .u64 2) ∧ w.cell? ⟨gb, 8, none⟩ = some (.int .i64 5) ∧ w.cell? ⟨gb, 9, none⟩ = some (.int .i64 20) ∧ w.cell? ⟨gb, 10, none⟩ = some (.int .i64 0) ∧ w.cell? ⟨gb, 11, none⟩ = some (.slice A2 0 c2) ∧ w.cell? ⟨gb, 12, none⟩ = some (.int .i64 0) ∧ w.cell? ⟨gb, 13, none⟩ = some (.int .i64 0) :=
  ⟨h.cs 7 (by decide), h.cs 8 (by decide), h.cs 9 (by decide), h.cs 10 (by decide), h.cs 11 (by decide), h.cs 12 (by decide), h.cs 13 (by decide)⟩
theorem Th3.at3 {w : World} {gb : Nat} {A1 : Option Addr} {c1 : Nat} {A2 : Option Addr} {c2 : Nat} {A3 : Option Addr} {c3 : Nat} (h : Th3 w gb A1 c1 A2 c2 A3 c3) :
    w.cell? ⟨gb, 14, none⟩ = some (.int .u64 3) ∧ w.cell? ⟨gb, 15, none⟩ = some (.int .i64 30) ∧ w.cell? ⟨gb, 16, none⟩ = some (.int .i64 40) ∧ w.cell? ⟨gb, 17, none⟩ = some (.int .i64 0) ∧ w.cell? ⟨gb, 18, none⟩ = some (.slice A3 0 c3) ∧ w.cell? ⟨gb, 19, none⟩ = some (.int .i64 0) ∧ w.cell? ⟨gb, 20, none⟩ = some (.int .i64 0) :=
  ⟨h.cs 14 (by decide), h.cs 15 (by decide), h.cs 16 (by decide), h.cs 17 (by decide), h.cs 18 (by decide), h.cs 19 (by decide), h.cs 20 (by decide)⟩
/-- what (upright)'s closure looks at -/
structure Up1 (w : World) (gm gf gb g C : Nat) (A1 : Option Addr) (c1 : Nat) (A2 : Option Addr) (c2 : Nat) (A3 : Option Addr) (c3 : Nat) : Prop where
  bm : Blk w gm 54 #[.slice (some ⟨gb, 0, none⟩) 3 C]
  bf : Blk w gf 3 #[.int .i64 0]
  th : Th3 w gb A1 c1 A2 c2 A3 c3
  lt : gm < g ∧ gf < g ∧ gb < g
theorem Up1.chg {w w' : World} {gm gf gb g C : Nat} {A1 : Option Addr} {c1 : Nat} {A2 : Option Addr} {c2 : Nat} {A3 : Option Addr} {c3 : Nat} (h : Up1 w gm gf gb g C A1 c1 A2 c2 A3 c3) (hc : Chg (fun k => g ≤ k) w w') : Up1 w' gm gf gb g C A1 c1 A2 c2 A3 c3 := by
  have hl := h.lt
  exact ⟨h.bm.chg hc (by omega), h.bf.chg hc (by omega), h.th.chg hc (by omega), hl⟩

set_option maxRecDepth 100000 in
set_option maxHeartbeats 8000000 in
theorem upright1_some (gm gf gb g C : Nat) (A1 : Option Addr) (c1 : Nat) (A2 : Option Addr) (c2 : Nat) (A3 : Option Addr) (c3 : Nat) (w : World) (h : Up1 w gm gf gb g C A1 c1 A2 c2 A3 c3) (hL : Lst w g [] []) :
    Calls Tryz.prog 108 #[.func (.func 106) #[.pointer (some ⟨g, 0, none⟩)] #[], .pointer (some ⟨gm, 0, none⟩), .pointer (some ⟨gf, 0, none⟩)] w fun e w' =>
      e = .returned (.tuple #[]) ∧ (∃ all, Lst w' g [1, 2] all) ∧ Chg (fun k => g ≤ k) w w' := by
  have hgl : g < w.heap.size := by
    obtain ⟨_, _, _, _, _, hl⟩ := hL
    exact hl.bk.lt
  have hl := h.lt
  have hA1 := ladd_fit g [] [] [1] mt1 A1 0 c1 w hL (RE.nil _ _) (by decide) (by decide) (by decide) rfl (by unfold Ris; simp) (by decide)
  have b0 : w.cell? ⟨gm, 0, none⟩ = some (.slice (some ⟨gb, 0, none⟩) 3 C) := h.bm.cell 0
  have f0 : w.cell? ⟨gf, 0, none⟩ = some (.int .i64 0) := h.bf.cell 0
  obtain ⟨x0, x1, x2, x3, x4, x5, x6⟩ := h.th.at1
  go_enter Tryz.func108, Tryz.ntmps108
  go_wp2_with fail
  refine hA1.mono ?_
  rintro e w1 ⟨rfl, hL1, ch1⟩
  have h1 := h.chg ch1
  clear b0 f0 x0 x1 x2 x3 x4 x5 x6 hA1 hL
  have b0 : w1.cell? ⟨gm, 0, none⟩ = some (.slice (some ⟨gb, 0, none⟩) 3 C) := h1.bm.cell 0
  have f0 : w1.cell? ⟨gf, 0, none⟩ = some (.int .i64 0) := h1.bf.cell 0
  have z1 := ch1.size
  have lm := h1.bm.lt
  have lf := h1.bf.lt
  have lb := h1.th.lt
  obtain ⟨x0, x1, x2, x3, x4, x5, x6⟩ := h1.th.at1
  obtain ⟨y0, y1, y2, y3, y4, y5, y6⟩ := h1.th.at2
  have hO := fun w => overlap_any mt1 mt2 A1 A2 0 c1 0 c2 w
  have hv : ovB mt1 mt2 = true := by decide
  rw [hv] at hO
  go_wp2
  refine wp_loop_rounds 4 ?_
  rw [rounds_succ]
  go_wp2_with fail
  refine wp_region_text [(3, 1)] (by kernel_rfl) (by kernel_rfl) ?_
  simp only [instr, chk, look, Nat.reduceBEq, if_true, if_false, Nat.reduceEqDiff, List.cons_append, List.nil_append]
  go_wp2
  refine OnlyN.normal ?_
  go_wp2
  rw [rounds_succ]
  go_wp2_with fail
  refine wp_region_text [(3, 1)] (by kernel_rfl) (by kernel_rfl) ?_
  simp only [instr, chk, look, Nat.reduceBEq, if_true, if_false, Nat.reduceEqDiff, List.cons_append, List.nil_append]
  go_wp2_with fail
  refine (hO _).mono ?_
  rintro e w2 ⟨rfl, hg2⟩
  go_wp2_with fail
  refine OnlyN.normal ?_
  have hgt : Hid (∀ W, Grew W w2 → W.heap.size = W.heap.size) := Lib.hid fun _ _ => rfl
  have gA : Grew w1 w2 := Chg.trans (by repeat (first | exact Chg.refl _ _ | apply Chg.alloc | apply Chg.drew)) hg2
  have bc : Blk w2 (w1.heap.size + 1) 28 #[.int .u64 2, .int .i64 5, .int .i64 20, .int .i64 0, .slice A2 0 c2, .int .i64 0, .int .i64 0] := by
    have h9 := Blk.new (w1.alloc (.cells #[.int .u64 1, .int .i64 0, .int .i64 9, .int .i64 0, .slice A1 0 c1, .int .i64 0, .int .i64 0] 28)) 28 #[.int .u64 2, .int .i64 5, .int .i64 20, .int .i64 0, .slice A2 0 c2, .int .i64 0, .int .i64 0]
    rw [World.size_alloc] at h9
    refine Blk.grew ?_ hg2
    exact h9
  have k0 := bc.cell 0
  have k1 := bc.cell 1
  have k2 := bc.cell 2
  have k3 := bc.cell 3
  have k4 := bc.cell 4
  have k5 := bc.cell 5
  have k6 := bc.cell 6
  simp only [List.getElem?_toArray, List.getElem?_cons_succ, List.getElem?_cons_zero] at k0 k1 k2 k3 k4 k5 k6
  have h2 := h1.chg (Chg.of_grew gA)
  have hA2 := ladd_fit g [1] [1] [1, 2] mt2 A2 0 c2 w2 (hL1.grew gA) (RE.nil _ _) (by decide) (by decide) (by decide) rfl (by unfold Ris; simp) (by decide)
  clear b0 f0 x0 x1 x2 x3 x4 x5 x6 y0 y1 y2 y3 y4 y5 y6 hO hv hg2 hgt bc
  go_wp2_with fail
  refine hA2.mono ?_
  rintro e w3 ⟨rfl, hL3, ch3⟩
  have h3 := h2.chg ch3
  clear k0 k1 k2 k3 k4 k5 k6 hA2 z1 lm lf lb hL1
  have b0 : w3.cell? ⟨gm, 0, none⟩ = some (.slice (some ⟨gb, 0, none⟩) 3 C) := h3.bm.cell 0
  have f0 : w3.cell? ⟨gf, 0, none⟩ = some (.int .i64 0) := h3.bf.cell 0
  have lm := h3.bm.lt
  have lf := h3.bf.lt
  have lb := h3.th.lt
  obtain ⟨x0, x1, x2, x3, x4, x5, x6⟩ := h3.th.at1
  obtain ⟨y0, y1, y2, y3, y4, y5, y6⟩ := h3.th.at3
  have hO := fun w => overlap_any mt1 mt3 A1 A3 0 c1 0 c3 w
  have hv : ovB mt1 mt3 = false := by decide
  rw [hv] at hO
  clear hv
  go_wp2
  rw [rounds_succ]
  go_wp2_with fail
  refine wp_region_text [(3, 1)] (by kernel_rfl) (by kernel_rfl) ?_
  simp only [instr, chk, look, Nat.reduceBEq, if_true, if_false, Nat.reduceEqDiff, List.cons_append, List.nil_append]
  go_wp2_with fail
  refine (hO _).mono ?_
  rintro e w4 ⟨rfl, hg4⟩
  have g4 : Grew w3 w4 := Chg.trans (by repeat (first | exact Chg.refl _ _ | apply Chg.alloc | apply Chg.drew)) hg4
  go_wp2_with fail
  refine OnlyN.normal ?_
  go_wp2
  rw [rounds_succ]
  go_wp2
  first
    | go_end0
    | refine bodyPost_ret (results_none rfl _ _ _) rfl ?_
  exact ⟨rfl, ⟨_, hL3.grew g4⟩, ((ch1.grow gA).trans ch3).grow g4⟩
end Go.Proofs.YtjoaonppaokhhaaGreat

namespace Go.Proofs.YtjoaonppaokhhaaGreat
open Go.RowKit

/-- objects laid one behind the other -/
def allocL : World → List Obj → World
  | w, [] => w
  | w, o :: r => allocL (w.alloc o) r
theorem allocL_grew : ∀ (os : List Obj) (w : World), Grew w (allocL w os)
  | [], w => Chg.refl _ w
  | o :: r, w => ((Chg.refl _ w).alloc o).trans (allocL_grew r (w.alloc o))
theorem allocL_at : ∀ (os : List Obj) (w : World) (k : Nat) (t : TypeId) (cs : Array Value), os[k]? = some (.cells cs t) → Blk (allocL w os) (w.heap.size + k) t cs
  | [], w, k, t, cs, h => by simp at h
  | o :: r, w, 0, t, cs, h => by
    simp at h
    subst h
    exact (Blk.new w t cs).grew (allocL_grew r _)
  | o :: r, w, k + 1, t, cs, h => by
    have := allocL_at r (w.alloc o) k t cs (by simpa using h)
    rw [World.size_alloc, Nat.add_assoc, Nat.add_comm 1 k] at this
    exact this

set_option maxRecDepth 100000 in
set_option maxHeartbeats 8000000 in
theorem upright_some (gb C : Nat) (A1 : Option Addr) (c1 : Nat) (A2 : Option Addr) (c2 : Nat) (A3 : Option Addr) (c3 : Nat) (w : World) (h : Th3 w gb A1 c1 A2 c2 A3 c3) :
    Calls Tryz.prog 79 #[.slice (some ⟨gb, 0, none⟩) 3 C] w fun e w' => ∃ A n c, e = .returned (.slice A n c) ∧ OE elU w' w.heap.size 22 A n c [1, 2] ∧ Grew w w' := by
  have hmf : ∀ (fn : Fn) (first cap : Array Value) (w : World), (Instr.makeFunc fn first cap).run Tryz.prog w = .ok (.func fn first cap) w := fun _ _ _ _ => rfl
  have hlb := h.lt
  obtain ⟨x0, x1, x2, x3, x4, x5, x6⟩ := h.at1
  obtain ⟨y0, y1, y2, y3, y4, y5, y6⟩ := h.at2
  have hO := fun w => overlap_any mt1 mt2 A1 A2 0 c1 0 c2 w
  have hv : ovB mt1 mt2 = true := by decide
  rw [hv] at hO
  clear hv
  go_enter Tryz.func79, Tryz.ntmps79
  go_wp2_with fail
  go_step3
  go_wp2_with fail
  go_step3
  go_wp2_with fail
  refine wp_loop_rounds 2 ?_
  rw [rounds_succ]
  go_wp2_with fail
  obtain ⟨W3, hW3⟩ : ∃ W, W = allocL w [(.cells #[.slice (some ⟨gb, 0, none⟩) 3 C] 54), (.cells #[.int .i64 (-1)] 3), .cells #[.int .u64 1, .int .i64 0, .int .i64 9, .int .i64 0, .slice A1 0 c1, .int .i64 0, .int .i64 0] 28] := ⟨_, rfl⟩
  rw [show ((w.alloc (.cells #[.slice (some ⟨gb, 0, none⟩) 3 C] 54)).alloc (.cells #[.int .i64 (-1)] 3)).alloc (.cells #[.int .u64 1, .int .i64 0, .int .i64 9, .int .i64 0, .slice A1 0 c1, .int .i64 0, .int .i64 0] 28) = W3 from hW3.symm]
  have g3 : Grew w W3 := by rw [hW3]; exact allocL_grew _ _
  have bM : Blk W3 w.heap.size 54 #[.slice (some ⟨gb, 0, none⟩) 3 C] := by rw [hW3]; exact allocL_at _ _ 0 _ _ rfl
  have bF : Blk W3 (w.heap.size + 1) 3 #[.int .i64 (-1)] := by rw [hW3]; exact allocL_at _ _ 1 _ _ rfl
  have bA : Blk W3 (w.heap.size + 1 + 1) 28 #[.int .u64 1, .int .i64 0, .int .i64 9, .int .i64 0, .slice A1 0 c1, .int .i64 0, .int .i64 0] := by rw [hW3]; exact allocL_at _ _ 2 _ _ rfl
  have h3 := h.chg g3 (fun e => e)
  clear x0 x1 x2 x3 x4 x5 x6 y0 y1 y2 y3 y4 y5 y6
  obtain ⟨x0, x1, x2, x3, x4, x5, x6⟩ := h3.at1
  have lb3 := h3.lt
  have b0 : W3.cell? ⟨w.heap.size, 0, none⟩ = some (.slice (some ⟨gb, 0, none⟩) 3 C) := bM.cell 0
  clear hW3
  refine wp_loop_rounds 3 ?_
  rw [rounds_succ]
  go_wp2_with fail
  rw [rounds_succ]
  obtain ⟨W5, hW5⟩ : ∃ W, W = allocL W3 [.cells #[.int .u64 1, .int .i64 0, .int .i64 9, .int .i64 0, .slice A1 0 c1, .int .i64 0, .int .i64 0] 28, (.cells #[.slice none 0 0, .slice none 0 0] 123)] := ⟨_, rfl⟩
  rw [show (W3.alloc (.cells #[.int .u64 1, .int .i64 0, .int .i64 9, .int .i64 0, .slice A1 0 c1, .int .i64 0, .int .i64 0] 28)).alloc (.cells #[.slice none 0 0, .slice none 0 0] 123) = W5 from hW5.symm]
  have g5 : Grew W3 W5 := by rw [hW5]; exact allocL_grew _ _
  clear hW5 x0 x1 x2 x3 x4 x5 x6 b0 lb3
  have h5 := h3.chg g5 (fun e => e)
  have lb5 := h5.lt
  have lA := (bA.grew g5).lt
  obtain ⟨y0, y1, y2, y3, y4, y5, y6⟩ := h5.at2
  have g7 : Grew W5 ((W5.alloc (.cells #[.int .u64 2, .int .i64 5, .int .i64 20, .int .i64 0, .slice A2 0 c2, .int .i64 0, .int .i64 0] 28)).alloc (.cells #[.slice none 0 0, .slice none 0 0] 123)) := ((Chg.refl _ W5).alloc _).alloc _
  have bA7 : Blk ((W5.alloc (.cells #[.int .u64 2, .int .i64 5, .int .i64 20, .int .i64 0, .slice A2 0 c2, .int .i64 0, .int .i64 0] 28)).alloc (.cells #[.slice none 0 0, .slice none 0 0] 123)) (w.heap.size + 1 + 1) 28 #[.int .u64 1, .int .i64 0, .int .i64 9, .int .i64 0, .slice A1 0 c1, .int .i64 0, .int .i64 0] := (bA.grew g5).grew g7
  have bB7 : Blk ((W5.alloc (.cells #[.int .u64 2, .int .i64 5, .int .i64 20, .int .i64 0, .slice A2 0 c2, .int .i64 0, .int .i64 0] 28)).alloc (.cells #[.slice none 0 0, .slice none 0 0] 123)) W5.heap.size 28 #[.int .u64 2, .int .i64 5, .int .i64 20, .int .i64 0, .slice A2 0 c2, .int .i64 0, .int .i64 0] := (Blk.new W5 _ _).alloc _
  have a0 := bA7.cell 0
  have a1 := bA7.cell 1
  have a2 := bA7.cell 2
  have a3 := bA7.cell 3
  have a4 := bA7.cell 4
  have a5 := bA7.cell 5
  have a6 := bA7.cell 6
  have d0 := bB7.cell 0
  have d1 := bB7.cell 1
  have d2 := bB7.cell 2
  have d3 := bB7.cell 3
  have d4 := bB7.cell 4
  have d5 := bB7.cell 5
  have d6 := bB7.cell 6
  simp only [List.getElem?_toArray, List.getElem?_cons_succ, List.getElem?_cons_zero] at a0 a1 a2 a3 a4 a5 a6 d0 d1 d2 d3 d4 d5 d6
  go_wp2_with fail
  refine (hO _).mono ?_
  rintro e w8 ⟨rfl, g8⟩
  have L7 : Lst ((W5.alloc (.cells #[.int .u64 2, .int .i64 5, .int .i64 20, .int .i64 0, .slice A2 0 c2, .int .i64 0, .int .i64 0] 28)).alloc (.cells #[.slice none 0 0, .slice none 0 0] 123)) (W5.heap.size + 1) [] [] := by
    have := Lst.new (W5.alloc (.cells #[.int .u64 2, .int .i64 5, .int .i64 20, .int .i64 0, .slice A2 0 c2, .int .i64 0, .int .i64 0] 28))
    rwa [World.size_alloc] at this
  have bA8 := bA7.grew g8
  have bB8 := bB7.grew g8
  clear a0 a1 a2 a3 a4 a5 a6 d0 d1 d2 d3 d4 d5 d6 y0 y1 y2 y3 y4 y5 y6 hO
  have a0 := bA8.cell 0
  have a1 := bA8.cell 1
  have a2 := bA8.cell 2
  have a3 := bA8.cell 3
  have a4 := bA8.cell 4
  have a5 := bA8.cell 5
  have a6 := bA8.cell 6
  simp only [List.getElem?_toArray, List.getElem?_cons_succ, List.getElem?_cons_zero] at a0 a1 a2 a3 a4 a5 a6
  have hA1 := ladd_fit (W5.heap.size + 1) [] [] [1] mt1 A1 0 c1 w8 (L7.grew g8) (RE.nil _ _) (by decide) (by decide) (by decide) rfl (by unfold Ris; simp) (by decide)
  go_wp2_with fail
  refine hA1.mono ?_
  rintro e w9 ⟨rfl, L9, ch9⟩
  have bB9 := bB8.chg ch9 (by omega)
  clear a0 a1 a2 a3 a4 a5 a6 hA1
  have a0 := bB9.cell 0
  have a1 := bB9.cell 1
  have a2 := bB9.cell 2
  have a3 := bB9.cell 3
  have a4 := bB9.cell 4
  have a5 := bB9.cell 5
  have a6 := bB9.cell 6
  simp only [List.getElem?_toArray, List.getElem?_cons_succ, List.getElem?_cons_zero] at a0 a1 a2 a3 a4 a5 a6
  have hA2 := ladd_fit (W5.heap.size + 1) [1] [1] [1, 2] mt2 A2 0 c2 w9 L9 (RE.nil _ _) (by decide) (by decide) (by decide) rfl (by unfold Ris; simp) (by decide)
  go_wp2_with fail
  refine hA2.mono ?_
  rintro e w10 ⟨rfl, L10, ch10⟩
  clear a0 a1 a2 a3 a4 a5 a6 hA2 L9 L10 bB9 bB8 bA8 bA7 bB7 L7
  have z5 := g5.size
  have z3 := g3.size
  have lF := bF.lt
  have gS : Grew W3 W5 := g5
  have c10 : Chg (fun k => W5.heap.size + 1 ≤ k) W5 w10 := ((Chg.of_grew (g7.trans g8)).trans ch9).trans ch10
  have bF10 := (bF.grew g5).chg c10 (by omega)
  have bM10 := (bM.grew g5).chg c10 (by omega)
  have h10 := h5.chg c10 (by have := h.lt; omega)
  have g10 : Grew w w10 := (g3.trans g5).step c10 fun k hk e => by omega
  have q0 := bF10.cell 0
  have qf := bF10.frozen 0
  simp only [List.getElem?_toArray, List.getElem?_cons_zero] at q0
  clear g7 g8 ch9 ch10 c10
  have hst : Chg (fun k => k = w.heap.size + 1) w10 (w10.setCell ⟨w.heap.size + 1, 0, none⟩ (.int .i64 0)) := Chg.one _ _ _ _
  have bF11 := bF10.set 0 (.int .i64 0)
  simp only [List.setIfInBounds_toArray, List.set_cons_zero] at bF11
  have bM11 := bM10.chg hst (by omega)
  have h11 := h10.chg hst (by have := h.lt; omega)
  have g11 : Grew w (w10.setCell ⟨w.heap.size + 1, 0, none⟩ (.int .i64 0)) := g10.setCell (p := ⟨w.heap.size + 1, 0, none⟩) (.inl (by show w.heap.size ≤ w.heap.size + 1; omega)) _
  obtain ⟨W11, hW11⟩ : ∃ W, W = w10.setCell ⟨w.heap.size + 1, 0, none⟩ (.int .i64 0) := ⟨_, rfl⟩
  rw [← hW11] at bF11 bM11 h11 g11
  have hz11 := bF11.lt
  have hG := gather_up [1, 2] [1, 2] (.pointer (some ⟨w.heap.size, 0, none⟩)) (.pointer (some ⟨w.heap.size + 1, 0, none⟩)) W11 (by decide) (by decide) (Sorts.rising (by unfold Ris; simp) (by decide)) fun W g hg hl hL =>
    upright1_some w.heap.size (w.heap.size + 1) gb g C A1 c1 A2 c2 A3 c3 W ⟨bM11.grew hg, bF11.grew hg, h11.chg hg (fun e => e), ⟨by omega, by omega, by have := h11.lt; omega⟩⟩ hL
  have i0 := bF11.cell 0
  simp only [List.getElem?_toArray, List.getElem?_cons_zero] at i0
  go_wp2_with fail
  rw [← hW11]
  refine hG.mono ?_
  rintro e w12 ⟨A, n, c, rfl, o12, g12⟩
  have hz := g11.size
  have o13 : OE elU w12 w.heap.size 22 A n c [1, 2] := Own.mono o12 hz
  have g13 := g11.trans g12
  clear hG q0 qf i0
  go_wp2
  rw [Exit.noGoto_ret]
  go_ret
  exact ⟨A, n, c, rfl, o13, g13⟩
end Go.Proofs.YtjoaonppaokhhaaGreat

namespace Go.Proofs.YtjoaonppaokhhaaGreat
open Go.RowKit

set_option maxHeartbeats 1000000 in
theorem or_two (x y : Int) (g : Nat) (w : World) (h0 : w.cell? ⟨g, 0, none⟩ = some (.int .i64 x)) (h1 : w.cell? ⟨g, 1, none⟩ = some (.int .i64 y)) :
    Calls Tryz.prog 76 #[.slice (some ⟨g, 0, none⟩) 2 2] w fun e w' => e = .returned (.int .i64 (if x ≠ 0 then x else y)) ∧ w = w' := by
  by_cases hx : x = 0
  · subst hx
    rw [if_neg (by simp)]
    by_cases hy : y = 0
    · subst hy
      go_enter Tryz.func76, Tryz.ntmps76
      go_wp2
      refine wp_loop_rounds 3 ?_
      rw [rounds_succ]
      go_wp2
      rw [rounds_succ]
      go_wp2
      rw [rounds_succ]
      go_wp2
      go_ret
      exact ⟨by simp, rfl⟩
    · have e1 : (y != 0) = true := by simpa using hy
      go_enter Tryz.func76, Tryz.ntmps76
      go_wp2
      refine wp_loop_rounds 3 ?_
      rw [rounds_succ]
      go_wp2
      rw [rounds_succ]
      go_wp2
      go_ret
      exact ⟨by simp, rfl⟩
  · rw [if_pos hx]
    have e1 : (x != 0) = true := by simpa using hx
    go_enter Tryz.func76, Tryz.ntmps76
    go_wp2
    refine wp_loop_rounds 3 ?_
    rw [rounds_succ]
    go_wp2
    go_ret
    exact ⟨by simp, rfl⟩

/-- how two moments compare -/
def cmpZ (a b : Int) : Int := if a < b then -1 else if b < a then 1 else 0
set_option maxRecDepth 100000 in
set_option maxHeartbeats 4000000 in
theorem isNaNI_any (a : Int) (w : World) : Calls Tryz.prog 104 #[.int .i64 a] w fun e w' => e = .returned (.bool false) ∧ w' = w := by
  go_enter Tryz.func104, Tryz.ntmps104
  go_wp2
  go_ret
  exact ⟨by simp, rfl⟩
set_option maxRecDepth 100000 in
set_option maxHeartbeats 4000000 in
theorem compareI_any (a b : Int) (w : World) : Calls Tryz.prog 77 #[.int .i64 a, .int .i64 b] w fun e w' => e = .returned (.int .i64 (cmpZ a b)) ∧ w' = w := by
  have hA := fun w => isNaNI_any a w
  have hB := fun w => isNaNI_any b w
  by_cases h : a < b
  · rw [show cmpZ a b = -1 by unfold cmpZ; rw [if_pos h]]
    go_enter Tryz.func77, Tryz.ntmps77
    go_wp2_with fail
    refine (hA _).mono ?_
    rintro e w1 ⟨rfl, rfl⟩
    go_wp2_with fail
    refine (hB _).mono ?_
    rintro e w1 ⟨rfl, rfl⟩
    go_wp2
    go_ret
    exact ⟨rfl, rfl⟩
  · by_cases h2 : b < a
    · rw [show cmpZ a b = 1 by unfold cmpZ; rw [if_neg h, if_pos h2]]
      go_enter Tryz.func77, Tryz.ntmps77
      go_wp2_with fail
      refine (hA _).mono ?_
      rintro e w1 ⟨rfl, rfl⟩
      go_wp2_with fail
      refine (hB _).mono ?_
      rintro e w1 ⟨rfl, rfl⟩
      go_wp2
      go_ret
      exact ⟨rfl, rfl⟩
    · rw [show cmpZ a b = 0 by unfold cmpZ; rw [if_neg h, if_neg h2]]
      go_enter Tryz.func77, Tryz.ntmps77
      go_wp2_with fail
      refine (hA _).mono ?_
      rintro e w1 ⟨rfl, rfl⟩
      go_wp2_with fail
      refine (hB _).mono ?_
      rintro e w1 ⟨rfl, rfl⟩
      go_wp2
      go_ret
      exact ⟨rfl, rfl⟩
/-- how Plan compares two blocks -/
def cmpM (a b : Met) : Int := if cmpZ a.lo b.lo ≠ 0 then cmpZ a.lo b.lo else cmpN a.id b.id

set_option maxRecDepth 100000 in
set_option maxHeartbeats 8000000 in
theorem plan1_any (a b : Met) (A B : Option Addr) (n c m d : Nat) (w : World) :
    Calls Tryz.prog 75 #[.agg #[.int .u64 (a.id : Int), .int .i64 a.lo, .int .i64 a.hi, .int .i64 a.lv, .slice A n c, .int .i64 a.sr, .int .i64 a.pt],
      .agg #[.int .u64 (b.id : Int), .int .i64 b.lo, .int .i64 b.hi, .int .i64 b.lv, .slice B m d, .int .i64 b.sr, .int .i64 b.pt]] w fun e w' => e = .returned (.int .i64 (cmpM a b)) ∧ Grew w w' := by
  have hZ := fun w => compareI_any a.lo b.lo w
  have hN := fun w => compareU_any a.id b.id w
  unfold cmpM
  generalize cmpZ a.lo b.lo = z at *
  generalize cmpN a.id b.id = y at *
  obtain ⟨r, hr⟩ : ∃ r, (if z ≠ 0 then z else y) = r := ⟨_, rfl⟩
  rw [hr]
  replace hr := Lib.hid hr
  obtain ⟨W, hW⟩ : ∃ W, W = allocL w [.cells #[.int .u64 (a.id : Int), .int .i64 a.lo, .int .i64 a.hi, .int .i64 a.lv, .slice A n c, .int .i64 a.sr, .int .i64 a.pt] 28, .cells #[.int .u64 (b.id : Int), .int .i64 b.lo, .int .i64 b.hi, .int .i64 b.lv, .slice B m d, .int .i64 b.sr, .int .i64 b.pt] 28] := ⟨_, rfl⟩
  have gW : Grew w W := by rw [hW]; exact allocL_grew _ _
  have bA : Blk W w.heap.size 28 #[.int .u64 (a.id : Int), .int .i64 a.lo, .int .i64 a.hi, .int .i64 a.lv, .slice A n c, .int .i64 a.sr, .int .i64 a.pt] := by rw [hW]; exact allocL_at _ _ 0 _ _ rfl
  have bB : Blk W (w.heap.size + 1) 28 #[.int .u64 (b.id : Int), .int .i64 b.lo, .int .i64 b.hi, .int .i64 b.lv, .slice B m d, .int .i64 b.sr, .int .i64 b.pt] := by rw [hW]; exact allocL_at _ _ 1 _ _ rfl
  have a0 : W.cell? ⟨w.heap.size, 0, none⟩ = some (.int .u64 (a.id : Int)) := bA.cell 0
  have a1 : W.cell? ⟨w.heap.size, 1, none⟩ = some (.int .i64 a.lo) := bA.cell 1
  have b0 : W.cell? ⟨w.heap.size + 1, 0, none⟩ = some (.int .u64 (b.id : Int)) := bB.cell 0
  have b1 : W.cell? ⟨w.heap.size + 1, 1, none⟩ = some (.int .i64 b.lo) := bB.cell 1
  have hcs : CellsIn [w.heap.size, w.heap.size + 1] W := cellsIn_two bA bB
  have hsame : Hid (∀ W1, Grew W W1 → SameIn [w.heap.size, w.heap.size + 1] W W1) := fun W1 h1 => sameIn_of h1 hcs fun _ _ e => e
  go_enter Tryz.func75, Tryz.ntmps75
  go_wp2_with fail
  rw [show (w.alloc (.cells #[.int .u64 (a.id : Int), .int .i64 a.lo, .int .i64 a.hi, .int .i64 a.lv, .slice A n c, .int .i64 a.sr, .int .i64 a.pt] 28)).alloc (.cells #[.int .u64 (b.id : Int), .int .i64 b.lo, .int .i64 b.hi, .int .i64 b.lv, .slice B m d, .int .i64 b.sr, .int .i64 b.pt] 28) = W from hW.symm]
  clear hW
  refine wp_region_textS [] [w.heap.size, w.heap.size + 1] (by kernel_rfl) (by kernel_rfl) hcs ?_
  simp only [wpU, tagOf, chk, List.cons_append, List.nil_append]
  intro K hK
  go_wp2_with fail
  refine OnlyN.normal (hK _ _ (fun _ => ⟨_, _, _, rfl, rfl, by simp⟩) ?_)
  clear hK K
  intro K hK
  go_wp2_with fail
  refine OnlyN.normal (hK _ _ (fun _ => ⟨_, _, _, rfl, rfl, by simp⟩) ?_)
  clear hK K
  intro K hK
  go_wp2_with fail
  refine (hZ _).mono ?_
  rintro e w1 ⟨rfl, rfl⟩
  go_wp2_with fail
  refine OnlyN.normal (hK _ _ (hsame.out _ (Chg.refl _ W).drew) ?_)
  clear hK K
  intro K hK
  go_wp2_with fail
  refine OnlyN.normal (hK _ _ (fun _ => ⟨_, _, _, rfl, rfl, by simp⟩) ?_)
  clear hK K
  intro K hK
  go_wp2_with fail
  refine OnlyN.normal (hK _ _ (fun _ => ⟨_, _, _, rfl, rfl, by simp⟩) ?_)
  clear hK K
  intro K hK
  go_wp2_with fail
  refine (hN _).mono ?_
  rintro e w1 ⟨rfl, rfl⟩
  go_wp2_with fail
  refine OnlyN.normal (hK _ _ (hsame.out _ (Chg.refl _ W).drew) ?_)
  clear hK K
  intro K hK
  go_wp2_with fail
  refine OnlyN.normal (hK _ _ (hsame.out _ ((Chg.refl _ W).drew.alloc _)) ?_)
  clear hK K
  have hO := or_two z y W.heap.size (W.drew.alloc (.cells #[.int .i64 z, .int .i64 y] 3)) ((Blk.new W.drew _ _).cell 0) ((Blk.new W.drew _ _).cell 1)
  rw [hr.out] at hO
  intro K hK
  go_wp2_with fail
  refine hO.mono ?_
  rintro e w1 ⟨rfl, rfl⟩
  go_wp2_with fail
  refine OnlyN.normal (hK _ _ (hsame.out _ ((Chg.refl _ W).drew.alloc _)) ?_)
  clear hK K
  go_wp2
  refine OnlyN.normal ?_
  go_wp2
  go_ret
  exact ⟨rfl, (gW.drew).alloc _⟩
end Go.Proofs.YtjoaonppaokhhaaGreat
