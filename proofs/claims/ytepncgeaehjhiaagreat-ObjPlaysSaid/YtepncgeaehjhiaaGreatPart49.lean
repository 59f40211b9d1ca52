/-
  Several texts in one:
  One call of a store and of the document's: both answer alike. Conditions: counts far from their ends; lengths that memory bears.
  Arguments that came in, opened: lists of a law's calls over stores. Conditions: none.
-/
import Derived.Test.YtepncgeaehjhiaaGreatPart47
import Derived.Test.YtepncgeaehjhiaaGreatPart35
import Derived.Test.YtepncgeaehjhiaaGreatPart34

namespace Go.Proofs.YtepncgeaehjhiaaGreat
open Go.RowKit

section
variable {w00 w : World} {d s wb sb q : Nat}
set_option maxRecDepth 100000 in
set_option maxHeartbeats 8000000 in
theorem told_arm (h : Play (fun k => w00.heap.size ≤ k) w d s wb sb q true) (_hq : q ≤ 100000000000000000) (g0 : Grew w00 w) (x : ByteArray) (A : Option Addr) (n c : Nat) (data : List UInt8) (_hr : RB w00 A n data) (_hn : n ≤ 140737488355320) (gn : Nat) (f t : Int) (hf : Rng f) (ht : Rng t) :
    Calls Tryz.prog 12 #[.pointer (some ⟨d, 0, none⟩), .pointer (some ⟨s, 0, none⟩), .pointer (some ⟨sb, 0, none⟩), .agg #[.int .i64 6, .string x, .slice A n c, .int .u64 (gn : Int), .int .i64 f, .int .i64 t]] w (ToldQ w00 d s wb sb q) := by
  obtain ⟨X, hX⟩ : ∃ X, X = w.alloc (.cells #[.int .i64 6, .string x, .slice A n c, .int .u64 (gn : Int), .int .i64 f, .int .i64 t] 39) := ⟨_, rfl⟩
  have gX : Grew w X := by rw [hX]; exact (Chg.refl _ w).alloc _
  have hbx : Blk X w.heap.size 39 #[.int .i64 6, .string x, .slice A n c, .int .u64 (gn : Int), .int .i64 f, .int .i64 t] := by rw [hX]; exact Blk.new w _ _
  have hXl := hbx.lt
  have x0 := hbx.cell 0
  have x1 := hbx.cell 1
  have x2 := hbx.cell 2
  have x3 := hbx.cell 3
  have x4 := hbx.cell 4
  have x5 := hbx.cell 5
  have g0X := g0.trans gX
  have zw := g0.size
  have hp := h
  obtain ⟨S, R, Ob, kp, nn, hc, h1⟩ := h
  rw [if_pos rfl] at h1
  obtain ⟨armed, left, leftR, hu⟩ := h1
  have hSB := Lib.hid fun k (e : S k) => (⟨hc.Sb k e, hc.Sl k e⟩ : w00.heap.size ≤ k ∧ k < w.heap.size)
  have hRB := Lib.hid fun k (e : R k) => (⟨hc.Rb k e, hc.Rl k e⟩ : w00.heap.size ≤ k ∧ k < w.heap.size)
  have hlt := hp.lt
  have hAr := both_arm hc hu f t hf ht.2 (w := X) gX
  have hst := Lib.hid hc.rt
  have hbR := Lib.hid hc.bR
  have hbS := Lib.hid hc.bS
  clear hc hu hp
  go_enter Tryz.func12, Tryz.ntmps12
  go_wp2_with fail
  rw [← hX]
  clear hX
  refine hAr.mono ?_
  rintro e w2 ⟨rfl, cS, hI⟩
  have nS : ¬ S w.heap.size := fun e => by have := (hSB.out _ e).2; omega
  have nR : ¬ R w.heap.size := fun e => by have := (hRB.out _ e).2; omega
  have b2 := hbx.chg cS nS
  have gr2 : Grew w00 w2 := g0X.step cS fun k hk e => by have := (hSB.out _ e).1; omega
  clear x0 x1 x2 x3 x4 x5 hAr
  have x4 := b2.cell 4
  have x5 := b2.cell 5
  have s0 := ((hst.out.grew gX).chg cS hbS.out).cell 0
  have hcs : CellsIn [w.heap.size, sb] w2 := cellsIn_cons x4 (cellsIn_cons s0 (cellsIn_nil w2))
  go_wp2_with fail
  refine wp_region_textS [] [w.heap.size, sb] (by kernel_rfl) (by kernel_rfl) hcs ?_
  simp only [wpU, tagOf, chk, List.nil_append, List.cons_append]
  intro K hK
  go_wp2_with fail
  refine OnlyN.normal (hK _ _ (fun _ => ⟨_, _, _, rfl, rfl, by simp⟩) ?_)
  clear hK K
  intro K hK
  go_wp2_with fail
  refine OnlyN.normal (hK _ _ (fun _ => ⟨_, _, _, rfl, rfl, by simp⟩) ?_)
  clear hK K
  intro K hK
  go_wp2_with fail
  refine OnlyN.normal (hK _ _ (fun _ => ⟨_, _, _, rfl, rfl, by simp⟩) ?_)
  clear hK K
  intro K0 hK
  go_wp2_with fail
  refine (hI w2.drew (Chg.refl _ w2).drew).mono ?_
  rintro e v ⟨rfl, cT, hP3⟩
  have cT2 : Chg R w2 v := (Chg.of_grew (Chg.refl _ w2).drew).trans cT
  have hbx := b2.chg cT2 nR
  have gr : Grew w00 v := gr2.step cT2 fun k hk e => by have := (hRB.out _ e).1; omega
  have hP : Play (fun k => w00.heap.size ≤ k) v d s wb sb (q + 3) true := hP3.mono fun k e1 _ => by
    rcases e1 with e1 | e1
    · exact e1.1
    · have := gX.size
      show w00.heap.size ≤ k
      omega
  go_wp2_with fail
  refine OnlyN.normal (hK _ _ (sameIn_of cT2 hcs fun k hk => by
    simp only [List.mem_cons, List.not_mem_nil, or_false] at hk
    rcases hk with hk | hk
    · rw [hk]; exact nR
    · rw [hk]; exact hbR.out) ?_)
  clear hK K0 x4 x5 s0 hI hP3 cS cT cT2 b2 gr2 hcs
  go_wp2_with fail
  refine OnlyN.normal ?_
  have z1 := hbx.cell 1
  have hNum := both_num hP
  have hPg := Lib.hid fun (Y : World) (g : Grew v Y) => hP.grew g
  have hfin : Hid (∃ up, Play (fun k => w00.heap.size ≤ k) v d s wb sb (q + 3) up) := ⟨_, hP⟩
  have hBg := Lib.hid fun (Y : World) (g : Grew v Y) => hbx.grew g
  obtain ⟨l, gn2, er2, hl3, hG⟩ := both_get hP x
  clear hP hbx hNum
  go_wp2_with fail
  refine hG.mono ?_
  rintro e v1 ⟨A3, c3, rfl, hr3, k1, hG2⟩
  have z1 := (hBg.out _ k1).cell 1
  clear hG
  go_wp2_with fail
  refine (hG2 v1 (Chg.refl _ _)).mono ?_
  rintro e v2 ⟨A4, c4, rfl, hr4, k2'⟩
  have k2 := k1.trans k2'
  have hr3 := hr3.grew k2'
  clear hG2 k2' z1
  obtain ⟨nn, hUp, hWr, s0, s1, s5⟩ := both_num (hPg.out _ k2)
  have hcs : CellsIn [sb, wb] v2 := cellsIn_cons s0 (cellsIn_cons s1 (cellsIn_nil v2))
  have hsm := Lib.hid fun (Y : World) (g : Grew v2 Y) => sameIn_of g hcs fun _ _ e => e
  have hS := sameBytes_yes A3 A4 l.length l.length c3 c4 l
  replace hr3 := Lib.hid hr3
  replace hr4 := Lib.hid hr4
  clear hUp hWr s0 s1 s5 nn
  go_wp2_with fail
  refine wp_region_textS [] [sb, wb] (by kernel_rfl) (by kernel_rfl) hcs ?_
  simp (config := { maxSteps := 2000000 }) only [wpU, tagOf, chk, List.nil_append, List.cons_append]
  have m0 : Grew v2 v2.drew := (Chg.refl _ v2).drew
  intro K hK
  go_wp2_with fail
  refine OnlyN.normal (hK _ _ (fun _ _ => rfl) ?_)
  clear hK K
  intro K hK
  go_wp2_with fail
  refine OnlyN.normal (hK _ _ (fun _ _ => rfl) ?_)
  clear hK K
  intro K0 hK
  go_wp2_with fail
  refine (hS _ (hr3.out.grew m0) (hr4.out.grew m0) (by omega) (by omega)).mono ?_
  rintro e v3 ⟨rfl, j3, h3⟩
  have m3 : Grew v2 v3 := by rw [h3]; exact m0.drewN j3
  clear h3 hS
  go_wp2_with fail
  refine OnlyN.normal (hK _ _ (hsm.out _ m3) ?_)
  clear hK K0
  obtain ⟨K, hKl, hLs⟩ := both_list (hPg.out _ (k2.trans m3))
  intro K0 hK
  go_wp2_with fail
  refine hLs.mono ?_
  rintro e v4 ⟨A5, c5, rfl, hk5, m4', hLr⟩
  have m4 := m3.trans m4'
  go_wp2_with fail
  refine OnlyN.normal (hK _ _ (hsm.out _ m4) ?_)
  clear hK K0 hLs m4'
  replace hk5 := Lib.hid hk5
  intro K0 hK
  go_wp2_with fail
  refine (hLr v4 (Chg.refl _ _)).mono ?_
  rintro e v5 ⟨A6, c6, rfl, hk6, m5'⟩
  have m5 := m4.trans m5'
  have hk5 := hk5.out.grew m5'
  go_wp2_with fail
  refine OnlyN.normal (hK _ _ (hsm.out _ m5) ?_)
  clear hK K0 hLr m5'
  have hT := sameTexts_any A5 A6 K.length K.length c5 c6 K K v5 hk5 hk6 (by omega) (by omega)
  rw [decide_eq_true rfl] at hT
  clear hk5 hk6
  intro K0 hK
  go_wp2_with fail
  refine hT.mono ?_
  rintro e v6 ⟨rfl, j6, h6⟩
  have m6 : Grew v2 v6 := by rw [h6]; exact m5.drewN j6
  clear h6 hT
  go_wp2_with fail
  refine OnlyN.normal (hK _ _ (hsm.out _ m6) ?_)
  clear hK K0
  obtain ⟨nn, hUp, hWr, s0, s1, s5⟩ := both_num (hPg.out _ (k2.trans m6))
  intro K0 hK
  go_wp2_with fail
  refine hUp.mono ?_
  rintro e v7 ⟨rfl, rfl⟩
  go_wp2_with fail
  refine OnlyN.normal (hK _ _ (hsm.out _ m6) ?_)
  clear hK K0
  intro K hK
  go_wp2_with fail
  refine OnlyN.normal (hK _ _ (fun _ => ⟨_, _, _, rfl, rfl, by simp⟩) ?_)
  clear hK K
  intro K hK
  go_wp2_with fail
  refine OnlyN.normal (hK _ _ (fun _ => ⟨_, _, _, rfl, rfl, by simp⟩) ?_)
  clear hK K
  intro K hK
  go_wp2_with fail
  refine OnlyN.normal (hK _ _ (hsm.out _ m6) ?_)
  clear hK K
  intro K0 hK
  go_wp2_with fail
  refine hWr.mono ?_
  rintro e v7 ⟨rfl, rfl⟩
  go_wp2_with fail
  refine OnlyN.normal (hK _ _ (hsm.out _ m6) ?_)
  clear hK K0
  intro K hK
  go_wp2_with fail
  refine OnlyN.normal (hK _ _ (fun _ => ⟨_, _, _, rfl, rfl, by simp⟩) ?_)
  clear hK K
  intro K hK
  go_wp2_with fail
  refine OnlyN.normal (hK _ _ (fun _ => ⟨_, _, _, rfl, rfl, by simp⟩) ?_)
  clear hK K
  intro K hK
  go_wp2_with fail
  refine OnlyN.normal (hK _ _ (hsm.out _ m6) ?_)
  clear hK K
  go_wp2_with fail
  refine OnlyN.normal ?_
  clear hcs hsm hUp hWr s0 s1 s5
  go_wp2
  go_ret
  obtain ⟨up', hf⟩ := hfin.out
  exact ⟨by simp, gr.trans (k2.trans m6), up', hf.grew (k2.trans m6)⟩

set_option maxRecDepth 100000 in
set_option maxHeartbeats 8000000 in
theorem told_else (h : Play (fun k => w00.heap.size ≤ k) w d s wb sb q true) (_hq : q ≤ 100000000000000000) (g0 : Grew w00 w) (x : ByteArray) (A : Option Addr) (n c : Nat) (data : List UInt8) (_hr : RB w00 A n data) (_hn : n ≤ 140737488355320) (gn : Nat) (f t : Int) (_hf : Rng f) (_ht : Rng t) (kd : Int) (h0 : kd ≠ 0) (h1 : kd ≠ 1) (h3 : kd ≠ 3) (h4 : kd ≠ 4) (h6 : kd ≠ 6) :
    Calls Tryz.prog 12 #[.pointer (some ⟨d, 0, none⟩), .pointer (some ⟨s, 0, none⟩), .pointer (some ⟨sb, 0, none⟩), .agg #[.int .i64 kd, .string x, .slice A n c, .int .u64 (gn : Int), .int .i64 f, .int .i64 t]] w (ToldQ w00 d s wb sb q) := by
  obtain ⟨X, hX⟩ : ∃ X, X = w.alloc (.cells #[.int .i64 kd, .string x, .slice A n c, .int .u64 (gn : Int), .int .i64 f, .int .i64 t] 39) := ⟨_, rfl⟩
  have gX : Grew w X := by rw [hX]; exact (Chg.refl _ w).alloc _
  have hbx : Blk X w.heap.size 39 #[.int .i64 kd, .string x, .slice A n c, .int .u64 (gn : Int), .int .i64 f, .int .i64 t] := by rw [hX]; exact Blk.new w _ _
  have hXl := hbx.lt
  have x0 := hbx.cell 0
  have x1 := hbx.cell 1
  have x2 := hbx.cell 2
  have x3 := hbx.cell 3
  have x4 := hbx.cell 4
  have x5 := hbx.cell 5
  have g0X := g0.trans gX
  have zw := g0.size
  have hP := Lib.hid ((h.grew gX).more (Nat.le_add_right q 3))
  have e0 : (kd == 0) = false := by simp [h0]
  have e1 : (kd == 1) = false := by simp [h1]
  have e3 : (kd == 3) = false := by simp [h3]
  have e4 : (kd == 4) = false := by simp [h4]
  have e6 : (kd == 6) = false := by simp [h6]
  clear h h0 h1 h3 h4 h6
  go_enter Tryz.func12, Tryz.ntmps12
  go_wp2_with fail
  rw [← hX]
  clear hX
  have hP := hP.out
  have gr := g0X
  clear x1 x2 x3 x4 x5
  generalize X = v at *
  have z1 := hbx.cell 1
  have hNum := both_num hP
  have hPg := Lib.hid fun (Y : World) (g : Grew v Y) => hP.grew g
  have hfin : Hid (∃ up, Play (fun k => w00.heap.size ≤ k) v d s wb sb (q + 3) up) := ⟨_, hP⟩
  have hBg := Lib.hid fun (Y : World) (g : Grew v Y) => hbx.grew g
  obtain ⟨l, gn2, er2, hl3, hG⟩ := both_get hP x
  clear hP hbx hNum
  go_wp2_with fail
  refine hG.mono ?_
  rintro e v1 ⟨A3, c3, rfl, hr3, k1, hG2⟩
  have z1 := (hBg.out _ k1).cell 1
  clear hG
  go_wp2_with fail
  refine (hG2 v1 (Chg.refl _ _)).mono ?_
  rintro e v2 ⟨A4, c4, rfl, hr4, k2'⟩
  have k2 := k1.trans k2'
  have hr3 := hr3.grew k2'
  clear hG2 k2' z1
  obtain ⟨nn, hUp, hWr, s0, s1, s5⟩ := both_num (hPg.out _ k2)
  have hcs : CellsIn [sb, wb] v2 := cellsIn_cons s0 (cellsIn_cons s1 (cellsIn_nil v2))
  have hsm := Lib.hid fun (Y : World) (g : Grew v2 Y) => sameIn_of g hcs fun _ _ e => e
  have hS := sameBytes_yes A3 A4 l.length l.length c3 c4 l
  replace hr3 := Lib.hid hr3
  replace hr4 := Lib.hid hr4
  clear hUp hWr s0 s1 s5 nn
  go_wp2_with fail
  refine wp_region_textS [] [sb, wb] (by kernel_rfl) (by kernel_rfl) hcs ?_
  simp (config := { maxSteps := 2000000 }) only [wpU, tagOf, chk, List.nil_append, List.cons_append]
  have m0 : Grew v2 v2.drew := (Chg.refl _ v2).drew
  intro K hK
  go_wp2_with fail
  refine OnlyN.normal (hK _ _ (fun _ _ => rfl) ?_)
  clear hK K
  intro K hK
  go_wp2_with fail
  refine OnlyN.normal (hK _ _ (fun _ _ => rfl) ?_)
  clear hK K
  intro K0 hK
  go_wp2_with fail
  refine (hS _ (hr3.out.grew m0) (hr4.out.grew m0) (by omega) (by omega)).mono ?_
  rintro e v3 ⟨rfl, j3, h3⟩
  have m3 : Grew v2 v3 := by rw [h3]; exact m0.drewN j3
  clear h3 hS
  go_wp2_with fail
  refine OnlyN.normal (hK _ _ (hsm.out _ m3) ?_)
  clear hK K0
  obtain ⟨K, hKl, hLs⟩ := both_list (hPg.out _ (k2.trans m3))
  intro K0 hK
  go_wp2_with fail
  refine hLs.mono ?_
  rintro e v4 ⟨A5, c5, rfl, hk5, m4', hLr⟩
  have m4 := m3.trans m4'
  go_wp2_with fail
  refine OnlyN.normal (hK _ _ (hsm.out _ m4) ?_)
  clear hK K0 hLs m4'
  replace hk5 := Lib.hid hk5
  intro K0 hK
  go_wp2_with fail
  refine (hLr v4 (Chg.refl _ _)).mono ?_
  rintro e v5 ⟨A6, c6, rfl, hk6, m5'⟩
  have m5 := m4.trans m5'
  have hk5 := hk5.out.grew m5'
  go_wp2_with fail
  refine OnlyN.normal (hK _ _ (hsm.out _ m5) ?_)
  clear hK K0 hLr m5'
  have hT := sameTexts_any A5 A6 K.length K.length c5 c6 K K v5 hk5 hk6 (by omega) (by omega)
  rw [decide_eq_true rfl] at hT
  clear hk5 hk6
  intro K0 hK
  go_wp2_with fail
  refine hT.mono ?_
  rintro e v6 ⟨rfl, j6, h6⟩
  have m6 : Grew v2 v6 := by rw [h6]; exact m5.drewN j6
  clear h6 hT
  go_wp2_with fail
  refine OnlyN.normal (hK _ _ (hsm.out _ m6) ?_)
  clear hK K0
  obtain ⟨nn, hUp, hWr, s0, s1, s5⟩ := both_num (hPg.out _ (k2.trans m6))
  intro K0 hK
  go_wp2_with fail
  refine hUp.mono ?_
  rintro e v7 ⟨rfl, rfl⟩
  go_wp2_with fail
  refine OnlyN.normal (hK _ _ (hsm.out _ m6) ?_)
  clear hK K0
  intro K hK
  go_wp2_with fail
  refine OnlyN.normal (hK _ _ (fun _ => ⟨_, _, _, rfl, rfl, by simp⟩) ?_)
  clear hK K
  intro K hK
  go_wp2_with fail
  refine OnlyN.normal (hK _ _ (fun _ => ⟨_, _, _, rfl, rfl, by simp⟩) ?_)
  clear hK K
  intro K hK
  go_wp2_with fail
  refine OnlyN.normal (hK _ _ (hsm.out _ m6) ?_)
  clear hK K
  intro K0 hK
  go_wp2_with fail
  refine hWr.mono ?_
  rintro e v7 ⟨rfl, rfl⟩
  go_wp2_with fail
  refine OnlyN.normal (hK _ _ (hsm.out _ m6) ?_)
  clear hK K0
  intro K hK
  go_wp2_with fail
  refine OnlyN.normal (hK _ _ (fun _ => ⟨_, _, _, rfl, rfl, by simp⟩) ?_)
  clear hK K
  intro K hK
  go_wp2_with fail
  refine OnlyN.normal (hK _ _ (fun _ => ⟨_, _, _, rfl, rfl, by simp⟩) ?_)
  clear hK K
  intro K hK
  go_wp2_with fail
  refine OnlyN.normal (hK _ _ (hsm.out _ m6) ?_)
  clear hK K
  go_wp2_with fail
  refine OnlyN.normal ?_
  clear hcs hsm hUp hWr s0 s1 s5
  go_wp2
  go_ret
  obtain ⟨up', hf⟩ := hfin.out
  exact ⟨by simp, gr.trans (k2.trans m6), up', hf.grew (k2.trans m6)⟩
end
end Go.Proofs.YtepncgeaehjhiaaGreat

namespace Go.Proofs.YtepncgeaehjhiaaGreat
open Go.ChangeShapes Go.WideShapes Go.ChangeAt Go.RowKit Go.Deep

structure ObM where
  k : Int
  key : ByteArray
  A : Option Addr
  n : Nat
  c : Nat
  gn : Nat
  f : Int
  t : Int
def elOb : El ObM := ⟨fun a => [.int .i64 a.k, .string a.key, .slice a.A a.n a.c, .int .u64 (a.gn : Int), .int .i64 a.f, .int .i64 a.t], 6, fun _ => rfl, by
  intro x u hu
  simp only [List.mem_cons, List.not_mem_nil, or_false] at hu
  rcases hu with rfl | rfl | rfl | rfl | rfl | rfl <;> rfl⟩
/-- what a call's cells are -/
structure ObIs (w : World) (m : ObM) : Prop where
  row : ∃ l, RB w m.A m.n l
  cap : m.n ≤ m.c ∧ m.c ≤ 9223372036854775807
  f : -9223372036854775808 ≤ m.f ∧ m.f ≤ 9223372036854775807
  t : -9223372036854775808 ≤ m.t ∧ m.t ≤ 9223372036854775807
section
variable {H : Type} {enc : TypeId × Value → H} {P : Program} {W : World} {base : Nat} {spare : Nat → Bool} {held : Bool}
theorem weights_all {e : TypeId} {d : DataW H} {z : Nat} (hz : z ∈ d.weights P e) : ∀ {l : List (DataW H)}, d ∈ l → z ∈ DataW.weightsAll P e l
  | x :: r, h => by
    simp only [DataW.weightsAll, List.mem_append]
    rcases List.mem_cons.1 h with rfl | h
    · exact .inl hz
    · exact .inr (weights_all hz h)
theorem open_elemsW {α : Type} (E : El α) (Q : α → DataW H → Prop) {t e : TypeId} (ht : P.underlying t = some (.slice e)) (ce : P.cellsOf e = E.sz)
    (dec : ∀ n cs x, DataW.trod enc P W base spare held n e cs = some x → cs.length = P.cellsOf e → ∃ y, cs = E.cells y ∧ Q y x.1)
    {A : Option Addr} {n c : Nat} {d : DataW H} {p : List MemPlace} (h : DataW.Trod enc P W base spare held t (.slice A n c) d p) (hw : ∀ z ∈ d.weights P t, z ≤ reachBytes) :
    ∃ l : List α, RE E W A n l ∧ n * P.bytesOf e ≤ reachBytes ∧ (n ≤ c ∧ c ≤ 9223372036854775807) ∧ ∀ y ∈ l, ∃ dd, Q y dd ∧ ∀ z ∈ dd.weights P e, z ≤ reachBytes := by
  obtain ⟨fuel, hf⟩ := h
  rcases open_slice ht hf with ⟨hcs, _⟩ | ⟨a, len, cap, m, n', D, Pl, hcs, hb, hl, hm, hmm, hx, hel⟩
  · simp [Value.cells] at hcs
    obtain ⟨rfl, rfl, rfl⟩ := hcs
    exact ⟨[], RE.nil _ _, by simp, by omega, fun y hy => by cases hy⟩
  · simp [Value.cells] at hcs
    obtain ⟨rfl, rfl, rfl⟩ := hcs
    simp only [Prod.mk.injEq] at hx
    obtain ⟨rfl, _⟩ := hx
    have hlm : n ≤ m := by rw [hmm]; split <;> omega
    have key : ∀ i, i < n → ∃ y, (∀ j u, (E.cells y)[j]? = some u → W.cell? (a.add (i * E.sz + j)) = some u) ∧ Q y (D i) := fun i hi => by
      obtain ⟨cs', h1, h2⟩ := hel i (by omega)
      obtain ⟨_, hlen, hcell⟩ := World.cells?_some h1
      obtain ⟨y, rfl, hq⟩ := dec _ _ _ h2 hlen
      refine ⟨y, fun j u hu => ?_, hq⟩
      have hj : j < (E.cells y).length := (List.getElem?_eq_some_iff.1 hu).1
      have h3 := hcell j (by rw [← hlen]; exact hj)
      rw [add_add, ce] at h3
      rw [h3]
      exact hu
    obtain ⟨l, hll, hlp⟩ := list_of n _ key
    simp only [DataW.weights, ht] at hw
    refine ⟨l, ⟨hll, fun k u hu => ⟨a, rfl, ?_⟩⟩, ?_, by unfold maxLen at hm; omega, fun y hy => ?_⟩
    · have hk := (List.getElem?_eq_some_iff.1 hu).1
      rw [El.flat_length, hll] at hk
      have hs : 0 < E.sz := by
        rcases Nat.eq_zero_or_pos E.sz with e0 | e0
        · rw [e0] at hk; omega
        · exact e0
      obtain ⟨i, j, rfl, hj⟩ : ∃ i j, k = i * E.sz + j ∧ j < E.sz := ⟨k / E.sz, k % E.sz, by rw [Nat.mul_comm]; exact (Nat.div_add_mod k E.sz).symm, Nat.mod_lt _ hs⟩
      have hi : i < n := by
        rcases Nat.lt_or_ge i n with h1 | h1
        · exact h1
        · have := Nat.mul_le_mul_right E.sz h1; omega
      have hx : l[i]? = some l[i] := List.getElem?_eq_getElem (by omega)
      rw [E.flat_get l hx hj] at hu
      exact (hlp i _ hx).1 j u hu
    · have := hw _ (List.mem_cons_self)
      simp only [List.length_map, List.length_range] at this
      exact Nat.le_trans (Nat.mul_le_mul_right _ (Nat.le_add_right _ _)) this
    · obtain ⟨i, hi⟩ := List.mem_iff_getElem?.1 hy
      have hin : i < n := by have := (List.getElem?_eq_some_iff.1 hi).1; omega
      refine ⟨D i, (hlp i y hi).2, fun z hz => hw z (List.mem_cons_of_mem _ (List.mem_append_left _ (weights_all hz (List.mem_map.2 ⟨i, List.mem_range.2 hin, rfl⟩))))⟩
end

section
variable {H : Type} {enc : TypeId × Value → H} {W : World} {base : Nat} {spare : Nat → Bool} {held : Bool}
theorem cells_u8s : Tryz.prog.cellsOf 37 = 1 := by kernel_rfl
theorem slice_o {t e : TypeId} (ht : Tryz.prog.underlying t = some (.slice e)) {k : Nat} {v : Value} {y : DataW H × List MemPlace} (h : DataW.trod enc Tryz.prog W base spare held k t [v] = some y) : ∃ A n c, v = .slice A n c := by
  rcases open_slice ht h with ⟨hcs, _⟩ | ⟨a, len, cap, m, n', D, Pl, hcs, _⟩
  · exact ⟨none, 0, 0, (List.cons.inj hcs).1⟩
  · exact ⟨some a, len, cap, (List.cons.inj hcs).1⟩
def ObQ (W : World) (m : ObM) (d : DataW H) : Prop := (∀ z ∈ d.weights Tryz.prog 39, z ≤ reachBytes) → ObIs W m ∧ m.n ≤ 140737488351232
set_option maxRecDepth 100000 in
theorem dec_ob (n : Nat) (cs : List Value) (x : DataW H × List MemPlace) (h : DataW.trod enc Tryz.prog W base spare held n 39 cs = some x) (hl : cs.length = Tryz.prog.cellsOf 39) : ∃ y, cs = elOb.cells y ∧ ObQ W y x.1 := by
  obtain ⟨xs, k, _, rfl, _, hxl, hf⟩ := DataW.trod_struct Tryz.underlying39 h
  have hl2 : cs.length = 6 := hl.trans (by kernel_rfl)
  match xs, hxl, cs, hl2 with
  | [y0, y1, y2, y3, y4, y5], _, [v0, v1, v2, v3, v4, v5], _ =>
    have g0' : DataW.trod enc Tryz.prog W base spare held k 3 (([v0, v1, v2, v3, v4, v5].drop 0).take (Tryz.prog.cellsOf 3)) = some y0 := hf 0 _ rfl
    rw [cells_int] at g0'
    have g0 : DataW.trod enc Tryz.prog W base spare held k 3 [v0] = some y0 := g0'
    have g1' : DataW.trod enc Tryz.prog W base spare held k 9 (([v0, v1, v2, v3, v4, v5].drop 1).take (Tryz.prog.cellsOf 9)) = some y1 := hf 1 _ rfl
    rw [cells_str] at g1'
    have g1 : DataW.trod enc Tryz.prog W base spare held k 9 [v1] = some y1 := g1'
    have g2' : DataW.trod enc Tryz.prog W base spare held k 37 (([v0, v1, v2, v3, v4, v5].drop 2).take (Tryz.prog.cellsOf 37)) = some y2 := hf 2 _ rfl
    rw [cells_u8s] at g2'
    have g2 : DataW.trod enc Tryz.prog W base spare held k 37 [v2] = some y2 := g2'
    have g3' : DataW.trod enc Tryz.prog W base spare held k 27 (([v0, v1, v2, v3, v4, v5].drop 3).take (Tryz.prog.cellsOf 27)) = some y3 := hf 3 _ rfl
    rw [cells_u64] at g3'
    have g3 : DataW.trod enc Tryz.prog W base spare held k 27 [v3] = some y3 := g3'
    have g4' : DataW.trod enc Tryz.prog W base spare held k 3 (([v0, v1, v2, v3, v4, v5].drop 4).take (Tryz.prog.cellsOf 3)) = some y4 := hf 4 _ rfl
    rw [cells_int] at g4'
    have g4 : DataW.trod enc Tryz.prog W base spare held k 3 [v4] = some y4 := g4'
    have g5' : DataW.trod enc Tryz.prog W base spare held k 3 (([v0, v1, v2, v3, v4, v5].drop 5).take (Tryz.prog.cellsOf 3)) = some y5 := hf 5 _ rfl
    rw [cells_int] at g5'
    have g5 : DataW.trod enc Tryz.prog W base spare held k 3 [v5] = some y5 := g5'
    obtain ⟨z0, e0, d0, hz0⟩ := DataW.trod_int Tryz.underlying3 g0
    obtain ⟨s1, e1, d1, _⟩ := DataW.trod_string Tryz.underlying9 g1
    obtain ⟨z3, e3, d3, hz3⟩ := DataW.trod_int Tryz.underlying27 g3
    obtain ⟨z4, e4, d4, hz4⟩ := DataW.trod_int Tryz.underlying3 g4
    obtain ⟨z5, e5, d5, hz5⟩ := DataW.trod_int Tryz.underlying3 g5
    obtain rfl := (List.cons.inj e0).1
    obtain rfl := (List.cons.inj e1).1
    obtain rfl := (List.cons.inj e3).1
    obtain rfl := (List.cons.inj e4).1
    obtain rfl := (List.cons.inj e5).1
    obtain ⟨A, m, c, rfl⟩ := slice_o Tryz.underlying37 g2
    have b3 := Go.bounds_u64 hz3
    have b4 := Go.bounds_i64 hz4
    have b5 := Go.bounds_i64 hz5
    refine ⟨⟨z0, s1, A, m, c, z3.toNat, z4, z5⟩, ?_, fun hw => ?_⟩
    · show [Value.int .i64 z0, Value.string s1, Value.slice A m c, Value.int .u64 z3, Value.int .i64 z4, Value.int .i64 z5] = [Value.int .i64 z0, Value.string s1, Value.slice A m c, Value.int .u64 (z3.toNat : Int), Value.int .i64 z4, Value.int .i64 z5]
      rw [Int.toNat_of_nonneg (by omega)]
    · simp only [DataW.weights, Tryz.underlying39] at hw
      obtain ⟨l, r1, r2, r3⟩ := open_bytes2 (enc := enc) (W := W) (base := base) (spare := spare) (held := held) Tryz.underlying37 Tryz.underlying5 (by kernel_rfl) (by kernel_rfl) (List.all_eq_true.2 fun z hz => decide_eq_true (hw z hz)) (j := 2) rfl rfl (A := A) (n := m) (c := c) (d := y2.1) (p := y2.2) ⟨k, g2⟩
      exact ⟨⟨⟨l, r1⟩, r3, b4, b5⟩, r2⟩
/-- a slice's cells are these calls -/
structure ROb (w : World) (A : Option Addr) (n : Nat) (ms : List ObM) : Prop where
  row : RE elOb w A n ms
  el : ∀ m ∈ ms, ObIs w m ∧ m.n ≤ 140737488351232
  len : n ≤ 20000000000000000
theorem bytes_act : Tryz.prog.bytesOf 39 = 72 := by kernel_rfl
theorem open_obs {A : Option Addr} {n c : Nat} {d : DataW H} {p : List MemPlace} (h : DataW.Trod enc Tryz.prog W base spare held 22 (.slice A n c) d p) (hw : ∀ z ∈ d.weights Tryz.prog 22, z ≤ reachBytes) :
    ∃ ms : List ObM, ROb W A n ms ∧ (n ≤ c ∧ c ≤ 9223372036854775807) := by
  obtain ⟨l, h1, h2, h3, h4⟩ := open_elemsW elOb (ObQ W) Tryz.underlying22 (by kernel_rfl) dec_ob h hw
  rw [bytes_act] at h2
  unfold reachBytes at h2
  exact ⟨l, ⟨h1, fun m hm => by obtain ⟨dd, q1, q2⟩ := h4 m hm; exact q1 q2, by omega⟩, h3⟩
end
end Go.Proofs.YtepncgeaehjhiaaGreat
