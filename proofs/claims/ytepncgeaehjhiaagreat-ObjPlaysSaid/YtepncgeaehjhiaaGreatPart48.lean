/-
  Several texts in one:
  One call of a store and of the document's: both answer alike. Conditions: counts far from their ends; lengths that memory bears.
-/
import Derived.Test.YtepncgeaehjhiaaGreatPart47

namespace Go.Proofs.YtepncgeaehjhiaaGreat
open Go.RowKit

section
variable {w00 w : World} {d s wb sb q : Nat}
set_option maxRecDepth 100000 in
set_option maxHeartbeats 8000000 in
theorem told_slice (h : Play (fun k => w00.heap.size ≤ k) w d s wb sb q true) (_hq : q ≤ 100000000000000000) (g0 : Grew w00 w) (x : ByteArray) (A : Option Addr) (n c : Nat) (data : List UInt8) (_hr : RB w00 A n data) (_hn : n ≤ 140737488355320) (gn : Nat) (f t : Int) (_hf : Rng f) (_ht : Rng t) :
    Calls Tryz.prog 12 #[.pointer (some ⟨d, 0, none⟩), .pointer (some ⟨s, 0, none⟩), .pointer (some ⟨sb, 0, none⟩), .agg #[.int .i64 3, .string x, .slice A n c, .int .u64 (gn : Int), .int .i64 f, .int .i64 t]] w (ToldQ w00 d s wb sb q) := by
  obtain ⟨X, hX⟩ : ∃ X, X = w.alloc (.cells #[.int .i64 3, .string x, .slice A n c, .int .u64 (gn : Int), .int .i64 f, .int .i64 t] 39) := ⟨_, rfl⟩
  have gX : Grew w X := by rw [hX]; exact (Chg.refl _ w).alloc _
  have hbx : Blk X w.heap.size 39 #[.int .i64 3, .string x, .slice A n c, .int .u64 (gn : Int), .int .i64 f, .int .i64 t] := by rw [hX]; exact Blk.new w _ _
  have hXl := hbx.lt
  have x0 := hbx.cell 0
  have x1 := hbx.cell 1
  have x2 := hbx.cell 2
  have x3 := hbx.cell 3
  have x4 := hbx.cell 4
  have x5 := hbx.cell 5
  have g0X := g0.trans gX
  have zw := g0.size
  have hlt := h.lt
  obtain ⟨l0, er, hl3, hSl⟩ := both_slice (h.grew gX) x f t
  have hP0 := Lib.hid ((h.grew gX).more (Nat.le_add_right q 3))
  have q2 : ((er : Int) != (er : Int)) = false := by simp
  clear h
  go_enter Tryz.func12, Tryz.ntmps12
  go_wp2_with fail
  rw [← hX]
  clear hX
  refine hSl.mono ?_
  rintro e w1 ⟨A1, c1, rfl, hO, g1, hI⟩
  have hO := Lib.hid hO
  have b1 := hbx.grew g1
  clear x0 x1 x2 x3 x4 x5 hSl
  have x1 := b1.cell 1
  have x4 := b1.cell 4
  have x5 := b1.cell 5
  go_wp2_with fail
  refine (hI w1 (Chg.refl _ _)).mono ?_
  rintro e w2 ⟨A2, c2, rfl, hr2, g2⟩
  have b2 := b1.grew g2
  have hO2 := hO.out.grew g2
  have hSa := sameBytes_yes A1 A2 l0.length l0.length c1 c2 l0 w2 hO2.rb hr2 (by omega) (by omega)
  replace hO2 := Lib.hid hO2
  clear x1 x4 x5 hI hr2
  go_wp2_with fail
  refine hSa.mono ?_
  rintro e w3 ⟨rfl, j3, h3⟩
  have g3 : Grew w2 w3 := by rw [h3]; exact (Chg.refl _ w2).drewN j3
  clear h3 hSa
  have b3 := b2.grew g3
  have zz1 := g1.size
  have zz2 := g2.size
  have zz3 := g3.size
  have hOb := Lib.hid fun ad (e : A1 = some ad) => Own.blk_lt hO2.out ad e
  have hSp := spoilBytes_any A1 l0.length c1 l0 X.heap.size w3 (hO2.out.grew g3) (by omega) (by omega)
  go_wp2_with fail
  refine hSp.mono ?_
  rintro e v ⟨rfl, cK⟩
  have gK : Grew X v := ((g1.trans g2).trans g3).step cK fun k hk ⟨ad, e, e2⟩ => by have := (hOb.out ad e).1; omega
  have hbx := hbx.grew gK
  have gr := g0X.trans gK
  have hP := hP0.out.grew gK
  clear b1 b2 b3 hSp hO hO2
  have z1 := hbx.cell 1
  have hNum := both_num hP
  have hPg := Lib.hid fun (Y : World) (g : Grew v Y) => hP.grew g
  have hfin : Hid (∃ up, Play (fun k => w00.heap.size ≤ k) v d s wb sb (q + 3) up) := ⟨_, hP⟩
  have hBg := Lib.hid fun (Y : World) (g : Grew v Y) => hbx.grew g
  obtain ⟨l, gn2, er2, hl3, hG⟩ := both_get hP x
  clear hP hbx hNum
  go_wp2_with fail
  refine hG.mono ?_
  rintro e v1 ⟨A3, c3, rfl, hr3, k1, hG2⟩
  have z1 := (hBg.out _ k1).cell 1
  clear hG
  go_wp2_with fail
  refine (hG2 v1 (Chg.refl _ _)).mono ?_
  rintro e v2 ⟨A4, c4, rfl, hr4, k2'⟩
  have k2 := k1.trans k2'
  have hr3 := hr3.grew k2'
  clear hG2 k2' z1
  obtain ⟨nn, hUp, hWr, s0, s1, s5⟩ := both_num (hPg.out _ k2)
  have hcs : CellsIn [sb, wb] v2 := cellsIn_cons s0 (cellsIn_cons s1 (cellsIn_nil v2))
  have hsm := Lib.hid fun (Y : World) (g : Grew v2 Y) => sameIn_of g hcs fun _ _ e => e
  have hS := sameBytes_yes A3 A4 l.length l.length c3 c4 l
  replace hr3 := Lib.hid hr3
  replace hr4 := Lib.hid hr4
  clear hUp hWr s0 s1 s5 nn
  go_wp2_with fail
  refine wp_region_textS [] [sb, wb] (by kernel_rfl) (by kernel_rfl) hcs ?_
  simp (config := { maxSteps := 2000000 }) only [wpU, tagOf, chk, List.nil_append, List.cons_append]
  have m0 : Grew v2 v2.drew := (Chg.refl _ v2).drew
  intro K hK
  go_wp2_with fail
  refine OnlyN.normal (hK _ _ (fun _ _ => rfl) ?_)
  clear hK K
  intro K hK
  go_wp2_with fail
  refine OnlyN.normal (hK _ _ (fun _ _ => rfl) ?_)
  clear hK K
  intro K0 hK
  go_wp2_with fail
  refine (hS _ (hr3.out.grew m0) (hr4.out.grew m0) (by omega) (by omega)).mono ?_
  rintro e v3 ⟨rfl, j3, h3⟩
  have m3 : Grew v2 v3 := by rw [h3]; exact m0.drewN j3
  clear h3 hS
  go_wp2_with fail
  refine OnlyN.normal (hK _ _ (hsm.out _ m3) ?_)
  clear hK K0
  obtain ⟨K, hKl, hLs⟩ := both_list (hPg.out _ (k2.trans m3))
  intro K0 hK
  go_wp2_with fail
  refine hLs.mono ?_
  rintro e v4 ⟨A5, c5, rfl, hk5, m4', hLr⟩
  have m4 := m3.trans m4'
  go_wp2_with fail
  refine OnlyN.normal (hK _ _ (hsm.out _ m4) ?_)
  clear hK K0 hLs m4'
  replace hk5 := Lib.hid hk5
  intro K0 hK
  go_wp2_with fail
  refine (hLr v4 (Chg.refl _ _)).mono ?_
  rintro e v5 ⟨A6, c6, rfl, hk6, m5'⟩
  have m5 := m4.trans m5'
  have hk5 := hk5.out.grew m5'
  go_wp2_with fail
  refine OnlyN.normal (hK _ _ (hsm.out _ m5) ?_)
  clear hK K0 hLr m5'
  have hT := sameTexts_any A5 A6 K.length K.length c5 c6 K K v5 hk5 hk6 (by omega) (by omega)
  rw [decide_eq_true rfl] at hT
  clear hk5 hk6
  intro K0 hK
  go_wp2_with fail
  refine hT.mono ?_
  rintro e v6 ⟨rfl, j6, h6⟩
  have m6 : Grew v2 v6 := by rw [h6]; exact m5.drewN j6
  clear h6 hT
  go_wp2_with fail
  refine OnlyN.normal (hK _ _ (hsm.out _ m6) ?_)
  clear hK K0
  obtain ⟨nn, hUp, hWr, s0, s1, s5⟩ := both_num (hPg.out _ (k2.trans m6))
  intro K0 hK
  go_wp2_with fail
  refine hUp.mono ?_
  rintro e v7 ⟨rfl, rfl⟩
  go_wp2_with fail
  refine OnlyN.normal (hK _ _ (hsm.out _ m6) ?_)
  clear hK K0
  intro K hK
  go_wp2_with fail
  refine OnlyN.normal (hK _ _ (fun _ => ⟨_, _, _, rfl, rfl, by simp⟩) ?_)
  clear hK K
  intro K hK
  go_wp2_with fail
  refine OnlyN.normal (hK _ _ (fun _ => ⟨_, _, _, rfl, rfl, by simp⟩) ?_)
  clear hK K
  intro K hK
  go_wp2_with fail
  refine OnlyN.normal (hK _ _ (hsm.out _ m6) ?_)
  clear hK K
  intro K0 hK
  go_wp2_with fail
  refine hWr.mono ?_
  rintro e v7 ⟨rfl, rfl⟩
  go_wp2_with fail
  refine OnlyN.normal (hK _ _ (hsm.out _ m6) ?_)
  clear hK K0
  intro K hK
  go_wp2_with fail
  refine OnlyN.normal (hK _ _ (fun _ => ⟨_, _, _, rfl, rfl, by simp⟩) ?_)
  clear hK K
  intro K hK
  go_wp2_with fail
  refine OnlyN.normal (hK _ _ (fun _ => ⟨_, _, _, rfl, rfl, by simp⟩) ?_)
  clear hK K
  intro K hK
  go_wp2_with fail
  refine OnlyN.normal (hK _ _ (hsm.out _ m6) ?_)
  clear hK K
  go_wp2_with fail
  refine OnlyN.normal ?_
  clear hcs hsm hUp hWr s0 s1 s5
  go_wp2
  go_ret
  obtain ⟨up', hf⟩ := hfin.out
  exact ⟨by simp, gr.trans (k2.trans m6), up', hf.grew (k2.trans m6)⟩

set_option maxRecDepth 100000 in
set_option maxHeartbeats 8000000 in
theorem told_del (h : Play (fun k => w00.heap.size ≤ k) w d s wb sb q true) (hq : q ≤ 100000000000000000) (g0 : Grew w00 w) (x : ByteArray) (A : Option Addr) (n c : Nat) (data : List UInt8) (_hr : RB w00 A n data) (_hn : n ≤ 140737488355320) (gn : Nat) (f t : Int) (_hf : Rng f) (_ht : Rng t) :
    Calls Tryz.prog 12 #[.pointer (some ⟨d, 0, none⟩), .pointer (some ⟨s, 0, none⟩), .pointer (some ⟨sb, 0, none⟩), .agg #[.int .i64 4, .string x, .slice A n c, .int .u64 (gn : Int), .int .i64 f, .int .i64 t]] w (ToldQ w00 d s wb sb q) := by
  obtain ⟨X, hX⟩ : ∃ X, X = w.alloc (.cells #[.int .i64 4, .string x, .slice A n c, .int .u64 (gn : Int), .int .i64 f, .int .i64 t] 39) := ⟨_, rfl⟩
  have gX : Grew w X := by rw [hX]; exact (Chg.refl _ w).alloc _
  have hbx : Blk X w.heap.size 39 #[.int .i64 4, .string x, .slice A n c, .int .u64 (gn : Int), .int .i64 f, .int .i64 t] := by rw [hX]; exact Blk.new w _ _
  have hXl := hbx.lt
  have x0 := hbx.cell 0
  have x1 := hbx.cell 1
  have x2 := hbx.cell 2
  have x3 := hbx.cell 3
  have x4 := hbx.cell 4
  have x5 := hbx.cell 5
  have g0X := g0.trans gX
  have zw := g0.size
  have hp := h
  obtain ⟨S, R, Ob, kp, nn, hc, h1⟩ := h
  rw [if_pos rfl] at h1
  obtain ⟨armed, left, leftR, hu⟩ := h1
  have hSB := Lib.hid fun k (e : S k) => (⟨hc.Sb k e, hc.Sl k e⟩ : w00.heap.size ≤ k ∧ k < w.heap.size)
  have hRB := Lib.hid fun k (e : R k) => (⟨hc.Rb k e, hc.Rl k e⟩ : w00.heap.size ≤ k ∧ k < w.heap.size)
  have hlt := hp.lt
  obtain ⟨er, hDe⟩ := both_del hc hu hq x (w := X.drew) (gX.trans (Chg.refl _ X).drew)
  have q2 : ((er : Int) != (er : Int)) = false := by simp
  have hcs : CellsIn [w.heap.size] X := cellsIn_cons x1 (cellsIn_nil X)
  have hsm := Lib.hid fun (Y : World) (T : Nat → Prop) (g : Chg T X Y) (e : ¬ T w.heap.size) => sameIn_of g hcs fun k hk => by
    simp only [List.mem_cons, List.not_mem_nil, or_false] at hk
    rw [hk]
    exact e
  clear hc hu hp
  go_enter Tryz.func12, Tryz.ntmps12
  go_wp2_with fail
  rw [← hX]
  clear hX
  have g9 : Grew X X.drew := (Chg.refl _ X).drew
  refine wp_region_textS [] [w.heap.size] (by kernel_rfl) (by kernel_rfl) hcs ?_
  simp only [wpU, tagOf, chk, List.nil_append, List.cons_append]
  intro K hK
  go_wp2_with fail
  refine OnlyN.normal (hK _ _ (fun _ => ⟨_, _, _, rfl, rfl, by simp⟩) ?_)
  clear hK K
  intro K0 hK
  go_wp2_with fail
  refine hDe.mono ?_
  rintro e w2 ⟨rfl, cS, hI⟩
  have nS : ¬ S w.heap.size := fun e => by have := (hSB.out _ e).2; omega
  have nR : ¬ R w.heap.size := fun e => by have := (hRB.out _ e).2; omega
  have c2 : Chg S X w2 := (Chg.of_grew g9).trans cS
  have b2 := hbx.chg c2 nS
  have gr2 : Grew w00 w2 := g0X.step c2 fun k hk e => by have := (hSB.out _ e).1; omega
  clear x0 x1 x2 x3 x4 x5 hDe
  have x1 := b2.cell 1
  go_wp2_with fail
  refine OnlyN.normal (hK _ _ (hsm.out _ _ c2 nS) ?_)
  clear hK K0
  intro K hK
  go_wp2_with fail
  refine OnlyN.normal (hK _ _ (fun _ => ⟨_, _, _, rfl, rfl, by simp⟩) ?_)
  clear hK K
  intro K0 hK
  go_wp2_with fail
  refine (hI w2 (Chg.refl _ _)).mono ?_
  rintro e v ⟨rfl, cT, up, hP3⟩
  have hbx := b2.chg cT nR
  have gr : Grew w00 v := gr2.step cT fun k hk e => by have := (hRB.out _ e).1; omega
  have hP : Play (fun k => w00.heap.size ≤ k) v d s wb sb (q + 3) up := hP3.mono fun k e1 _ => by
    rcases e1 with e1 | e1
    · exact e1.1
    · have := gX.size
      have e1 : X.drew.heap.size ≤ k := e1
      have e3 : X.drew.heap.size = X.heap.size := rfl
      show w00.heap.size ≤ k
      omega
  have cA : Chg (fun k => S k ∨ R k) X v := (c2.mono fun _ _ e => .inl e).trans (cT.mono fun _ _ e => .inr e)
  go_wp2_with fail
  refine OnlyN.normal (hK _ _ (hsm.out _ _ cA fun e => e.elim nS nR) ?_)
  clear hK K0 x1 hI hP3 cS cT c2 b2 gr2
  intro K hK
  go_wp2_with fail
  refine OnlyN.normal (hK _ _ (hsm.out _ _ cA fun e => e.elim nS nR) ?_)
  clear hK K
  go_wp2_with fail
  refine OnlyN.normal ?_
  clear hcs hsm cA
  have z1 := hbx.cell 1
  have hNum := both_num hP
  have hPg := Lib.hid fun (Y : World) (g : Grew v Y) => hP.grew g
  have hfin : Hid (∃ up, Play (fun k => w00.heap.size ≤ k) v d s wb sb (q + 3) up) := ⟨_, hP⟩
  have hBg := Lib.hid fun (Y : World) (g : Grew v Y) => hbx.grew g
  obtain ⟨l, gn2, er2, hl3, hG⟩ := both_get hP x
  clear hP hbx hNum
  go_wp2_with fail
  refine hG.mono ?_
  rintro e v1 ⟨A3, c3, rfl, hr3, k1, hG2⟩
  have z1 := (hBg.out _ k1).cell 1
  clear hG
  go_wp2_with fail
  refine (hG2 v1 (Chg.refl _ _)).mono ?_
  rintro e v2 ⟨A4, c4, rfl, hr4, k2'⟩
  have k2 := k1.trans k2'
  have hr3 := hr3.grew k2'
  clear hG2 k2' z1
  obtain ⟨nn, hUp, hWr, s0, s1, s5⟩ := both_num (hPg.out _ k2)
  have hcs : CellsIn [sb, wb] v2 := cellsIn_cons s0 (cellsIn_cons s1 (cellsIn_nil v2))
  have hsm := Lib.hid fun (Y : World) (g : Grew v2 Y) => sameIn_of g hcs fun _ _ e => e
  have hS := sameBytes_yes A3 A4 l.length l.length c3 c4 l
  replace hr3 := Lib.hid hr3
  replace hr4 := Lib.hid hr4
  clear hUp hWr s0 s1 s5 nn
  go_wp2_with fail
  refine wp_region_textS [] [sb, wb] (by kernel_rfl) (by kernel_rfl) hcs ?_
  simp (config := { maxSteps := 2000000 }) only [wpU, tagOf, chk, List.nil_append, List.cons_append]
  have m0 : Grew v2 v2.drew := (Chg.refl _ v2).drew
  intro K hK
  go_wp2_with fail
  refine OnlyN.normal (hK _ _ (fun _ _ => rfl) ?_)
  clear hK K
  intro K hK
  go_wp2_with fail
  refine OnlyN.normal (hK _ _ (fun _ _ => rfl) ?_)
  clear hK K
  intro K0 hK
  go_wp2_with fail
  refine (hS _ (hr3.out.grew m0) (hr4.out.grew m0) (by omega) (by omega)).mono ?_
  rintro e v3 ⟨rfl, j3, h3⟩
  have m3 : Grew v2 v3 := by rw [h3]; exact m0.drewN j3
  clear h3 hS
  go_wp2_with fail
  refine OnlyN.normal (hK _ _ (hsm.out _ m3) ?_)
  clear hK K0
  obtain ⟨K, hKl, hLs⟩ := both_list (hPg.out _ (k2.trans m3))
  intro K0 hK
  go_wp2_with fail
  refine hLs.mono ?_
  rintro e v4 ⟨A5, c5, rfl, hk5, m4', hLr⟩
  have m4 := m3.trans m4'
  go_wp2_with fail
  refine OnlyN.normal (hK _ _ (hsm.out _ m4) ?_)
  clear hK K0 hLs m4'
  replace hk5 := Lib.hid hk5
  intro K0 hK
  go_wp2_with fail
  refine (hLr v4 (Chg.refl _ _)).mono ?_
  rintro e v5 ⟨A6, c6, rfl, hk6, m5'⟩
  have m5 := m4.trans m5'
  have hk5 := hk5.out.grew m5'
  go_wp2_with fail
  refine OnlyN.normal (hK _ _ (hsm.out _ m5) ?_)
  clear hK K0 hLr m5'
  have hT := sameTexts_any A5 A6 K.length K.length c5 c6 K K v5 hk5 hk6 (by omega) (by omega)
  rw [decide_eq_true rfl] at hT
  clear hk5 hk6
  intro K0 hK
  go_wp2_with fail
  refine hT.mono ?_
  rintro e v6 ⟨rfl, j6, h6⟩
  have m6 : Grew v2 v6 := by rw [h6]; exact m5.drewN j6
  clear h6 hT
  go_wp2_with fail
  refine OnlyN.normal (hK _ _ (hsm.out _ m6) ?_)
  clear hK K0
  obtain ⟨nn, hUp, hWr, s0, s1, s5⟩ := both_num (hPg.out _ (k2.trans m6))
  intro K0 hK
  go_wp2_with fail
  refine hUp.mono ?_
  rintro e v7 ⟨rfl, rfl⟩
  go_wp2_with fail
  refine OnlyN.normal (hK _ _ (hsm.out _ m6) ?_)
  clear hK K0
  intro K hK
  go_wp2_with fail
  refine OnlyN.normal (hK _ _ (fun _ => ⟨_, _, _, rfl, rfl, by simp⟩) ?_)
  clear hK K
  intro K hK
  go_wp2_with fail
  refine OnlyN.normal (hK _ _ (fun _ => ⟨_, _, _, rfl, rfl, by simp⟩) ?_)
  clear hK K
  intro K hK
  go_wp2_with fail
  refine OnlyN.normal (hK _ _ (hsm.out _ m6) ?_)
  clear hK K
  intro K0 hK
  go_wp2_with fail
  refine hWr.mono ?_
  rintro e v7 ⟨rfl, rfl⟩
  go_wp2_with fail
  refine OnlyN.normal (hK _ _ (hsm.out _ m6) ?_)
  clear hK K0
  intro K hK
  go_wp2_with fail
  refine OnlyN.normal (hK _ _ (fun _ => ⟨_, _, _, rfl, rfl, by simp⟩) ?_)
  clear hK K
  intro K hK
  go_wp2_with fail
  refine OnlyN.normal (hK _ _ (fun _ => ⟨_, _, _, rfl, rfl, by simp⟩) ?_)
  clear hK K
  intro K hK
  go_wp2_with fail
  refine OnlyN.normal (hK _ _ (hsm.out _ m6) ?_)
  clear hK K
  go_wp2_with fail
  refine OnlyN.normal ?_
  clear hcs hsm hUp hWr s0 s1 s5
  go_wp2
  go_ret
  obtain ⟨up', hf⟩ := hfin.out
  exact ⟨by simp, gr.trans (k2.trans m6), up', hf.grew (k2.trans m6)⟩
end
end Go.Proofs.YtepncgeaehjhiaaGreat
