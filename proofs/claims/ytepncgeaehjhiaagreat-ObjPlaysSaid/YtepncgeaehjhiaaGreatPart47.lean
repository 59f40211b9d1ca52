/-
  Several texts in one:
  One call of a store and of the document's: both answer alike. Conditions: counts far from their ends; lengths that memory bears.
  One call of a store and of the document's: both answer alike. Conditions: counts far from their ends; lengths that memory bears.
-/
import Derived.Test.YtepncgeaehjhiaaGreatPart45
import Derived.Test.YtepncgeaehjhiaaGreatPart46
import Derived.Test.YtepncgeaehjhiaaGreatPart4

namespace Go.Proofs.YtepncgeaehjhiaaGreat
open Go.RowKit

/-- what a call of both leaves -/
def ToldQ (w00 : World) (d s wb sb q : Nat) (e : Ending) (w' : World) : Prop := e = .returned (.bool true) ∧ Grew w00 w' ∧ ∃ up, Play (fun k => w00.heap.size ≤ k) w' d s wb sb (q + 3) up
section
variable {w00 w : World} {d s wb sb q : Nat}
set_option maxRecDepth 100000 in
set_option maxHeartbeats 8000000 in
theorem told_put (h : Play (fun k => w00.heap.size ≤ k) w d s wb sb q true) (hq : q ≤ 100000000000000000) (g0 : Grew w00 w) (x : ByteArray) (A : Option Addr) (n c : Nat) (data : List UInt8) (hr : RB w00 A n data) (hn : n ≤ 140737488355320) (gn : Nat) (f t : Int) (_hf : Rng f) (_ht : Rng t) :
    Calls Tryz.prog 12 #[.pointer (some ⟨d, 0, none⟩), .pointer (some ⟨s, 0, none⟩), .pointer (some ⟨sb, 0, none⟩), .agg #[.int .i64 0, .string x, .slice A n c, .int .u64 (gn : Int), .int .i64 f, .int .i64 t]] w (ToldQ w00 d s wb sb q) := by
  obtain ⟨X, hX⟩ : ∃ X, X = w.alloc (.cells #[.int .i64 0, .string x, .slice A n c, .int .u64 (gn : Int), .int .i64 f, .int .i64 t] 39) := ⟨_, rfl⟩
  have gX : Grew w X := by rw [hX]; exact (Chg.refl _ w).alloc _
  have hbx : Blk X w.heap.size 39 #[.int .i64 0, .string x, .slice A n c, .int .u64 (gn : Int), .int .i64 f, .int .i64 t] := by rw [hX]; exact Blk.new w _ _
  have hXl := hbx.lt
  have x0 := hbx.cell 0
  have x1 := hbx.cell 1
  have x2 := hbx.cell 2
  have x3 := hbx.cell 3
  have x4 := hbx.cell 4
  have x5 := hbx.cell 5
  have g0X := g0.trans gX
  have zw := g0.size
  have hp := h
  obtain ⟨S, R, Ob, kp, nn, hc, h1⟩ := h
  rw [if_pos rfl] at h1
  obtain ⟨armed, left, leftR, hu⟩ := h1
  have hSB := Lib.hid fun k (e : S k) => (⟨hc.Sb k e, hc.Sl k e⟩ : w00.heap.size ≤ k ∧ k < w.heap.size)
  have hRB := Lib.hid fun k (e : R k) => (⟨hc.Rb k e, hc.Rl k e⟩ : w00.heap.size ≤ k ∧ k < w.heap.size)
  have hlt := hp.lt
  have hL := lendBytes_any A n c data X (hr.grew g0X) hn
  obtain ⟨gg, er, hTwo⟩ := both_put hc hu hq x n data
  have hTwo : Hid (∀ w1 A1 c1, Grew w w1 → RB w1 A1 n data → Calls Tryz.prog 20 #[.pointer (some ⟨s, 0, none⟩), .string x, .slice A1 n c1] w1 fun e w2 => e = .returned (.tuple #[.int .u64 (gg : Int), .int .i64 (er : Int)]) ∧ Chg S w1 w2 ∧
    ∀ w3 A2 c2, Grew w2 w3 → RB w3 A2 n data → Calls Tryz.prog 21 #[.pointer (some ⟨sb, 0, none⟩), .string x, .slice A2 n c2] w3 fun e w' => e = .returned (.tuple #[.int .u64 (gg : Int), .int .i64 (er : Int)]) ∧ Chg (fun j => w00.heap.size ≤ j ∧ j < w.heap.size) w3 w' ∧ ∃ up, Play (More (fun k => w00.heap.size ≤ k) w w1) w' d s wb sb (q + 3) up) := hTwo
  have q1 : ((gg : Int) != (gg : Int)) = false := by simp
  have q2 : ((er : Int) != (er : Int)) = false := by simp
  clear hc hu hp
  replace hr := Lib.hid hr
  go_enter Tryz.func12, Tryz.ntmps12
  go_wp2_with fail
  rw [← hX]
  clear hX
  refine hL.mono ?_
  rintro e w1 ⟨A1, c1, rfl, hO, g1⟩
  have hO := Lib.hid hO
  have b1 := hbx.grew g1
  clear x0 x1 x2 x3 x4 x5 hL
  have x0 := b1.cell 0
  have x1 := b1.cell 1
  have x2 := b1.cell 2
  have x3 := b1.cell 3
  have zX := gX.size
  have z1s := g1.size
  have hOb := Lib.hid fun ad (e : A1 = some ad) => Own.blk_lt hO.out ad e
  have hdl := hr.out.1
  have hrb : RB w1 A1 n data := by
    have := hO.out.rb.take (i := n) (by omega)
    rwa [List.take_left' hdl] at this
  go_wp2_with fail
  refine (hTwo.out w1 A1 c1 (gX.trans g1) hrb).mono ?_
  rintro e w2 ⟨rfl, cS, hI⟩
  have b2 := b1.chg cS fun e => by have := (hSB.out _ e).2; omega
  have gr2 : Grew w00 w2 := (g0X.trans g1).step cS fun k hk e => by have := (hSB.out _ e).1; omega
  clear x0 x1 x2 x3 hrb hTwo
  have x1 := b2.cell 1
  have x2 := b2.cell 2
  have x3 := b2.cell 3
  have hO2 := Lib.hid (hO.out.chg cS fun ad e e2 => by have := (hSB.out _ e2).2; have := (hOb.out ad e).1; omega)
  have z2s := cS.size
  go_wp2_with fail
  refine (hI w2 A c (Chg.refl _ _) (hr.out.grew gr2)).mono ?_
  rintro e w3 ⟨rfl, cT, up, hP3⟩
  have b3 := b2.chg cT fun e => by have := e.2; omega
  have gr3 : Grew w00 w3 := gr2.step cT fun k hk e => by have := e.1; omega
  have hO3 := hO2.out.chg cT fun ad e e2 => by have := e2.2; have := (hOb.out ad e).1; omega
  have z3s := cT.size
  clear x1 x2 x3 hI
  have x1 := b3.cell 1
  have x2 := b3.cell 2
  have hKe := keptBytes_any A1 n c1 data A c X.heap.size w3 hO3 (hr.out.grew gr3) hn
  clear hO3
  replace hP3 := Lib.hid hP3
  go_wp2_with fail
  refine hKe.mono ?_
  rintro e v ⟨rfl, cK⟩
  have hbx := b3.chg cK fun ⟨ad, e, e2⟩ => by have := (hOb.out ad e).1; omega
  have gr : Grew w00 v := gr3.step cK fun k hk ⟨ad, e, e2⟩ => by have := (hOb.out ad e).1; omega
  have hP : Play (fun k => w00.heap.size ≤ k) v d s wb sb (q + 3) up := by
    refine (hP3.out.chg cK (fun k e1 ⟨ad, e, e2⟩ => ?_) (fun ⟨ad, e, e2⟩ => ?_) (fun ⟨ad, e, e2⟩ => ?_)).mono fun k e1 _ => ?_
    · have := hOb.out ad e
      rcases e1 with e1 | e1
      · have := e1.2; omega
      · omega
    · have := hOb.out ad e; omega
    · have := hOb.out ad e; omega
    · rcases e1 with e1 | e1
      · exact e1.1
      · show w00.heap.size ≤ k
        omega
  clear x1 x2 hKe b1 b2 b3 cS cT cK hP3 hO hO2 gr2 gr3
  have z1 := hbx.cell 1
  have hNum := both_num hP
  have hPg := Lib.hid fun (Y : World) (g : Grew v Y) => hP.grew g
  have hfin : Hid (∃ up, Play (fun k => w00.heap.size ≤ k) v d s wb sb (q + 3) up) := ⟨_, hP⟩
  have hBg := Lib.hid fun (Y : World) (g : Grew v Y) => hbx.grew g
  obtain ⟨l, gn2, er2, hl3, hG⟩ := both_get hP x
  clear hP hbx hNum
  go_wp2_with fail
  refine hG.mono ?_
  rintro e v1 ⟨A3, c3, rfl, hr3, k1, hG2⟩
  have z1 := (hBg.out _ k1).cell 1
  clear hG
  go_wp2_with fail
  refine (hG2 v1 (Chg.refl _ _)).mono ?_
  rintro e v2 ⟨A4, c4, rfl, hr4, k2'⟩
  have k2 := k1.trans k2'
  have hr3 := hr3.grew k2'
  clear hG2 k2' z1
  obtain ⟨nn, hUp, hWr, s0, s1, s5⟩ := both_num (hPg.out _ k2)
  have hcs : CellsIn [sb, wb] v2 := cellsIn_cons s0 (cellsIn_cons s1 (cellsIn_nil v2))
  have hsm := Lib.hid fun (Y : World) (g : Grew v2 Y) => sameIn_of g hcs fun _ _ e => e
  have hS := sameBytes_yes A3 A4 l.length l.length c3 c4 l
  replace hr3 := Lib.hid hr3
  replace hr4 := Lib.hid hr4
  clear hUp hWr s0 s1 s5 nn
  go_wp2_with fail
  refine wp_region_textS [] [sb, wb] (by kernel_rfl) (by kernel_rfl) hcs ?_
  simp (config := { maxSteps := 2000000 }) only [wpU, tagOf, chk, List.nil_append, List.cons_append]
  have m0 : Grew v2 v2.drew := (Chg.refl _ v2).drew
  intro K hK
  go_wp2_with fail
  refine OnlyN.normal (hK _ _ (fun _ _ => rfl) ?_)
  clear hK K
  intro K hK
  go_wp2_with fail
  refine OnlyN.normal (hK _ _ (fun _ _ => rfl) ?_)
  clear hK K
  intro K0 hK
  go_wp2_with fail
  refine (hS _ (hr3.out.grew m0) (hr4.out.grew m0) (by omega) (by omega)).mono ?_
  rintro e v3 ⟨rfl, j3, h3⟩
  have m3 : Grew v2 v3 := by rw [h3]; exact m0.drewN j3
  clear h3 hS
  go_wp2_with fail
  refine OnlyN.normal (hK _ _ (hsm.out _ m3) ?_)
  clear hK K0
  obtain ⟨K, hKl, hLs⟩ := both_list (hPg.out _ (k2.trans m3))
  intro K0 hK
  go_wp2_with fail
  refine hLs.mono ?_
  rintro e v4 ⟨A5, c5, rfl, hk5, m4', hLr⟩
  have m4 := m3.trans m4'
  go_wp2_with fail
  refine OnlyN.normal (hK _ _ (hsm.out _ m4) ?_)
  clear hK K0 hLs m4'
  replace hk5 := Lib.hid hk5
  intro K0 hK
  go_wp2_with fail
  refine (hLr v4 (Chg.refl _ _)).mono ?_
  rintro e v5 ⟨A6, c6, rfl, hk6, m5'⟩
  have m5 := m4.trans m5'
  have hk5 := hk5.out.grew m5'
  go_wp2_with fail
  refine OnlyN.normal (hK _ _ (hsm.out _ m5) ?_)
  clear hK K0 hLr m5'
  have hT := sameTexts_any A5 A6 K.length K.length c5 c6 K K v5 hk5 hk6 (by omega) (by omega)
  rw [decide_eq_true rfl] at hT
  clear hk5 hk6
  intro K0 hK
  go_wp2_with fail
  refine hT.mono ?_
  rintro e v6 ⟨rfl, j6, h6⟩
  have m6 : Grew v2 v6 := by rw [h6]; exact m5.drewN j6
  clear h6 hT
  go_wp2_with fail
  refine OnlyN.normal (hK _ _ (hsm.out _ m6) ?_)
  clear hK K0
  obtain ⟨nn, hUp, hWr, s0, s1, s5⟩ := both_num (hPg.out _ (k2.trans m6))
  intro K0 hK
  go_wp2_with fail
  refine hUp.mono ?_
  rintro e v7 ⟨rfl, rfl⟩
  go_wp2_with fail
  refine OnlyN.normal (hK _ _ (hsm.out _ m6) ?_)
  clear hK K0
  intro K hK
  go_wp2_with fail
  refine OnlyN.normal (hK _ _ (fun _ => ⟨_, _, _, rfl, rfl, by simp⟩) ?_)
  clear hK K
  intro K hK
  go_wp2_with fail
  refine OnlyN.normal (hK _ _ (fun _ => ⟨_, _, _, rfl, rfl, by simp⟩) ?_)
  clear hK K
  intro K hK
  go_wp2_with fail
  refine OnlyN.normal (hK _ _ (hsm.out _ m6) ?_)
  clear hK K
  intro K0 hK
  go_wp2_with fail
  refine hWr.mono ?_
  rintro e v7 ⟨rfl, rfl⟩
  go_wp2_with fail
  refine OnlyN.normal (hK _ _ (hsm.out _ m6) ?_)
  clear hK K0
  intro K hK
  go_wp2_with fail
  refine OnlyN.normal (hK _ _ (fun _ => ⟨_, _, _, rfl, rfl, by simp⟩) ?_)
  clear hK K
  intro K hK
  go_wp2_with fail
  refine OnlyN.normal (hK _ _ (fun _ => ⟨_, _, _, rfl, rfl, by simp⟩) ?_)
  clear hK K
  intro K hK
  go_wp2_with fail
  refine OnlyN.normal (hK _ _ (hsm.out _ m6) ?_)
  clear hK K
  go_wp2_with fail
  refine OnlyN.normal ?_
  clear hcs hsm hUp hWr s0 s1 s5
  go_wp2
  go_ret
  obtain ⟨up', hf⟩ := hfin.out
  exact ⟨by simp, gr.trans (k2.trans m6), up', hf.grew (k2.trans m6)⟩
end
end Go.Proofs.YtepncgeaehjhiaaGreat

namespace Go.Proofs.YtepncgeaehjhiaaGreat
open Go.RowKit

section
variable {w00 w : World} {d s wb sb q : Nat}
set_option maxRecDepth 100000 in
set_option maxHeartbeats 8000000 in
theorem told_putIf (h : Play (fun k => w00.heap.size ≤ k) w d s wb sb q true) (hq : q ≤ 100000000000000000) (g0 : Grew w00 w) (x : ByteArray) (A : Option Addr) (n c : Nat) (data : List UInt8) (hr : RB w00 A n data) (hn : n ≤ 140737488355320) (gn : Nat) (f t : Int) (_hf : Rng f) (_ht : Rng t) :
    Calls Tryz.prog 12 #[.pointer (some ⟨d, 0, none⟩), .pointer (some ⟨s, 0, none⟩), .pointer (some ⟨sb, 0, none⟩), .agg #[.int .i64 1, .string x, .slice A n c, .int .u64 (gn : Int), .int .i64 f, .int .i64 t]] w (ToldQ w00 d s wb sb q) := by
  obtain ⟨X, hX⟩ : ∃ X, X = w.alloc (.cells #[.int .i64 1, .string x, .slice A n c, .int .u64 (gn : Int), .int .i64 f, .int .i64 t] 39) := ⟨_, rfl⟩
  have gX : Grew w X := by rw [hX]; exact (Chg.refl _ w).alloc _
  have hbx : Blk X w.heap.size 39 #[.int .i64 1, .string x, .slice A n c, .int .u64 (gn : Int), .int .i64 f, .int .i64 t] := by rw [hX]; exact Blk.new w _ _
  have hXl := hbx.lt
  have x0 := hbx.cell 0
  have x1 := hbx.cell 1
  have x2 := hbx.cell 2
  have x3 := hbx.cell 3
  have x4 := hbx.cell 4
  have x5 := hbx.cell 5
  have g0X := g0.trans gX
  have zw := g0.size
  have hp := h
  obtain ⟨S, R, Ob, kp, nn, hc, h1⟩ := h
  rw [if_pos rfl] at h1
  obtain ⟨armed, left, leftR, hu⟩ := h1
  have hSB := Lib.hid fun k (e : S k) => (⟨hc.Sb k e, hc.Sl k e⟩ : w00.heap.size ≤ k ∧ k < w.heap.size)
  have hRB := Lib.hid fun k (e : R k) => (⟨hc.Rb k e, hc.Rl k e⟩ : w00.heap.size ≤ k ∧ k < w.heap.size)
  have hlt := hp.lt
  have hL := lendBytes_any A n c data X (hr.grew g0X) hn
  obtain ⟨gg, er, hTwo⟩ := both_putIf hc hu hq x n data gn
  have hTwo : Hid (∀ w1 A1 c1, Grew w w1 → RB w1 A1 n data → Calls Tryz.prog 22 #[.pointer (some ⟨s, 0, none⟩), .string x, .slice A1 n c1, .int .u64 (gn : Int)] w1 fun e w2 => e = .returned (.tuple #[.int .u64 (gg : Int), .int .i64 (er : Int)]) ∧ Chg S w1 w2 ∧
    ∀ w3 A2 c2, Grew w2 w3 → RB w3 A2 n data → Calls Tryz.prog 23 #[.pointer (some ⟨sb, 0, none⟩), .string x, .slice A2 n c2, .int .u64 (gn : Int)] w3 fun e w' => e = .returned (.tuple #[.int .u64 (gg : Int), .int .i64 (er : Int)]) ∧ Chg (fun j => w00.heap.size ≤ j ∧ j < w.heap.size) w3 w' ∧ ∃ up, Play (More (fun k => w00.heap.size ≤ k) w w1) w' d s wb sb (q + 3) up) := hTwo
  have q1 : ((gg : Int) != (gg : Int)) = false := by simp
  have q2 : ((er : Int) != (er : Int)) = false := by simp
  clear hc hu hp
  replace hr := Lib.hid hr
  go_enter Tryz.func12, Tryz.ntmps12
  go_wp2_with fail
  rw [← hX]
  clear hX
  refine hL.mono ?_
  rintro e w1 ⟨A1, c1, rfl, hO, g1⟩
  have hO := Lib.hid hO
  have b1 := hbx.grew g1
  clear x0 x1 x2 x3 x4 x5 hL
  have x0 := b1.cell 0
  have x1 := b1.cell 1
  have x2 := b1.cell 2
  have x3 := b1.cell 3
  have zX := gX.size
  have z1s := g1.size
  have hOb := Lib.hid fun ad (e : A1 = some ad) => Own.blk_lt hO.out ad e
  have hdl := hr.out.1
  have hrb : RB w1 A1 n data := by
    have := hO.out.rb.take (i := n) (by omega)
    rwa [List.take_left' hdl] at this
  go_wp2_with fail
  refine (hTwo.out w1 A1 c1 (gX.trans g1) hrb).mono ?_
  rintro e w2 ⟨rfl, cS, hI⟩
  have b2 := b1.chg cS fun e => by have := (hSB.out _ e).2; omega
  have gr2 : Grew w00 w2 := (g0X.trans g1).step cS fun k hk e => by have := (hSB.out _ e).1; omega
  clear x0 x1 x2 x3 hrb hTwo
  have x1 := b2.cell 1
  have x2 := b2.cell 2
  have x3 := b2.cell 3
  have hO2 := Lib.hid (hO.out.chg cS fun ad e e2 => by have := (hSB.out _ e2).2; have := (hOb.out ad e).1; omega)
  have z2s := cS.size
  go_wp2_with fail
  refine (hI w2 A c (Chg.refl _ _) (hr.out.grew gr2)).mono ?_
  rintro e w3 ⟨rfl, cT, up, hP3⟩
  have b3 := b2.chg cT fun e => by have := e.2; omega
  have gr3 : Grew w00 w3 := gr2.step cT fun k hk e => by have := e.1; omega
  have hO3 := hO2.out.chg cT fun ad e e2 => by have := e2.2; have := (hOb.out ad e).1; omega
  have z3s := cT.size
  clear x1 x2 x3 hI
  have x1 := b3.cell 1
  have x2 := b3.cell 2
  have hKe := keptBytes_any A1 n c1 data A c X.heap.size w3 hO3 (hr.out.grew gr3) hn
  clear hO3
  replace hP3 := Lib.hid hP3
  go_wp2_with fail
  refine hKe.mono ?_
  rintro e v ⟨rfl, cK⟩
  have hbx := b3.chg cK fun ⟨ad, e, e2⟩ => by have := (hOb.out ad e).1; omega
  have gr : Grew w00 v := gr3.step cK fun k hk ⟨ad, e, e2⟩ => by have := (hOb.out ad e).1; omega
  have hP : Play (fun k => w00.heap.size ≤ k) v d s wb sb (q + 3) up := by
    refine (hP3.out.chg cK (fun k e1 ⟨ad, e, e2⟩ => ?_) (fun ⟨ad, e, e2⟩ => ?_) (fun ⟨ad, e, e2⟩ => ?_)).mono fun k e1 _ => ?_
    · have := hOb.out ad e
      rcases e1 with e1 | e1
      · have := e1.2; omega
      · omega
    · have := hOb.out ad e; omega
    · have := hOb.out ad e; omega
    · rcases e1 with e1 | e1
      · exact e1.1
      · show w00.heap.size ≤ k
        omega
  clear x1 x2 hKe b1 b2 b3 cS cT cK hP3 hO hO2 gr2 gr3
  have z1 := hbx.cell 1
  have hNum := both_num hP
  have hPg := Lib.hid fun (Y : World) (g : Grew v Y) => hP.grew g
  have hfin : Hid (∃ up, Play (fun k => w00.heap.size ≤ k) v d s wb sb (q + 3) up) := ⟨_, hP⟩
  have hBg := Lib.hid fun (Y : World) (g : Grew v Y) => hbx.grew g
  obtain ⟨l, gn2, er2, hl3, hG⟩ := both_get hP x
  clear hP hbx hNum
  go_wp2_with fail
  refine hG.mono ?_
  rintro e v1 ⟨A3, c3, rfl, hr3, k1, hG2⟩
  have z1 := (hBg.out _ k1).cell 1
  clear hG
  go_wp2_with fail
  refine (hG2 v1 (Chg.refl _ _)).mono ?_
  rintro e v2 ⟨A4, c4, rfl, hr4, k2'⟩
  have k2 := k1.trans k2'
  have hr3 := hr3.grew k2'
  clear hG2 k2' z1
  obtain ⟨nn, hUp, hWr, s0, s1, s5⟩ := both_num (hPg.out _ k2)
  have hcs : CellsIn [sb, wb] v2 := cellsIn_cons s0 (cellsIn_cons s1 (cellsIn_nil v2))
  have hsm := Lib.hid fun (Y : World) (g : Grew v2 Y) => sameIn_of g hcs fun _ _ e => e
  have hS := sameBytes_yes A3 A4 l.length l.length c3 c4 l
  replace hr3 := Lib.hid hr3
  replace hr4 := Lib.hid hr4
  clear hUp hWr s0 s1 s5 nn
  go_wp2_with fail
  refine wp_region_textS [] [sb, wb] (by kernel_rfl) (by kernel_rfl) hcs ?_
  simp (config := { maxSteps := 2000000 }) only [wpU, tagOf, chk, List.nil_append, List.cons_append]
  have m0 : Grew v2 v2.drew := (Chg.refl _ v2).drew
  intro K hK
  go_wp2_with fail
  refine OnlyN.normal (hK _ _ (fun _ _ => rfl) ?_)
  clear hK K
  intro K hK
  go_wp2_with fail
  refine OnlyN.normal (hK _ _ (fun _ _ => rfl) ?_)
  clear hK K
  intro K0 hK
  go_wp2_with fail
  refine (hS _ (hr3.out.grew m0) (hr4.out.grew m0) (by omega) (by omega)).mono ?_
  rintro e v3 ⟨rfl, j3, h3⟩
  have m3 : Grew v2 v3 := by rw [h3]; exact m0.drewN j3
  clear h3 hS
  go_wp2_with fail
  refine OnlyN.normal (hK _ _ (hsm.out _ m3) ?_)
  clear hK K0
  obtain ⟨K, hKl, hLs⟩ := both_list (hPg.out _ (k2.trans m3))
  intro K0 hK
  go_wp2_with fail
  refine hLs.mono ?_
  rintro e v4 ⟨A5, c5, rfl, hk5, m4', hLr⟩
  have m4 := m3.trans m4'
  go_wp2_with fail
  refine OnlyN.normal (hK _ _ (hsm.out _ m4) ?_)
  clear hK K0 hLs m4'
  replace hk5 := Lib.hid hk5
  intro K0 hK
  go_wp2_with fail
  refine (hLr v4 (Chg.refl _ _)).mono ?_
  rintro e v5 ⟨A6, c6, rfl, hk6, m5'⟩
  have m5 := m4.trans m5'
  have hk5 := hk5.out.grew m5'
  go_wp2_with fail
  refine OnlyN.normal (hK _ _ (hsm.out _ m5) ?_)
  clear hK K0 hLr m5'
  have hT := sameTexts_any A5 A6 K.length K.length c5 c6 K K v5 hk5 hk6 (by omega) (by omega)
  rw [decide_eq_true rfl] at hT
  clear hk5 hk6
  intro K0 hK
  go_wp2_with fail
  refine hT.mono ?_
  rintro e v6 ⟨rfl, j6, h6⟩
  have m6 : Grew v2 v6 := by rw [h6]; exact m5.drewN j6
  clear h6 hT
  go_wp2_with fail
  refine OnlyN.normal (hK _ _ (hsm.out _ m6) ?_)
  clear hK K0
  obtain ⟨nn, hUp, hWr, s0, s1, s5⟩ := both_num (hPg.out _ (k2.trans m6))
  intro K0 hK
  go_wp2_with fail
  refine hUp.mono ?_
  rintro e v7 ⟨rfl, rfl⟩
  go_wp2_with fail
  refine OnlyN.normal (hK _ _ (hsm.out _ m6) ?_)
  clear hK K0
  intro K hK
  go_wp2_with fail
  refine OnlyN.normal (hK _ _ (fun _ => ⟨_, _, _, rfl, rfl, by simp⟩) ?_)
  clear hK K
  intro K hK
  go_wp2_with fail
  refine OnlyN.normal (hK _ _ (fun _ => ⟨_, _, _, rfl, rfl, by simp⟩) ?_)
  clear hK K
  intro K hK
  go_wp2_with fail
  refine OnlyN.normal (hK _ _ (hsm.out _ m6) ?_)
  clear hK K
  intro K0 hK
  go_wp2_with fail
  refine hWr.mono ?_
  rintro e v7 ⟨rfl, rfl⟩
  go_wp2_with fail
  refine OnlyN.normal (hK _ _ (hsm.out _ m6) ?_)
  clear hK K0
  intro K hK
  go_wp2_with fail
  refine OnlyN.normal (hK _ _ (fun _ => ⟨_, _, _, rfl, rfl, by simp⟩) ?_)
  clear hK K
  intro K hK
  go_wp2_with fail
  refine OnlyN.normal (hK _ _ (fun _ => ⟨_, _, _, rfl, rfl, by simp⟩) ?_)
  clear hK K
  intro K hK
  go_wp2_with fail
  refine OnlyN.normal (hK _ _ (hsm.out _ m6) ?_)
  clear hK K
  go_wp2_with fail
  refine OnlyN.normal ?_
  clear hcs hsm hUp hWr s0 s1 s5
  go_wp2
  go_ret
  obtain ⟨up', hf⟩ := hfin.out
  exact ⟨by simp, gr.trans (k2.trans m6), up', hf.grew (k2.trans m6)⟩
end
end Go.Proofs.YtepncgeaehjhiaaGreat
