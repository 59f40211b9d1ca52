/-
  Several texts in one:
  A call of both stores, whatever its kind; both stores as they begin. Conditions: lengths that memory bears.
  The law ObjPlays, walked. Conditions: lengths that memory bears.
-/
import Derived.Test.YtepncgeaehjhiaaGreatPart47
import Derived.Test.YtepncgeaehjhiaaGreatPart48
import Derived.Test.YtepncgeaehjhiaaGreatPart49
import Derived.Test.YtepncgeaehjhiaaGreatPart35

namespace Go.Proofs.YtepncgeaehjhiaaGreat
open Go.RowKit

section
variable {w00 w : World} {d s wb sb q : Nat}
theorem told_any (h : Play (fun k => w00.heap.size ≤ k) w d s wb sb q true) (hq : q ≤ 100000000000000000) (g0 : Grew w00 w) (m : ObM) (hm : ObIs w00 m) (hn : m.n ≤ 140737488351232) :
    Calls Tryz.prog 12 #[.pointer (some ⟨d, 0, none⟩), .pointer (some ⟨s, 0, none⟩), .pointer (some ⟨sb, 0, none⟩), .agg #[.int .i64 m.k, .string m.key, .slice m.A m.n m.c, .int .u64 (m.gn : Int), .int .i64 m.f, .int .i64 m.t]] w (ToldQ w00 d s wb sb q) := by
  obtain ⟨⟨data, hr⟩, _, hf, ht⟩ := hm
  obtain ⟨kd, x, A, n, c, gn, f, t⟩ := m
  dsimp only at hr hf ht hn ⊢
  by_cases h0 : kd = 0
  · subst h0
    exact told_put h hq g0 x A n c data hr (by omega) gn f t hf ht
  by_cases h1 : kd = 1
  · subst h1
    exact told_putIf h hq g0 x A n c data hr (by omega) gn f t hf ht
  by_cases h3 : kd = 3
  · subst h3
    exact told_slice h hq g0 x A n c data hr (by omega) gn f t hf ht
  by_cases h4 : kd = 4
  · subst h4
    exact told_del h hq g0 x A n c data hr (by omega) gn f t hf ht
  by_cases h6 : kd = 6
  · subst h6
    exact told_arm h hq g0 x A n c data hr (by omega) gn f t hf ht
  exact told_else h hq g0 x A n c data hr (by omega) gn f t hf ht kd h0 h1 h3 h4 h6
theorem rfd_new {w : World} {t : TypeId} (ht : t = 29) : RFD (fun k => k = w.heap.size) (w.alloc (.cells #[.slice none 0 0, .bool false, .bool false, .int .i64 0, .int .i64 0, .int .u64 0] t)) w.heap.size [] false false 0 0 0 := by
  subst ht
  refine ⟨none, 0, 0, [], Blk.new w _ _, OE.nil _ _ _, rfl, fun i m v h => (by simp at h), rfl, fun ad e => (by cases e), fun m h => (by simp at h), fun k e => ?_⟩
  have e : k = w.heap.size := e
  simp
  omega
/-- both stores as they begin -/
theorem play_start {w0 w1 w2 w3 w4 : World} {m V' R'} {left' : Int} (hF : FS (fun k => w0.heap.size ≤ k) w1 d m [] 0 true false 0 0 0) (g1 : Grew w0 w1) (g2 : Grew w1 w2) (hwb : wb = w1.heap.size) (hlt : wb < w2.heap.size) (hs : w2.heap.size ≤ s) (hst : Blk w3 s 51 #[.pointer (some ⟨d, 0, none⟩)]) (g3 : Grew w2 w3)
    (hr : RSt R' w4 sb wb [] false left' 0 0 V') (hl : Rng left') (hsb : w3.heap.size ≤ sb) (hR : ∀ k, R' k → k = wb ∨ w3.heap.size ≤ k) (hc : Chg (fun k => k = wb) w3 w4) : Play (fun k => w0.heap.size ≤ k) w4 d s wb sb 0 true := by
  have z1 := g1.size
  have z2 := g2.size
  have z3 := g3.size
  have z4 := hc.size
  have ls := hst.lt
  have sw : s ≠ wb := by omega
  have st4 : Blk w4 s 51 #[.pointer (some ⟨d, 0, none⟩)] := hst.chg hc sw
  refine ⟨fun k => w0.heap.size ≤ k ∧ k < w1.heap.size, R', [], 0, 0, ⟨fun k e => e.1, fun k e => ?_, fun k e => ?_, hr.rf.lt, fun k e e2 => ?_, fun e => ?_, fun e => ?_, fun e => ?_, hr.sn, st4, hr.st, by omega, Nat.le_refl _, by simp, by simp, by simp⟩, ?_⟩
  · show w0.heap.size ≤ k
    rcases hR k e with e | e <;> omega
  · have := e.2
    omega
  · have := e.2
    rcases hR k e2 with e | e <;> omega
  · have := e.2
    omega
  · rcases hR s e with e | e <;> omega
  · have := e.2
    omega
  · rw [if_pos rfl]
    refine ⟨false, 0, left', ⟨m, [], 0, ⟨st4, fun e => ?_, ((hF.tight.grew g2).grew g3).chg hc fun k e e2 => ?_, rfl, by simp⟩⟩, ⟨V', hr⟩, fun e => (by cases e), (by unfold Rng; omega), hl, (by simp)⟩
    · have := e.2
      omega
    · have := e.2
      have e2 : k = wb := e2
      omega
end
/-- a call's cells, wherever nothing that was there has turned -/
theorem ROb.at_ {w : World} {A : Option Addr} {n : Nat} {ms : List ObM} (h : ROb w A n ms) {k : Nat} (hk : k < n) :
    ∃ ad m, A = some ad ∧ ObIs w m ∧ m.n ≤ 140737488351232 ∧ ∀ w', Grew w w' → w'.cell? (ad.add (k * 6)) = some (.int .i64 m.k) ∧ w'.cell? ⟨(ad.add (k * 6)).block, (ad.add (k * 6)).off + 1, none⟩ = some (.string m.key) ∧ w'.cell? ⟨(ad.add (k * 6)).block, (ad.add (k * 6)).off + 2, none⟩ = some (.slice m.A m.n m.c) ∧ w'.cell? ⟨(ad.add (k * 6)).block, (ad.add (k * 6)).off + 3, none⟩ = some (.int .u64 (m.gn : Int)) ∧
      w'.cell? ⟨(ad.add (k * 6)).block, (ad.add (k * 6)).off + 4, none⟩ = some (.int .i64 m.f) ∧ w'.cell? ⟨(ad.add (k * 6)).block, (ad.add (k * 6)).off + 5, none⟩ = some (.int .i64 m.t) := by
  obtain ⟨ad, m, e, hm, hc⟩ := h.row.at_ hk (by decide)
  obtain ⟨q1, q2⟩ := h.el m (List.mem_of_getElem? hm)
  exact ⟨ad, m, e, q1, q2, fun w' hg => ⟨Chg.cell hg (hc 0 _ rfl) (fun e => e), Chg.cell hg (cell_off (by decide) (hc 1 _ rfl)) (fun e => e), Chg.cell hg (cell_off (by decide) (hc 2 _ rfl)) (fun e => e), Chg.cell hg (cell_off (by decide) (hc 3 _ rfl)) (fun e => e), Chg.cell hg (cell_off (by decide) (hc 4 _ rfl)) (fun e => e), Chg.cell hg (cell_off (by decide) (hc 5 _ rfl)) (fun e => e)⟩⟩

end Go.Proofs.YtepncgeaehjhiaaGreat

namespace Go.Proofs.YtepncgeaehjhiaaGreat
open Go.RowKit

theorem rOpen_first {R : Nat → Prop} {w : World} {wb : Nat} (h : RFD R w wb [] false false 0 0 0) : Calls Tryz.prog 6 #[.pointer (some ⟨wb, 0, none⟩)] w (OpenR R w wb [] 0 0) :=
  rOpen_none (Ob := []) h ⟨by decide, by decide⟩ ⟨List.Pairwise.nil, fun v hv => (by cases hv), [], rfl, List.Perm.refl _⟩ (Nat.zero_le _) (fun o ho => by cases ho) List.Pairwise.nil

set_option maxRecDepth 100000 in
set_option maxHeartbeats 1000000 in
theorem walk_objPlays (A : Option Addr) (n c : Nat) (ms : List ObM) (w : World) (hA : ROb w A n ms) (hn : n ≤ c ∧ c ≤ 9223372036854775807) :
    Calls Tryz.prog 3 #[.slice A n c] w fun e w' => e = .returned (.bool true) ∧ Grew w w' := by
  have hnl := hA.len
  have hAt := Lib.hid fun k (hk : k < n) => hA.at_ hk
  clear hA
  go_enter Tryz.func3, Tryz.ntmps3
  go_wp2_with fail
  refine (fs_new w).mono ?_
  rintro e w1 ⟨d, m, rfl, hF, g1⟩
  go_wp2_with fail
  obtain ⟨w2, hw2⟩ : ∃ w2, w2 = w1.alloc (.cells #[.slice none 0 0, .bool false, .bool false, .int .i64 0, .int .i64 0, .int .u64 0] 29) := ⟨_, rfl⟩
  have g2 : Grew w1 w2 := by rw [hw2]; exact (Chg.refl _ w1).alloc _
  obtain ⟨wb, hwb⟩ : ∃ wb, wb = w1.heap.size := ⟨_, rfl⟩
  have hR0 : RFD (fun k => k = wb) w2 wb [] false false 0 0 0 := by rw [hw2, hwb]; exact rfd_new rfl
  rw [← hw2, ← hwb]
  clear hw2
  replace hwb := Lib.hid hwb
  have hlt := hR0.lt wb rfl
  have hOp := open_clean (hF.grew g2) (by simp) rfl
  have hR0 := Lib.hid hR0
  refine hOp.mono ?_
  rintro e w3 ⟨s, rfl, hst, hs, g3⟩
  have hRo := rOpen_first (hR0.out.grew g3)
  replace hF := Lib.hid hF
  replace hR0 := Lib.hid hR0
  clear hOp
  go_wp2_with fail
  refine hRo.mono ?_
  rintro e w4 ⟨sb, R', V', left', rfl, hr, hl, hsb, _, hR', hc4⟩
  have hP : Play (fun k => w.heap.size ≤ k) w4 d s wb sb 0 true := play_start hF.out g1 g2 hwb.out hlt hs hst g3 hr hl hsb hR' hc4
  have G4 : Grew w w4 := ((g1.trans g2).trans g3).step hc4 fun k hk e => by
    have e : k = wb := e
    have := g1.size
    have := hwb.out
    omega
  clear hF hRo hR0 hst hr hR' hc4 g2 g3 hsb hs hlt hwb hl
  go_wp2
  go_loopw [5, 7, 9] (fun v5 v7 i wr => ∃ (k s sb : Nat) (up : Bool), k ≤ n ∧ v5 = .pointer (some ⟨s, 0, none⟩) ∧ v7 = .pointer (some ⟨sb, 0, none⟩) ∧ i = .int .i64 (k : Int) ∧ Play (fun k => w.heap.size ≤ k) wr d s wb sb (4 * k) up ∧ Grew w wr) (fun _ _ i _ => n - (intOf i).toNat)
  case atStart => exact ⟨0, s, sb, true, by omega, rfl, rfl, rfl, hP, G4⟩
  case round =>
    clear hP G4
    obtain ⟨k, s, sb, up, hk, rfl, rfl, rfl, hP, G⟩ := hrel
    by_cases hlt : k < n
    · obtain ⟨ad, mm, rfl, hIs, hmn, hcell⟩ := hAt.out k hlt
      have hbw := Lib.hid fun j (e : wr.heap.size ≤ j) => Nat.le_trans G.size e
      have hTo := Lib.hid fun (wq : World) (s' sb' q : Nat) (p : Play (fun k => w.heap.size ≤ k) wq d s' wb sb' q true) (hq : q ≤ 100000000000000000) (g : Grew w wq) => told_any p hq g mm hIs hmn
      obtain ⟨kd, key, B, bn, bc, gn, ff, tt⟩ := mm
      have htt := hIs.t
      dsimp only at htt
      obtain ⟨x0, x1, x2, x3, x4, x5⟩ := hcell wr G
      dsimp only at x0 x1 x2 x3 x4 x5
      replace hcell := Lib.hid hcell
      obtain ⟨_, hUp, _⟩ := both_num hP
      clear hIs
      by_cases hre : 6 < kd ∨ kd < 0 ∨ up = false
      · obtain ⟨S, R, Ob, kp, nn, t, hc, hOff⟩ := both_off hP hbw.out tt htt.2
        have hSB := Lib.hid fun j (e : S j) => (hc.Sb j e : w.heap.size ≤ j)
        have hRB := Lib.hid fun j (e : R j) => (hc.Rb j e : w.heap.size ≤ j)
        clear hP hc
        rcases hre with hre | hre | hre
        · have e1 : decide (6 < kd) = true := decide_eq_true hre
          clear hre hUp
          go_wp2_with fail
          refine (hOff.out wr (Chg.refl _ _)).mono ?_
          rintro e w2 ⟨rfl, c2, hI2⟩
          have G2 : Grew w w2 := G.step c2 fun j hj e => by have := hSB.out j e; omega
          clear x0 x1 x2 x3 x4 x5 hOff
          obtain ⟨x0, x1, x2, x3, x4, x5⟩ := hcell.out w2 G2
          try dsimp only at x0 x1 x2 x3 x4 x5
          go_wp2_with fail
          refine (hI2 w2 (Chg.refl _ _)).mono ?_
          rintro e w3 ⟨rfl, c3, R3, hC3, hD3⟩
          have G3 : Grew w w3 := G2.step c3 fun j hj e => by have := hRB.out j e; omega
          have hR3 := Lib.hid fun j (e : R3 j) => (hC3.Rb j e : w.heap.size ≤ j)
          have hOn := both_on hC3 (fun j e => Nat.le_trans G3.size e) hD3 (Chg.refl _ _)
          clear hC3 hD3 hI2
          go_wp2_with fail
          refine hOn.mono ?_
          rintro e w4 ⟨rfl, c4, hI4⟩
          have G4 : Grew w w4 := G3.step c4 fun j hj e => by have := hSB.out j e; omega
          clear hOn
          go_wp2_with fail
          refine (hI4 w4 (Chg.refl _ _)).mono ?_
          rintro e w5 ⟨rfl, c5, R5, hC5, hD5⟩
          have G5 : Grew w w5 := G4.step c5 fun j hj e => by have := hR3.out j e; omega
          have hR5 := Lib.hid fun j (e : R5 j) => (hC5.Rb j e : w.heap.size ≤ j)
          have hOpn := both_open hC5 (fun j e => Nat.le_trans G5.size e) hD5 (by omega) (Chg.refl _ _)
          clear hC5 hD5 hI4
          go_wp2_with fail
          refine hOpn.mono ?_
          rintro e w6 ⟨s', rfl, c6, hI6⟩
          have G6 : Grew w w6 := G5.step c6 fun j hj e => by have := hSB.out j e; omega
          clear hOpn
          go_wp2_with fail
          refine (hI6 w6 (Chg.refl _ _)).mono ?_
          rintro e w7 ⟨sb', rfl, c7, hP7⟩
          have G7 : Grew w w7 := G6.step c7 fun j hj e => by have := hR5.out j e; omega
          clear x0 x1 x2 x3 x4 x5 hI6
          obtain ⟨x0, x1, x2, x3, x4, x5⟩ := hcell.out w7 G7
          try dsimp only at x0 x1 x2 x3 x4 x5
          have hT := hTo.out w7 s' sb' (4 * k + 1) hP7 (by omega) G7
          try dsimp only at hT
          clear hP7 hTo hcell hbw hSB hRB hR3 hR5 c2 c3 c4 c5 c6 c7 G2 G3 G4 G5 G6 G7
          go_wp2_with fail
          refine hT.mono ?_
          rintro e w8 ⟨rfl, G8, up8, hP8⟩
          clear hT x0 x1 x2 x3 x4 x5
          go_wp2
          go_roundw
          case rel => exact ⟨k + 1, s', sb', up8, by omega, by simp, by simp, by go_num, hP8.more (by omega), G8⟩
          case measure => simp [intOf] <;> omega
        · have e1 : decide (6 < kd) = false := decide_eq_false (by omega)
          have e2 : decide (kd < 0) = true := decide_eq_true hre
          clear hre hUp
          go_wp2_with fail
          refine (hOff.out wr (Chg.refl _ _)).mono ?_
          rintro e w2 ⟨rfl, c2, hI2⟩
          have G2 : Grew w w2 := G.step c2 fun j hj e => by have := hSB.out j e; omega
          clear x0 x1 x2 x3 x4 x5 hOff
          obtain ⟨x0, x1, x2, x3, x4, x5⟩ := hcell.out w2 G2
          try dsimp only at x0 x1 x2 x3 x4 x5
          go_wp2_with fail
          refine (hI2 w2 (Chg.refl _ _)).mono ?_
          rintro e w3 ⟨rfl, c3, R3, hC3, hD3⟩
          have G3 : Grew w w3 := G2.step c3 fun j hj e => by have := hRB.out j e; omega
          have hR3 := Lib.hid fun j (e : R3 j) => (hC3.Rb j e : w.heap.size ≤ j)
          have hOn := both_on hC3 (fun j e => Nat.le_trans G3.size e) hD3 (Chg.refl _ _)
          clear hC3 hD3 hI2
          go_wp2_with fail
          refine hOn.mono ?_
          rintro e w4 ⟨rfl, c4, hI4⟩
          have G4 : Grew w w4 := G3.step c4 fun j hj e => by have := hSB.out j e; omega
          clear hOn
          go_wp2_with fail
          refine (hI4 w4 (Chg.refl _ _)).mono ?_
          rintro e w5 ⟨rfl, c5, R5, hC5, hD5⟩
          have G5 : Grew w w5 := G4.step c5 fun j hj e => by have := hR3.out j e; omega
          have hR5 := Lib.hid fun j (e : R5 j) => (hC5.Rb j e : w.heap.size ≤ j)
          have hOpn := both_open hC5 (fun j e => Nat.le_trans G5.size e) hD5 (by omega) (Chg.refl _ _)
          clear hC5 hD5 hI4
          go_wp2_with fail
          refine hOpn.mono ?_
          rintro e w6 ⟨s', rfl, c6, hI6⟩
          have G6 : Grew w w6 := G5.step c6 fun j hj e => by have := hSB.out j e; omega
          clear hOpn
          go_wp2_with fail
          refine (hI6 w6 (Chg.refl _ _)).mono ?_
          rintro e w7 ⟨sb', rfl, c7, hP7⟩
          have G7 : Grew w w7 := G6.step c7 fun j hj e => by have := hR5.out j e; omega
          clear x0 x1 x2 x3 x4 x5 hI6
          obtain ⟨x0, x1, x2, x3, x4, x5⟩ := hcell.out w7 G7
          try dsimp only at x0 x1 x2 x3 x4 x5
          have hT := hTo.out w7 s' sb' (4 * k + 1) hP7 (by omega) G7
          try dsimp only at hT
          clear hP7 hTo hcell hbw hSB hRB hR3 hR5 c2 c3 c4 c5 c6 c7 G2 G3 G4 G5 G6 G7
          go_wp2_with fail
          refine hT.mono ?_
          rintro e w8 ⟨rfl, G8, up8, hP8⟩
          clear hT x0 x1 x2 x3 x4 x5
          go_wp2
          go_roundw
          case rel => exact ⟨k + 1, s', sb', up8, by omega, by simp, by simp, by go_num, hP8.more (by omega), G8⟩
          case measure => simp [intOf] <;> omega
        · subst hre
          by_cases h6 : 6 < kd
          · have e1 : decide (6 < kd) = true := decide_eq_true h6
            clear hUp h6
            go_wp2_with fail
            refine (hOff.out wr (Chg.refl _ _)).mono ?_
            rintro e w2 ⟨rfl, c2, hI2⟩
            have G2 : Grew w w2 := G.step c2 fun j hj e => by have := hSB.out j e; omega
            clear x0 x1 x2 x3 x4 x5 hOff
            obtain ⟨x0, x1, x2, x3, x4, x5⟩ := hcell.out w2 G2
            try dsimp only at x0 x1 x2 x3 x4 x5
            go_wp2_with fail
            refine (hI2 w2 (Chg.refl _ _)).mono ?_
            rintro e w3 ⟨rfl, c3, R3, hC3, hD3⟩
            have G3 : Grew w w3 := G2.step c3 fun j hj e => by have := hRB.out j e; omega
            have hR3 := Lib.hid fun j (e : R3 j) => (hC3.Rb j e : w.heap.size ≤ j)
            have hOn := both_on hC3 (fun j e => Nat.le_trans G3.size e) hD3 (Chg.refl _ _)
            clear hC3 hD3 hI2
            go_wp2_with fail
            refine hOn.mono ?_
            rintro e w4 ⟨rfl, c4, hI4⟩
            have G4 : Grew w w4 := G3.step c4 fun j hj e => by have := hSB.out j e; omega
            clear hOn
            go_wp2_with fail
            refine (hI4 w4 (Chg.refl _ _)).mono ?_
            rintro e w5 ⟨rfl, c5, R5, hC5, hD5⟩
            have G5 : Grew w w5 := G4.step c5 fun j hj e => by have := hR3.out j e; omega
            have hR5 := Lib.hid fun j (e : R5 j) => (hC5.Rb j e : w.heap.size ≤ j)
            have hOpn := both_open hC5 (fun j e => Nat.le_trans G5.size e) hD5 (by omega) (Chg.refl _ _)
            clear hC5 hD5 hI4
            go_wp2_with fail
            refine hOpn.mono ?_
            rintro e w6 ⟨s', rfl, c6, hI6⟩
            have G6 : Grew w w6 := G5.step c6 fun j hj e => by have := hSB.out j e; omega
            clear hOpn
            go_wp2_with fail
            refine (hI6 w6 (Chg.refl _ _)).mono ?_
            rintro e w7 ⟨sb', rfl, c7, hP7⟩
            have G7 : Grew w w7 := G6.step c7 fun j hj e => by have := hR5.out j e; omega
            clear x0 x1 x2 x3 x4 x5 hI6
            obtain ⟨x0, x1, x2, x3, x4, x5⟩ := hcell.out w7 G7
            try dsimp only at x0 x1 x2 x3 x4 x5
            have hT := hTo.out w7 s' sb' (4 * k + 1) hP7 (by omega) G7
            try dsimp only at hT
            clear hP7 hTo hcell hbw hSB hRB hR3 hR5 c2 c3 c4 c5 c6 c7 G2 G3 G4 G5 G6 G7
            go_wp2_with fail
            refine hT.mono ?_
            rintro e w8 ⟨rfl, G8, up8, hP8⟩
            clear hT x0 x1 x2 x3 x4 x5
            go_wp2
            go_roundw
            case rel => exact ⟨k + 1, s', sb', up8, by omega, by simp, by simp, by go_num, hP8.more (by omega), G8⟩
            case measure => simp [intOf] <;> omega
          have e1 : decide (6 < kd) = false := decide_eq_false h6
          by_cases h0 : kd < 0
          · have e2 : decide (kd < 0) = true := decide_eq_true h0
            clear hUp h6 h0
            go_wp2_with fail
            refine (hOff.out wr (Chg.refl _ _)).mono ?_
            rintro e w2 ⟨rfl, c2, hI2⟩
            have G2 : Grew w w2 := G.step c2 fun j hj e => by have := hSB.out j e; omega
            clear x0 x1 x2 x3 x4 x5 hOff
            obtain ⟨x0, x1, x2, x3, x4, x5⟩ := hcell.out w2 G2
            try dsimp only at x0 x1 x2 x3 x4 x5
            go_wp2_with fail
            refine (hI2 w2 (Chg.refl _ _)).mono ?_
            rintro e w3 ⟨rfl, c3, R3, hC3, hD3⟩
            have G3 : Grew w w3 := G2.step c3 fun j hj e => by have := hRB.out j e; omega
            have hR3 := Lib.hid fun j (e : R3 j) => (hC3.Rb j e : w.heap.size ≤ j)
            have hOn := both_on hC3 (fun j e => Nat.le_trans G3.size e) hD3 (Chg.refl _ _)
            clear hC3 hD3 hI2
            go_wp2_with fail
            refine hOn.mono ?_
            rintro e w4 ⟨rfl, c4, hI4⟩
            have G4 : Grew w w4 := G3.step c4 fun j hj e => by have := hSB.out j e; omega
            clear hOn
            go_wp2_with fail
            refine (hI4 w4 (Chg.refl _ _)).mono ?_
            rintro e w5 ⟨rfl, c5, R5, hC5, hD5⟩
            have G5 : Grew w w5 := G4.step c5 fun j hj e => by have := hR3.out j e; omega
            have hR5 := Lib.hid fun j (e : R5 j) => (hC5.Rb j e : w.heap.size ≤ j)
            have hOpn := both_open hC5 (fun j e => Nat.le_trans G5.size e) hD5 (by omega) (Chg.refl _ _)
            clear hC5 hD5 hI4
            go_wp2_with fail
            refine hOpn.mono ?_
            rintro e w6 ⟨s', rfl, c6, hI6⟩
            have G6 : Grew w w6 := G5.step c6 fun j hj e => by have := hSB.out j e; omega
            clear hOpn
            go_wp2_with fail
            refine (hI6 w6 (Chg.refl _ _)).mono ?_
            rintro e w7 ⟨sb', rfl, c7, hP7⟩
            have G7 : Grew w w7 := G6.step c7 fun j hj e => by have := hR5.out j e; omega
            clear x0 x1 x2 x3 x4 x5 hI6
            obtain ⟨x0, x1, x2, x3, x4, x5⟩ := hcell.out w7 G7
            try dsimp only at x0 x1 x2 x3 x4 x5
            have hT := hTo.out w7 s' sb' (4 * k + 1) hP7 (by omega) G7
            try dsimp only at hT
            clear hP7 hTo hcell hbw hSB hRB hR3 hR5 c2 c3 c4 c5 c6 c7 G2 G3 G4 G5 G6 G7
            go_wp2_with fail
            refine hT.mono ?_
            rintro e w8 ⟨rfl, G8, up8, hP8⟩
            clear hT x0 x1 x2 x3 x4 x5
            go_wp2
            go_roundw
            case rel => exact ⟨k + 1, s', sb', up8, by omega, by simp, by simp, by go_num, hP8.more (by omega), G8⟩
            case measure => simp [intOf] <;> omega
          have e2 : decide (kd < 0) = false := decide_eq_false h0
          clear h6 h0
          go_wp2_with fail
          refine hUp.mono ?_
          rintro e wz ⟨rfl, rfl⟩
          clear hUp
          go_wp2_with fail
          refine (hOff.out wr (Chg.refl _ _)).mono ?_
          rintro e w2 ⟨rfl, c2, hI2⟩
          have G2 : Grew w w2 := G.step c2 fun j hj e => by have := hSB.out j e; omega
          clear x0 x1 x2 x3 x4 x5 hOff
          obtain ⟨x0, x1, x2, x3, x4, x5⟩ := hcell.out w2 G2
          try dsimp only at x0 x1 x2 x3 x4 x5
          go_wp2_with fail
          refine (hI2 w2 (Chg.refl _ _)).mono ?_
          rintro e w3 ⟨rfl, c3, R3, hC3, hD3⟩
          have G3 : Grew w w3 := G2.step c3 fun j hj e => by have := hRB.out j e; omega
          have hR3 := Lib.hid fun j (e : R3 j) => (hC3.Rb j e : w.heap.size ≤ j)
          have hOn := both_on hC3 (fun j e => Nat.le_trans G3.size e) hD3 (Chg.refl _ _)
          clear hC3 hD3 hI2
          go_wp2_with fail
          refine hOn.mono ?_
          rintro e w4 ⟨rfl, c4, hI4⟩
          have G4 : Grew w w4 := G3.step c4 fun j hj e => by have := hSB.out j e; omega
          clear hOn
          go_wp2_with fail
          refine (hI4 w4 (Chg.refl _ _)).mono ?_
          rintro e w5 ⟨rfl, c5, R5, hC5, hD5⟩
          have G5 : Grew w w5 := G4.step c5 fun j hj e => by have := hR3.out j e; omega
          have hR5 := Lib.hid fun j (e : R5 j) => (hC5.Rb j e : w.heap.size ≤ j)
          have hOpn := both_open hC5 (fun j e => Nat.le_trans G5.size e) hD5 (by omega) (Chg.refl _ _)
          clear hC5 hD5 hI4
          go_wp2_with fail
          refine hOpn.mono ?_
          rintro e w6 ⟨s', rfl, c6, hI6⟩
          have G6 : Grew w w6 := G5.step c6 fun j hj e => by have := hSB.out j e; omega
          clear hOpn
          go_wp2_with fail
          refine (hI6 w6 (Chg.refl _ _)).mono ?_
          rintro e w7 ⟨sb', rfl, c7, hP7⟩
          have G7 : Grew w w7 := G6.step c7 fun j hj e => by have := hR5.out j e; omega
          clear x0 x1 x2 x3 x4 x5 hI6
          obtain ⟨x0, x1, x2, x3, x4, x5⟩ := hcell.out w7 G7
          try dsimp only at x0 x1 x2 x3 x4 x5
          have hT := hTo.out w7 s' sb' (4 * k + 1) hP7 (by omega) G7
          try dsimp only at hT
          clear hP7 hTo hcell hbw hSB hRB hR3 hR5 c2 c3 c4 c5 c6 c7 G2 G3 G4 G5 G6 G7
          go_wp2_with fail
          refine hT.mono ?_
          rintro e w8 ⟨rfl, G8, up8, hP8⟩
          clear hT x0 x1 x2 x3 x4 x5
          go_wp2
          go_roundw
          case rel => exact ⟨k + 1, s', sb', up8, by omega, by simp, by simp, by go_num, hP8.more (by omega), G8⟩
          case measure => simp [intOf] <;> omega
      · have e1 : decide (6 < kd) = false := decide_eq_false fun e => hre (.inl e)
        have e2 : decide (kd < 0) = false := decide_eq_false fun e => hre (.inr (.inl e))
        have hu : up = true := by
          cases up with
          | true => rfl
          | false => exact absurd (.inr (.inr rfl)) hre
        subst hu
        clear hre
        have hT := hTo.out wr s sb (4 * k) hP (by omega) G
        dsimp only at hT
        clear hP hTo hcell hbw
        go_wp2_with fail
        refine hUp.mono ?_
        rintro e wz ⟨rfl, rfl⟩
        clear hUp
        go_wp2_with fail
        refine hT.mono ?_
        rintro e w5 ⟨rfl, G5, up5, hP5⟩
        clear hT x0 x1 x2 x3 x4 x5
        go_wp2
        go_roundw
        case rel => exact ⟨k + 1, s, sb, up5, by omega, by simp, by simp, by go_num, hP5.more (by omega), G5⟩
        case measure => simp [intOf] <;> omega
    · have hkn : k = n := by omega
      subst hkn
      clear hP
      have hAw := awake_any wr
      go_wp2_with fail
      refine hAw.mono ?_
      rintro e w5 ⟨rfl, g5⟩
      have G5 := G.trans g5
      go_wp2
      go_ret
      exact ⟨by simp, G5⟩
end Go.Proofs.YtepncgeaehjhiaaGreat
