/-
  Several texts in one:
  (block.DecodeMeta)'s closure on bytes that are no meta's: it gives up. Conditions: lengths that memory bears.
  (block.caught), (block.DecodeMeta) on bytes that are no meta's. Conditions: lengths that memory bears.
  (block.Decode) walked: any bytes are some series' block, or refused. Conditions: lengths that memory bears.
-/
import Derived.Test.YtlcaaacbookopaaGreatDoorPart27
import Derived.Test.YtlcaaacbookopaaGreatDoorPart29
import Derived.Test.YtlcaaacbookopaaGreatDoorPart31
import Derived.Test.YtlcaaacbookopaaGreatDoorPart24

namespace Go.Proofs.YtlcaaacbookopaaGreatDoor
open Go.RowKit

/-- a meta's bytes, out of its numbers -/
theorem metB_of {l : List UInt8} {x0 a0 a1 a2 v4 v5 : Nat} {xs : List Nat} (h : l = headM ++ uv x0 ++ uv a0 ++ uv a1 ++ uv a2 ++ uv v4 ++ uv v5 ++ (uv xs.length ++ xs.flatMap uv)) :
    l = metB ⟨x0, uz v4, uz v5, a0, xs, a1, a2⟩ := by
  rw [h]
  unfold metB uvs
  simp [zz_uz]

set_option maxRecDepth 100000 in
set_option maxHeartbeats 16000000 in
theorem closure_no (w : World) (gb gm : Nat) (B : Option Addr) (N c : Nat) (lb : List UInt8) (hbb : Blk w gb 26 #[.slice B N c]) (hbm : Blk w gm 25 #[.int .u64 0, .int .i64 0, .int .i64 0, .int .i64 0, .slice none 0 0, .int .i64 0, .int .i64 0])
    (hr : RB w B N lb) (hBm : ∀ ad, B = some ad → 0 < N → ad.block ≠ gm) (hc : N ≤ c ∧ c ≤ 9223372036854775807) (hn : N ≤ 140737488350000) (hno : ∀ m, metOk m = true → MetW m → lb ≠ encM m) :
    Calls Tryz.prog 41 #[.pointer (some ⟨gb, 0, none⟩), .pointer (some ⟨gm, 0, none⟩)] w
      fun e w' => GvU e ∧ Chg (fun k => k = gm) w w' := by
  have hBlt : ∀ ad, B = some ad → 0 < N → ad.block < w.heap.size := fun ad e h0 => hr.lt ad e h0
  have hO := open_any B N c lb w hr hn hc
  have hmf : ∀ (fn : Fn) (first cap : Array Value) (w : World), (Instr.makeFunc fn first cap).run Tryz.prog w = .ok (.func fn first cap) w := fun _ _ _ _ => rfl
  have b0 := hbb.cell 0
  simp only [List.getElem?_toArray, List.getElem?_cons_zero] at b0
  replace hno := Lib.hid hno
  unfold GvU
  go_enter Tryz.func41, Tryz.ntmps41
  go_wp2_with fail
  refine hO.mono ?_
  rintro e w1 (⟨g, l, r, n, hlb, hlr, hNn, rfl, hg, hrd, hg1⟩ | ⟨he, _, hg1⟩)
  rotate_left
  · unfold GvU at he
    subst he
    go_wp2
    exact ⟨rfl, rfl, Chg.of_grew hg1⟩
  subst hNn
  have hll : l.length = n := hrd.rb.1
  have ht4 : Hid (l.take 4 = headM) := Lib.hid (by rw [hlr]; rfl)
  have hlb2 : Hid (lb = sealB l) := Lib.hid hlb
  replace hll := Lib.hid hll
  clear hlb hlr
  obtain ⟨gv, hgv⟩ : ∃ gv, w1.heap.size = gv := ⟨_, rfl⟩
  obtain ⟨W1, hW1⟩ : ∃ W1, W1 = w1.alloc (.cells #[.pointer (some ⟨g, 0, none⟩)] 70) := ⟨_, rfl⟩
  have hgW : Grew w1 W1 := by rw [hW1]; exact (Chg.refl _ w1).alloc _
  have hbv : Blk W1 gv 70 #[.pointer (some ⟨g, 0, none⟩)] := by rw [hW1, ← hgv]; exact Blk.new _ _ _
  have hD0 : DnS w W1 l gm gv g B n c 4 #[.int .u64 0, .int .i64 0, .int .i64 0, .int .i64 0, .slice none 0 0, .int .i64 0, .int .i64 0] :=
    ⟨hrd.chg hgW (fun e => e) (fun _ _ _ e => e), (hbm.grew hg1).grew hgW, hbv, fun ad e _ => hBm ad e (by omega), Chg.of_grew (hg1.trans hgW), hg⟩
  have v0 := hD0.look
  rw [hW1] at v0
  clear hO b0 hbb hbm hrd hg1 hgW hbv
  rw [← hgv] at v0
  replace hgv := Lib.hid hgv
  go_wp2_with fail
  rw [← hW1, hgv.out]
  refine (rnumber_any g B n c l 4 W1 hD0.rd (by omega)).mono ?_
  rintro e w2 (⟨x0, q1, hx0, hq1, hl1, rfl, hT⟩ | ⟨he, hg9⟩)
  rotate_left
  · unfold GvU at he
    subst he
    go_wp2
    exact ⟨rfl, rfl, hD0.ch.trans (Chg.of_grew hg9)⟩
  have ht1 : Hid (l.take q1 = headM ++ uv x0) := Lib.hid (by rw [hl1, ht4.out])
  clear hl1 ht4
  have hD1 := (hD0.to hT)
  have m0 := hD1.bm.cell 0
  have mf := hD1.bm.frozen 0
  simp only [List.getElem?_toArray, List.getElem?_cons_zero] at m0
  have hD2 := hD1.set 0 (.int .u64 (x0 : Int))
  simp only [List.setIfInBounds_toArray, List.set_cons_zero] at hD2
  obtain ⟨w3, hw3⟩ : ∃ w3, w3 = w2.setCell ⟨gm, 0, none⟩ (.int .u64 (x0 : Int)) := ⟨_, rfl⟩
  rw [← hw3] at hD2
  obtain ⟨w4, hw4⟩ : ∃ w4, w4 = w3.alloc (.cells #[.pointer (some ⟨gm, 3, none⟩), .pointer (some ⟨gm, 5, none⟩), .pointer (some ⟨gm, 6, none⟩)] 72) := ⟨_, rfl⟩
  have hg4 : Grew w3 w4 := by rw [hw4]; exact (Chg.refl _ w3).alloc _
  obtain ⟨gp, hgp⟩ : ∃ gp, w3.heap.size = gp := ⟨_, rfl⟩
  have hbp : Blk w4 gp 72 #[.pointer (some ⟨gm, 3, none⟩), .pointer (some ⟨gm, 5, none⟩), .pointer (some ⟨gm, 6, none⟩)] := by rw [hw4, ← hgp]; exact Blk.new _ _ _
  have hD4 := hD2.grew hg4
  have hgp2 : w2.heap.size = gp := by rw [← hgp, hw3]; simp
  replace hgp2 := Lib.hid hgp2
  clear hT hD0 hW1 hD1 v0 hgp
  go_wp2
  rw [← hw3, ← hw4, hgp2.out]
  clear m0 mf hw3 hw4 hgp2 hg4 hD2
  refine wp_loop_rounds 4 ?_
  rw [rounds_succ]
  have p0 := hbp.cell 0
  have v0 := hD4.look
  simp only [List.getElem?_toArray, List.getElem?_cons_zero] at p0
  go_wp2_with fail
  refine (rnumber_any g B n c l q1 w4 hD4.rd (by omega)).mono ?_
  rintro e w10 (⟨a0, q2, ha0, hq2, hla0, rfl, hT0⟩ | ⟨he, hg9⟩)
  rotate_left
  · unfold GvU at he
    subst he
    go_wp2
    exact ⟨rfl, rfl, hD4.ch.trans (Chg.of_grew hg9)⟩
  have ht2 : Hid (l.take q2 = headM ++ uv x0 ++ uv a0) := Lib.hid (by rw [hla0, ht1.out])
  clear hla0 ht1
  have hE0 := hD4.to hT0
  have hbq0 := hbp.chg hT0.ch (fun e => Blk.neT hbp hD4.rd.bk (by decide) e)
  clear p0 v0 hT0
  by_cases l0 : (a0 : Int) < 2147483648
  rotate_left
  · go_wp2_with fail
    rw [show decide ((a0 : Int) < 2147483648) = false from decide_eq_false (by omega)]
    refine (must_no _).mono ?_
    rintro e wz ⟨he, rfl⟩
    unfold GvU at he
    subst he
    go_wp2
    exact ⟨rfl, rfl, hE0.ch⟩
  go_wp2_with fail
  refine (must_yes _).mono ?_
  rintro e wx0 ⟨rfl, rfl⟩
  have m0 := hE0.bm.cell 3
  have mf0 := hE0.bm.frozen 3
  simp only [List.getElem?_toArray, List.getElem?_cons_succ, List.getElem?_cons_zero] at m0
  have hF0 := hE0.set 3 (.int .i64 (a0 : Int))
  simp only [List.setIfInBounds_toArray, List.set_cons_succ, List.set_cons_zero] at hF0
  have hbr0 := hbq0.far (p := ⟨gm, 3, none⟩) (Blk.neT hbq0 hE0.bm (by decide)) (.int .i64 (a0 : Int))
  go_wp2
  obtain ⟨w11, hw0⟩ : ∃ W, W = wx0.setCell ⟨gm, 3, none⟩ (.int .i64 (a0 : Int)) := ⟨_, rfl⟩
  rw [← hw0] at hF0 hbr0 ⊢
  clear hw0 m0 mf0 hE0 hbq0
  rw [rounds_succ]
  have p1 := hbr0.cell 1
  have v1 := hF0.look
  simp only [List.getElem?_toArray, List.getElem?_cons_succ, List.getElem?_cons_zero] at p1
  go_wp2_with fail
  refine (rnumber_any g B n c l q2 w11 hF0.rd (by omega)).mono ?_
  rintro e w13 (⟨a1, q3, ha1, hq3, hla1, rfl, hT1⟩ | ⟨he, hg9⟩)
  rotate_left
  · unfold GvU at he
    subst he
    go_wp2
    exact ⟨rfl, rfl, hF0.ch.trans (Chg.of_grew hg9)⟩
  have ht3 : Hid (l.take q3 = headM ++ uv x0 ++ uv a0 ++ uv a1) := Lib.hid (by rw [hla1, ht2.out])
  clear hla1 ht2
  have hE1 := hF0.to hT1
  have hbq1 := hbr0.chg hT1.ch (fun e => Blk.neT hbr0 hF0.rd.bk (by decide) e)
  clear p1 v1 hT1
  by_cases l1 : (a1 : Int) < 2147483648
  rotate_left
  · go_wp2_with fail
    rw [show decide ((a1 : Int) < 2147483648) = false from decide_eq_false (by omega)]
    refine (must_no _).mono ?_
    rintro e wz ⟨he, rfl⟩
    unfold GvU at he
    subst he
    go_wp2
    exact ⟨rfl, rfl, hE1.ch⟩
  go_wp2_with fail
  refine (must_yes _).mono ?_
  rintro e wx1 ⟨rfl, rfl⟩
  have m1 := hE1.bm.cell 5
  have mf1 := hE1.bm.frozen 5
  simp only [List.getElem?_toArray, List.getElem?_cons_succ, List.getElem?_cons_zero] at m1
  have hF1 := hE1.set 5 (.int .i64 (a1 : Int))
  simp only [List.setIfInBounds_toArray, List.set_cons_succ, List.set_cons_zero] at hF1
  have hbr1 := hbq1.far (p := ⟨gm, 5, none⟩) (Blk.neT hbq1 hE1.bm (by decide)) (.int .i64 (a1 : Int))
  go_wp2
  obtain ⟨w14, hw1⟩ : ∃ W, W = wx1.setCell ⟨gm, 5, none⟩ (.int .i64 (a1 : Int)) := ⟨_, rfl⟩
  rw [← hw1] at hF1 hbr1 ⊢
  clear hw1 m1 mf1 hE1 hbq1
  rw [rounds_succ]
  have p2 := hbr1.cell 2
  have v2 := hF1.look
  simp only [List.getElem?_toArray, List.getElem?_cons_succ, List.getElem?_cons_zero] at p2
  go_wp2_with fail
  refine (rnumber_any g B n c l q3 w14 hF1.rd (by omega)).mono ?_
  rintro e w16 (⟨a2, q4, ha2, hq4, hla2, rfl, hT2⟩ | ⟨he, hg9⟩)
  rotate_left
  · unfold GvU at he
    subst he
    go_wp2
    exact ⟨rfl, rfl, hF1.ch.trans (Chg.of_grew hg9)⟩
  have ht4 : Hid (l.take q4 = headM ++ uv x0 ++ uv a0 ++ uv a1 ++ uv a2) := Lib.hid (by rw [hla2, ht3.out])
  clear hla2 ht3
  have hE2 := hF1.to hT2
  have hbq2 := hbr1.chg hT2.ch (fun e => Blk.neT hbr1 hF1.rd.bk (by decide) e)
  clear p2 v2 hT2
  by_cases l2 : (a2 : Int) < 2147483648
  rotate_left
  · go_wp2_with fail
    rw [show decide ((a2 : Int) < 2147483648) = false from decide_eq_false (by omega)]
    refine (must_no _).mono ?_
    rintro e wz ⟨he, rfl⟩
    unfold GvU at he
    subst he
    go_wp2
    exact ⟨rfl, rfl, hE2.ch⟩
  go_wp2_with fail
  refine (must_yes _).mono ?_
  rintro e wx2 ⟨rfl, rfl⟩
  have m2 := hE2.bm.cell 6
  have mf2 := hE2.bm.frozen 6
  simp only [List.getElem?_toArray, List.getElem?_cons_succ, List.getElem?_cons_zero] at m2
  have hF2 := hE2.set 6 (.int .i64 (a2 : Int))
  simp only [List.setIfInBounds_toArray, List.set_cons_succ, List.set_cons_zero] at hF2
  have hbr2 := hbq2.far (p := ⟨gm, 6, none⟩) (Blk.neT hbq2 hE2.bm (by decide)) (.int .i64 (a2 : Int))
  go_wp2
  obtain ⟨w17, hw2⟩ : ∃ W, W = wx2.setCell ⟨gm, 6, none⟩ (.int .i64 (a2 : Int)) := ⟨_, rfl⟩
  rw [← hw2] at hF2 hbr2 ⊢
  clear hw2 m2 mf2 hE2 hbq2
  rw [rounds_succ]
  go_wp2_with fail
  have v9 := hF2.look
  have hcs : CellsIn [gv] w17 := cellsIn_one hF2.bv
  have hngv : ∀ k', k' ∈ [gv] → ¬ (k' = g ∨ k' = gm) := fun k' hk' => by
    simp only [List.mem_cons, List.not_mem_nil, or_false] at hk'
    subst hk'
    rintro (e | e)
    · exact Blk.neT hF2.bv hF2.rd.bk (by decide) e
    · exact Blk.neT hF2.bv hF2.bm (by decide) e
  by_cases hr4 : (uintR l (q4 : Int)).2.2 = 0
  rotate_left
  · refine wp_region_die [] [0, 2] 1 (by kernel_rfl) rfl (by kernel_rfl) (fun c a d v w h => ⟨by have h1 := h.1; rwa [put_defers] at h1, h.2⟩) (by decide) ?_
    simp only [List.filterMap_cons, List.filterMap_nil, List.getElem?_cons_zero, List.getElem?_cons_succ, instr, chk, List.nil_append]
    go_wp2_with fail
    refine OnlyN.normal (dieQ_of ?_)
    go_wp2_with fail
    refine (rsigned_no g B n c l q4 _ (hF2.grew (Chg.refl _ w17).drew).rd (by omega) hr4).mono ?_
    rintro e wz ⟨he, hg9⟩
    unfold GvU at he
    subst he
    exact ⟨rfl, rfl, (hF2.ch.trans (Chg.of_grew (Chg.refl _ w17).drew)).trans (Chg.of_grew hg9)⟩
  obtain ⟨v4, q5, hu4, hv4, hq5, _, hl5⟩ := uintR_part hr4
  have ht5 : Hid (l.take q5 = headM ++ uv x0 ++ uv a0 ++ uv a1 ++ uv a2 ++ uv v4) := Lib.hid (by rw [hl5, ht4.out])
  clear hr4 hl5
  replace hu4 := Lib.hid hu4
  by_cases hr5 : (uintR l (q5 : Int)).2.2 = 0
  rotate_left
  · refine wp_region_dieS [] [gv] [0, 1, 2] 3 (by kernel_rfl) rfl (by kernel_rfl) (fun c a d v w h => ⟨by have h1 := h.1; rwa [put_defers] at h1, h.2⟩) (by decide) hcs ?_
    simp only [List.filterMap_cons, List.filterMap_nil, List.getElem?_cons_zero, List.getElem?_cons_succ, wpU, tagOf, List.cons_append, List.nil_append]
    intro K hK
    go_wp2_with fail
    refine OnlyN.normal (hK _ _ (fun _ => ⟨_, _, _, rfl, rfl, by simp⟩) ?_)
    clear hK K
    intro K hK
    go_wp2_with fail
    refine (rsigned_ok g B n c l q4 v4 q5 _ (hF2.grew (Chg.refl _ w17).drew).rd (by omega) hu4.out).mono ?_
    rintro e w20 ⟨rfl, hT3⟩
    have hG1 := (hF2.grew (Chg.refl _ w17).drew).to hT3
    have hC1 : Chg (fun k => k = g ∨ k = gm) w17 w20 := (Chg.refl _ w17).drew.trans (hT3.ch.mono fun k _ e => Or.inl e)
    go_wp2_with fail
    refine OnlyN.normal (hK _ _ (sameIn_of hC1 hcs hngv) ?_)
    clear hK K hT3 v9
    have v9 := hG1.look
    intro K hK
    go_wp2_with fail
    refine OnlyN.normal (hK _ _ (fun _ => ⟨_, _, _, rfl, rfl, by simp⟩) ?_)
    clear hK K
    go_wp2_with fail
    refine OnlyN.normal (dieQ_of ?_)
    go_wp2_with fail
    refine (rsigned_no g B n c l q5 _ hG1.rd (by omega) hr5).mono ?_
    rintro e wz ⟨he, hg9⟩
    unfold GvU at he
    subst he
    exact ⟨rfl, rfl, hG1.ch.trans (Chg.of_grew hg9)⟩
  obtain ⟨v5, q6, hu5, hv5, hq6, _, hl6⟩ := uintR_part hr5
  have ht6 : Hid (l.take q6 = headM ++ uv x0 ++ uv a0 ++ uv a1 ++ uv a2 ++ uv v4 ++ uv v5) := Lib.hid (by rw [hl6, ht5.out])
  clear hr5 hl6 ht5 ht4
  replace hu5 := Lib.hid hu5
  refine wp_region_textS [] [gv] (by kernel_rfl) (by kernel_rfl) hcs ?_
  simp only [wpU, tagOf, chk, List.cons_append, List.nil_append]
  intro K hK
  go_wp2_with fail
  refine OnlyN.normal (hK _ _ (fun _ => ⟨_, _, _, rfl, rfl, by simp⟩) ?_)
  clear hK K
  intro K hK
  go_wp2_with fail
  refine (rsigned_ok g B n c l q4 v4 q5 _ (hF2.grew (Chg.refl _ w17).drew).rd (by omega) hu4.out).mono ?_
  rintro e w20 ⟨rfl, hT3⟩
  have hG1 := (hF2.grew (Chg.refl _ w17).drew).to hT3
  have hC1 : Chg (fun k => k = g ∨ k = gm) w17 w20 := (Chg.refl _ w17).drew.trans (hT3.ch.mono fun k _ e => Or.inl e)
  go_wp2_with fail
  refine OnlyN.normal (hK _ _ (sameIn_of hC1 hcs hngv) ?_)
  clear hK K hT3 v9
  have v9 := hG1.look
  intro K hK
  go_wp2_with fail
  refine OnlyN.normal (hK _ _ (fun _ => ⟨_, _, _, rfl, rfl, by simp⟩) ?_)
  clear hK K
  intro K hK
  go_wp2_with fail
  refine (rsigned_ok g B n c l q5 v5 q6 w20 hG1.rd (by omega) hu5.out).mono ?_
  rintro e w21 ⟨rfl, hT4⟩
  have hG2 := hG1.to hT4
  have hC2 : Chg (fun k => k = g ∨ k = gm) w17 w21 := hC1.trans (hT4.ch.mono fun k _ e => Or.inl e)
  go_wp2_with fail
  refine OnlyN.normal (hK _ _ (sameIn_of hC2 hcs hngv) ?_)
  clear hK K hT4 v9 hG1 hC1
  have e1 := hG2.bm.cell 1
  have f1 := hG2.bm.frozen 1
  simp only [List.getElem?_toArray, List.getElem?_cons_succ, List.getElem?_cons_zero] at e1
  have hG3 := hG2.set 1 (.int .i64 (uz v4))
  simp only [List.setIfInBounds_toArray, List.set_cons_succ, List.set_cons_zero] at hG3
  have hC3 : Chg (fun k => k = g ∨ k = gm) w17 (w21.setCell ⟨gm, 1, none⟩ (.int .i64 (uz v4))) := hC2.setCell (p := ⟨gm, 1, none⟩) (.inr (.inr rfl)) _
  intro K hK
  go_wp2_with fail
  refine OnlyN.normal (hK _ _ (sameIn_of hC3 hcs hngv) ?_)
  clear hK K
  have e2 := hG3.bm.cell 2
  have f2 := hG3.bm.frozen 2
  simp only [List.getElem?_toArray, List.getElem?_cons_succ, List.getElem?_cons_zero] at e2
  have hG4 := hG3.set 2 (.int .i64 (uz v5))
  simp only [List.setIfInBounds_toArray, List.set_cons_succ, List.set_cons_zero] at hG4
  have hC4 : Chg (fun k => k = g ∨ k = gm) w17 ((w21.setCell ⟨gm, 1, none⟩ (.int .i64 (uz v4))).setCell ⟨gm, 2, none⟩ (.int .i64 (uz v5))) := hC3.setCell (p := ⟨gm, 2, none⟩) (.inr (.inr rfl)) _
  intro K hK
  go_wp2_with fail
  refine OnlyN.normal (hK _ _ (sameIn_of hC4 hcs hngv) ?_)
  clear hK K
  refine OnlyN.normal ?_
  obtain ⟨w22, hw22⟩ : ∃ W, W = (w21.setCell ⟨gm, 1, none⟩ (.int .i64 (uz v4))).setCell ⟨gm, 2, none⟩ (.int .i64 (uz v5)) := ⟨_, rfl⟩
  rw [← hw22] at hG4 ⊢
  clear hw22 hC4 hC3 hC2 hG3 hG2 e1 f1 e2 f2 hngv hcs hF2 hF1 hF0 hbr0 hbr1 hbr2 hD4 hbp
  have v9 := hG4.look
  go_wp2_with fail
  refine (rows_any ⟨x0, uz v4, uz v5, (a0 : Int), [], (a1 : Int), (a2 : Int)⟩ w w22 l gm gv g B n c q6 hG4 (fun ad e h0 => hBlt ad e (by omega)) (by omega)).mono ?_
  rintro e w23 (⟨xs, q7, A2, d2, hxl, hxs, hq7, hl7, rfl, hD5, hA5⟩ | ⟨he, hcz⟩)
  rotate_left
  · unfold GvU at he
    subst he
    go_wp2
    exact ⟨rfl, rfl, hcz⟩
  have ht7 : Hid (l.take q7 = headM ++ uv x0 ++ uv a0 ++ uv a1 ++ uv a2 ++ uv v4 ++ uv v5 ++ (uv xs.length ++ xs.flatMap uv)) := Lib.hid (by rw [hl7, ht6.out])
  clear hG4 v9 hl7 ht6
  obtain ⟨p, hp⟩ : ∃ p, xs.length = p := ⟨_, rfl⟩
  rw [hp] at hD5 hA5 hxl
  clear hp
  have v9 := hD5.look
  have z0 := hD5.rd.bk.cell 0
  have z1 := hD5.rd.bk.cell 1
  have y0 := hD5.bm.cell 0
  have y1 := hD5.bm.cell 1
  have y2 := hD5.bm.cell 2
  have y3 := hD5.bm.cell 3
  have y4 := hD5.bm.cell 4
  have y5 := hD5.bm.cell 5
  have y6 := hD5.bm.cell 6
  simp only [List.getElem?_toArray, List.getElem?_cons_succ, List.getElem?_cons_zero] at z0 z1 y0 y1 y2 y3 y4 y5 y6
  have hMay := fun W1 (hW1 : Grew w23 W1) => may_any ⟨x0, uz v4, uz v5, (a0 : Int), xs, (a1 : Int), (a2 : Int)⟩ A2 p d2 W1 ((OE.re (by decide) hA5).grew hW1) (by omega)
  have hch := hD5.ch
  by_cases hend : q7 = n
  · subst hend
    have hm : metOk ⟨x0, uz v4, uz v5, (a0 : Int), xs, (a1 : Int), (a2 : Int)⟩ = false := by
      cases hm : metOk ⟨x0, uz v4, uz v5, (a0 : Int), xs, (a1 : Int), (a2 : Int)⟩
      · rfl
      · exfalso
        refine hno.out _ hm ⟨hx0, uz_ge hv4, uz_ge hv5, hxs⟩ ?_
        rw [hlb2.out]
        have e2 := ht7.out
        rw [List.take_of_length_le (by have := hll.out; omega)] at e2
        unfold encM
        exact congrArg sealB (metB_of e2)
    rw [hm] at hMay
    replace hMay := Lib.hid hMay
    clear hm
    go_wp2_with fail
    refine wp_region_die [(3, 1)] [0, 1, 2, 3, 4, 5, 6, 7, 8, 9, 10, 11, 12, 13] 14 (by kernel_rfl) rfl (by kernel_rfl) (fun c a d v w h => ⟨by have h1 := h.1; rwa [put_defers] at h1, h.2⟩) (by decide) ?_
    simp only [List.filterMap_cons, List.filterMap_nil, List.getElem?_cons_zero, List.getElem?_cons_succ, instr, chk, look, Nat.reduceBEq, if_true, if_false, Nat.reduceEqDiff, List.cons_append, List.nil_append]
    go_wp2_with fail
    refine (hMay.out _ (Chg.refl _ w23).drew).mono ?_
    rintro e w24 ⟨rfl, hg24⟩
    go_wp2_with fail
    refine OnlyN.normal (dieQ_of ?_)
    go_wp2_with fail
    refine (must_no _).mono ?_
    rintro e wz ⟨he, rfl⟩
    unfold GvU at he
    subst he
    exact ⟨rfl, rfl, (hch.trans (Chg.of_grew (Chg.refl _ w23).drew)).trans (Chg.of_grew hg24)⟩
  · have hne : ¬ (q7 : Int) = (n : Int) := by omega
    clear hMay
    go_wp2_with fail
    refine wp_region_die [(3, 1)] [0, 1, 2, 3, 4, 5, 6, 7, 8, 9, 10, 11, 12, 13] 14 (by kernel_rfl) rfl (by kernel_rfl) (fun c a d v w h => ⟨by have h1 := h.1; rwa [put_defers] at h1, h.2⟩) (by decide) ?_
    simp only [List.filterMap_cons, List.filterMap_nil, List.getElem?_cons_zero, List.getElem?_cons_succ, instr, chk, look, Nat.reduceBEq, if_true, if_false, Nat.reduceEqDiff, List.cons_append, List.nil_append]
    go_wp2_with fail
    refine OnlyN.normal (dieQ_of ?_)
    go_wp2_with fail
    refine (must_no _).mono ?_
    rintro e wz ⟨he, rfl⟩
    unfold GvU at he
    subst he
    exact ⟨rfl, rfl, hch.trans (Chg.of_grew (Chg.refl _ w23).drew)⟩
end Go.Proofs.YtlcaaacbookopaaGreatDoor

namespace Go.Proofs.YtlcaaacbookopaaGreatDoor
open Go.RowKit

set_option maxRecDepth 100000 in
set_option maxHeartbeats 4000000 in
theorem caught1_panic (p : Addr) (b : Bool) (w : World) (hc : w.cell? p = some (.bool b)) (hz : w.frozen? p = false) (hp : p.block < w.heap.size) :
    CallsD Tryz.prog 72 #[.pointer (some p)] (.panicking [{ v := .iface 114 (.agg #[]), recovered := false }]) w fun e u' w' =>
      e = .returned (.tuple #[]) ∧ u' = .panicking [{ v := .iface 114 (.agg #[]), recovered := true }] ∧ Chg (fun k => k = p.block) w w' ∧ w'.cell? p = some (.bool false) := by
  have hta : ∀ w, (Instr.typeAssert (.iface 114 (.agg #[])) 20 114 true).run Tryz.prog w = .ok (.tuple #[.agg #[], .bool true]) w := fun _ => by kernel_rfl
  have hcW : (w.alloc (.cells #[] 114)).cell? p = some (.bool b) := Chg.cell ((Chg.refl (fun _ => False) w).alloc _) hc (fun e => e)
  have hzW : (w.alloc (.cells #[] 114)).frozen? p = false := by rw [Chg.frozen ((Chg.refl (fun _ => False) w).alloc (.cells #[] 114)) hp (fun e => e)]; exact hz
  have hfin : Chg (fun k => k = p.block) w ((w.alloc (.cells #[] 114)).setCell p (.bool false)) := ((Chg.refl (fun k => k = p.block) w).alloc _).setCell (.inr rfl) _
  have hcell : ((w.alloc (.cells #[] 114)).setCell p (.bool false)).cell? p = some (.bool false) := World.cell?_setCell_same _ _ _ hcW
  refine callsD_of_wpS Tryz.func72 rfl fun c₀ cs hu => ?_
  apply wpS_seq
  apply wpS_region
  simp [wpOpsS, go_sem, recoverD, hu, Tryz.ntmps72, Exit.thenS]
  apply wpS_seq
  apply wpS_region
  simp [wpOpsS, go_sem, Exit.thenS]
  show Code.wpS _ _ _ { tmps := #[.pointer (some p), .iface 114 (.agg #[]), undef, undef, .iface 114 (.agg #[]), .iface 114 (.agg #[]), .bool true, undef, undef, undef, undef, undef, undef, undef, undef], defers := [] } _ _
  refine wpS_of_wp ?_
  go_wp2
  cases c₀
  simp_all [bodyPostS, results, Tryz.results72]

set_option maxRecDepth 100000 in
set_option maxHeartbeats 4000000 in
theorem caught_no (w : World) (gb gm : Nat) (B : Option Addr) (n c : Nat) (lb : List UInt8) (hbb : Blk w gb 26 #[.slice B n c]) (hbm : Blk w gm 25 #[.int .u64 0, .int .i64 0, .int .i64 0, .int .i64 0, .slice none 0 0, .int .i64 0, .int .i64 0])
    (hr : RB w B n lb) (hBm : ∀ ad, B = some ad → 0 < n → ad.block ≠ gm) (hc : n ≤ c ∧ c ≤ 9223372036854775807) (hn : n ≤ 140737488350000) (hno : ∀ m, metOk m = true → MetW m → lb ≠ encM m) :
    Calls Tryz.prog 40 #[.func (.func 41) #[] #[.pointer (some ⟨gb, 0, none⟩), .pointer (some ⟨gm, 0, none⟩)]] w
      fun e w' => e = .returned (.bool false) ∧ Chg (fun k => k = gm) w w' := by
  have hmf : ∀ (fn : Fn) (first cap : Array Value) (w : World), (Instr.makeFunc fn first cap).run Tryz.prog w = .ok (.func fn first cap) w := fun _ _ _ _ => rfl
  have hg0 : Grew w (w.alloc (.cells #[.bool false] 4)) := (Chg.refl _ w).alloc _
  have hbk := Blk.new w 4 #[.bool false]
  have hgl := hbm.lt
  have hCl := closure_no _ gb gm B n c lb (hbb.grew hg0) (hbm.grew hg0) (hr.grew hg0) hBm hc hn hno
  clear hno
  go_enter_defers Tryz.func40, Tryz.ntmps40
  go_wp2_with fail
  refine hCl.mono ?_
  rintro e w1 ⟨he, hc1⟩
  unfold GvU at he
  subst he
  have hk1 := hbk.chg hc1 (by omega)
  clear hCl
  go_wp2
  refine leaves_cons (f := 72) (args := #[.pointer (some ⟨w.heap.size, 0, none⟩)]) (by simp) (by simp [go_sem]) ?_
  refine (caught1_panic ⟨w.heap.size, 0, none⟩ false w1 (hk1.cell 0) (hk1.frozen 0) hk1.lt).mono ?_
  rintro e u' w'' ⟨rfl, rfl, hc2, q0⟩
  refine ⟨.bool false, ?_, rfl, ((Chg.of_grew hg0).trans hc1).step hc2 fun k hk e => by
    have e : k = w.heap.size := e
    omega⟩
  simp [results, Tryz.results40, go_sem, q0]

set_option maxRecDepth 100000 in
set_option maxHeartbeats 4000000 in
theorem decodeMeta_no (w : World) (B : Option Addr) (n c : Nat) (lb : List UInt8) (hr : RB w B n lb) (hc : n ≤ c ∧ c ≤ 9223372036854775807) (hn : n ≤ 140737488350000) (hno : ∀ m, metOk m = true → MetW m → lb ≠ encM m) :
    Calls Tryz.prog 12 #[.slice B n c] w (MtR w ⟨0, 0, 0, 0, [], 0, 0⟩ 92) := by
  have hmf : ∀ (fn : Fn) (first cap : Array Value) (w : World), (Instr.makeFunc fn first cap).run Tryz.prog w = .ok (.func fn first cap) w := fun _ _ _ _ => rfl
  obtain ⟨W, hW⟩ : ∃ W, W = ((w.alloc (.cells #[.slice B n c] 26)).alloc (.cells #[.int .u64 0, .int .i64 0, .int .i64 0, .int .i64 0, .slice none 0 0, .int .i64 0, .int .i64 0] 25)).alloc (.cells #[.int .u64 0, .int .i64 0, .int .i64 0, .int .i64 0, .slice none 0 0, .int .i64 0, .int .i64 0] 25) := ⟨_, rfl⟩
  have hgW : Grew w W := by rw [hW]; exact (((Chg.refl _ w).alloc _).alloc _).alloc _
  have b0 : Blk W w.heap.size 26 #[.slice B n c] := by rw [hW]; exact ((Blk.new w _ _).alloc _).alloc _
  have b1 : Blk W (w.heap.size + 1) 25 #[.int .u64 0, .int .i64 0, .int .i64 0, .int .i64 0, .slice none 0 0, .int .i64 0, .int .i64 0] := by
    rw [hW]
    have := (Blk.new (w.alloc (.cells #[.slice B n c] 26)) 25 #[.int .u64 0, .int .i64 0, .int .i64 0, .int .i64 0, .slice none 0 0, .int .i64 0, .int .i64 0]).alloc (.cells #[.int .u64 0, .int .i64 0, .int .i64 0, .int .i64 0, .slice none 0 0, .int .i64 0, .int .i64 0] 25)
    rwa [World.size_alloc] at this
  have b2 : Blk W (w.heap.size + 2) 25 #[.int .u64 0, .int .i64 0, .int .i64 0, .int .i64 0, .slice none 0 0, .int .i64 0, .int .i64 0] := by
    rw [hW]
    have := Blk.new ((w.alloc (.cells #[.slice B n c] 26)).alloc (.cells #[.int .u64 0, .int .i64 0, .int .i64 0, .int .i64 0, .slice none 0 0, .int .i64 0, .int .i64 0] 25)) 25 #[.int .u64 0, .int .i64 0, .int .i64 0, .int .i64 0, .slice none 0 0, .int .i64 0, .int .i64 0]
    rwa [World.size_alloc, World.size_alloc] at this
  have hCt := caught_no W w.heap.size (w.heap.size + 2) B n c lb b0 b2 (hr.grew hgW) (fun ad e h0 => by have := hr.lt ad e h0; omega) hc hn hno
  clear hno
  unfold MtR
  go_enter Tryz.func12, Tryz.ntmps12
  go_wp2_with fail
  rw [← hW]
  refine hCt.mono ?_
  rintro e w1 ⟨rfl, hc1⟩
  have hbr := b1.chg hc1 (by omega)
  have g1 : Grew w w1 := hgW.step hc1 fun k hk e => by omega
  have r0 := hbr.cell 0
  have r1 := hbr.cell 1
  have r2 := hbr.cell 2
  have r3 := hbr.cell 3
  have r4 := hbr.cell 4
  have r5 := hbr.cell 5
  have r6 := hbr.cell 6
  have f0 := hbr.frozen 0
  have f1 := hbr.frozen 1
  have f2 := hbr.frozen 2
  have f3 := hbr.frozen 3
  have f4 := hbr.frozen 4
  have f5 := hbr.frozen 5
  have f6 := hbr.frozen 6
  simp only [List.getElem?_toArray, List.getElem?_cons_succ, List.getElem?_cons_zero] at r0 r1 r2 r3 r4 r5 r6
  have hq := ((((((hbr.set 0 (.int .u64 0)).set 1 (.int .i64 0)).set 2 (.int .i64 0)).set 3 (.int .i64 0)).set 4 (.slice none 0 0)).set 5 (.int .i64 0)).set 6 (.int .i64 0)
  simp only [List.setIfInBounds_toArray, List.set_cons_succ, List.set_cons_zero] at hq
  have hcc : Chg (fun k => k = w.heap.size + 1) w1 (((((((w1.setCell ⟨w.heap.size + 1, 0, none⟩ (.int .u64 0)).setCell ⟨w.heap.size + 1, 1, none⟩ (.int .i64 0)).setCell ⟨w.heap.size + 1, 2, none⟩ (.int .i64 0)).setCell ⟨w.heap.size + 1, 3, none⟩ (.int .i64 0)).setCell ⟨w.heap.size + 1, 4, none⟩ (.slice none 0 0)).setCell ⟨w.heap.size + 1, 5, none⟩ (.int .i64 0)).setCell ⟨w.heap.size + 1, 6, none⟩ (.int .i64 0)) :=
    (((((((Chg.refl (fun k => k = w.heap.size + 1) w1).setCell (p := ⟨w.heap.size + 1, 0, none⟩) (.inr rfl) _).setCell (p := ⟨w.heap.size + 1, 1, none⟩) (.inr rfl) _).setCell (p := ⟨w.heap.size + 1, 2, none⟩) (.inr rfl) _).setCell (p := ⟨w.heap.size + 1, 3, none⟩) (.inr rfl) _).setCell (p := ⟨w.heap.size + 1, 4, none⟩) (.inr rfl) _).setCell (p := ⟨w.heap.size + 1, 5, none⟩) (.inr rfl) _).setCell (p := ⟨w.heap.size + 1, 6, none⟩) (.inr rfl) _
  clear hCt hW
  go_wp2
  refine bodyPost_ret (v := .tuple #[.agg #[.int .u64 0, .int .i64 0, .int .i64 0, .int .i64 0, .slice none 0 0, .int .i64 0, .int .i64 0], .int .i64 92]) ?_ rfl ⟨none, 0, rfl, OE.nil _ _ _, g1.step hcc fun k hk e => by omega⟩
  have q0 := hq.cell 0
  have q1 := hq.cell 1
  have q2 := hq.cell 2
  have q3 := hq.cell 3
  have q4 := hq.cell 4
  have q5 := hq.cell 5
  have q6 := hq.cell 6
  simp [results, Tryz.results12, go_sem, q0, q1, q2, q3, q4, q5, q6]
end Go.Proofs.YtlcaaacbookopaaGreatDoor

namespace Go.Proofs.YtlcaaacbookopaaGreatDoor
open Go.RowKit

set_option maxRecDepth 100000 in
set_option maxHeartbeats 4000000 in
theorem dclo_any (own : Prop) (ss0 : List Ser) (gb go : Nat) (B : Option Addr) (n c : Nat) (lb : List UInt8) (w0 w : World) (h0 : Grew w0 w) (hbb : Blk w gb 26 #[.slice B n c]) (hbo : Blk w go 39 #[.slice none 0 0]) (hlo : w0.heap.size ≤ go)
    (h : RB w B n lb) (hn : n ≤ 1099511627776) (hc : n ≤ c ∧ c ≤ 9223372036854775807) (hown : own → BkV ss0 ∧ lb = blkB (tabT ss0) ss0) :
    Calls Tryz.prog 54 #[.pointer (some ⟨gb, 0, none⟩), .pointer (some ⟨go, 0, none⟩)] w fun e w' => (∃ A m d zs, e = .returned (.tuple #[]) ∧ Blk w' go 39 #[.slice A m d] ∧ RdOk w0 w' lb A m d zs ∧ Chg (fun k => k = go) w w') ∨ (GvU e ∧ Grew w w' ∧ ¬ own) := by
  have hR := read_any own ss0 B n c lb w h hn hc hown
  have b0 := hbb.cell 0
  simp only [List.getElem?_toArray, List.getElem?_cons_zero] at b0
  have hsz := h0.size
  unfold GvU
  go_enter Tryz.func54, Tryz.ntmps54
  go_wp2_with fail
  refine hR.mono ?_
  rintro e w1 (⟨A, m, d, zs, rfl, hz⟩ | ⟨he, hg, hno⟩)
  rotate_left
  · unfold GvU at he
    subst he
    go_wp2
    exact ⟨rfl, .inr ⟨rfl, hg, hno⟩⟩
  have bo1 := hbo.grew hz.g
  have k0 := bo1.cell 0
  have kf := bo1.frozen 0
  simp only [List.getElem?_toArray, List.getElem?_cons_zero] at k0
  have b5 := bo1.set 0 (.slice A m d)
  simp only [List.setIfInBounds_toArray, List.set_cons_zero] at b5
  have hk5 : Chg (fun k => k = go) w1 (w1.setCell ⟨go, 0, none⟩ (.slice A m d)) := Chg.cell1 w1 go 0 _
  have ns5 := hz.ns.far bo1 (by decide) (by decide) (by decide) hk5
  have hg5 : Grew w0 (w1.setCell ⟨go, 0, none⟩ (.slice A m d)) := (h0.trans hz.g).step hk5 fun k hk e => by
    have e : k = go := e
    omega
  clear hR
  go_wp2
  first
    | go_end0
    | refine bodyPost_ret (results_none rfl _ _ _) rfl ?_
  exact .inl ⟨A, m, d, zs, rfl, b5, ⟨ns5.mono hsz, hz.v, hz.b, hg5⟩, (Chg.of_grew hz.g).trans hk5⟩

set_option maxRecDepth 100000 in
set_option maxHeartbeats 4000000 in
theorem dcaught_any (own : Prop) (ss0 : List Ser) (gb go : Nat) (B : Option Addr) (n c : Nat) (lb : List UInt8) (w0 w : World) (h0 : Grew w0 w) (hbb : Blk w gb 26 #[.slice B n c]) (hbo : Blk w go 39 #[.slice none 0 0]) (hlo : w0.heap.size ≤ go)
    (h : RB w B n lb) (hn : n ≤ 1099511627776) (hc : n ≤ c ∧ c ≤ 9223372036854775807) (hown : own → BkV ss0 ∧ lb = blkB (tabT ss0) ss0) :
    Calls Tryz.prog 40 #[.func (.func 54) #[] #[.pointer (some ⟨gb, 0, none⟩), .pointer (some ⟨go, 0, none⟩)]] w fun e w' => (∃ A m d zs, e = .returned (.bool true) ∧ Blk w' go 39 #[.slice A m d] ∧ RdOk w0 w' lb A m d zs) ∨ (e = .returned (.bool false) ∧ Grew w0 w' ∧ ¬ own) := by
  have hmf : ∀ (fn : Fn) (first cap : Array Value) (w : World), (Instr.makeFunc fn first cap).run Tryz.prog w = .ok (.func fn first cap) w := fun _ _ _ _ => rfl
  have hg0 : Grew w (w.alloc (.cells #[.bool false] 4)) := (Chg.refl _ w).alloc _
  have hbk := Blk.new w 4 #[.bool false]
  have hsz0 := h0.size
  have hCl := dclo_any own ss0 gb go B n c lb w0 _ (h0.trans hg0) (hbb.grew hg0) (hbo.grew hg0) hlo (h.grew hg0) hn hc hown
  have hgl := hbo.lt
  go_enter_defers Tryz.func40, Tryz.ntmps40
  go_wp2_with fail
  refine hCl.mono ?_
  rintro e w1 (⟨A, m, d, zs, rfl, hb1, hz, hc1⟩ | ⟨he, hg1, hno⟩)
  · have hk1 := hbk.chg hc1 (by omega)
    have k0 := hk1.cell 0
    have kf := hk1.frozen 0
    simp only [List.getElem?_toArray, List.getElem?_cons_zero] at k0
    have hb3 := hb1.far (p := ⟨w.heap.size, 0, none⟩) (Blk.neT hb1 hk1 (by decide)) (.bool true)
    have hch3 := Chg.cell1 w1 w.heap.size 0 (.bool true)
    have hns3 := hz.ns.far hk1 (by decide) (by decide) (by decide) hch3
    have hk2 := hk1.set 0 (.bool true)
    simp only [List.setIfInBounds_toArray, List.set_cons_zero] at hk2
    have q0 := hk2.cell 0
    simp only [List.getElem?_toArray, List.getElem?_cons_zero] at q0
    have hcc : Grew w0 (w1.setCell ⟨w.heap.size, 0, none⟩ (.bool true)) := hz.g.setCell (p := ⟨w.heap.size, 0, none⟩) (.inl hsz0) _
    clear hCl
    go_wp2
    refine leaves_cons (f := 72) (args := #[.pointer (some ⟨w.heap.size, 0, none⟩)]) (by simp) (by simp [go_sem]) ?_
    refine (caught1_idle ⟨w.heap.size, 0, none⟩ _).mono ?_
    rintro e u' w'' ⟨rfl, rfl, rfl⟩
    refine ⟨.bool true, ?_, .inl ⟨A, m, d, zs, rfl, hb3, hns3, hz.v, hz.b, hcc⟩⟩
    simp [results, Tryz.results40, go_sem, q0]
  · unfold GvU at he
    subst he
    have hk1 := hbk.grew hg1
    clear hCl
    go_wp2
    refine leaves_cons (f := 72) (args := #[.pointer (some ⟨w.heap.size, 0, none⟩)]) (by simp) (by simp [go_sem]) ?_
    refine (caught1_panic ⟨w.heap.size, 0, none⟩ false w1 (hk1.cell 0) (hk1.frozen 0) hk1.lt).mono ?_
    rintro e u' w'' ⟨rfl, rfl, hc2, q0⟩
    refine ⟨.bool false, ?_, .inr ⟨rfl, (h0.trans (hg0.trans hg1)).step hc2 fun k hk e => by
      have e : k = w.heap.size := e
      omega, hno⟩⟩
    simp [results, Tryz.results40, go_sem, q0]

/-- the series whose block these bytes are, in new memory; or refused -/
def DcP (w : World) (lb : List UInt8) (e : Ending) (w' : World) : Prop :=
  (∃ A m d zs, e = .returned (.tuple #[.slice A m d, .int .i64 0]) ∧ RdOk w w' lb A m d zs) ∨ (e = .returned (.tuple #[.slice none 0 0, .int .i64 91]) ∧ Grew w w' ∧ ∀ zs, BkV zs → lb ≠ blkB (tabT zs) zs)

set_option maxRecDepth 100000 in
set_option maxHeartbeats 4000000 in
theorem decodeK_any (B : Option Addr) (n c : Nat) (lb : List UInt8) (w : World) (h : RB w B n lb) (hn : n ≤ 1099511627776) (hc : n ≤ c ∧ c ≤ 9223372036854775807) :
    Calls Tryz.prog 20 #[.slice B n c] w (DcP w lb) := by
  obtain ⟨ss0, hs0⟩ : ∃ ss0, (∃ zs, BkV zs ∧ lb = blkB (tabT zs) zs) → BkV ss0 ∧ lb = blkB (tabT ss0) ss0 := by
    by_cases he : ∃ zs, BkV zs ∧ lb = blkB (tabT zs) zs
    · obtain ⟨zs, hz⟩ := he
      exact ⟨zs, fun _ => hz⟩
    · exact ⟨[], fun h => absurd h he⟩
  have hmf : ∀ (fn : Fn) (first cap : Array Value) (w : World), (Instr.makeFunc fn first cap).run Tryz.prog w = .ok (.func fn first cap) w := fun _ _ _ _ => rfl
  obtain ⟨W, hW⟩ : ∃ W, W = (w.alloc (.cells #[.slice B n c] 26)).alloc (.cells #[.slice none 0 0] 39) := ⟨_, rfl⟩
  have hgW : Grew w W := by rw [hW]; exact ((Chg.refl _ w).alloc _).alloc _
  have b0 : Blk W w.heap.size 26 #[.slice B n c] := by rw [hW]; exact (Blk.new w _ _).alloc _
  have b1 : Blk W (w.heap.size + 1) 39 #[.slice none 0 0] := by
    rw [hW]
    have := Blk.new (w.alloc (.cells #[.slice B n c] 26)) 39 #[.slice none 0 0]
    rwa [World.size_alloc] at this
  have hCt := dcaught_any (∃ zs, BkV zs ∧ lb = blkB (tabT zs) zs) ss0 w.heap.size (w.heap.size + 1) B n c lb w W hgW b0 b1 (by omega) (h.grew hgW) hn hc hs0
  unfold DcP
  clear hs0
  go_enter Tryz.func20, Tryz.ntmps20
  go_wp2_with fail
  rw [← hW]
  clear hW
  refine hCt.mono ?_
  rintro e w1 (⟨A, m, d, zs, rfl, hb1, hz⟩ | ⟨rfl, hg, hno⟩)
  · have k0 := hb1.cell 0
    simp only [List.getElem?_toArray, List.getElem?_cons_zero] at k0
    clear hCt
    go_wp2
    go_ret2
    exact .inl ⟨A, m, d, zs, rfl, hz⟩
  · replace hno := Lib.hid hno
    clear hCt
    go_wp2
    go_ret2
    exact .inr ⟨rfl, hg, fun zs hz e => hno.out ⟨zs, hz, e⟩⟩
end Go.Proofs.YtlcaaacbookopaaGreatDoor
