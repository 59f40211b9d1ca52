/-
  Several texts in one:
  (block.DecodeMeta)'s closure on bytes that are no meta's: it gives up. Conditions: lengths that memory bears.
  (block.caught), (block.DecodeMeta) on bytes that are no meta's. Conditions: lengths that memory bears.
  The document's reader (tidewrackref9.Reader): a number, a signed one, a text. Conditions: lengths that memory bears.
  The document's bytes of a meta (tidewrackref9.EncodeMeta). Conditions: lengths that memory bears; numbers of 64 bits.
-/
import Derived.Test.YtjoaonppaokhhaaGreatPart49

namespace Go.Proofs.YtjoaonppaokhhaaGreat
open Go.RowKit

/-- a meta's bytes, out of its numbers -/
theorem metB_of {l : List UInt8} {x0 a0 a1 a2 v4 v5 : Nat} {xs : List Nat} (h : l = headM ++ uv x0 ++ uv a0 ++ uv a1 ++ uv a2 ++ uv v4 ++ uv v5 ++ (uv xs.length ++ xs.flatMap uv)) :
    l = metB ⟨x0, uz v4, uz v5, a0, xs, a1, a2⟩ := by
  rw [h]
  unfold metB uvs
  simp [zz_uz]

set_option maxRecDepth 100000 in
set_option maxHeartbeats 16000000 in
theorem closure_no (w : World) (gb gm : Nat) (B : Option Addr) (N c : Nat) (lb : List UInt8) (hbb : Blk w gb 42 #[.slice B N c]) (hbm : Blk w gm 28 #[.int .u64 0, .int .i64 0, .int .i64 0, .int .i64 0, .slice none 0 0, .int .i64 0, .int .i64 0])
    (hr : RB w B N lb) (hBm : ∀ ad, B = some ad → 0 < N → ad.block ≠ gm) (hc : N ≤ c ∧ c ≤ 9223372036854775807) (hn : N ≤ 140737488350000) (hno : ∀ m, metOk m = true → MetW m → lb ≠ encM m) :
    Calls Tryz.prog 116 #[.pointer (some ⟨gb, 0, none⟩), .pointer (some ⟨gm, 0, none⟩)] w
      fun e w' => GvU e ∧ Chg (fun k => k = gm) w w' := by
  have hBlt : ∀ ad, B = some ad → 0 < N → ad.block < w.heap.size := fun ad e h0 => hr.lt ad e h0
  have hO := open_any B N c lb w hr hn hc
  have hmf : ∀ (fn : Fn) (first cap : Array Value) (w : World), (Instr.makeFunc fn first cap).run Tryz.prog w = .ok (.func fn first cap) w := fun _ _ _ _ => rfl
  have b0 := hbb.cell 0
  simp only [List.getElem?_toArray, List.getElem?_cons_zero] at b0
  replace hno := Lib.hid hno
  unfold GvU
  go_enter Tryz.func116, Tryz.ntmps116
  go_wp2_with fail
  refine hO.mono ?_
  rintro e w1 (⟨g, l, r, n, hlb, hlr, hNn, rfl, hg, hrd, hg1⟩ | ⟨he, _, hg1⟩)
  rotate_left
  · unfold GvU at he
    subst he
    go_wp2
    exact ⟨rfl, rfl, Chg.of_grew hg1⟩
  subst hNn
  have hll : l.length = n := hrd.rb.1
  have ht4 : Hid (l.take 4 = headM) := Lib.hid (by rw [hlr]; rfl)
  have hlb2 : Hid (lb = sealB l) := Lib.hid hlb
  replace hll := Lib.hid hll
  clear hlb hlr
  obtain ⟨gv, hgv⟩ : ∃ gv, w1.heap.size = gv := ⟨_, rfl⟩
  obtain ⟨W1, hW1⟩ : ∃ W1, W1 = w1.alloc (.cells #[.pointer (some ⟨g, 0, none⟩)] 135) := ⟨_, rfl⟩
  have hgW : Grew w1 W1 := by rw [hW1]; exact (Chg.refl _ w1).alloc _
  have hbv : Blk W1 gv 135 #[.pointer (some ⟨g, 0, none⟩)] := by rw [hW1, ← hgv]; exact Blk.new _ _ _
  have hD0 : DnS w W1 l gm gv g B n c 4 #[.int .u64 0, .int .i64 0, .int .i64 0, .int .i64 0, .slice none 0 0, .int .i64 0, .int .i64 0] :=
    ⟨hrd.chg hgW (fun e => e) (fun _ _ _ e => e), (hbm.grew hg1).grew hgW, hbv, fun ad e _ => hBm ad e (by omega), Chg.of_grew (hg1.trans hgW), hg⟩
  have v0 := hD0.look
  rw [hW1] at v0
  clear hO b0 hbb hbm hrd hg1 hgW hbv
  rw [← hgv] at v0
  replace hgv := Lib.hid hgv
  go_wp2_with fail
  rw [← hW1, hgv.out]
  refine (rnumber_any g B n c l 4 W1 hD0.rd (by omega)).mono ?_
  rintro e w2 (⟨x0, q1, hx0, hq1, hl1, rfl, hT⟩ | ⟨he, hg9⟩)
  rotate_left
  · unfold GvU at he
    subst he
    go_wp2
    exact ⟨rfl, rfl, hD0.ch.trans (Chg.of_grew hg9)⟩
  have ht1 : Hid (l.take q1 = headM ++ uv x0) := Lib.hid (by rw [hl1, ht4.out])
  clear hl1 ht4
  have hD1 := (hD0.to hT)
  have m0 := hD1.bm.cell 0
  have mf := hD1.bm.frozen 0
  simp only [List.getElem?_toArray, List.getElem?_cons_zero] at m0
  have hD2 := hD1.set 0 (.int .u64 (x0 : Int))
  simp only [List.setIfInBounds_toArray, List.set_cons_zero] at hD2
  obtain ⟨w3, hw3⟩ : ∃ w3, w3 = w2.setCell ⟨gm, 0, none⟩ (.int .u64 (x0 : Int)) := ⟨_, rfl⟩
  rw [← hw3] at hD2
  obtain ⟨w4, hw4⟩ : ∃ w4, w4 = w3.alloc (.cells #[.pointer (some ⟨gm, 3, none⟩), .pointer (some ⟨gm, 5, none⟩), .pointer (some ⟨gm, 6, none⟩)] 137) := ⟨_, rfl⟩
  have hg4 : Grew w3 w4 := by rw [hw4]; exact (Chg.refl _ w3).alloc _
  obtain ⟨gp, hgp⟩ : ∃ gp, w3.heap.size = gp := ⟨_, rfl⟩
  have hbp : Blk w4 gp 137 #[.pointer (some ⟨gm, 3, none⟩), .pointer (some ⟨gm, 5, none⟩), .pointer (some ⟨gm, 6, none⟩)] := by rw [hw4, ← hgp]; exact Blk.new _ _ _
  have hD4 := hD2.grew hg4
  have hgp2 : w2.heap.size = gp := by rw [← hgp, hw3]; simp
  replace hgp2 := Lib.hid hgp2
  clear hT hD0 hW1 hD1 v0 hgp
  go_wp2
  rw [← hw3, ← hw4, hgp2.out]
  clear m0 mf hw3 hw4 hgp2 hg4 hD2
  refine wp_loop_rounds 4 ?_
  rw [rounds_succ]
  have p0 := hbp.cell 0
  have v0 := hD4.look
  simp only [List.getElem?_toArray, List.getElem?_cons_zero] at p0
  go_wp2_with fail
  refine (rnumber_any g B n c l q1 w4 hD4.rd (by omega)).mono ?_
  rintro e w10 (⟨a0, q2, ha0, hq2, hla0, rfl, hT0⟩ | ⟨he, hg9⟩)
  rotate_left
  · unfold GvU at he
    subst he
    go_wp2
    exact ⟨rfl, rfl, hD4.ch.trans (Chg.of_grew hg9)⟩
  have ht2 : Hid (l.take q2 = headM ++ uv x0 ++ uv a0) := Lib.hid (by rw [hla0, ht1.out])
  clear hla0 ht1
  have hE0 := hD4.to hT0
  have hbq0 := hbp.chg hT0.ch (fun e => Blk.neT hbp hD4.rd.bk (by decide) e)
  clear p0 v0 hT0
  by_cases l0 : (a0 : Int) < 2147483648
  rotate_left
  · go_wp2_with fail
    rw [show decide ((a0 : Int) < 2147483648) = false from decide_eq_false (by omega)]
    refine (must_no _).mono ?_
    rintro e wz ⟨he, rfl⟩
    unfold GvU at he
    subst he
    go_wp2
    exact ⟨rfl, rfl, hE0.ch⟩
  go_wp2_with fail
  refine (must_yes _).mono ?_
  rintro e wx0 ⟨rfl, rfl⟩
  have m0 := hE0.bm.cell 3
  have mf0 := hE0.bm.frozen 3
  simp only [List.getElem?_toArray, List.getElem?_cons_succ, List.getElem?_cons_zero] at m0
  have hF0 := hE0.set 3 (.int .i64 (a0 : Int))
  simp only [List.setIfInBounds_toArray, List.set_cons_succ, List.set_cons_zero] at hF0
  have hbr0 := hbq0.far (p := ⟨gm, 3, none⟩) (Blk.neT hbq0 hE0.bm (by decide)) (.int .i64 (a0 : Int))
  go_wp2
  obtain ⟨w11, hw0⟩ : ∃ W, W = wx0.setCell ⟨gm, 3, none⟩ (.int .i64 (a0 : Int)) := ⟨_, rfl⟩
  rw [← hw0] at hF0 hbr0 ⊢
  clear hw0 m0 mf0 hE0 hbq0
  rw [rounds_succ]
  have p1 := hbr0.cell 1
  have v1 := hF0.look
  simp only [List.getElem?_toArray, List.getElem?_cons_succ, List.getElem?_cons_zero] at p1
  go_wp2_with fail
  refine (rnumber_any g B n c l q2 w11 hF0.rd (by omega)).mono ?_
  rintro e w13 (⟨a1, q3, ha1, hq3, hla1, rfl, hT1⟩ | ⟨he, hg9⟩)
  rotate_left
  · unfold GvU at he
    subst he
    go_wp2
    exact ⟨rfl, rfl, hF0.ch.trans (Chg.of_grew hg9)⟩
  have ht3 : Hid (l.take q3 = headM ++ uv x0 ++ uv a0 ++ uv a1) := Lib.hid (by rw [hla1, ht2.out])
  clear hla1 ht2
  have hE1 := hF0.to hT1
  have hbq1 := hbr0.chg hT1.ch (fun e => Blk.neT hbr0 hF0.rd.bk (by decide) e)
  clear p1 v1 hT1
  by_cases l1 : (a1 : Int) < 2147483648
  rotate_left
  · go_wp2_with fail
    rw [show decide ((a1 : Int) < 2147483648) = false from decide_eq_false (by omega)]
    refine (must_no _).mono ?_
    rintro e wz ⟨he, rfl⟩
    unfold GvU at he
    subst he
    go_wp2
    exact ⟨rfl, rfl, hE1.ch⟩
  go_wp2_with fail
  refine (must_yes _).mono ?_
  rintro e wx1 ⟨rfl, rfl⟩
  have m1 := hE1.bm.cell 5
  have mf1 := hE1.bm.frozen 5
  simp only [List.getElem?_toArray, List.getElem?_cons_succ, List.getElem?_cons_zero] at m1
  have hF1 := hE1.set 5 (.int .i64 (a1 : Int))
  simp only [List.setIfInBounds_toArray, List.set_cons_succ, List.set_cons_zero] at hF1
  have hbr1 := hbq1.far (p := ⟨gm, 5, none⟩) (Blk.neT hbq1 hE1.bm (by decide)) (.int .i64 (a1 : Int))
  go_wp2
  obtain ⟨w14, hw1⟩ : ∃ W, W = wx1.setCell ⟨gm, 5, none⟩ (.int .i64 (a1 : Int)) := ⟨_, rfl⟩
  rw [← hw1] at hF1 hbr1 ⊢
  clear hw1 m1 mf1 hE1 hbq1
  rw [rounds_succ]
  have p2 := hbr1.cell 2
  have v2 := hF1.look
  simp only [List.getElem?_toArray, List.getElem?_cons_succ, List.getElem?_cons_zero] at p2
  go_wp2_with fail
  refine (rnumber_any g B n c l q3 w14 hF1.rd (by omega)).mono ?_
  rintro e w16 (⟨a2, q4, ha2, hq4, hla2, rfl, hT2⟩ | ⟨he, hg9⟩)
  rotate_left
  · unfold GvU at he
    subst he
    go_wp2
    exact ⟨rfl, rfl, hF1.ch.trans (Chg.of_grew hg9)⟩
  have ht4 : Hid (l.take q4 = headM ++ uv x0 ++ uv a0 ++ uv a1 ++ uv a2) := Lib.hid (by rw [hla2, ht3.out])
  clear hla2 ht3
  have hE2 := hF1.to hT2
  have hbq2 := hbr1.chg hT2.ch (fun e => Blk.neT hbr1 hF1.rd.bk (by decide) e)
  clear p2 v2 hT2
  by_cases l2 : (a2 : Int) < 2147483648
  rotate_left
  · go_wp2_with fail
    rw [show decide ((a2 : Int) < 2147483648) = false from decide_eq_false (by omega)]
    refine (must_no _).mono ?_
    rintro e wz ⟨he, rfl⟩
    unfold GvU at he
    subst he
    go_wp2
    exact ⟨rfl, rfl, hE2.ch⟩
  go_wp2_with fail
  refine (must_yes _).mono ?_
  rintro e wx2 ⟨rfl, rfl⟩
  have m2 := hE2.bm.cell 6
  have mf2 := hE2.bm.frozen 6
  simp only [List.getElem?_toArray, List.getElem?_cons_succ, List.getElem?_cons_zero] at m2
  have hF2 := hE2.set 6 (.int .i64 (a2 : Int))
  simp only [List.setIfInBounds_toArray, List.set_cons_succ, List.set_cons_zero] at hF2
  have hbr2 := hbq2.far (p := ⟨gm, 6, none⟩) (Blk.neT hbq2 hE2.bm (by decide)) (.int .i64 (a2 : Int))
  go_wp2
  obtain ⟨w17, hw2⟩ : ∃ W, W = wx2.setCell ⟨gm, 6, none⟩ (.int .i64 (a2 : Int)) := ⟨_, rfl⟩
  rw [← hw2] at hF2 hbr2 ⊢
  clear hw2 m2 mf2 hE2 hbq2
  rw [rounds_succ]
  go_wp2_with fail
  have v9 := hF2.look
  have hcs : CellsIn [gv] w17 := cellsIn_one hF2.bv
  have hngv : ∀ k', k' ∈ [gv] → ¬ (k' = g ∨ k' = gm) := fun k' hk' => by
    simp only [List.mem_cons, List.not_mem_nil, or_false] at hk'
    subst hk'
    rintro (e | e)
    · exact Blk.neT hF2.bv hF2.rd.bk (by decide) e
    · exact Blk.neT hF2.bv hF2.bm (by decide) e
  by_cases hr4 : (uintR l (q4 : Int)).2.2 = 0
  rotate_left
  · refine wp_region_die [] [0, 2] 1 (by kernel_rfl) rfl (by kernel_rfl) (fun c a d v w h => ⟨by have h1 := h.1; rwa [put_defers] at h1, h.2⟩) (by decide) ?_
    simp only [List.filterMap_cons, List.filterMap_nil, List.getElem?_cons_zero, List.getElem?_cons_succ, instr, chk, List.nil_append]
    go_wp2_with fail
    refine OnlyN.normal (dieQ_of ?_)
    go_wp2_with fail
    refine (rsigned_no g B n c l q4 _ (hF2.grew (Chg.refl _ w17).drew).rd (by omega) hr4).mono ?_
    rintro e wz ⟨he, hg9⟩
    unfold GvU at he
    subst he
    exact ⟨rfl, rfl, (hF2.ch.trans (Chg.of_grew (Chg.refl _ w17).drew)).trans (Chg.of_grew hg9)⟩
  obtain ⟨v4, q5, hu4, hv4, hq5, _, hl5⟩ := uintR_part hr4
  have ht5 : Hid (l.take q5 = headM ++ uv x0 ++ uv a0 ++ uv a1 ++ uv a2 ++ uv v4) := Lib.hid (by rw [hl5, ht4.out])
  clear hr4 hl5
  replace hu4 := Lib.hid hu4
  by_cases hr5 : (uintR l (q5 : Int)).2.2 = 0
  rotate_left
  · refine wp_region_dieS [] [gv] [0, 1, 2] 3 (by kernel_rfl) rfl (by kernel_rfl) (fun c a d v w h => ⟨by have h1 := h.1; rwa [put_defers] at h1, h.2⟩) (by decide) hcs ?_
    simp only [List.filterMap_cons, List.filterMap_nil, List.getElem?_cons_zero, List.getElem?_cons_succ, wpU, tagOf, List.cons_append, List.nil_append]
    intro K hK
    go_wp2_with fail
    refine OnlyN.normal (hK _ _ (fun _ => ⟨_, _, _, rfl, rfl, by simp⟩) ?_)
    clear hK K
    intro K hK
    go_wp2_with fail
    refine (rsigned_ok g B n c l q4 v4 q5 _ (hF2.grew (Chg.refl _ w17).drew).rd (by omega) hu4.out).mono ?_
    rintro e w20 ⟨rfl, hT3⟩
    have hG1 := (hF2.grew (Chg.refl _ w17).drew).to hT3
    have hC1 : Chg (fun k => k = g ∨ k = gm) w17 w20 := (Chg.refl _ w17).drew.trans (hT3.ch.mono fun k _ e => Or.inl e)
    go_wp2_with fail
    refine OnlyN.normal (hK _ _ (sameIn_of hC1 hcs hngv) ?_)
    clear hK K hT3 v9
    have v9 := hG1.look
    intro K hK
    go_wp2_with fail
    refine OnlyN.normal (hK _ _ (fun _ => ⟨_, _, _, rfl, rfl, by simp⟩) ?_)
    clear hK K
    go_wp2_with fail
    refine OnlyN.normal (dieQ_of ?_)
    go_wp2_with fail
    refine (rsigned_no g B n c l q5 _ hG1.rd (by omega) hr5).mono ?_
    rintro e wz ⟨he, hg9⟩
    unfold GvU at he
    subst he
    exact ⟨rfl, rfl, hG1.ch.trans (Chg.of_grew hg9)⟩
  obtain ⟨v5, q6, hu5, hv5, hq6, _, hl6⟩ := uintR_part hr5
  have ht6 : Hid (l.take q6 = headM ++ uv x0 ++ uv a0 ++ uv a1 ++ uv a2 ++ uv v4 ++ uv v5) := Lib.hid (by rw [hl6, ht5.out])
  clear hr5 hl6 ht5 ht4
  replace hu5 := Lib.hid hu5
  refine wp_region_textS [] [gv] (by kernel_rfl) (by kernel_rfl) hcs ?_
  simp only [wpU, tagOf, chk, List.cons_append, List.nil_append]
  intro K hK
  go_wp2_with fail
  refine OnlyN.normal (hK _ _ (fun _ => ⟨_, _, _, rfl, rfl, by simp⟩) ?_)
  clear hK K
  intro K hK
  go_wp2_with fail
  refine (rsigned_ok g B n c l q4 v4 q5 _ (hF2.grew (Chg.refl _ w17).drew).rd (by omega) hu4.out).mono ?_
  rintro e w20 ⟨rfl, hT3⟩
  have hG1 := (hF2.grew (Chg.refl _ w17).drew).to hT3
  have hC1 : Chg (fun k => k = g ∨ k = gm) w17 w20 := (Chg.refl _ w17).drew.trans (hT3.ch.mono fun k _ e => Or.inl e)
  go_wp2_with fail
  refine OnlyN.normal (hK _ _ (sameIn_of hC1 hcs hngv) ?_)
  clear hK K hT3 v9
  have v9 := hG1.look
  intro K hK
  go_wp2_with fail
  refine OnlyN.normal (hK _ _ (fun _ => ⟨_, _, _, rfl, rfl, by simp⟩) ?_)
  clear hK K
  intro K hK
  go_wp2_with fail
  refine (rsigned_ok g B n c l q5 v5 q6 w20 hG1.rd (by omega) hu5.out).mono ?_
  rintro e w21 ⟨rfl, hT4⟩
  have hG2 := hG1.to hT4
  have hC2 : Chg (fun k => k = g ∨ k = gm) w17 w21 := hC1.trans (hT4.ch.mono fun k _ e => Or.inl e)
  go_wp2_with fail
  refine OnlyN.normal (hK _ _ (sameIn_of hC2 hcs hngv) ?_)
  clear hK K hT4 v9 hG1 hC1
  have e1 := hG2.bm.cell 1
  have f1 := hG2.bm.frozen 1
  simp only [List.getElem?_toArray, List.getElem?_cons_succ, List.getElem?_cons_zero] at e1
  have hG3 := hG2.set 1 (.int .i64 (uz v4))
  simp only [List.setIfInBounds_toArray, List.set_cons_succ, List.set_cons_zero] at hG3
  have hC3 : Chg (fun k => k = g ∨ k = gm) w17 (w21.setCell ⟨gm, 1, none⟩ (.int .i64 (uz v4))) := hC2.setCell (p := ⟨gm, 1, none⟩) (.inr (.inr rfl)) _
  intro K hK
  go_wp2_with fail
  refine OnlyN.normal (hK _ _ (sameIn_of hC3 hcs hngv) ?_)
  clear hK K
  have e2 := hG3.bm.cell 2
  have f2 := hG3.bm.frozen 2
  simp only [List.getElem?_toArray, List.getElem?_cons_succ, List.getElem?_cons_zero] at e2
  have hG4 := hG3.set 2 (.int .i64 (uz v5))
  simp only [List.setIfInBounds_toArray, List.set_cons_succ, List.set_cons_zero] at hG4
  have hC4 : Chg (fun k => k = g ∨ k = gm) w17 ((w21.setCell ⟨gm, 1, none⟩ (.int .i64 (uz v4))).setCell ⟨gm, 2, none⟩ (.int .i64 (uz v5))) := hC3.setCell (p := ⟨gm, 2, none⟩) (.inr (.inr rfl)) _
  intro K hK
  go_wp2_with fail
  refine OnlyN.normal (hK _ _ (sameIn_of hC4 hcs hngv) ?_)
  clear hK K
  refine OnlyN.normal ?_
  obtain ⟨w22, hw22⟩ : ∃ W, W = (w21.setCell ⟨gm, 1, none⟩ (.int .i64 (uz v4))).setCell ⟨gm, 2, none⟩ (.int .i64 (uz v5)) := ⟨_, rfl⟩
  rw [← hw22] at hG4 ⊢
  clear hw22 hC4 hC3 hC2 hG3 hG2 e1 f1 e2 f2 hngv hcs hF2 hF1 hF0 hbr0 hbr1 hbr2 hD4 hbp
  have v9 := hG4.look
  go_wp2_with fail
  refine (rows_any ⟨x0, uz v4, uz v5, (a0 : Int), [], (a1 : Int), (a2 : Int)⟩ w w22 l gm gv g B n c q6 hG4 (fun ad e h0 => hBlt ad e (by omega)) (by omega)).mono ?_
  rintro e w23 (⟨xs, q7, A2, d2, hxl, hxs, hq7, hl7, rfl, hD5, hA5⟩ | ⟨he, hcz⟩)
  rotate_left
  · unfold GvU at he
    subst he
    go_wp2
    exact ⟨rfl, rfl, hcz⟩
  have ht7 : Hid (l.take q7 = headM ++ uv x0 ++ uv a0 ++ uv a1 ++ uv a2 ++ uv v4 ++ uv v5 ++ (uv xs.length ++ xs.flatMap uv)) := Lib.hid (by rw [hl7, ht6.out])
  clear hG4 v9 hl7 ht6
  obtain ⟨p, hp⟩ : ∃ p, xs.length = p := ⟨_, rfl⟩
  rw [hp] at hD5 hA5 hxl
  clear hp
  have v9 := hD5.look
  have z0 := hD5.rd.bk.cell 0
  have z1 := hD5.rd.bk.cell 1
  have y0 := hD5.bm.cell 0
  have y1 := hD5.bm.cell 1
  have y2 := hD5.bm.cell 2
  have y3 := hD5.bm.cell 3
  have y4 := hD5.bm.cell 4
  have y5 := hD5.bm.cell 5
  have y6 := hD5.bm.cell 6
  simp only [List.getElem?_toArray, List.getElem?_cons_succ, List.getElem?_cons_zero] at z0 z1 y0 y1 y2 y3 y4 y5 y6
  have hMay := fun W1 (hW1 : Grew w23 W1) => may_any ⟨x0, uz v4, uz v5, (a0 : Int), xs, (a1 : Int), (a2 : Int)⟩ A2 p d2 W1 ((OE.re (by decide) hA5).grew hW1) (by omega)
  have hch := hD5.ch
  by_cases hend : q7 = n
  · subst hend
    have hm : metOk ⟨x0, uz v4, uz v5, (a0 : Int), xs, (a1 : Int), (a2 : Int)⟩ = false := by
      cases hm : metOk ⟨x0, uz v4, uz v5, (a0 : Int), xs, (a1 : Int), (a2 : Int)⟩
      · rfl
      · exfalso
        refine hno.out _ hm ⟨hx0, uz_ge hv4, uz_ge hv5, hxs⟩ ?_
        rw [hlb2.out]
        have e2 := ht7.out
        rw [List.take_of_length_le (by have := hll.out; omega)] at e2
        unfold encM
        exact congrArg sealB (metB_of e2)
    rw [hm] at hMay
    replace hMay := Lib.hid hMay
    clear hm
    go_wp2_with fail
    refine wp_region_die [(3, 1)] [0, 1, 2, 3, 4, 5, 6, 7, 8, 9, 10, 11, 12, 13] 14 (by kernel_rfl) rfl (by kernel_rfl) (fun c a d v w h => ⟨by have h1 := h.1; rwa [put_defers] at h1, h.2⟩) (by decide) ?_
    simp only [List.filterMap_cons, List.filterMap_nil, List.getElem?_cons_zero, List.getElem?_cons_succ, instr, chk, look, Nat.reduceBEq, if_true, if_false, Nat.reduceEqDiff, List.cons_append, List.nil_append]
    go_wp2_with fail
    refine (hMay.out _ (Chg.refl _ w23).drew).mono ?_
    rintro e w24 ⟨rfl, hg24⟩
    go_wp2_with fail
    refine OnlyN.normal (dieQ_of ?_)
    go_wp2_with fail
    refine (must_no _).mono ?_
    rintro e wz ⟨he, rfl⟩
    unfold GvU at he
    subst he
    exact ⟨rfl, rfl, (hch.trans (Chg.of_grew (Chg.refl _ w23).drew)).trans (Chg.of_grew hg24)⟩
  · have hne : ¬ (q7 : Int) = (n : Int) := by omega
    clear hMay
    go_wp2_with fail
    refine wp_region_die [(3, 1)] [0, 1, 2, 3, 4, 5, 6, 7, 8, 9, 10, 11, 12, 13] 14 (by kernel_rfl) rfl (by kernel_rfl) (fun c a d v w h => ⟨by have h1 := h.1; rwa [put_defers] at h1, h.2⟩) (by decide) ?_
    simp only [List.filterMap_cons, List.filterMap_nil, List.getElem?_cons_zero, List.getElem?_cons_succ, instr, chk, look, Nat.reduceBEq, if_true, if_false, Nat.reduceEqDiff, List.cons_append, List.nil_append]
    go_wp2_with fail
    refine OnlyN.normal (dieQ_of ?_)
    go_wp2_with fail
    refine (must_no _).mono ?_
    rintro e wz ⟨he, rfl⟩
    unfold GvU at he
    subst he
    exact ⟨rfl, rfl, hch.trans (Chg.of_grew (Chg.refl _ w23).drew)⟩
end Go.Proofs.YtjoaonppaokhhaaGreat

namespace Go.Proofs.YtjoaonppaokhhaaGreat
open Go.RowKit

set_option maxRecDepth 100000 in
set_option maxHeartbeats 4000000 in
theorem caught1_panic (p : Addr) (b : Bool) (w : World) (hc : w.cell? p = some (.bool b)) (hz : w.frozen? p = false) (hp : p.block < w.heap.size) :
    CallsD Tryz.prog 130 #[.pointer (some p)] (.panicking [{ v := .iface 150 (.agg #[]), recovered := false }]) w fun e u' w' =>
      e = .returned (.tuple #[]) ∧ u' = .panicking [{ v := .iface 150 (.agg #[]), recovered := true }] ∧ Chg (fun k => k = p.block) w w' ∧ w'.cell? p = some (.bool false) := by
  have hta : ∀ w, (Instr.typeAssert (.iface 150 (.agg #[])) 20 150 true).run Tryz.prog w = .ok (.tuple #[.agg #[], .bool true]) w := fun _ => by kernel_rfl
  have hcW : (w.alloc (.cells #[] 150)).cell? p = some (.bool b) := Chg.cell ((Chg.refl (fun _ => False) w).alloc _) hc (fun e => e)
  have hzW : (w.alloc (.cells #[] 150)).frozen? p = false := by rw [Chg.frozen ((Chg.refl (fun _ => False) w).alloc (.cells #[] 150)) hp (fun e => e)]; exact hz
  have hfin : Chg (fun k => k = p.block) w ((w.alloc (.cells #[] 150)).setCell p (.bool false)) := ((Chg.refl (fun k => k = p.block) w).alloc _).setCell (.inr rfl) _
  have hcell : ((w.alloc (.cells #[] 150)).setCell p (.bool false)).cell? p = some (.bool false) := World.cell?_setCell_same _ _ _ hcW
  refine callsD_of_wpS Tryz.func130 rfl fun c₀ cs hu => ?_
  apply wpS_seq
  apply wpS_region
  simp [wpOpsS, go_sem, recoverD, hu, Tryz.ntmps130, Exit.thenS]
  apply wpS_seq
  apply wpS_region
  simp [wpOpsS, go_sem, Exit.thenS]
  show Code.wpS _ _ _ { tmps := #[.pointer (some p), .iface 150 (.agg #[]), undef, undef, .iface 150 (.agg #[]), .iface 150 (.agg #[]), .bool true, undef, undef, undef, undef, undef, undef, undef, undef], defers := [] } _ _
  refine wpS_of_wp ?_
  go_wp2
  cases c₀
  simp_all [bodyPostS, results, Tryz.results130]

set_option maxRecDepth 100000 in
set_option maxHeartbeats 4000000 in
theorem caught_no (w : World) (gb gm : Nat) (B : Option Addr) (n c : Nat) (lb : List UInt8) (hbb : Blk w gb 42 #[.slice B n c]) (hbm : Blk w gm 28 #[.int .u64 0, .int .i64 0, .int .i64 0, .int .i64 0, .slice none 0 0, .int .i64 0, .int .i64 0])
    (hr : RB w B n lb) (hBm : ∀ ad, B = some ad → 0 < n → ad.block ≠ gm) (hc : n ≤ c ∧ c ≤ 9223372036854775807) (hn : n ≤ 140737488350000) (hno : ∀ m, metOk m = true → MetW m → lb ≠ encM m) :
    Calls Tryz.prog 115 #[.func (.func 116) #[] #[.pointer (some ⟨gb, 0, none⟩), .pointer (some ⟨gm, 0, none⟩)]] w
      fun e w' => e = .returned (.bool false) ∧ Chg (fun k => k = gm) w w' := by
  have hmf : ∀ (fn : Fn) (first cap : Array Value) (w : World), (Instr.makeFunc fn first cap).run Tryz.prog w = .ok (.func fn first cap) w := fun _ _ _ _ => rfl
  have hg0 : Grew w (w.alloc (.cells #[.bool false] 4)) := (Chg.refl _ w).alloc _
  have hbk := Blk.new w 4 #[.bool false]
  have hgl := hbm.lt
  have hCl := closure_no _ gb gm B n c lb (hbb.grew hg0) (hbm.grew hg0) (hr.grew hg0) hBm hc hn hno
  clear hno
  go_enter_defers Tryz.func115, Tryz.ntmps115
  go_wp2_with fail
  refine hCl.mono ?_
  rintro e w1 ⟨he, hc1⟩
  unfold GvU at he
  subst he
  have hk1 := hbk.chg hc1 (by omega)
  clear hCl
  go_wp2
  refine leaves_cons (f := 130) (args := #[.pointer (some ⟨w.heap.size, 0, none⟩)]) (by simp) (by simp [go_sem]) ?_
  refine (caught1_panic ⟨w.heap.size, 0, none⟩ false w1 (hk1.cell 0) (hk1.frozen 0) hk1.lt).mono ?_
  rintro e u' w'' ⟨rfl, rfl, hc2, q0⟩
  refine ⟨.bool false, ?_, rfl, ((Chg.of_grew hg0).trans hc1).step hc2 fun k hk e => by
    have e : k = w.heap.size := e
    omega⟩
  simp [results, Tryz.results115, go_sem, q0]

set_option maxRecDepth 100000 in
set_option maxHeartbeats 4000000 in
theorem decodeMeta_no (w : World) (B : Option Addr) (n c : Nat) (lb : List UInt8) (hr : RB w B n lb) (hc : n ≤ c ∧ c ≤ 9223372036854775807) (hn : n ≤ 140737488350000) (hno : ∀ m, metOk m = true → MetW m → lb ≠ encM m) :
    Calls Tryz.prog 102 #[.slice B n c] w (MtR w ⟨0, 0, 0, 0, [], 0, 0⟩ 92) := by
  have hmf : ∀ (fn : Fn) (first cap : Array Value) (w : World), (Instr.makeFunc fn first cap).run Tryz.prog w = .ok (.func fn first cap) w := fun _ _ _ _ => rfl
  obtain ⟨W, hW⟩ : ∃ W, W = ((w.alloc (.cells #[.slice B n c] 42)).alloc (.cells #[.int .u64 0, .int .i64 0, .int .i64 0, .int .i64 0, .slice none 0 0, .int .i64 0, .int .i64 0] 28)).alloc (.cells #[.int .u64 0, .int .i64 0, .int .i64 0, .int .i64 0, .slice none 0 0, .int .i64 0, .int .i64 0] 28) := ⟨_, rfl⟩
  have hgW : Grew w W := by rw [hW]; exact (((Chg.refl _ w).alloc _).alloc _).alloc _
  have b0 : Blk W w.heap.size 42 #[.slice B n c] := by rw [hW]; exact ((Blk.new w _ _).alloc _).alloc _
  have b1 : Blk W (w.heap.size + 1) 28 #[.int .u64 0, .int .i64 0, .int .i64 0, .int .i64 0, .slice none 0 0, .int .i64 0, .int .i64 0] := by
    rw [hW]
    have := (Blk.new (w.alloc (.cells #[.slice B n c] 42)) 28 #[.int .u64 0, .int .i64 0, .int .i64 0, .int .i64 0, .slice none 0 0, .int .i64 0, .int .i64 0]).alloc (.cells #[.int .u64 0, .int .i64 0, .int .i64 0, .int .i64 0, .slice none 0 0, .int .i64 0, .int .i64 0] 28)
    rwa [World.size_alloc] at this
  have b2 : Blk W (w.heap.size + 2) 28 #[.int .u64 0, .int .i64 0, .int .i64 0, .int .i64 0, .slice none 0 0, .int .i64 0, .int .i64 0] := by
    rw [hW]
    have := Blk.new ((w.alloc (.cells #[.slice B n c] 42)).alloc (.cells #[.int .u64 0, .int .i64 0, .int .i64 0, .int .i64 0, .slice none 0 0, .int .i64 0, .int .i64 0] 28)) 28 #[.int .u64 0, .int .i64 0, .int .i64 0, .int .i64 0, .slice none 0 0, .int .i64 0, .int .i64 0]
    rwa [World.size_alloc, World.size_alloc] at this
  have hCt := caught_no W w.heap.size (w.heap.size + 2) B n c lb b0 b2 (hr.grew hgW) (fun ad e h0 => by have := hr.lt ad e h0; omega) hc hn hno
  clear hno
  unfold MtR
  go_enter Tryz.func102, Tryz.ntmps102
  go_wp2_with fail
  rw [← hW]
  refine hCt.mono ?_
  rintro e w1 ⟨rfl, hc1⟩
  have hbr := b1.chg hc1 (by omega)
  have g1 : Grew w w1 := hgW.step hc1 fun k hk e => by omega
  have r0 := hbr.cell 0
  have r1 := hbr.cell 1
  have r2 := hbr.cell 2
  have r3 := hbr.cell 3
  have r4 := hbr.cell 4
  have r5 := hbr.cell 5
  have r6 := hbr.cell 6
  have f0 := hbr.frozen 0
  have f1 := hbr.frozen 1
  have f2 := hbr.frozen 2
  have f3 := hbr.frozen 3
  have f4 := hbr.frozen 4
  have f5 := hbr.frozen 5
  have f6 := hbr.frozen 6
  simp only [List.getElem?_toArray, List.getElem?_cons_succ, List.getElem?_cons_zero] at r0 r1 r2 r3 r4 r5 r6
  have hq := ((((((hbr.set 0 (.int .u64 0)).set 1 (.int .i64 0)).set 2 (.int .i64 0)).set 3 (.int .i64 0)).set 4 (.slice none 0 0)).set 5 (.int .i64 0)).set 6 (.int .i64 0)
  simp only [List.setIfInBounds_toArray, List.set_cons_succ, List.set_cons_zero] at hq
  have hcc : Chg (fun k => k = w.heap.size + 1) w1 (((((((w1.setCell ⟨w.heap.size + 1, 0, none⟩ (.int .u64 0)).setCell ⟨w.heap.size + 1, 1, none⟩ (.int .i64 0)).setCell ⟨w.heap.size + 1, 2, none⟩ (.int .i64 0)).setCell ⟨w.heap.size + 1, 3, none⟩ (.int .i64 0)).setCell ⟨w.heap.size + 1, 4, none⟩ (.slice none 0 0)).setCell ⟨w.heap.size + 1, 5, none⟩ (.int .i64 0)).setCell ⟨w.heap.size + 1, 6, none⟩ (.int .i64 0)) :=
    (((((((Chg.refl (fun k => k = w.heap.size + 1) w1).setCell (p := ⟨w.heap.size + 1, 0, none⟩) (.inr rfl) _).setCell (p := ⟨w.heap.size + 1, 1, none⟩) (.inr rfl) _).setCell (p := ⟨w.heap.size + 1, 2, none⟩) (.inr rfl) _).setCell (p := ⟨w.heap.size + 1, 3, none⟩) (.inr rfl) _).setCell (p := ⟨w.heap.size + 1, 4, none⟩) (.inr rfl) _).setCell (p := ⟨w.heap.size + 1, 5, none⟩) (.inr rfl) _).setCell (p := ⟨w.heap.size + 1, 6, none⟩) (.inr rfl) _
  clear hCt hW
  go_wp2
  refine bodyPost_ret (v := .tuple #[.agg #[.int .u64 0, .int .i64 0, .int .i64 0, .int .i64 0, .slice none 0 0, .int .i64 0, .int .i64 0], .int .i64 92]) ?_ rfl ⟨none, 0, rfl, OE.nil _ _ _, g1.step hcc fun k hk e => by omega⟩
  have q0 := hq.cell 0
  have q1 := hq.cell 1
  have q2 := hq.cell 2
  have q3 := hq.cell 3
  have q4 := hq.cell 4
  have q5 := hq.cell 5
  have q6 := hq.cell 6
  simp [results, Tryz.results102, go_sem, q0, q1, q2, q3, q4, q5, q6]
end Go.Proofs.YtjoaonppaokhhaaGreat

namespace Go.Proofs.YtjoaonppaokhhaaGreat
open Go.RowKit

/-- the document's reader: its bytes, at which place it is, whether it is wrong -/
structure RrS (w : World) (g : Nat) (B : Option Addr) (n c : Nat) (l : List UInt8) (q : Nat) (bad : Bool) : Prop where
  bk : Blk w g 80 #[.slice B n c, .int .i64 (q : Int), .bool bad]
  rb : RB w B n l
  ne : ∀ ad, B = some ad → 0 < n → ad.block ≠ g
theorem RrS.chg {w w' : World} {S : Nat → Prop} {g : Nat} {B : Option Addr} {n c : Nat} {l : List UInt8} {q : Nat} {bad : Bool} (h : RrS w g B n c l q bad) (hc : Chg S w w') (h1 : ¬ S g) (h2 : ∀ ad, B = some ad → 0 < n → ¬ S ad.block) : RrS w' g B n c l q bad :=
  ⟨h.bk.chg hc h1, h.rb.far hc h2, h.ne⟩
theorem RrS.grew {w w' : World} {g : Nat} {B : Option Addr} {n c : Nat} {l : List UInt8} {q : Nat} {bad : Bool} (h : RrS w g B n c l q bad) (hc : Grew w w') : RrS w' g B n c l q bad := h.chg hc (fun e => e) fun _ _ _ e => e
theorem RrS.set {w : World} {g : Nat} {B : Option Addr} {n c : Nat} {l : List UInt8} {q : Nat} {bad : Bool} (h : RrS w g B n c l q bad) (b : Bool) : RrS (w.setCell ⟨g, 2, none⟩ (.bool b)) g B n c l q b := by
  have b3 := h.bk.set 2 (.bool b)
  simp only [List.setIfInBounds_toArray, List.set_cons_succ, List.set_cons_zero] at b3
  exact ⟨b3, h.rb.far (Chg.cell1 w g 2 _) (fun ad e h0 hk => h.ne ad e h0 hk), h.ne⟩
theorem RrS.to {w : World} {g : Nat} {B : Option Addr} {n c : Nat} {l : List UInt8} {q : Nat} {bad : Bool} (h : RrS w g B n c l q bad) (q2 : Nat) : RrS (w.setCell ⟨g, 1, none⟩ (.int .i64 (q2 : Int))) g B n c l q2 bad := by
  have b3 := h.bk.set 1 (.int .i64 (q2 : Int))
  simp only [List.setIfInBounds_toArray, List.set_cons_succ, List.set_cons_zero] at b3
  exact ⟨b3, h.rb.far (Chg.cell1 w g 1 _) (fun ad e h0 hk => h.ne ad e h0 hk), h.ne⟩
/-- what a reading leaves -/
structure RrT (w w' : World) (g : Nat) (B : Option Addr) (n c : Nat) (l : List UInt8) (q : Nat) (bad : Bool) : Prop where
  rd : RrS w' g B n c l q bad
  ch : Chg (fun k => k = g) w w'
theorem RrS.two {w W : World} {g : Nat} {B : Option Addr} {n c : Nat} {l : List UInt8} {q : Nat} {bad : Bool} (h : RrS w g B n c l q bad) (hW : Grew w W) (q2 : Nat) (b : Bool) : RrT w ((W.setCell ⟨g, 2, none⟩ (.bool b)).setCell ⟨g, 1, none⟩ (.int .i64 (q2 : Int))) g B n c l q2 b :=
  ⟨((h.grew hW).set b).to q2, ((Chg.of_grew hW).trans (Chg.cell1 W g 2 _)).trans (Chg.cell1 _ g 1 _)⟩
/-- a number's reading: what it is, the place behind, whether it is wrong -/
def rdU (l : List UInt8) (q : Nat) (bad : Bool) : Nat × Nat × Bool := if bad = true then (0, q, true) else ((uintR l (q : Int)).1, (uintR l (q : Int)).2.1, decide ((uintR l (q : Int)).2.2 ≠ 0))
def rdX (l : List UInt8) (q : Nat) (bad : Bool) : List UInt8 × Nat × Bool := if bad = true then ([], q, true) else ((textR l (q : Int)).1, (textR l (q : Int)).2.1, decide ((textR l (q : Int)).2.2 ≠ 0))
theorem rdU_lt (l : List UInt8) (q : Nat) (bad : Bool) : (rdU l q bad).1 < 18446744073709551616 := by
  unfold rdU
  split
  · show 0 < _
    omega
  · exact uintR_lt l q
theorem rdU_at {l : List UInt8} {q v q2 : Nat} (h : uintR l (q : Int) = (v, q2, 0)) : rdU l q false = (v, q2, false) := by
  unfold rdU
  rw [h]
  simp
theorem rdX_at {l t : List UInt8} {q q2 : Nat} (h : textR l (q : Int) = (t, q2, 0)) : rdX l q false = (t, q2, false) := by
  unfold rdX
  rw [h]
  simp
/-- a reading that is right goes on by a byte or more, and stays within -/
theorem rdU_go {l : List UInt8} {q : Nat} {bad : Bool} (h : (rdU l q bad).2.2 = false) : bad = false ∧ q < (rdU l q bad).2.1 ∧ (rdU l q bad).2.1 ≤ l.length := by
  unfold rdU at *
  cases bad
  · rw [if_neg (by simp)] at h ⊢
    have h0 : (uintR l (q : Int)).2.2 = 0 := by simpa using h
    obtain ⟨v, q2, h1, _, h3, h4, _⟩ := uintR_part h0
    rw [h1]
    exact ⟨rfl, h4, h3⟩
  · rw [if_pos rfl] at h
    cases h

set_option maxRecDepth 100000 in
set_option maxHeartbeats 4000000 in
theorem rrUint (g : Nat) (B : Option Addr) (n c : Nat) (l : List UInt8) (q : Nat) (bad : Bool) (w : World) (h : RrS w g B n c l q bad) (hn : n ≤ 140737488355328) :
    Calls Tryz.prog 60 #[.pointer (some ⟨g, 0, none⟩)] w fun e w' => e = .returned (.int .u64 ((rdU l q bad).1 : Int)) ∧ RrT w w' g B n c l (rdU l q bad).2.1 (rdU l q bad).2.2 := by
  have c0 := h.bk.cell 0
  have c1 := h.bk.cell 1
  have c2 := h.bk.cell 2
  simp only [List.getElem?_toArray, List.getElem?_cons_succ, List.getElem?_cons_zero] at c0 c1 c2
  cases bad
  · have hU := fun W (hW : Grew w W) => refUint_any B n c l (q : Int) W (h.rb.grew hW) hn
    have hr : Hid ((rdU l q false) = ((uintR l (q : Int)).1, (uintR l (q : Int)).2.1, decide ((uintR l (q : Int)).2.2 ≠ 0))) := Lib.hid (by unfold rdU; rw [if_neg (by simp)])
    rw [hr.out]
    unfold UintPost uintEnd at hU
    generalize (uintR l (q : Int)).1 = v at *
    generalize (uintR l (q : Int)).2.1 = q2 at *
    generalize (uintR l (q : Int)).2.2 = er at *
    replace hU := Lib.hid hU
    clear hr
    go_enter Tryz.func60, Tryz.ntmps60
    go_wp2
    refine wp_region_text [] (by kernel_rfl) (by kernel_rfl) ?_
    simp only [instr, chk, List.nil_append]
    go_wp2_with fail
    refine (hU.out _ (Chg.refl _ w).drew).mono ?_
    rintro e w1 ⟨rfl, rfl⟩
    go_wp2_with fail
    refine OnlyN.normal ?_
    clear hU
    have f1 := h.bk.frozen 1
    have f2 := h.bk.frozen 2
    have hto := h.two ((Chg.refl _ w).drew) q2 (decide (er ≠ 0))
    have hb : ((er : Int) != 0) = decide (er ≠ 0) := by
      by_cases h0 : er = 0
      · subst h0; simp
      · have : ¬ (er : Int) = 0 := by omega
        simp [h0]
    replace hto := Lib.hid hto
    replace hb := Lib.hid hb
    go_wp2
    go_ret
    refine ⟨by simp, ?_⟩
    have := hto.out
    simp at this
    simp [hb.out]
    exact this
  · go_enter Tryz.func60, Tryz.ntmps60
    go_wp2
    go_ret
    exact ⟨by simp [rdU], h, Chg.refl _ _⟩

set_option maxRecDepth 100000 in
set_option maxHeartbeats 4000000 in
theorem rrInt (g : Nat) (B : Option Addr) (n c : Nat) (l : List UInt8) (q : Nat) (bad : Bool) (w : World) (h : RrS w g B n c l q bad) (hn : n ≤ 140737488355328) :
    Calls Tryz.prog 61 #[.pointer (some ⟨g, 0, none⟩)] w fun e w' => e = .returned (.int .i64 (uz (rdU l q bad).1)) ∧ RrT w w' g B n c l (rdU l q bad).2.1 (rdU l q bad).2.2 := by
  have c0 := h.bk.cell 0
  have c1 := h.bk.cell 1
  have c2 := h.bk.cell 2
  simp only [List.getElem?_toArray, List.getElem?_cons_succ, List.getElem?_cons_zero] at c0 c1 c2
  cases bad
  · have hU := fun W (hW : Grew w W) => refInt_any B n c l (q : Int) W (h.rb.grew hW) hn
    have hr : Hid ((rdU l q false) = ((uintR l (q : Int)).1, (uintR l (q : Int)).2.1, decide ((uintR l (q : Int)).2.2 ≠ 0))) := Lib.hid (by unfold rdU; rw [if_neg (by simp)])
    rw [hr.out]
    unfold IntPost at hU
    generalize (uintR l (q : Int)).1 = v at *
    generalize (uintR l (q : Int)).2.1 = q2 at *
    generalize (uintR l (q : Int)).2.2 = er at *
    replace hU := Lib.hid hU
    clear hr
    go_enter Tryz.func61, Tryz.ntmps61
    go_wp2
    refine wp_region_text [] (by kernel_rfl) (by kernel_rfl) ?_
    simp only [instr, chk, List.nil_append]
    go_wp2_with fail
    refine (hU.out _ (Chg.refl _ w).drew).mono ?_
    rintro e w1 ⟨rfl, rfl⟩
    go_wp2_with fail
    refine OnlyN.normal ?_
    clear hU
    have f1 := h.bk.frozen 1
    have f2 := h.bk.frozen 2
    have hto := h.two ((Chg.refl _ w).drew) q2 (decide (er ≠ 0))
    have hb : ((er : Int) != 0) = decide (er ≠ 0) := by
      by_cases h0 : er = 0
      · subst h0; simp
      · have : ¬ (er : Int) = 0 := by omega
        simp [h0]
    replace hto := Lib.hid hto
    replace hb := Lib.hid hb
    go_wp2
    go_ret
    refine ⟨by simp, ?_⟩
    have := hto.out
    simp at this
    simp [hb.out]
    exact this
  · go_enter Tryz.func61, Tryz.ntmps61
    go_wp2
    go_ret
    exact ⟨by simp [rdU, uz], h, Chg.refl _ _⟩

set_option maxRecDepth 100000 in
set_option maxHeartbeats 4000000 in
theorem rrText (g : Nat) (B : Option Addr) (n c : Nat) (l : List UInt8) (q : Nat) (bad : Bool) (w : World) (h : RrS w g B n c l q bad) (hn : n ≤ 140737488355328) (hc : n ≤ c ∧ c ≤ 9223372036854775807) :
    Calls Tryz.prog 63 #[.pointer (some ⟨g, 0, none⟩)] w fun e w' => e = .returned (.string ⟨(rdX l q bad).1.toArray⟩) ∧ RrT w w' g B n c l (rdX l q bad).2.1 (rdX l q bad).2.2 := by
  have c0 := h.bk.cell 0
  have c1 := h.bk.cell 1
  have c2 := h.bk.cell 2
  simp only [List.getElem?_toArray, List.getElem?_cons_succ, List.getElem?_cons_zero] at c0 c1 c2
  cases bad
  · have hU := fun W (hW : Grew w W) => refText_any B n c l (q : Int) W (h.rb.grew hW) hn hc
    have hr : Hid ((rdX l q false) = ((textR l (q : Int)).1, (textR l (q : Int)).2.1, decide ((textR l (q : Int)).2.2 ≠ 0))) := Lib.hid (by unfold rdX; rw [if_neg (by simp)])
    rw [hr.out]
    unfold TextPost textEnd at hU
    generalize (textR l (q : Int)).1 = v at *
    generalize (textR l (q : Int)).2.1 = q2 at *
    generalize (textR l (q : Int)).2.2 = er at *
    replace hU := Lib.hid hU
    clear hr
    go_enter Tryz.func63, Tryz.ntmps63
    go_wp2
    refine wp_region_text [] (by kernel_rfl) (by kernel_rfl) ?_
    simp only [instr, chk, List.nil_append]
    go_wp2_with fail
    refine (hU.out _ (Chg.refl _ w).drew).mono ?_
    rintro e w1 ⟨rfl, rfl⟩
    go_wp2_with fail
    refine OnlyN.normal ?_
    clear hU
    have f1 := h.bk.frozen 1
    have f2 := h.bk.frozen 2
    have hto := h.two ((Chg.refl _ w).drew) q2 (decide (er ≠ 0))
    have hb : ((er : Int) != 0) = decide (er ≠ 0) := by
      by_cases h0 : er = 0
      · subst h0; simp
      · have : ¬ (er : Int) = 0 := by omega
        simp [h0]
    replace hto := Lib.hid hto
    replace hb := Lib.hid hb
    go_wp2
    go_ret
    refine ⟨by simp, ?_⟩
    have := hto.out
    simp at this
    simp [hb.out]
    exact this
  · go_enter Tryz.func63, Tryz.ntmps63
    go_wp2
    go_ret
    exact ⟨by simp [rdX], h, Chg.refl _ _⟩

end Go.Proofs.YtjoaonppaokhhaaGreat

namespace Go.Proofs.YtjoaonppaokhhaaGreat
open Go.RowKit

/-- new bytes, so many at most -/
def NwB (w : World) (k : Nat) (l : List UInt8) (e : Ending) (w' : World) : Prop := ∃ B n C, n ≤ k ∧ e = .returned (.slice B n C) ∧ OB w' w.heap.size 5 B n C l ∧ Grew w w'
theorem rput (A : Option Addr) (m c : Nat) (l : List UInt8) (v : Nat) (vz : Int) (w : World) (h : RB w A m l) (hvz : vz = v) (hm : m ≤ 140737488355300) (hv : v < 18446744073709551616) :
    Calls Tryz.prog 55 #[.slice A m c, .int .u64 vz] w (NwB w (m + 10) (l ++ uv v)) :=
  (refPutUint_any A m c l v vz w h hvz hm hv).mono fun e w' ⟨B, C, he, ho, hg⟩ => ⟨B, _, C, by have := uv_len10 hv; omega, he, ho, hg⟩
theorem rputI (A : Option Addr) (m c : Nat) (l : List UInt8) (x : Int) (w : World) (h : RB w A m l) (hm : m ≤ 140737488355300) (h1 : -9223372036854775808 ≤ x) (h2 : x ≤ 9223372036854775807) :
    Calls Tryz.prog 54 #[.slice A m c, .int .i64 x] w (NwB w (m + 10) (l ++ uv (zz x))) :=
  (refPutInt_any A m c l x w h hm h1 h2).mono fun e w' ⟨B, C, he, ho, hg⟩ => ⟨B, _, C, by have := uv_len10 (zz_lt h1 h2); omega, he, ho, hg⟩
theorem rputT (A : Option Addr) (m c : Nat) (l : List UInt8) (s : ByteArray) (w : World) (h : RB w A m l) (hm : m + s.size ≤ 140737488355300) :
    Calls Tryz.prog 57 #[.slice A m c, .string s] w (NwB w (m + 10 + s.size) (l ++ uv s.size ++ s.data.toList)) :=
  (refPutText_any A m c l s w h hm).mono fun e w' ⟨B, C, he, ho, hg⟩ => ⟨B, _, C, by have := uv_len10 (v := s.size) (by omega); omega, he, ho, hg⟩

set_option maxRecDepth 100000 in
set_option maxHeartbeats 4000000 in
theorem rsealed_any (base : Nat) (A : Option Addr) (n c : Nat) (l : List UInt8) (w : World) (h : OB w base 5 A n c l) (hb : base ≤ w.heap.size) (hn : n ≤ 140737488355000) :
    Calls Tryz.prog 89 #[.slice A n c] w (SealP w base A n l) := by
  have hS := refSum_any A n c l w h.rb (by omega)
  have hcl := crc_lt l
  unfold SealP sealB
  obtain ⟨s, hs⟩ : ∃ s, crc l = s := ⟨_, rfl⟩
  rw [hs] at hS hcl ⊢
  clear hs
  go_enter Tryz.func89, Tryz.ntmps89
  go_wp2_with fail
  refine hS.mono ?_
  rintro e w1 ⟨rfl, rfl⟩
  go_wp2_with fail
  refine (four_any s _ hcl).mono ?_
  rintro e w2 ⟨D, d, rfl, hD, hg2⟩
  have ho := h.grew hg2
  have hsz := hg2.size
  clear hS
  go_wp2_with (at_builtin; go_loud (refine wpList_appB rfl _ _ rfl base A n c l rfl ho (by omega) D 4 d (four s) rfl hD.rb (by omega) ?_); intro A2 c2 w3 h3)
  go_ret
  exact ⟨A2, c2, rfl, h3.ob, (Chg.of_grew hg2).trans h3.chg⟩

set_option maxRecDepth 100000 in
set_option maxHeartbeats 4000000 in
theorem rencodeMeta_no (m : Met) (D : Option Addr) (p d : Nat) (w : World) (h : RE elU w D p m.src) (hp : p ≤ 9223372036854775807) (hno : metOk m = false) :
    Calls Tryz.prog 56 #[.agg #[.int .u64 (m.id : Int), .int .i64 m.lo, .int .i64 m.hi, .int .i64 m.lv, .slice D p d, .int .i64 m.sr, .int .i64 m.pt]] w (EncP w [] 92) := by
  have hg0 : Grew w (w.alloc (.cells #[.int .u64 (m.id : Int), .int .i64 m.lo, .int .i64 m.hi, .int .i64 m.lv, .slice D p d, .int .i64 m.sr, .int .i64 m.pt] 28)) := (Chg.refl _ w).alloc _
  have hM := metaIs_any m D p d _ (h.grew hg0) hp
  rw [hno] at hM
  unfold EncP
  go_enter Tryz.func56, Tryz.ntmps56
  go_wp2_with fail
  refine hM.mono ?_
  rintro e w1 ⟨rfl, hg1⟩
  clear hM
  go_wp2
  go_ret2
  exact ⟨none, 0, rfl, Own.nil _ _ _ _, hg0.trans hg1⟩

set_option maxRecDepth 100000 in
set_option maxHeartbeats 8000000 in
theorem rencodeMeta_ok (m : Met) (D : Option Addr) (p d : Nat) (w : World) (h : RE elU w D p m.src) (hok : metOk m = true) (hw : MetW m) :
    Calls Tryz.prog 56 #[.agg #[.int .u64 (m.id : Int), .int .i64 m.lo, .int .i64 m.hi, .int .i64 m.lv, .slice D p d, .int .i64 m.sr, .int .i64 m.pt]] w (EncP w (encM m) 0) := by
  obtain ⟨o1, o2, o3, o4, o5, o6⟩ := (metOk_iff m).1 hok
  have hpl : m.src.length = p := h.1
  have hp : p ≤ 64 := by rw [← hpl]; exact o6
  obtain ⟨W, hW⟩ : ∃ W, W = w.alloc (.cells #[.int .u64 (m.id : Int), .int .i64 m.lo, .int .i64 m.hi, .int .i64 m.lv, .slice D p d, .int .i64 m.sr, .int .i64 m.pt] 28) := ⟨_, rfl⟩
  have hg0 : Grew w W := by rw [hW]; exact (Chg.refl _ w).alloc _
  have hb0 : Blk W w.heap.size 28 #[.int .u64 (m.id : Int), .int .i64 m.lo, .int .i64 m.hi, .int .i64 m.lv, .slice D p d, .int .i64 m.sr, .int .i64 m.pt] := by rw [hW]; exact Blk.new w _ _
  have hM := metaIs_any m D p d W (h.grew hg0) (by omega)
  rw [hok] at hM
  obtain ⟨a3, e3⟩ : ∃ a : Nat, m.lv = (a : Int) := ⟨m.lv.toNat, by omega⟩
  obtain ⟨a5, e5⟩ : ∃ a : Nat, m.sr = (a : Int) := ⟨m.sr.toNat, by omega⟩
  obtain ⟨a6, e6⟩ : ∃ a : Nat, m.pt = (a : Int) := ⟨m.pt.toNat, by omega⟩
  have hfin : Hid (encM m = sealB (headM ++ uv m.id ++ uv a3 ++ uv a5 ++ uv a6 ++ uv (zz m.lo) ++ uv (zz m.hi) ++ uv p ++ m.src.flatMap uv)) := Lib.hid (by
    unfold encM metB uvs
    rw [hpl]
    simp [e3, e5, e6])
  have b3 : a3 < 18446744073709551616 := by omega
  have b5 : a5 < 18446744073709551616 := by omega
  have b6 : a6 < 18446744073709551616 := by omega
  obtain ⟨R, hR⟩ : ∃ R, encM m = R := ⟨_, rfl⟩
  rw [hR] at hfin ⊢
  replace hR := Lib.hid hR
  replace hpl := Lib.hid hpl
  have E3 := Lib.hid e3
  have E5 := Lib.hid e5
  have E6 := Lib.hid e6
  clear e3 e5 e6
  unfold EncP
  go_enter Tryz.func56, Tryz.ntmps56
  go_wp2_with fail
  rw [← hW]
  refine hM.mono ?_
  rintro e w1 ⟨rfl, hg1⟩
  have hb1 := hb0.grew hg1
  have m0 := hb1.cell 0
  have ml := hb1.lt
  simp only [List.getElem?_toArray, List.getElem?_cons_zero] at m0
  have gH : Grew w1 (w1.alloc (.cells #[.int .u8 84, .int .u8 87, .int .u8 77, .int .u8 1] 5)) := (Chg.refl _ w1).alloc _
  have rH : RB (w1.alloc (.cells #[.int .u8 84, .int .u8 87, .int .u8 77, .int .u8 1] 5)) (some ⟨w1.heap.size, 0, none⟩) 4 headM := RB.new w1 headM 4 _ 5 rfl rfl
  clear hM hW
  go_wp2_with fail
  refine (rput _ 4 4 headM m.id _ _ rH rfl (by omega) hw.id).mono ?_
  rintro e w2 ⟨B2, n2, c2, l2, rfl, h2, g2⟩
  have gr2 := ((hg0.trans hg1).trans gH).trans g2
  have hb2 := (hb1.grew gH).grew g2
  clear m0 ml hb1 hb0 rH gH g2 hg1
  have m3 := hb2.cell 3
  simp only [List.getElem?_toArray, List.getElem?_cons_succ, List.getElem?_cons_zero] at m3
  rw [E3.out] at m3
  go_wp2_with fail
  refine (rput B2 n2 c2 _ a3 _ _ h2.rb rfl (by omega) b3).mono ?_
  rintro e w3 ⟨B3, n3, c3, l3, rfl, h3, g3⟩
  have gr3 := gr2.trans g3
  have hb3 := hb2.grew g3
  clear m3 hb2 h2 g3 gr2
  have m5 := hb3.cell 5
  simp only [List.getElem?_toArray, List.getElem?_cons_succ, List.getElem?_cons_zero] at m5
  rw [E5.out] at m5
  go_wp2_with fail
  refine (rput B3 n3 c3 _ a5 _ _ h3.rb rfl (by omega) b5).mono ?_
  rintro e w4 ⟨B4, n4, c4, l4, rfl, h4, g4⟩
  have gr4 := gr3.trans g4
  have hb4 := hb3.grew g4
  clear m5 hb3 h3 g4 gr3
  have m6 := hb4.cell 6
  simp only [List.getElem?_toArray, List.getElem?_cons_succ, List.getElem?_cons_zero] at m6
  rw [E6.out] at m6
  go_wp2_with fail
  refine (rput B4 n4 c4 _ a6 _ _ h4.rb rfl (by omega) b6).mono ?_
  rintro e w5 ⟨B5, n5, c5, l5, rfl, h5, g5⟩
  have gr5 := gr4.trans g5
  have hb5 := hb4.grew g5
  clear m6 hb4 h4 g5 gr4
  have m1 := hb5.cell 1
  have m2 := hb5.cell 2
  simp only [List.getElem?_toArray, List.getElem?_cons_succ, List.getElem?_cons_zero] at m1 m2
  have hcs : CellsIn [w.heap.size] w5 := cellsIn_one hb5
  have hsm := Lib.hid fun (Y : World) (g : Grew w5 Y) => sameIn_of g hcs fun _ _ e => e
  go_wp2_with fail
  refine wp_region_textS [] [w.heap.size] (by kernel_rfl) (by kernel_rfl) hcs ?_
  simp only [wpU, tagOf, chk, List.cons_append, List.nil_append]
  have p0 : Grew w5 w5.drew := (Chg.refl _ w5).drew
  intro K hK
  go_wp2_with fail
  refine OnlyN.normal (hK _ _ (fun _ => ⟨_, _, _, rfl, rfl, by simp⟩) ?_)
  clear hK K
  intro K hK
  go_wp2_with fail
  refine (rputI B5 n5 c5 _ m.lo _ (h5.rb.grew p0) (by omega) hw.lo.1 hw.lo.2).mono ?_
  rintro e w6 ⟨B6, n6, c6, l6, rfl, h6, g6⟩
  have k6 := p0.trans g6
  go_wp2_with fail
  refine OnlyN.normal (hK _ _ (hsm.out _ k6) ?_)
  clear hK K m1 m2
  have hb6 := hb5.grew k6
  have m2 := hb6.cell 2
  simp only [List.getElem?_toArray, List.getElem?_cons_succ, List.getElem?_cons_zero] at m2
  intro K hK
  go_wp2_with fail
  refine OnlyN.normal (hK _ _ (fun _ => ⟨_, _, _, rfl, rfl, by simp⟩) ?_)
  clear hK K
  intro K hK
  go_wp2_with fail
  refine (rputI B6 n6 c6 _ m.hi _ h6.rb (by omega) hw.hi.1 hw.hi.2).mono ?_
  rintro e w7 ⟨B7, n7, c7, l7, rfl, h7, g7⟩
  have k7 := k6.trans g7
  go_wp2_with fail
  refine OnlyN.normal (hK _ _ (hsm.out _ k7) ?_)
  clear hK K hsm hcs m2
  have gr7 := gr5.trans k7
  have hb7 := hb6.grew g7
  have m4 := hb7.cell 4
  simp only [List.getElem?_toArray, List.getElem?_cons_succ, List.getElem?_cons_zero] at m4
  clear h5 h6 hb5 hb6 g6 g7 k6 k7 p0 gr5
  go_wp2_with fail
  refine OnlyN.normal ?_
  go_wp2_with fail
  refine (rput B7 n7 c7 _ p _ _ h7.rb rfl (by omega) (by omega)).mono ?_
  rintro e w8 ⟨B8, n8, c8, l8, rfl, h8, g8⟩
  have gr8 := gr7.trans g8
  have hb8 := hb7.grew g8
  have hs7 := gr7.size
  have h8' := Own.mono h8 hs7
  clear m4 h7 hb7 g8 gr7 h8
  obtain ⟨b8, hb8e⟩ : ∃ b, headM ++ uv m.id ++ uv a3 ++ uv a5 ++ uv a6 ++ uv (zz m.lo) ++ uv (zz m.hi) ++ uv p = b := ⟨_, rfl⟩
  rw [hb8e] at h8' hfin
  clear hb8e
  go_wp2
  go_loopw [4, 5] (fun s i wr => ∃ (j : Nat) (B : Option Addr) (n c : Nat), j ≤ p ∧ i = .int .i64 (j : Int) ∧ s = .slice B n c ∧ n ≤ 74 + 10 * j ∧ OB wr w.heap.size 5 B n c (b8 ++ (m.src.take j).flatMap uv) ∧ Blk wr w.heap.size 28 #[.int .u64 (m.id : Int), .int .i64 m.lo, .int .i64 m.hi, .int .i64 m.lv, .slice D p d, .int .i64 m.sr, .int .i64 m.pt] ∧ Grew w wr) (fun _ i _ => p - (intOf i).toNat)
  case atStart => exact ⟨0, B8, n8, c8, by omega, rfl, rfl, by omega, by rw [List.take_zero, List.flatMap_nil, List.append_nil]; exact h8', hb8, gr8⟩
  case round =>
    clear h8' hb8 gr8
    obtain ⟨j, B, n, c, hj, rfl, rfl, hnn, ho, hb, hg⟩ := hrel
    have m4 := hb.cell 4
    simp only [List.getElem?_toArray, List.getElem?_cons_succ, List.getElem?_cons_zero] at m4
    by_cases hlt : j < p
    · obtain ⟨ad, x, rfl, hx, x0⟩ := (h.grew hg).uat hlt
      have hxl := hw.src x (List.mem_of_getElem? hx)
      have htk : Hid (b8 ++ (m.src.take (j + 1)).flatMap uv = b8 ++ (m.src.take j).flatMap uv ++ uv x) := Lib.hid (by rw [List.take_add_one, hx]; simp)
      clear hx
      go_wp2_with fail
      refine (rput B n c _ x _ _ (OB.rb ho) rfl (by omega) hxl).mono ?_
      rintro e w9 ⟨B9, n9, c9, l9, rfl, h9, g9⟩
      have hs9 := hg.size
      have h9' := Own.mono h9 hs9
      have hb9 := hb.grew g9
      clear h9 x0 m4
      go_wp2
      go_roundw
      case rel =>
        refine ⟨j + 1, B9, n9, c9, by omega, by go_num, rfl, by omega, ?_, hb9, hg.trans g9⟩
        rw [htk.out]
        exact h9'
      case measure => simp [intOf]; omega
    · obtain rfl : j = p := by omega
      rw [List.take_of_length_le (by have := hpl.out; omega)] at ho
      have hs9 := hg.size
      go_wp2_with fail
      refine (rsealed_any w.heap.size B n c _ _ ho hs9 (by omega)).mono ?_
      rintro e w9 ⟨B9, c9, rfl, h9, g9⟩
      have hbl := Own.blk_lt ho
      rw [← hfin.out] at h9
      have hlen := OB.len h9
      replace hlen := Lib.hid hlen
      go_wp2
      go_ret2
      refine ⟨B9, c9, by rw [hlen.out]; simp, by rw [hlen.out]; exact h9, hg.step g9 fun k hk ⟨ad, e, he⟩ => by have := (hbl ad e).1; omega⟩
end Go.Proofs.YtjoaonppaokhhaaGreat
