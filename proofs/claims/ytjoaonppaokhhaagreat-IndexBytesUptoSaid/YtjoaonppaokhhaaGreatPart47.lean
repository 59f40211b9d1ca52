/-
  Several texts in one:
  The document's (tidewrackref14.Add) where it adds. Conditions: lengths that a slice has.
  The document's (tidewrackref14.Mark) where it marks. Conditions: lengths that a slice has.
  The changes of an index, the program's and the document's in one word each; boxes kept in a list. Conditions: lengths that memory bears.
-/
import Derived.Test.YtjoaonppaokhhaaGreatPart46

namespace Go.Proofs.YtjoaonppaokhhaaGreat
open Go.RowKit

set_option maxRecDepth 100000 in
set_option maxHeartbeats 8000000 in
theorem radd_ok (v : Nat) (fl : Int) (A : Option Addr) (n c : Nat) (es : List Ent) (m : Met) (D : Option Addr) (p d : Nat) (w : World) (h : RX w A n es) (hs : RE elU w D p m.src) (hp : p ≤ 9223372036854775807) (hok : IxOk fl es) (hmo : metOk m = true) (hlen : es.length < 256) :
    Calls Tryz.prog 19 #[.agg #[.int .u64 (v : Int), .int .i64 fl, .slice A n c], .agg #[.int .u64 (m.id : Int), .int .i64 m.lo, .int .i64 m.hi, .int .i64 m.lv, .slice D p d, .int .i64 m.sr, .int .i64 m.pt]] w (IxR w v fl (addE es m) 0) := by
  have h3 := B3.mk3 w v fl A n c m D p d
  obtain ⟨W, hW⟩ : ∃ W, W = (((w.alloc (.cells #[.int .u64 (v : Int), .int .i64 fl, .slice A n c] 25)).alloc (.cells #[.int .u64 (m.id : Int), .int .i64 m.lo, .int .i64 m.hi, .int .i64 m.lv, .slice D p d, .int .i64 m.sr, .int .i64 m.pt] 28)).alloc (.cells #[.int .u64 0, .int .i64 0, .slice none 0 0] 25)) := ⟨_, rfl⟩
  rw [← hW] at h3
  have hln : es.length = n := h.len
  have hn : n ≤ 256 := by rw [← hln]; exact hok.len
  have hC := rcheck_any v fl A n c es W (h.grew h3.gr) (by omega)
  have hM := fun W' (hg : Grew W W') => metaIs_any m D p d W' (hs.grew (h3.gr.trans hg)) hp
  rw [(chkI_iff fl es).2 hok] at hC
  obtain ⟨rs, hrs⟩ : ∃ rs, addE es m = rs := ⟨_, rfl⟩
  rw [hrs]
  replace hrs := Lib.hid hrs
  unfold IxR
  go_enter Tryz.func19, Tryz.ntmps19
  go_wp2_with fail
  rw [← hW]
  refine hC.mono ?_
  rintro e w1 ⟨rfl, hg1⟩
  unfold errI
  have h4 := h3.grew hg1
  have m0 := h4.bm.cell 0
  have m1 := h4.bm.cell 1
  have m2 := h4.bm.cell 2
  have m3 := h4.bm.cell 3
  have m4 := h4.bm.cell 4
  have m5 := h4.bm.cell 5
  have m6 := h4.bm.cell 6
  simp only [List.getElem?_toArray, List.getElem?_cons_succ, List.getElem?_cons_zero] at m0 m1 m2 m3 m4 m5 m6
  clear hC hW
  go_wp2_with fail
  refine (hM _ hg1).mono ?_
  rintro e w2 ⟨rfl, hg2⟩
  rw [hmo]
  clear hM m0 m1 m2 m3 m4 m5 m6
  have h5 := h4.grew hg2
  have i0 := h5.bi.cell 0
  have i1 := h5.bi.cell 1
  have i2 := h5.bi.cell 2
  simp only [List.getElem?_toArray, List.getElem?_cons_succ, List.getElem?_cons_zero] at i0 i1 i2
  have hl2 : ¬ (256 : Int) ≤ (n : Int) := by omega
  replace hln := Lib.hid hln
  replace hlen : n < 256 := by have := hln.out; omega
  go_wp2_with fail
  refine (rcopyI_any v fl A n c es w2 (h.grew h5.gr) hok.fit).mono ?_
  rintro e w3 ⟨B, C, rfl, hx3, hg3⟩
  obtain ⟨w4, hw4⟩ : ∃ w4, w4 = w3.alloc (.cells #[.int .u64 (v : Int), .int .i64 fl, .slice B n C] 25) := ⟨_, rfl⟩
  have hg4 : Grew w3 w4 := by rw [hw4]; exact (Chg.refl _ w3).alloc _
  have bo4 : Blk w4 w3.heap.size 25 #[.int .u64 (v : Int), .int .i64 fl, .slice B n C] := by rw [hw4]; exact Blk.new _ _ _
  have h6 := (h5.grew hg3).grew hg4
  have hx4 := hx3.grew hg4
  have hsz := h5.gr.size
  have hsz3 := hg3.size
  have hsz4 : w4.heap.size = w3.heap.size + 1 := by rw [hw4]; simp
  clear i0 i1 i2
  have i0 := bo4.cell 0
  have i1 := bo4.cell 1
  have i2 := bo4.cell 2
  have m0 := h6.bm.cell 0
  simp only [List.getElem?_toArray, List.getElem?_cons_succ, List.getElem?_cons_zero] at i0 i1 i2 m0
  rw [hw4] at i0 i1 i2 m0
  go_wp2_with fail
  rw [← hw4]
  refine (rfind_any v fl B n C es m.id w4 hx4.rx hok.srt (by omega)).mono ?_
  rintro e w5 ⟨rfl, hg5⟩
  clear hw4 i0 i1 i2 m0
  have h7 := h6.grew hg5
  have bo5 := bo4.grew hg5
  have hx5 := hx4.grew hg5
  have hsz5 := hg5.size
  have hpos := posI_le es m.id
  have hrs := hrs.out
  unfold addE insE at hrs
  obtain ⟨ps, hps⟩ : ∃ ps, posI es m.id = ps := ⟨_, rfl⟩
  rw [hps] at hpos hrs ⊢
  have hbl := h5.br.lt
  obtain ⟨go, hgo⟩ : ∃ go, w3.heap.size = go := ⟨_, rfl⟩
  rw [hgo] at bo5 ⊢
  have hgo1 : w.heap.size + 2 < go := by omega
  have hgo2 : go < w5.heap.size := by omega
  cases hf : foundI es m.id
  · rw [hf, if_neg (by simp)] at hrs
    replace hrs := Lib.hid hrs
    rw [hln.out] at hpos
    have hp64 : p ≤ 64 := by
      have := hmo
      unfold metOk at this
      simp only [Bool.and_eq_true, decide_eq_true_eq] at this
      rw [← hs.1]
      exact this.2.2.2
    have oL : OE elU (w5.alloc (.cells #[] 22)) w.heap.size 22 (some ⟨w5.heap.size, 0, none⟩) 0 0 [] := OE.made w5 w.heap.size 22 (by omega)
    have rL := hs.grew (h7.gr.alloc (.cells #[] 22))
    have m4 := (h7.bm.alloc (.cells #[] 22)).cell 4
    simp only [List.getElem?_toArray, List.getElem?_cons_succ, List.getElem?_cons_zero] at m4
    have hnm := fun w6 (g6 : Grew w5 w6) (A2 : Option Addr) (c2 : Nat) (hx : NxE w6 w.heap.size ⟨⟨m, false, 0⟩, A2, p, c2⟩) => add_a (go := go) (h7.grew g6) (bo5.grew g6) (by omega) ((hx5.mono (base' := w.heap.size) (by omega)).grew g6) hx
    clear hps hf hg4 hg3 hg2 hg1 hg5 bo4 h6 h5 h4 h3 hx3 hx4 hgo
    go_upto_region 10 with (at_builtin; go_loud (refine wpList_appE rfl _ _ 26 22 infoU64 rfl Tryz.underlying26 rfl w.heap.size (some ⟨w5.heap.size, 0, none⟩) 0 0 [] rfl oL (by simp; omega) D p d m.src rfl rL (by unfold maxLen; omega) (by omega) ?_); intro A2 c2 w6 h2; clear m4; obtain ⟨b6, hA⟩ := hnm w6 (h2.grew ((Chg.refl _ w5).alloc _) (head_le0 (Nat.le_refl _))) A2 c2 h2.at00; have hlt6 : go < w6.heap.size := (by have := (h2.grew ((Chg.refl _ w5).alloc _) (head_le0 (Nat.le_refl _)) : Grew w5 w6).size; omega); have q4 := b6.cell 4; have qf := b6.frozen 4; simp only [List.getElem?_toArray, List.getElem?_cons_succ, List.getElem?_cons_zero] at q4)
    clear q4 qf b6 h2 oL rL hnm h7 bo5 hx5
    have hlt9 : go < (w6.setCell ⟨w.heap.size + 1, 4, none⟩ (.slice A2 p c2)).heap.size := by simpa using hlt6
    generalize w6.setCell ⟨w.heap.size + 1, 4, none⟩ (.slice A2 p c2) = W9 at *
    obtain ⟨ms, hxo, hmap⟩ := hA.hx
    have hml : ms.length = n := hxo.row.len (by decide)
    have hmrs : (ms.take ps ++ [(⟨⟨m, false, 0⟩, A2, p, c2⟩ : EnM)] ++ ms.drop ps).map EnM.e = rs := by
      rw [← hrs.out, ← hmap]
      simp
    have hlrs : rs.length = n + 1 := by
      have := hrs.out
      rw [← this, List.length_append, List.length_cons, List.length_take, List.length_drop, hln.out]
      omega
    replace hlrs := Lib.hid hlrs
    replace hml := Lib.hid hml
    clear hrs hmap
    have k2 := hA.bo.cell 2
    simp only [List.getElem?_toArray, List.getElem?_cons_succ, List.getElem?_cons_zero] at k2
    go_cut [9] from 10 (fun v wx => ∃ (Z : Option Addr) (z : Nat), v = .slice Z (n - ps) z ∧ OE elEn wx W9.heap.size 51 Z (n - ps) z (ms.drop ps) ∧ Grew W9 wx)
    case first =>
      have gE : Grew W9 (W9.alloc (.cells #[] 51)) := (Chg.refl _ W9).alloc _
      have oE : OE elEn (W9.alloc (.cells #[] 51)) W9.heap.size 51 (some ⟨W9.heap.size, 0, none⟩) 0 0 [] := OE.made W9 W9.heap.size 51 (Nat.le_refl _)
      have hrow := hxo.row
      have hfm : (B = none ∧ n = 0 ∧ C = 0) ∨ ∃ g, B = some ⟨g, 0, none⟩ := by
        rcases hrow.2 with ⟨e, h3⟩ | ⟨g, cap, cur, e, _⟩
        · injection e with e1 e2 e3
          exact .inl ⟨e1, h3, e3⟩
        · injection e with e1 e2 e3
          exact .inr ⟨g, e1⟩
      rcases hfm with ⟨rfl, rfl, rfl⟩ | ⟨g, rfl⟩
      · obtain rfl : ps = 0 := by omega
        have hms0 : ms.drop 0 = [] := by rw [List.drop_zero]; exact List.eq_nil_of_length_eq_zero hml.out
        have hsrc : RE elEn (W9.alloc (.cells #[] 51)) none 0 (ms.drop 0) := by rw [hms0]; exact RE.nil _ _
        replace hms0 := Lib.hid hms0
        go_wp2_with (at_builtin; refine wpList_appE rfl _ _ 23 51 infoEn rfl Tryz.underlying23 rfl W9.heap.size (some ⟨W9.heap.size, 0, none⟩) 0 0 [] rfl oE gE.size _ 0 _ (ms.drop 0) rfl hsrc (by unfold maxLen; omega) (by omega) ?_; intro Z z w5 h5)
        have hg5 : Grew W9 w5 := h5.grew gE (head_le0 (Nat.le_refl _))
        have ho5 := h5.at00
        go_meet
        case rel => exact ⟨Z, z, by simp, ho5, hg5⟩
      · have hre := hrow.re (by decide)
        by_cases hpc : ps < C
        · have hsrc : RE elEn (W9.alloc (.cells #[] 51)) (some ⟨g, ps * 9, none⟩) (n - ps) (ms.drop ps) := by
            have := (hre.drop ps).grew gE
            rwa [show (⟨g, 0, none⟩ : Addr).add (ps * elEn.sz) = ⟨g, ps * 9, none⟩ from add_head g (ps * 9)] at this
          have hCc := hrow.cap
          go_wp2_with (at_builtin; refine wpList_appE rfl _ _ 23 51 infoEn rfl Tryz.underlying23 rfl W9.heap.size (some ⟨W9.heap.size, 0, none⟩) 0 0 [] rfl oE gE.size _ (n - ps) _ (ms.drop ps) rfl hsrc (by unfold maxLen; omega) (by omega) ?_; intro Z z w5 h5)
          have hg5 : Grew W9 w5 := h5.grew gE (head_le0 (Nat.le_refl _))
          have ho5 := h5.at00
          go_meet
          case rel => exact ⟨Z, z, by simp, ho5, hg5⟩
        · have hCc := hrow.cap
          obtain rfl : ps = n := by omega
          obtain rfl : C = ps := by omega
          have hms0 : ms.drop C = [] := List.drop_eq_nil_of_le (by have := hml.out; omega)
          have hsrc : RE elEn (W9.alloc (.cells #[] 51)) (some ⟨g, 0, none⟩) 0 (ms.drop C) := by rw [hms0]; exact RE.nil _ _
          replace hms0 := Lib.hid hms0
          go_wp2_with (at_builtin; refine wpList_appE rfl _ _ 23 51 infoEn rfl Tryz.underlying23 rfl W9.heap.size (some ⟨W9.heap.size, 0, none⟩) 0 0 [] rfl oE gE.size _ 0 _ (ms.drop C) rfl hsrc (by unfold maxLen; omega) (by omega) ?_; intro Z z w5 h5)
          have hg5 : Grew W9 w5 := h5.grew gE (head_le0 (Nat.le_refl _))
          have ho5 := h5.at00
          go_meet
          case rel => exact ⟨Z, z, by simp, by rw [Nat.sub_self]; exact ho5, hg5⟩
    case rest =>
      obtain ⟨Z, z, rfl, hZ, gcz⟩ := hcut
      have gwz := hA.gr.trans gcz
      have bmz := hA.bm.grew gcz
      have boz := hA.bo.grew gcz
      have brz := hA.br.grew gcz
      have hmz := hA.hm.grew gcz
      have hxz := hxo.grew gcz
      have hzc := gwz.size
      have h9z := gcz.size
      have hlow := (Own.cap hZ)
      have hCc := hxo.row.cap
      have hcs : CellsIn [go, w.heap.size + 1] wc := cellsIn_two boz bmz
      have hsm := Lib.hid fun (Y : World) (g : Grew wc Y) => sameIn_of g hcs fun _ _ e => e
      have htk := Lib.hid fun w' (g : Grew wc w') => (show RE elEn w' B ps (ms.take ps) from ((hxz.row.grew g).re (by decide)).take (by omega))
      clear k2 hA hxo
      have u2 := boz.cell 2
      have ul := boz.lt
      have v0 := bmz.cell 0
      have v1 := bmz.cell 1
      have v2 := bmz.cell 2
      have v3 := bmz.cell 3
      have v4 := bmz.cell 4
      have v5 := bmz.cell 5
      have v6 := bmz.cell 6
      have vl := bmz.lt
      simp only [List.getElem?_toArray, List.getElem?_cons_succ, List.getElem?_cons_zero] at u2 v0 v1 v2 v3 v4 v5 v6
      go_wp2_with fail
      refine wp_region_textsDL [(3, 1)] [go, w.heap.size + 1] [[0, 1, 2, 3, 4, 5, 6, 7, 8, 9, 10, 11, 12, 13], [0, 6, 7, 8, 1, 2, 3, 4, 5, 9, 10, 11, 12, 13], [6, 7, 8, 0, 1, 2, 3, 4, 5, 9, 10, 11, 12, 13]] (by kernel_rfl) (by kernel_rfl) hcs ?_
      intro o ho
      simp only [List.mem_cons, List.not_mem_nil, or_false] at ho
      rcases ho with rfl | rfl | rfl
      all_goals
        simp only [opsOf, List.filterMap_cons, List.filterMap_nil, List.getElem?_toArray, List.getElem?_cons_zero, List.getElem?_cons_succ]
        simp only [wpUL, tagOf, chk, List.cons_append, List.nil_append]
      · have g0 : Grew wc wc.drew := (Chg.refl _ wc).drew
        have gE : Grew wc (wc.drew.alloc (.cells #[] 51)) := g0.alloc _
        have oE : OE elEn (wc.drew.alloc (.cells #[] 51)) wc.heap.size 51 (some ⟨wc.heap.size, 0, none⟩) 0 0 [] := by
          have := OE.made (E := elEn) wc.drew wc.heap.size 51 g0.size
          first | exact this | simpa using this | (simpa only [World.size_alloc] using this)
        intro K hK
        go_wp2_with fail
        refine OnlyN.normal (hK _ _ (hsm.out _ gE) ?_)
        clear hK K
        have bE := (boz.grew gE).cell 2
        simp only [List.getElem?_toArray, List.getElem?_cons_succ, List.getElem?_cons_zero] at bE
        intro K hK
        go_wp2_with fail
        refine OnlyN.normal (hK _ _ (fun _ => ⟨_, _, _, rfl, rfl, by simp⟩) ?_)
        clear hK K
        have sT := htk.out _ gE
        intro K hK
        go_wp2_with (at_builtin; refine wpList_appE rfl _ _ 23 51 infoEn rfl Tryz.underlying23 rfl wc.heap.size (some ⟨wc.heap.size, 0, none⟩) 0 0 [] rfl oE gE.size B ps _ (ms.take ps) rfl sT (by unfold maxLen; omega) (by omega) ?_; intro A5 c5 w5 h5)
        have g5 : Grew wc w5 := h5.grew gE (head_le0 (Nat.le_refl _))
        have o5 := h5.at00
        have r0 := (bmz.grew g5).cell 0
        have r1 := (bmz.grew g5).cell 1
        have r2 := (bmz.grew g5).cell 2
        have r3 := (bmz.grew g5).cell 3
        have r4 := (bmz.grew g5).cell 4
        have r5 := (bmz.grew g5).cell 5
        have r6 := (bmz.grew g5).cell 6
        simp only [List.getElem?_toArray, List.getElem?_cons_succ, List.getElem?_cons_zero] at r0 r1 r2 r3 r4 r5 r6
        refine OnlyN.normal (hK _ _ (hsm.out _ g5) ?_)
        clear hK K h5 oE bE gE sT
        intro K hK
        go_wp2_with fail
        refine OnlyN.normal (hK _ _ (fun _ => ⟨_, _, _, rfl, rfl, by simp⟩) ?_)
        clear hK K
        have g6 : Grew wc (w5.alloc (.cells #[.int .u64 (m.id : Int), .int .i64 m.lo, .int .i64 m.hi, .int .i64 m.lv, .slice A2 p c2, .int .i64 m.sr, .int .i64 m.pt, .bool false, .int .i64 0] 51)) := g5.alloc _
        have oL : RE elEn (w5.alloc (.cells #[.int .u64 (m.id : Int), .int .i64 m.lo, .int .i64 m.hi, .int .i64 m.lv, .slice A2 p c2, .int .i64 m.sr, .int .i64 m.pt, .bool false, .int .i64 0] 51)) (some ⟨w5.heap.size, 0, none⟩) 1 [⟨⟨m, false, 0⟩, A2, p, c2⟩] := RE.newAt rfl rfl rfl
        have o6 := o5.grew (show Grew w5 (w5.alloc (.cells #[.int .u64 (m.id : Int), .int .i64 m.lo, .int .i64 m.hi, .int .i64 m.lv, .slice A2 p c2, .int .i64 m.sr, .int .i64 m.pt, .bool false, .int .i64 0] 51)) from (Chg.refl _ _).alloc _)
        intro K hK
        go_wp2_with fail
        refine OnlyN.normal (hK _ _ (hsm.out _ g6) ?_)
        clear hK K
        intro K hK
        go_wp2_with (at_builtin; refine wpList_appE rfl _ _ 23 51 infoEn rfl Tryz.underlying23 rfl wc.heap.size A5 ps c5 (ms.take ps) rfl o6 g6.size _ 1 1 [⟨⟨m, false, 0⟩, A2, p, c2⟩] rfl oL (by unfold maxLen; omega) (by omega) ?_; intro A7 c7 w7 h7)
        have g7 : Grew wc w7 := h7.grew g6 fun ad e => (Own.blk_lt o6 ad e).1
        refine OnlyN.normal (hK _ _ (hsm.out _ g7) ?_)
        have o7 := h7.oe
        clear hK K h7 o6 o5 oL r0 r1 r2 r3 r4 r5 r6
        have sZ := (hZ.grew g7).re (by decide)
        intro K hK
        go_wp2_with (at_builtin; refine wpList_appE rfl _ _ 23 51 infoEn rfl Tryz.underlying23 rfl wc.heap.size A7 (ps + 1) c7 (ms.take ps ++ [⟨⟨m, false, 0⟩, A2, p, c2⟩]) rfl o7 g7.size Z (n - ps) z (ms.drop ps) rfl sZ (by unfold maxLen; omega) (by omega) ?_; intro A8 c8 w8 h8)
        have g8 : Grew wc w8 := h8.grew g7 fun ad e => (Own.blk_lt o7 ad e).1
        refine OnlyN.normal (hK _ _ (hsm.out _ g8) ?_)
        have o8 := h8.oe
        clear hK K h8 o7 sZ
        rw [show ps + 1 + (n - ps) = n + 1 by omega] at o8
        have bo9 := boz.grew g8
        have b8 := bo9.cell 2
        have f8 := bo9.frozen 2
        simp only [List.getElem?_toArray, List.getElem?_cons_succ, List.getElem?_cons_zero] at b8
        have g9 : Grew w w8 := gwz.trans g8
        have hx9 : NXo w8 w.heap.size A8 (n + 1) c8 (ms.take ps ++ [⟨⟨m, false, 0⟩, A2, p, c2⟩] ++ ms.drop ps) := by
          refine ⟨Own.mono o8 (by omega), fun y hy => ?_⟩
          simp only [List.mem_append, List.mem_singleton] at hy
          rcases hy with (hy | rfl) | hy
          · exact (hxz.el y (List.mem_of_mem_take hy)).grew g8
          · exact hmz.grew g8
          · exact (hxz.el y (List.mem_of_mem_drop hy)).grew g8
        have bo10 := bo9.set 2 (.slice A8 (n + 1) c8)
        simp only [List.setIfInBounds_toArray, List.set_cons_succ, List.set_cons_zero] at bo10
        have br10 := (brz.grew g8).far (p := ⟨go, 2, none⟩) (by show w.heap.size + 2 ≠ go; omega) (.slice A8 (n + 1) c8)
        have hx10 := (hx9.farBlk bo9 (by decide) (by decide) 2 (.slice A8 (n + 1) c8)).nx
        rw [hmrs] at hx10
        have g10 : Grew w (w8.setCell ⟨go, 2, none⟩ (.slice A8 (n + 1) c8)) := g9.setCell (p := ⟨go, 2, none⟩) (.inl (by show w.heap.size ≤ go; omega)) _
        have l0 := bo10.cell 0
        have l1 := bo10.cell 1
        have l2 := bo10.cell 2
        have s0 := br10.cell 0
        have s1 := br10.cell 1
        have s2 := br10.cell 2
        have t0 := br10.frozen 0
        have t1 := br10.frozen 1
        have t2 := br10.frozen 2
        simp only [List.getElem?_toArray, List.getElem?_cons_succ, List.getElem?_cons_zero] at l0 l1 l2 s0 s1 s2
        clear u2 ul v0 v1 v2 v3 v4 v5 v6 vl o8 hcs hsm hZ hmz hxz bmz boz brz htk hx9 bo9 g9
        rw [show ps + 1 + (n - ps) = n + 1 by omega]
        go_wp2_with fail
        refine OnlyN.normal ?_
        go_wp2
        refine bodyPost_ret (v := .tuple #[.agg #[.int .u64 (v : Int), .int .i64 fl, .slice A8 (n + 1) c8], .int .i64 0]) ?_ rfl ⟨A8, c8, by rw [hlrs.out], ?_, g10.far3 (by omega) _ _ _⟩
        · have q := br10.put3 (.int .u64 (v : Int)) (.int .i64 fl) (.slice A8 (n + 1) c8)
          have q0 := q.cell 0
          have q1 := q.cell 1
          have q2 := q.cell 2
          simp [results, Tryz.results19, go_sem, q0, q1, q2]
        · rw [hlrs.out]
          exact hx10.far3 br10 (by decide) (by decide) _ _ _
      · have g0 : Grew wc wc.drew := (Chg.refl _ wc).drew
        have gE : Grew wc (wc.drew.alloc (.cells #[] 51)) := g0.alloc _
        have oE0 : OE elEn (wc.drew.alloc (.cells #[] 51)) wc.heap.size 51 (some ⟨wc.heap.size, 0, none⟩) 0 0 [] := by
          have := OE.made (E := elEn) wc.drew wc.heap.size 51 g0.size
          first | exact this | simpa using this | (simpa only [World.size_alloc] using this)
        intro K hK
        go_wp2_with fail
        refine OnlyN.normal (hK _ _ (hsm.out _ gE) ?_)
        clear hK K
        have r0 := (bmz.grew gE).cell 0
        have r1 := (bmz.grew gE).cell 1
        have r2 := (bmz.grew gE).cell 2
        have r3 := (bmz.grew gE).cell 3
        have r4 := (bmz.grew gE).cell 4
        have r5 := (bmz.grew gE).cell 5
        have r6 := (bmz.grew gE).cell 6
        simp only [List.getElem?_toArray, List.getElem?_cons_succ, List.getElem?_cons_zero] at r0 r1 r2 r3 r4 r5 r6
        intro K hK
        go_wp2_with fail
        refine OnlyN.normal (hK _ _ (fun _ => ⟨_, _, _, rfl, rfl, by simp⟩) ?_)
        clear hK K
        have gL : Grew wc ((wc.drew.alloc (.cells #[] 51)).alloc (.cells #[.int .u64 (m.id : Int), .int .i64 m.lo, .int .i64 m.hi, .int .i64 m.lv, .slice A2 p c2, .int .i64 m.sr, .int .i64 m.pt, .bool false, .int .i64 0] 51)) := gE.alloc _
        have oE := oE0.grew (show Grew (wc.drew.alloc (.cells #[] 51)) ((wc.drew.alloc (.cells #[] 51)).alloc (.cells #[.int .u64 (m.id : Int), .int .i64 m.lo, .int .i64 m.hi, .int .i64 m.lv, .slice A2 p c2, .int .i64 m.sr, .int .i64 m.pt, .bool false, .int .i64 0] 51)) from (Chg.refl _ _).alloc _)
        have oL : OE elEn ((wc.drew.alloc (.cells #[] 51)).alloc (.cells #[.int .u64 (m.id : Int), .int .i64 m.lo, .int .i64 m.hi, .int .i64 m.lv, .slice A2 p c2, .int .i64 m.sr, .int .i64 m.pt, .bool false, .int .i64 0] 51)) wc.heap.size 51 (some ⟨wc.heap.size + 1, 0, none⟩) 1 1 [⟨⟨m, false, 0⟩, A2, p, c2⟩] := by
          have := OE.lit (E := elEn) (wc.drew.alloc (.cells #[] 51)) wc.heap.size 51 1 [⟨⟨m, false, 0⟩, A2, p, c2⟩] #[.int .u64 (m.id : Int), .int .i64 m.lo, .int .i64 m.hi, .int .i64 m.lv, .slice A2 p c2, .int .i64 m.sr, .int .i64 m.pt, .bool false, .int .i64 0] gE.size (by decide) rfl rfl
          first | exact this | simpa using this | (simpa only [World.size_alloc] using this)
        intro K hK
        go_wp2_with fail
        refine OnlyN.normal (hK _ _ (hsm.out _ gL) ?_)
        clear hK K
        have bE := (boz.grew gL).cell 2
        simp only [List.getElem?_toArray, List.getElem?_cons_succ, List.getElem?_cons_zero] at bE
        intro K hK
        go_wp2_with fail
        refine OnlyN.normal (hK _ _ (fun _ => ⟨_, _, _, rfl, rfl, by simp⟩) ?_)
        clear hK K
        have sT := htk.out _ gL
        intro K hK
        go_wp2_with (at_builtin; refine wpList_appE rfl _ _ 23 51 infoEn rfl Tryz.underlying23 rfl wc.heap.size (some ⟨wc.heap.size, 0, none⟩) 0 0 [] rfl oE gL.size B ps _ (ms.take ps) rfl sT (by unfold maxLen; omega) (by omega) ?_; intro A5 c5 w5 h5)
        have g5 : Grew wc w5 := h5.grew gL (head_le0 (by omega))
        have o6 := h5.at00
        have oL5 : RE elEn w5 (some ⟨wc.heap.size + 1, 0, none⟩) 1 [⟨⟨m, false, 0⟩, A2, p, c2⟩] := (oL.re (by decide)).chg h5.chg (fun ad e ⟨bd, e2, e3⟩ => by
          injection e with e
          injection e2 with e2
          subst e
          subst e2
          have e3 : wc.heap.size + 1 = wc.heap.size := e3
          omega)
        refine OnlyN.normal (hK _ _ (hsm.out _ g5) ?_)
        clear hK K h5 oE oL bE gE gL sT r0 r1 r2 r3 r4 r5 r6 oE0
        intro K hK
        go_wp2_with (at_builtin; refine wpList_appE rfl _ _ 23 51 infoEn rfl Tryz.underlying23 rfl wc.heap.size A5 ps c5 (ms.take ps) rfl o6 g5.size _ 1 1 [⟨⟨m, false, 0⟩, A2, p, c2⟩] rfl oL5 (by unfold maxLen; omega) (by omega) ?_; intro A7 c7 w7 h7)
        have g7 : Grew wc w7 := h7.grew g5 fun ad e => (Own.blk_lt o6 ad e).1
        refine OnlyN.normal (hK _ _ (hsm.out _ g7) ?_)
        have o7 := h7.oe
        clear hK K h7 o6 oL5
        have sZ := (hZ.grew g7).re (by decide)
        intro K hK
        go_wp2_with (at_builtin; refine wpList_appE rfl _ _ 23 51 infoEn rfl Tryz.underlying23 rfl wc.heap.size A7 (ps + 1) c7 (ms.take ps ++ [⟨⟨m, false, 0⟩, A2, p, c2⟩]) rfl o7 g7.size Z (n - ps) z (ms.drop ps) rfl sZ (by unfold maxLen; omega) (by omega) ?_; intro A8 c8 w8 h8)
        have g8 : Grew wc w8 := h8.grew g7 fun ad e => (Own.blk_lt o7 ad e).1
        refine OnlyN.normal (hK _ _ (hsm.out _ g8) ?_)
        have o8 := h8.oe
        clear hK K h8 o7 sZ
        rw [show ps + 1 + (n - ps) = n + 1 by omega] at o8
        have bo9 := boz.grew g8
        have b8 := bo9.cell 2
        have f8 := bo9.frozen 2
        simp only [List.getElem?_toArray, List.getElem?_cons_succ, List.getElem?_cons_zero] at b8
        have g9 : Grew w w8 := gwz.trans g8
        have hx9 : NXo w8 w.heap.size A8 (n + 1) c8 (ms.take ps ++ [⟨⟨m, false, 0⟩, A2, p, c2⟩] ++ ms.drop ps) := by
          refine ⟨Own.mono o8 (by omega), fun y hy => ?_⟩
          simp only [List.mem_append, List.mem_singleton] at hy
          rcases hy with (hy | rfl) | hy
          · exact (hxz.el y (List.mem_of_mem_take hy)).grew g8
          · exact hmz.grew g8
          · exact (hxz.el y (List.mem_of_mem_drop hy)).grew g8
        have bo10 := bo9.set 2 (.slice A8 (n + 1) c8)
        simp only [List.setIfInBounds_toArray, List.set_cons_succ, List.set_cons_zero] at bo10
        have br10 := (brz.grew g8).far (p := ⟨go, 2, none⟩) (by show w.heap.size + 2 ≠ go; omega) (.slice A8 (n + 1) c8)
        have hx10 := (hx9.farBlk bo9 (by decide) (by decide) 2 (.slice A8 (n + 1) c8)).nx
        rw [hmrs] at hx10
        have g10 : Grew w (w8.setCell ⟨go, 2, none⟩ (.slice A8 (n + 1) c8)) := g9.setCell (p := ⟨go, 2, none⟩) (.inl (by show w.heap.size ≤ go; omega)) _
        have l0 := bo10.cell 0
        have l1 := bo10.cell 1
        have l2 := bo10.cell 2
        have s0 := br10.cell 0
        have s1 := br10.cell 1
        have s2 := br10.cell 2
        have t0 := br10.frozen 0
        have t1 := br10.frozen 1
        have t2 := br10.frozen 2
        simp only [List.getElem?_toArray, List.getElem?_cons_succ, List.getElem?_cons_zero] at l0 l1 l2 s0 s1 s2
        clear u2 ul v0 v1 v2 v3 v4 v5 v6 vl o8 hcs hsm hZ hmz hxz bmz boz brz htk hx9 bo9 g9
        rw [show ps + 1 + (n - ps) = n + 1 by omega]
        go_wp2_with fail
        refine OnlyN.normal ?_
        go_wp2
        refine bodyPost_ret (v := .tuple #[.agg #[.int .u64 (v : Int), .int .i64 fl, .slice A8 (n + 1) c8], .int .i64 0]) ?_ rfl ⟨A8, c8, by rw [hlrs.out], ?_, g10.far3 (by omega) _ _ _⟩
        · have q := br10.put3 (.int .u64 (v : Int)) (.int .i64 fl) (.slice A8 (n + 1) c8)
          have q0 := q.cell 0
          have q1 := q.cell 1
          have q2 := q.cell 2
          simp [results, Tryz.results19, go_sem, q0, q1, q2]
        · rw [hlrs.out]
          exact hx10.far3 br10 (by decide) (by decide) _ _ _
      · have g0 : Grew wc wc.drew := (Chg.refl _ wc).drew
        have gE : Grew wc (wc.drew.alloc (.cells #[.int .u64 (m.id : Int), .int .i64 m.lo, .int .i64 m.hi, .int .i64 m.lv, .slice A2 p c2, .int .i64 m.sr, .int .i64 m.pt, .bool false, .int .i64 0] 51)) := g0.alloc _
        have r0 := (bmz.grew g0).cell 0
        have r1 := (bmz.grew g0).cell 1
        have r2 := (bmz.grew g0).cell 2
        have r3 := (bmz.grew g0).cell 3
        have r4 := (bmz.grew g0).cell 4
        have r5 := (bmz.grew g0).cell 5
        have r6 := (bmz.grew g0).cell 6
        simp only [List.getElem?_toArray, List.getElem?_cons_succ, List.getElem?_cons_zero] at r0 r1 r2 r3 r4 r5 r6
        intro K hK
        go_wp2_with fail
        refine OnlyN.normal (hK _ _ (fun _ => ⟨_, _, _, rfl, rfl, by simp⟩) ?_)
        clear hK K
        have oL0 : OE elEn (wc.drew.alloc (.cells #[.int .u64 (m.id : Int), .int .i64 m.lo, .int .i64 m.hi, .int .i64 m.lv, .slice A2 p c2, .int .i64 m.sr, .int .i64 m.pt, .bool false, .int .i64 0] 51)) wc.heap.size 51 (some ⟨wc.heap.size, 0, none⟩) 1 1 [⟨⟨m, false, 0⟩, A2, p, c2⟩] := by
          have := OE.lit (E := elEn) wc.drew wc.heap.size 51 1 [⟨⟨m, false, 0⟩, A2, p, c2⟩] #[.int .u64 (m.id : Int), .int .i64 m.lo, .int .i64 m.hi, .int .i64 m.lv, .slice A2 p c2, .int .i64 m.sr, .int .i64 m.pt, .bool false, .int .i64 0] g0.size (by decide) rfl rfl
          first | exact this | simpa using this | (simpa only [World.size_alloc] using this)
        intro K hK
        go_wp2_with fail
        refine OnlyN.normal (hK _ _ (hsm.out _ gE) ?_)
        clear hK K
        have gL : Grew wc ((wc.drew.alloc (.cells #[.int .u64 (m.id : Int), .int .i64 m.lo, .int .i64 m.hi, .int .i64 m.lv, .slice A2 p c2, .int .i64 m.sr, .int .i64 m.pt, .bool false, .int .i64 0] 51)).alloc (.cells #[] 51)) := gE.alloc _
        have oL := oL0.grew (show Grew (wc.drew.alloc (.cells #[.int .u64 (m.id : Int), .int .i64 m.lo, .int .i64 m.hi, .int .i64 m.lv, .slice A2 p c2, .int .i64 m.sr, .int .i64 m.pt, .bool false, .int .i64 0] 51)) ((wc.drew.alloc (.cells #[.int .u64 (m.id : Int), .int .i64 m.lo, .int .i64 m.hi, .int .i64 m.lv, .slice A2 p c2, .int .i64 m.sr, .int .i64 m.pt, .bool false, .int .i64 0] 51)).alloc (.cells #[] 51)) from (Chg.refl _ _).alloc _)
        have oE : OE elEn ((wc.drew.alloc (.cells #[.int .u64 (m.id : Int), .int .i64 m.lo, .int .i64 m.hi, .int .i64 m.lv, .slice A2 p c2, .int .i64 m.sr, .int .i64 m.pt, .bool false, .int .i64 0] 51)).alloc (.cells #[] 51)) wc.heap.size 51 (some ⟨wc.heap.size + 1, 0, none⟩) 0 0 [] := by
          have := OE.made (E := elEn) (wc.drew.alloc (.cells #[.int .u64 (m.id : Int), .int .i64 m.lo, .int .i64 m.hi, .int .i64 m.lv, .slice A2 p c2, .int .i64 m.sr, .int .i64 m.pt, .bool false, .int .i64 0] 51)) wc.heap.size 51 gE.size
          first | exact this | simpa using this | (simpa only [World.size_alloc] using this)
        intro K hK
        go_wp2_with fail
        refine OnlyN.normal (hK _ _ (hsm.out _ gL) ?_)
        clear hK K
        have bE := (boz.grew gL).cell 2
        simp only [List.getElem?_toArray, List.getElem?_cons_succ, List.getElem?_cons_zero] at bE
        intro K hK
        go_wp2_with fail
        refine OnlyN.normal (hK _ _ (fun _ => ⟨_, _, _, rfl, rfl, by simp⟩) ?_)
        clear hK K
        have sT := htk.out _ gL
        intro K hK
        go_wp2_with (at_builtin; refine wpList_appE rfl _ _ 23 51 infoEn rfl Tryz.underlying23 rfl wc.heap.size (some ⟨wc.heap.size + 1, 0, none⟩) 0 0 [] rfl oE gL.size B ps _ (ms.take ps) rfl sT (by unfold maxLen; omega) (by omega) ?_; intro A5 c5 w5 h5)
        have g5 : Grew wc w5 := h5.grew gL (head_le0 (by omega))
        have o6 := h5.at00
        have oL5 : RE elEn w5 (some ⟨wc.heap.size, 0, none⟩) 1 [⟨⟨m, false, 0⟩, A2, p, c2⟩] := (oL.re (by decide)).chg h5.chg (fun ad e ⟨bd, e2, e3⟩ => by
          injection e with e
          injection e2 with e2
          subst e
          subst e2
          have e3 : wc.heap.size = wc.heap.size + 1 := e3
          omega)
        refine OnlyN.normal (hK _ _ (hsm.out _ g5) ?_)
        clear hK K h5 oE oL bE gE gL sT r0 r1 r2 r3 r4 r5 r6 oL0
        intro K hK
        go_wp2_with (at_builtin; refine wpList_appE rfl _ _ 23 51 infoEn rfl Tryz.underlying23 rfl wc.heap.size A5 ps c5 (ms.take ps) rfl o6 g5.size _ 1 1 [⟨⟨m, false, 0⟩, A2, p, c2⟩] rfl oL5 (by unfold maxLen; omega) (by omega) ?_; intro A7 c7 w7 h7)
        have g7 : Grew wc w7 := h7.grew g5 fun ad e => (Own.blk_lt o6 ad e).1
        refine OnlyN.normal (hK _ _ (hsm.out _ g7) ?_)
        have o7 := h7.oe
        clear hK K h7 o6 oL5
        have sZ := (hZ.grew g7).re (by decide)
        intro K hK
        go_wp2_with (at_builtin; refine wpList_appE rfl _ _ 23 51 infoEn rfl Tryz.underlying23 rfl wc.heap.size A7 (ps + 1) c7 (ms.take ps ++ [⟨⟨m, false, 0⟩, A2, p, c2⟩]) rfl o7 g7.size Z (n - ps) z (ms.drop ps) rfl sZ (by unfold maxLen; omega) (by omega) ?_; intro A8 c8 w8 h8)
        have g8 : Grew wc w8 := h8.grew g7 fun ad e => (Own.blk_lt o7 ad e).1
        refine OnlyN.normal (hK _ _ (hsm.out _ g8) ?_)
        have o8 := h8.oe
        clear hK K h8 o7 sZ
        rw [show ps + 1 + (n - ps) = n + 1 by omega] at o8
        have bo9 := boz.grew g8
        have b8 := bo9.cell 2
        have f8 := bo9.frozen 2
        simp only [List.getElem?_toArray, List.getElem?_cons_succ, List.getElem?_cons_zero] at b8
        have g9 : Grew w w8 := gwz.trans g8
        have hx9 : NXo w8 w.heap.size A8 (n + 1) c8 (ms.take ps ++ [⟨⟨m, false, 0⟩, A2, p, c2⟩] ++ ms.drop ps) := by
          refine ⟨Own.mono o8 (by omega), fun y hy => ?_⟩
          simp only [List.mem_append, List.mem_singleton] at hy
          rcases hy with (hy | rfl) | hy
          · exact (hxz.el y (List.mem_of_mem_take hy)).grew g8
          · exact hmz.grew g8
          · exact (hxz.el y (List.mem_of_mem_drop hy)).grew g8
        have bo10 := bo9.set 2 (.slice A8 (n + 1) c8)
        simp only [List.setIfInBounds_toArray, List.set_cons_succ, List.set_cons_zero] at bo10
        have br10 := (brz.grew g8).far (p := ⟨go, 2, none⟩) (by show w.heap.size + 2 ≠ go; omega) (.slice A8 (n + 1) c8)
        have hx10 := (hx9.farBlk bo9 (by decide) (by decide) 2 (.slice A8 (n + 1) c8)).nx
        rw [hmrs] at hx10
        have g10 : Grew w (w8.setCell ⟨go, 2, none⟩ (.slice A8 (n + 1) c8)) := g9.setCell (p := ⟨go, 2, none⟩) (.inl (by show w.heap.size ≤ go; omega)) _
        have l0 := bo10.cell 0
        have l1 := bo10.cell 1
        have l2 := bo10.cell 2
        have s0 := br10.cell 0
        have s1 := br10.cell 1
        have s2 := br10.cell 2
        have t0 := br10.frozen 0
        have t1 := br10.frozen 1
        have t2 := br10.frozen 2
        simp only [List.getElem?_toArray, List.getElem?_cons_succ, List.getElem?_cons_zero] at l0 l1 l2 s0 s1 s2
        clear u2 ul v0 v1 v2 v3 v4 v5 v6 vl o8 hcs hsm hZ hmz hxz bmz boz brz htk hx9 bo9 g9
        rw [show ps + 1 + (n - ps) = n + 1 by omega]
        go_wp2_with fail
        refine OnlyN.normal ?_
        go_wp2
        refine bodyPost_ret (v := .tuple #[.agg #[.int .u64 (v : Int), .int .i64 fl, .slice A8 (n + 1) c8], .int .i64 0]) ?_ rfl ⟨A8, c8, by rw [hlrs.out], ?_, g10.far3 (by omega) _ _ _⟩
        · have q := br10.put3 (.int .u64 (v : Int)) (.int .i64 fl) (.slice A8 (n + 1) c8)
          have q0 := q.cell 0
          have q1 := q.cell 1
          have q2 := q.cell 2
          simp [results, Tryz.results19, go_sem, q0, q1, q2]
        · rw [hlrs.out]
          exact hx10.far3 br10 (by decide) (by decide) _ _ _
  · rw [hf, if_pos rfl] at hrs
    subst hrs
    have k0 := bo5.cell 0
    have k1 := bo5.cell 1
    have k2 := bo5.cell 2
    have r0 := h7.br.cell 0
    have r1 := h7.br.cell 1
    have r2 := h7.br.cell 2
    have f0 := h7.br.frozen 0
    have f1 := h7.br.frozen 1
    have f2 := h7.br.frozen 2
    simp only [List.getElem?_toArray, List.getElem?_cons_succ, List.getElem?_cons_zero] at k0 k1 k2 r0 r1 r2
    clear hps hf
    go_wp2
    refine bodyPost_ret (v := .tuple #[.agg #[.int .u64 (v : Int), .int .i64 fl, .slice B n C], .int .i64 0]) ?_ rfl ⟨B, C, by rw [hln.out], ?_, h7.gr.far3 (by omega) _ _ _⟩
    · have q := h7.br.put3 (.int .u64 (v : Int)) (.int .i64 fl) (.slice B n C)
      have q0 := q.cell 0
      have q1 := q.cell 1
      have q2 := q.cell 2
      simp [results, Tryz.results19, go_sem, q0, q1, q2]
    · rw [hln.out]
      exact (hx5.mono (by omega)).far3 h7.br (by decide) (by decide) _ _ _
end Go.Proofs.YtjoaonppaokhhaaGreat

namespace Go.Proofs.YtjoaonppaokhhaaGreat
open Go.RowKit

theorem livF_snoc : ∀ (l : List Ent) (k : Nat) (e : Ent), livF k (l ++ [e]) = livF k l ++ (if e.mkd = true then [] else [k + l.length])
  | [], k, e => by simp [livF]
  | x :: r, k, e => by
    rw [List.cons_append, livF, livF_snoc r (k + 1) e, livF, List.length_cons, show k + 1 + r.length = k + (r.length + 1) by omega]
    split <;> simp
/-- the live places ahead of one -/
def livP (es : List Ent) (j : Nat) : List Nat := livI (es.take j)
theorem livP_zero (es : List Ent) : livP es 0 = [] := rfl
theorem livP_all {es : List Ent} {n : Nat} (h : es.length ≤ n) : livP es n = livI es := by
  unfold livP
  rw [List.take_of_length_le h]
theorem livP_snoc {es : List Ent} {j : Nat} {e : Ent} (h : es[j]? = some e) : livP es (j + 1) = livP es j ++ (if e.mkd = true then [] else [j]) := by
  have hj := (List.getElem?_eq_some_iff.1 h).1
  unfold livP livI
  rw [List.take_add_one, h, Option.toList_some, livF_snoc, List.length_take, Nat.min_eq_left (by omega), Nat.zero_add]
theorem mkB_why {es : List Ent} {fl : Int} {k : Nat} {e : Ent} : mkB es fl k e = (decide (e.m.hi < fl) || whyJ es k e.m.id es.length) := by
  cases hb : (decide (e.m.hi < fl) || whyJ es k e.m.id es.length)
  · cases hz : mkB es fl k e
    · rfl
    · rw [why_mark hz] at hb
      cases hb
  · rw [Bool.or_eq_true] at hb
    unfold mkB
    rw [Bool.or_eq_true]
    rcases hb with hb | hb
    · exact .inl hb
    · right
      unfold whyJ at hb
      obtain ⟨o, ho, hx⟩ := List.any_eq_true.1 hb
      rw [List.any_eq_true]
      rw [Bool.and_eq_true] at hx
      cases he : es[o]? with
      | none => rw [he] at hx; simp at hx
      | some e2 =>
        rw [he, Option.any_some, Bool.and_eq_true] at hx
        refine ⟨o, mem_livI.2 ⟨e2, he, by simpa using hx.2.1⟩, ?_⟩
        rw [Bool.and_eq_true]
        refine ⟨hx.1, ?_⟩
        unfold srcAt
        rw [he]
        exact hx.2.2
/-- the document's mark's state: the boxes, and the index as it is being marked -/
structure RkS (w wr : World) (v : Nat) (fl : Int) (A : Option Addr) (n c go : Nat) (B : Option Addr) (C : Nat) (es : List Ent) : Prop where
  b2 : B2 w wr v fl A n c
  bo : Blk wr go 25 #[.int .u64 (v : Int), .int .i64 fl, .slice B n C]
  hx : NX wr w.heap.size B n C es
theorem RkS.grew {w wr W : World} {v : Nat} {fl : Int} {A : Option Addr} {n c go : Nat} {B : Option Addr} {C : Nat} {es : List Ent} (h : RkS w wr v fl A n c go B C es) (hg : Grew wr W) : RkS w W v fl A n c go B C es :=
  ⟨h.b2.grew hg, h.bo.grew hg, h.hx.grew hg⟩

set_option maxRecDepth 100000 in
set_option maxHeartbeats 4000000 in
theorem rmark_ok (v : Nat) (fl : Int) (A : Option Addr) (n c : Nat) (es : List Ent) (t : Int) (w : World) (h : RX w A n es) (hok : IxOk fl es) :
    Calls Tryz.prog 22 #[.agg #[.int .u64 (v : Int), .int .i64 fl, .slice A n c], .int .i64 t] w (IxR w v fl (markE es fl t) 0) := by
  have h3 := B2.mk2 w v fl A n c
  obtain ⟨W, hW⟩ : ∃ W, W = ((w.alloc (.cells #[.int .u64 (v : Int), .int .i64 fl, .slice A n c] 25)).alloc (.cells #[.int .u64 0, .int .i64 0, .slice none 0 0] 25)) := ⟨_, rfl⟩
  rw [← hW] at h3
  have hln : es.length = n := h.len
  have hn : n ≤ 256 := by rw [← hln]; exact hok.len
  have hC := rcheck_any v fl A n c es W (h.grew h3.gr) (by omega)
  rw [(chkI_iff fl es).2 hok] at hC
  replace hln := Lib.hid hln
  obtain ⟨rs, hrs⟩ : ∃ rs, markE es fl t = rs := ⟨_, rfl⟩
  rw [hrs]
  replace hrs := Lib.hid hrs
  unfold IxR
  go_enter Tryz.func22, Tryz.ntmps22
  go_wp2_with fail
  rw [← hW]
  refine hC.mono ?_
  rintro e w2 ⟨rfl, hg1⟩
  unfold errI
  have h5 := h3.grew hg1
  have i0 := h5.bi.cell 0
  have i1 := h5.bi.cell 1
  have i2 := h5.bi.cell 2
  simp only [List.getElem?_toArray, List.getElem?_cons_succ, List.getElem?_cons_zero] at i0 i1 i2
  clear hC hW
  go_wp2_with fail
  refine (rcopyI_any v fl A n c es w2 (h.grew h5.gr) hok.fit).mono ?_
  rintro e w3 ⟨B, C, rfl, hx3, hg3⟩
  obtain ⟨w4, hw4⟩ : ∃ w4, w4 = w3.alloc (.cells #[.int .u64 (v : Int), .int .i64 fl, .slice B n C] 25) := ⟨_, rfl⟩
  have hg4 : Grew w3 w4 := by rw [hw4]; exact (Chg.refl _ w3).alloc _
  have bo4 : Blk w4 w3.heap.size 25 #[.int .u64 (v : Int), .int .i64 fl, .slice B n C] := by rw [hw4]; exact Blk.new _ _ _
  have h6 := (h5.grew hg3).grew hg4
  have hsz := h5.gr.size
  have hsz3 := hg3.size
  have hbl := h5.br.lt
  have hx4 := (hx3.mono (base' := w.heap.size) (by omega)).grew hg4
  obtain ⟨go, hgo⟩ : ∃ go, w3.heap.size = go := ⟨_, rfl⟩
  rw [hgo] at bo4
  have hgo1 : w.heap.size + 1 < go := by omega
  have hS : RkS w w4 v fl A n c go B C (markL es fl t (livP es 0)) := ⟨h6, bo4, by rw [livP_zero, markL_nil]; exact hx4⟩
  clear i0 i1 i2 h6 h5 h3 bo4 hx4 hx3 hg4 hg3 hg1 hsz hsz3 hbl
  go_wp2
  rw [← hw4]
  clear hw4 hgo
  go_loopw [8] (fun i wr => ∃ j : Nat, j ≤ n ∧ i = .int .i64 (j : Int) ∧ RkS w wr v fl A n c go B C (markL es fl t (livP es j))) (fun i _ => n - (intOf i).toNat)
  case atStart => exact ⟨0, by omega, rfl, hS⟩
  case round =>
    clear hS
    obtain ⟨k, hj, rfl, hS⟩ := hrel
    have c2 := hS.b2.bi.cell 2
    simp only [List.getElem?_toArray, List.getElem?_cons_succ, List.getElem?_cons_zero] at c2
    by_cases hlt : k < n
    · obtain ⟨ad, m, rfl, he, hm, x0, x1, x2, x3, x4, x5, x6, x7, x8⟩ := (h.grew hS.b2.gr).at_ hlt
      obtain ⟨W, hW⟩ : ∃ W, W = wr.alloc (.cells #[.int .u64 (m.e.m.id : Int), .int .i64 m.e.m.lo, .int .i64 m.e.m.hi, .int .i64 m.e.m.lv, .slice m.A m.n m.c, .int .i64 m.e.m.sr, .int .i64 m.e.m.pt, .bool m.e.mkd, .int .i64 m.e.tm] 51) := ⟨_, rfl⟩
      have hgW : Grew wr W := by rw [hW]; exact (Chg.refl _ wr).alloc _
      have hbW : Blk W wr.heap.size 51 #[.int .u64 (m.e.m.id : Int), .int .i64 m.e.m.lo, .int .i64 m.e.m.hi, .int .i64 m.e.m.lv, .slice m.A m.n m.c, .int .i64 m.e.m.sr, .int .i64 m.e.m.pt, .bool m.e.mkd, .int .i64 m.e.tm] := by rw [hW]; exact Blk.new wr _ _
      have hSW := hS.grew hgW
      obtain ⟨z, hzz⟩ : ∃ z, mkB es fl k m.e = z := ⟨_, rfl⟩
      have hz := hzz
      rw [mkB_why, hln.out] at hz
      have htk := livP_snoc he
      have hst : Hid (markL es fl t (livP es (k + 1)) = if m.e.mkd = false ∧ z = true then (markL es fl t (livP es k)).set k ⟨m.e.m, true, t⟩ else markL es fl t (livP es k)) := by
        refine Lib.hid ?_
        rw [htk]
        cases hk : m.e.mkd
        · rw [if_neg (by simp)]
          cases z
          · rw [if_neg (by simp)]
            exact markL_step_no he hzz
          · rw [if_pos ⟨rfl, rfl⟩]
            exact markL_step_yes he hzz
        · rw [if_pos rfl, List.append_nil, if_neg (by simp)]
      have hmk : (markL es fl t (livP es k))[k]? = some (markAt es fl t (livP es k) k m.e) := markL_get he
      have hmm : (markAt es fl t (livP es k) k m.e).m = m.e.m := markAt_m _ _ _ _ _ _
      generalize markAt es fl t (livP es k) k m.e = e' at hmk hmm
      obtain ⟨b, hb⟩ : ∃ b, decide (m.e.m.hi < fl) = b := ⟨_, rfl⟩
      rw [hb] at hz
      have hz0 : Hid (z = (b || whyJ es k m.e.m.id n)) := Lib.hid hz.symm
      have c1 := hSW.b2.bi.cell 1
      have d2 := hbW.cell 2
      simp only [List.getElem?_toArray, List.getElem?_cons_succ, List.getElem?_cons_zero] at c1 d2
      rw [hW] at c1 d2
      replace hmk := Lib.hid hmk
      replace hmm := Lib.hid hmm
      clear hz hzz htk he
      go_wp2
      rw [← hW]
      clear hW x0 x1 x2 x3 x4 x5 x6 x7 x8 hm c1 c2 d2
      generalize W = wo at *
      generalize wr.heap.size = ge at *
      go_loopw [10, 11] (fun s i wr2 => ∃ (o : Nat) (b2 : Bool), o ≤ n ∧ i = .int .i64 (o : Int) ∧ s = .bool b2 ∧ Hid (b2 = (b || whyJ es k m.e.m.id o)) ∧ Grew wo wr2) (fun _ i _ => n - (intOf i).toNat)
      case atStart => exact ⟨0, b, by omega, rfl, by rw [← hb], Lib.hid (by simp [whyJ]), Chg.refl _ _⟩
      case round =>
        obtain ⟨o, g, ho, rfl, rfl, hc, hg⟩ := hrel
        have hSr := hSW.grew hg
        have c2 := hSr.b2.bi.cell 2
        simp only [List.getElem?_toArray, List.getElem?_cons_succ, List.getElem?_cons_zero] at c2
        by_cases hlo : o < n
        · obtain ⟨ad2, m2, e3, hx2, hm2, -, -, -, -, y4, -, -, y7, -⟩ := (h.grew hSr.b2.gr).at_ hlo
          injection e3 with e3
          subst e3
          have hv : (b || whyJ es k m.e.m.id (o + 1)) = (g || (!decide (o = k) && (!m2.e.mkd && m2.e.m.src.contains m.e.m.id))) := by
            rw [whyJ_snoc _ _ _ _ _ hx2, ← Bool.or_assoc, ← hc.out]
          have d0 := (hbW.grew hg).cell 0
          simp only [List.getElem?_toArray, List.getElem?_cons_zero] at d0
          clear hc hx2
          cases g
          · rw [Bool.false_or] at hv
            by_cases hqk : o = k
            · rw [decide_eq_true hqk, Bool.not_true, Bool.false_and] at hv
              replace hv := Lib.hid hv.symm
              have hqk2 : (o : Int) = (k : Int) := by omega
              have hqk3 : ((o : Int) != (k : Int)) = false := by simp [hqk2]
              clear hqk
              go_wp2_with fail
              refine wp_region_text [(3, 1)] (by kernel_rfl) (by kernel_rfl) ?_
              simp only [instr, chk, look, Nat.reduceBEq, if_true, if_false, Nat.reduceEqDiff, List.cons_append, List.nil_append]
              go_wp2_with fail
              refine OnlyN.normal ?_
              go_wp2
              go_roundw
              case rel => exact ⟨o + 1, false, by omega, by go_num, by simp [], hv, hg.drew⟩
              case measure => simp [intOf]; omega
            · rw [decide_eq_false hqk, Bool.not_false, Bool.true_and] at hv
              have hqk2 : ¬ (o : Int) = (k : Int) := by omega
              cases hmk2 : m2.e.mkd
              · rw [hmk2, Bool.not_false, Bool.true_and] at hv
                rw [hmk2] at y7
                replace hv := Lib.hid hv
                have hI := fun W1 (hW1 : Grew wr W1) => in_any m2.A m2.n m2.c m2.e.m.src m.e.m.id W1 (hm2.row.grew hW1) (by have := hm2.cap; omega)
                replace hI := Lib.hid hI
                go_wp2_with fail
                refine wp_region_text [(3, 1)] (by kernel_rfl) (by kernel_rfl) ?_
                simp only [instr, chk, look, Nat.reduceBEq, if_true, if_false, Nat.reduceEqDiff, List.cons_append, List.nil_append]
                go_wp2_with fail
                refine (hI.out _ (Chg.refl _ wr).drew).mono ?_
                rintro e w6 ⟨rfl, hg6⟩
                have hg7 : Grew wo w6 := hg.trans ((Chg.refl _ wr).drew.trans hg6)
                generalize m2.e.m.src.contains m.e.m.id = cb at *
                clear hI
                go_wp2_with fail
                refine OnlyN.normal ?_
                go_wp2
                go_roundw
                case rel => exact ⟨o + 1, cb, by omega, by go_num, by simp [hqk2], Lib.hid hv.out.symm, hg7⟩
                case measure => simp [intOf]; omega
              · rw [hmk2, Bool.not_true, Bool.false_and] at hv
                rw [hmk2] at y7
                replace hv := Lib.hid hv.symm
                go_wp2_with fail
                refine wp_region_text [(3, 1)] (by kernel_rfl) (by kernel_rfl) ?_
                simp only [instr, chk, look, Nat.reduceBEq, if_true, if_false, Nat.reduceEqDiff, List.cons_append, List.nil_append]
                go_wp2_with fail
                refine OnlyN.normal ?_
                go_wp2
                go_roundw
                case rel => exact ⟨o + 1, false, by omega, by go_num, by simp [], hv, hg.drew⟩
                case measure => simp [intOf]; omega
          · rw [Bool.true_or] at hv
            replace hv := Lib.hid hv.symm
            go_wp2_with fail
            refine wp_region_text [(3, 1)] (by kernel_rfl) (by kernel_rfl) ?_
            simp only [instr, chk, look, Nat.reduceBEq, if_true, if_false, Nat.reduceEqDiff, List.cons_append, List.nil_append]
            go_wp2_with fail
            refine OnlyN.normal ?_
            go_wp2
            go_roundw
            case rel => exact ⟨o + 1, true, by omega, by go_num, by simp, hv, hg.drew⟩
            case measure => simp [intOf]; omega
        · obtain rfl : o = n := by omega
          have hzg : z = g := by rw [hz0.out, hc.out]
          have d7 := (hbW.grew hg).cell 7
          simp only [List.getElem?_toArray, List.getElem?_cons_succ, List.getElem?_cons_zero] at d7
          clear hc
          subst hzg
          cases hmk2 : m.e.mkd
          · rw [hmk2] at d7 hst
            cases z
            · have hsn := hst.out
              rw [if_neg (by simp)] at hsn
              replace hsn := Lib.hid hsn
              clear hst
              go_wp2
              go_roundw
              case rel =>
                refine ⟨k + 1, by omega, by go_num, ?_⟩
                rw [hsn.out]
                exact hSr
              case measure => simp [intOf]; omega
            · have hsy := hst.out
              rw [if_pos (by simp)] at hsy
              replace hsy := Lib.hid hsy
              clear hst
              obtain ⟨ms, hxo, hmap⟩ := hSr.hx
              obtain ⟨gB, rfl, hgB⟩ := Own.at_ hxo.row (by omega)
              obtain ⟨mk, hmk1, hmk3⟩ : ∃ mk, ms[k]? = some mk ∧ mk.e = e' := by
                have hmk := hmk.out
                rw [← hmap, List.getElem?_map] at hmk
                cases hq : ms[k]? with
                | none => rw [hq] at hmk; cases hmk
                | some mk =>
                  rw [hq] at hmk
                  injection hmk with hmk
                  exact ⟨mk, rfl, hmk⟩
              have hxo2 := (hxo.mark hmk1 t).nx
              have h10 : (ms.set k ⟨⟨mk.e.m, true, t⟩, mk.A, mk.n, mk.c⟩).map EnM.e = markL es fl t (livP es (k + 1)) := by
                rw [List.map_set, hmap, hmk3, hmm.out, hsy.out]
              rw [h10] at hxo2
              have hR := hxo.row
              obtain ⟨g', hg', _, _, hcl, hfr, _⟩ := Own.at_ hR (by omega)
              injection hg' with hg'
              injection hg' with hg' _ _
              subst hg'
              have hml : ms.length = o := (OE.re (by decide) hxo.row).1
              have z7 : wr.cell? ⟨gB, k * 9 + 7, none⟩ = some (.bool mk.e.mkd) := by
                rw [hcl _ (by show k * 9 + 7 < o * 9; omega)]
                exact elEn.flat_get ms hmk1 (j := 7) (by decide)
              have z8 : wr.cell? ⟨gB, k * 9 + 8, none⟩ = some (.int .i64 mk.e.tm) := by
                rw [hcl _ (by show k * 9 + 8 < o * 9; omega)]
                exact elEn.flat_get ms hmk1 (j := 8) (by decide)
              have zf7 := hfr (k * 9 + 7)
              have zf8 := hfr (k * 9 + 8)
              have hgn : go ≠ gB := fun e => Own.ne_blk hxo.row hSr.bo (by decide) ⟨gB, 0, none⟩ rfl e.symm
              have o2 := hSr.bo.cell 2
              have o2' := (hSr.bo.far (p := ⟨gB, k * 9 + 7, none⟩) hgn (.bool true)).cell 2
              simp only [List.getElem?_toArray, List.getElem?_cons_succ, List.getElem?_cons_zero] at o2 o2'
              have z8' : (wr.setCell ⟨gB, k * 9 + 7, none⟩ (.bool true)).cell? ⟨gB, k * 9 + 8, none⟩ = some (.int .i64 mk.e.tm) := by
                rw [World.cell?_setCell_other _ _ _ _ (by intro e; injection e with _ e _; omega)]
                exact z8
              have zf8' : (wr.setCell ⟨gB, k * 9 + 7, none⟩ (.bool true)).frozen? ⟨gB, k * 9 + 8, none⟩ = false := by rw [World.frozen?_setCell]; exact zf8
              have hcc : Chg (fun k => k = gB) wr ((wr.setCell ⟨gB, k * 9 + 7, none⟩ (.bool true)).setCell ⟨gB, k * 9 + 8, none⟩ (.int .i64 t)) := ((Chg.refl (fun k => k = gB) wr).setCell (p := ⟨gB, k * 9 + 7, none⟩) (.inr rfl) _).setCell (p := ⟨gB, k * 9 + 8, none⟩) (.inr rfl) _
              have hix : ∀ g' t' cs, t' ≠ 51 → Blk wr g' t' cs → Blk ((wr.setCell ⟨gB, k * 9 + 7, none⟩ (.bool true)).setCell ⟨gB, k * 9 + 8, none⟩ (.int .i64 t)) g' t' cs := fun g' t' cs ht hb => hb.chg hcc fun e => Own.ne_blk hxo.row hb (Ne.symm ht) ⟨gB, 0, none⟩ rfl e.symm
              have hnew : RkS w ((wr.setCell ⟨gB, k * 9 + 7, none⟩ (.bool true)).setCell ⟨gB, k * 9 + 8, none⟩ (.int .i64 t)) v fl (some ad) o c go (some ⟨gB, 0, none⟩) C (markL es fl t (livP es (k + 1))) :=
                ⟨⟨hix _ _ _ (by decide) hSr.b2.bi, hix _ _ _ (by decide) hSr.b2.br, hSr.b2.gr.step hcc fun k' hk' e => by omega⟩, hix _ _ _ (by decide) hSr.bo, hxo2⟩
              clear hxo hxo2 hR hmk1 hcc hix hsy hcl hfr h10 hmap hml
              go_wp2
              go_roundw
              case rel => exact ⟨k + 1, by omega, by go_num, hnew⟩
              case measure => simp [intOf]; omega
          · rw [hmk2] at d7 hst
            have hsn := hst.out
            rw [if_neg (by simp)] at hsn
            replace hsn := Lib.hid hsn
            clear hst
            go_wp2
            go_roundw
            case rel =>
              refine ⟨k + 1, by omega, by go_num, ?_⟩
              rw [hsn.out]
              exact hSr
            case measure => simp [intOf]; omega
    · obtain rfl : k = n := by omega
      have hx := hS.hx
      rw [livP_all (by have := hln.out; omega)] at hx
      change NX _ _ _ _ _ (markE es fl t) at hx
      rw [hrs.out] at hx
      have hrl := hx.len
      have br := hS.b2.br
      have k0 := hS.bo.cell 0
      have k1 := hS.bo.cell 1
      have k2 := hS.bo.cell 2
      have r0 := br.cell 0
      have r1 := br.cell 1
      have r2 := br.cell 2
      have f0 := br.frozen 0
      have f1 := br.frozen 1
      have f2 := br.frozen 2
      simp only [List.getElem?_toArray, List.getElem?_cons_succ, List.getElem?_cons_zero] at k0 k1 k2 r0 r1 r2
      replace hrl := Lib.hid hrl
      go_wp2
      refine bodyPost_ret (v := .tuple #[.agg #[.int .u64 (v : Int), .int .i64 fl, .slice B k C], .int .i64 0]) ?_ rfl ⟨B, C, by rw [hrl.out], ?_, hS.b2.gr.far3 (by omega) _ _ _⟩
      · have q := br.put3 (.int .u64 (v : Int)) (.int .i64 fl) (.slice B k C)
        have q0 := q.cell 0
        have q1 := q.cell 1
        have q2 := q.cell 2
        simp [results, Tryz.results22, go_sem, q0, q1, q2]
      · rw [hrl.out]
        exact hx.far3 br (by decide) (by decide) _ _ _
end Go.Proofs.YtjoaonppaokhhaaGreat

namespace Go.Proofs.YtjoaonppaokhhaaGreat
open Go.RowKit

theorem Fit.nil : Fit [] := ⟨by simp, fun e he => by cases he⟩
theorem add_two (v : Nat) (fl : Int) (es : List Ent) (m : Met) (hn : es.length ≤ 9223372036854775807) (hp : m.src.length ≤ 9223372036854775807) : ∃ (va : Nat) (fa : Int) (ea : List Ent) (za : Int), Fit ea ∧
    (∀ A n c D p d w, RX w A n es → RE elU w D p m.src → Calls Tryz.prog 10 #[.agg #[.int .u64 (v : Int), .int .i64 fl, .slice A n c], .agg #[.int .u64 (m.id : Int), .int .i64 m.lo, .int .i64 m.hi, .int .i64 m.lv, .slice D p d, .int .i64 m.sr, .int .i64 m.pt]] w (IxR w va fa ea za)) ∧
    (∀ A n c D p d w, RX w A n es → RE elU w D p m.src → Calls Tryz.prog 19 #[.agg #[.int .u64 (v : Int), .int .i64 fl, .slice A n c], .agg #[.int .u64 (m.id : Int), .int .i64 m.lo, .int .i64 m.hi, .int .i64 m.lv, .slice D p d, .int .i64 m.sr, .int .i64 m.pt]] w (IxR w va fa ea za)) := by
  have hnn : ∀ {w : World} {A : Option Addr} {n : Nat}, RX w A n es → n ≤ 9223372036854775807 := fun h => by rw [← h.len]; exact hn
  have hpp : ∀ {w : World} {D : Option Addr} {p : Nat}, RE elU w D p m.src → p ≤ 9223372036854775807 := fun h => by rw [← h.1]; exact hp
  by_cases hno : chkI fl es = true ∧ metOk m = true
  · have hok := (chkI_iff fl es).1 hno.1
    by_cases hl : es.length < 256
    · exact ⟨v, fl, addE es m, 0, (hok.addE hno.2 hl).fit, fun A n c D p d w h hs => add_ok v fl A n c es m D p d w h hs (hpp hs) hok hno.2 hl, fun A n c D p d w h hs => radd_ok v fl A n c es m D p d w h hs (hpp hs) hok hno.2 hl⟩
    · exact ⟨0, 0, [], 141, Fit.nil, fun A n c D p d w h hs => add_many v fl A n c es m D p d w h hs (hpp hs) hok hno.2 (by omega), fun A n c D p d w h hs => radd_many v fl A n c es m D p d w h hs (hpp hs) hok hno.2 (by omega)⟩
  · exact ⟨0, 0, [], 140, Fit.nil, fun A n c D p d w h hs => add_form v fl A n c es m D p d w h (hnn h) hs (hpp hs) hno, fun A n c D p d w h hs => radd_form v fl A n c es m D p d w h (hnn h) hs (hpp hs) hno⟩
theorem remove_two (v : Nat) (fl : Int) (es : List Ent) (id : Nat) (hn : es.length ≤ 9223372036854775807) : ∃ (va : Nat) (fa : Int) (ea : List Ent) (za : Int), Fit ea ∧
    (∀ A n c w, RX w A n es → Calls Tryz.prog 11 #[.agg #[.int .u64 (v : Int), .int .i64 fl, .slice A n c], .int .u64 (id : Int)] w (IxR w va fa ea za)) ∧
    (∀ A n c w, RX w A n es → Calls Tryz.prog 20 #[.agg #[.int .u64 (v : Int), .int .i64 fl, .slice A n c], .int .u64 (id : Int)] w (IxR w va fa ea za)) := by
  have hnn : ∀ {w : World} {A : Option Addr} {n : Nat}, RX w A n es → n ≤ 9223372036854775807 := fun h => by rw [← h.len]; exact hn
  cases hck : chkI fl es
  · exact ⟨0, 0, [], 140, Fit.nil, fun A n c w h => remove_no v fl A n c es id w h (hnn h) hck, fun A n c w h => rremove_no v fl A n c es id w h (hnn h) hck⟩
  · have hok := (chkI_iff fl es).1 hck
    exact ⟨v, fl, remE es id, 0, (hok.remE id).fit, fun A n c w h => remove_ok v fl A n c es id w h hok, fun A n c w h => rremove_ok v fl A n c es id w h hok⟩
theorem raise_two (v : Nat) (fl : Int) (es : List Ent) (t : Int) (hn : es.length ≤ 9223372036854775807) : ∃ (va : Nat) (fa : Int) (ea : List Ent) (za : Int),
    (∀ A n c w, RX w A n es → Calls Tryz.prog 12 #[.agg #[.int .u64 (v : Int), .int .i64 fl, .slice A n c], .int .i64 t] w (IxR w va fa ea za)) ∧
    (∀ A n c w, RX w A n es → Calls Tryz.prog 21 #[.agg #[.int .u64 (v : Int), .int .i64 fl, .slice A n c], .int .i64 t] w (IxR w va fa ea za)) := by
  have hnn : ∀ {w : World} {A : Option Addr} {n : Nat}, RX w A n es → n ≤ 9223372036854775807 := fun h => by rw [← h.len]; exact hn
  by_cases hno : chkI fl es = true ∧ t ≤ 1099511627776
  · have hok := (chkI_iff fl es).1 hno.1
    exact ⟨v, max fl t, es, 0, fun A n c w h => raise_ok v fl A n c es t w h hok hno.2, fun A n c w h => rraise_ok v fl A n c es t w h hok hno.2⟩
  · exact ⟨0, 0, [], 140, fun A n c w h => raise_no v fl A n c es t w h (hnn h) hno, fun A n c w h => rraise_no v fl A n c es t w h (hnn h) hno⟩
theorem mark_two (v : Nat) (fl : Int) (es : List Ent) (t : Int) (hn : es.length ≤ 9223372036854775807) : ∃ (va : Nat) (fa : Int) (ea : List Ent) (za : Int),
    (∀ A n c w, RX w A n es → Calls Tryz.prog 13 #[.agg #[.int .u64 (v : Int), .int .i64 fl, .slice A n c], .int .i64 t] w (IxR w va fa ea za)) ∧
    (∀ A n c w, RX w A n es → Calls Tryz.prog 22 #[.agg #[.int .u64 (v : Int), .int .i64 fl, .slice A n c], .int .i64 t] w (IxR w va fa ea za)) := by
  have hnn : ∀ {w : World} {A : Option Addr} {n : Nat}, RX w A n es → n ≤ 9223372036854775807 := fun h => by rw [← h.len]; exact hn
  cases hck : chkI fl es
  · exact ⟨0, 0, [], 140, fun A n c w h => mark_no v fl A n c es t w h (hnn h) hck, fun A n c w h => rmark_no v fl A n c es t w h (hnn h) hck⟩
  · have hok := (chkI_iff fl es).1 hck
    exact ⟨v, fl, markE es fl t, 0, fun A n c w h => mark_ok v fl A n c es t w h hok, fun A n c w h => rmark_ok v fl A n c es t w h hok⟩

/-- a box: where, of what type, what is in it -/
structure Bx where
  g : Nat
  t : TypeId
  cs : Array Value
/-- all these boxes stand so, none of them a row of numbers or of entries -/
def Bxs (W : World) (L : List Bx) : Prop := ∀ x ∈ L, Blk W x.g x.t x.cs ∧ x.t ≠ 22 ∧ x.t ≠ 51
theorem Bxs.at_ {W : World} {L : List Bx} (h : Bxs W L) (i : Nat) {g : Nat} {t : TypeId} {cs : Array Value} (hi : L[i]? = some ⟨g, t, cs⟩) : Blk W g t cs := (h _ (List.mem_of_getElem? hi)).1
theorem Bxs.chg {S : Nat → Prop} {W W' : World} {L : List Bx} (h : Bxs W L) (hc : Chg S W W') (hS : ∀ x ∈ L, ¬ S x.g) : Bxs W' L := fun x hx => ⟨(h x hx).1.chg hc (hS x hx), (h x hx).2⟩
theorem Bxs.grew {W W' : World} {L : List Bx} (h : Bxs W L) (hc : Grew W W') : Bxs W' L := h.chg hc fun _ _ e => e
theorem Bxs.push {W W' : World} {L : List Bx} (h : Bxs W L) {g : Nat} {t : TypeId} {cs : Array Value} (hw : W' = W.alloc (.cells cs t)) (hg : W.heap.size = g) (h1 : t ≠ 22) (h2 : t ≠ 51) : Bxs W' (L ++ [⟨g, t, cs⟩]) := by
  subst hw
  subst hg
  intro x hx
  rcases List.mem_append.1 hx with hx | hx
  · exact ⟨(h x hx).1.alloc _, (h x hx).2⟩
  · rcases List.mem_singleton.1 hx with rfl
    exact ⟨Blk.new W _ _, h1, h2⟩
theorem Bxs.set {W : World} {L R : List Bx} {g : Nat} {t : TypeId} {cs : Array Value} (h : Bxs W (L ++ ⟨g, t, cs⟩ :: R)) (i : Nat) (u : Value) (hd : ∀ x ∈ L ++ R, x.g ≠ g) : Bxs (W.setCell ⟨g, i, none⟩ u) (L ++ ⟨g, t, cs.setIfInBounds i u⟩ :: R) := by
  intro x hx
  have hg := h ⟨g, t, cs⟩ (by simp)
  rcases List.mem_append.1 hx with hx | hx
  · have h1 := h x (List.mem_append_left _ hx)
    exact ⟨h1.1.far (p := ⟨g, i, none⟩) (hd x (List.mem_append_left _ hx)) u, h1.2⟩
  · rcases List.mem_cons.1 hx with rfl | hx
    · exact ⟨hg.1.set i u, hg.2⟩
    · have h1 := h x (List.mem_append_right _ (List.mem_cons_of_mem _ hx))
      exact ⟨h1.1.far (p := ⟨g, i, none⟩) (hd x (List.mem_append_right _ hx)) u, h1.2⟩
/-- a row of numbers written over -/
theorem Bxs.rowU {W W' : World} {L : List Bx} (h : Bxs W L) {base : Nat} {A : Option Addr} {n c : Nat} {l : List Nat} (ho : OE elU W base 22 A n c l) (hc : Chg (fun k => ∃ ad, A = some ad ∧ k = ad.block) W W') : Bxs W' L :=
  h.chg hc fun x hx ⟨ad, e, e2⟩ => Own.ne_blk ho (h x hx).1 (Ne.symm (h x hx).2.1) ad e e2.symm
/-- an index' rows, whose blocks lie outside the box -/
theorem Bxs.range {W W' : World} {L : List Bx} (h : Bxs W L) {lo hi : Nat} (hc : Chg (fun k => lo ≤ k ∧ k < hi) W W') (hL : ∀ x ∈ L, x.g < lo ∨ hi ≤ x.g) : Bxs W' L :=
  h.chg hc fun x hx ⟨h1, h2⟩ => by
    rcases hL x hx with h3 | h3 <;> omega
end Go.Proofs.YtjoaonppaokhhaaGreat
