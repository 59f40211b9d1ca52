/-
  Several texts in one:
  The document's (tidewrackref14.Remove) walked. Conditions: lengths that a slice has.
  The document's (tidewrackref14.Add) where it refuses. Conditions: lengths that a slice has.
  Rows of IDs lent, kept. Conditions: lengths that memory bears.
-/
import Derived.Test.YtjoaonppaokhhaaGreatPart43

namespace Go.Proofs.YtjoaonppaokhhaaGreat
open Go.RowKit

set_option maxRecDepth 100000 in
set_option maxHeartbeats 4000000 in
theorem rremove_ok (v : Nat) (fl : Int) (A : Option Addr) (n c : Nat) (es : List Ent) (id : Nat) (w : World) (h : RX w A n es) (hok : IxOk fl es) :
    Calls Tryz.prog 20 #[.agg #[.int .u64 (v : Int), .int .i64 fl, .slice A n c], .int .u64 (id : Int)] w (IxR w v fl (remE es id) 0) := by
  have h3 := B2.mk2 w v fl A n c
  obtain ⟨W, hW⟩ : ∃ W, W = ((w.alloc (.cells #[.int .u64 (v : Int), .int .i64 fl, .slice A n c] 25)).alloc (.cells #[.int .u64 0, .int .i64 0, .slice none 0 0] 25)) := ⟨_, rfl⟩
  rw [← hW] at h3
  have hln : es.length = n := h.len
  have hn : n ≤ 256 := by rw [← hln]; exact hok.len
  have hC := rcheck_any v fl A n c es W (h.grew h3.gr) (by omega)
  rw [(chkI_iff fl es).2 hok] at hC
  replace hln := Lib.hid hln
  obtain ⟨rs, hrs⟩ : ∃ rs, remE es id = rs := ⟨_, rfl⟩
  rw [hrs]
  replace hrs := Lib.hid hrs
  unfold IxR
  go_enter Tryz.func20, Tryz.ntmps20
  go_wp2_with fail
  rw [← hW]
  refine hC.mono ?_
  rintro e w2 ⟨rfl, hg1⟩
  unfold errI
  have h5 := h3.grew hg1
  have i0 := h5.bi.cell 0
  have i1 := h5.bi.cell 1
  have i2 := h5.bi.cell 2
  simp only [List.getElem?_toArray, List.getElem?_cons_succ, List.getElem?_cons_zero] at i0 i1 i2
  clear hC hW
  go_wp2_with fail
  refine (rcopyI_any v fl A n c es w2 (h.grew h5.gr) hok.fit).mono ?_
  rintro e w3 ⟨B, C, rfl, hx3, hg3⟩
  obtain ⟨w4, hw4⟩ : ∃ w4, w4 = w3.alloc (.cells #[.int .u64 (v : Int), .int .i64 fl, .slice B n C] 25) := ⟨_, rfl⟩
  have hg4 : Grew w3 w4 := by rw [hw4]; exact (Chg.refl _ w3).alloc _
  have bo4 : Blk w4 w3.heap.size 25 #[.int .u64 (v : Int), .int .i64 fl, .slice B n C] := by rw [hw4]; exact Blk.new _ _ _
  have h6 := (h5.grew hg3).grew hg4
  have hsz := h5.gr.size
  have hsz3 := hg3.size
  have hbl := h5.br.lt
  have hx4 := (hx3.mono (base' := w.heap.size) (by omega)).grew hg4
  clear i0 i1 i2
  have i0 := h6.bi.cell 0
  have i1 := h6.bi.cell 1
  have i2 := h6.bi.cell 2
  simp only [List.getElem?_toArray, List.getElem?_cons_succ, List.getElem?_cons_zero] at i0 i1 i2
  rw [hw4] at i0 i1 i2
  go_wp2_with fail
  rw [← hw4]
  refine (rfind_any v fl B n C es id w4 hx4.rx hok.srt (by omega)).mono ?_
  rintro e w5 ⟨rfl, hg5⟩
  obtain ⟨go, hgo⟩ : ∃ go, w3.heap.size = go := ⟨_, rfl⟩
  rw [hgo] at bo4
  have h7 := h6.grew hg5
  have bo5 := bo4.grew hg5
  have hx5 := hx4.grew hg5
  have hrs := hrs.out
  unfold remE at hrs
  rw [hgo]
  have hgo1 : w.heap.size + 1 < go := by omega
  clear hw4 i0 i1 i2 bo4 hx4 hx3 h6 h5 h3 hgo
  cases hf : foundI es id
  · rw [hf, if_neg (by simp)] at hrs
    subst hrs
    have k0 := bo5.cell 0
    have k1 := bo5.cell 1
    have k2 := bo5.cell 2
    have r0 := h7.br.cell 0
    have r1 := h7.br.cell 1
    have r2 := h7.br.cell 2
    have f0 := h7.br.frozen 0
    have f1 := h7.br.frozen 1
    have f2 := h7.br.frozen 2
    simp only [List.getElem?_toArray, List.getElem?_cons_succ, List.getElem?_cons_zero] at k0 k1 k2 r0 r1 r2
    clear hf
    go_wp2
    refine bodyPost_ret (v := .tuple #[.agg #[.int .u64 (v : Int), .int .i64 fl, .slice B n C], .int .i64 0]) ?_ rfl ⟨B, C, by rw [hln.out], ?_, h7.gr.far3 (by omega) _ _ _⟩
    · have q := h7.br.put3 (.int .u64 (v : Int)) (.int .i64 fl) (.slice B n C)
      have q0 := q.cell 0
      have q1 := q.cell 1
      have q2 := q.cell 2
      simp [results, Tryz.results20, go_sem, q0, q1, q2]
    · rw [hln.out]
      exact hx5.far3 h7.br (by decide) (by decide) _ _ _
  · rw [hf, if_pos rfl, eraseIdx_take_drop] at hrs
    have hpos := foundI_lt hf
    rw [hln.out] at hpos
    obtain ⟨ps, hps⟩ : ∃ ps, posI es id = ps := ⟨_, rfl⟩
    rw [hps] at hpos hrs ⊢
    obtain ⟨p, rfl⟩ : ∃ p, n = p + 1 := ⟨n - 1, by omega⟩
    obtain ⟨ms, hxo, hmap⟩ := hx5
    obtain ⟨gB, rfl, hgB, _⟩ := Own.at_ hxo.row (by omega)
    have k2 := bo5.cell 2
    simp only [List.getElem?_toArray, List.getElem?_cons_succ, List.getElem?_cons_zero] at k2
    have hmrs : (ms.take ps ++ ms.drop (ps + 1)).map EnM.e = rs := by rw [← hrs, ← hmap]; simp
    have hlrs : rs.length = p := by rw [← hrs, List.length_append, List.length_take, List.length_drop, hln.out]; omega
    replace hlrs := Lib.hid hlrs
    clear hf hps hrs hmap
    have hsC := hxo.row.cap
    have oS : OE elEn w5 w.heap.size 51 (some ⟨gB, 0, none⟩) ps C (ms.take ps) := by
      have := Own.shrink hxo.row (m := ps) (by omega)
      rwa [elEn.flat_take] at this
    have rS : RE elEn w5 (some ⟨gB, (ps + 1) * 9, none⟩) (p - ps) (ms.drop (ps + 1)) := by
      have := RE.drop (hxo.row.re (by decide)) (ps + 1)
      rw [add_head] at this
      rw [show p - ps = p + 1 - (ps + 1) by omega]
      exact this
    have hpp : ps + (p - ps) = p := by omega
    by_cases hcap : ps + 1 < C
    · skip
      go_wp2_with fail
      refine wp_region_textL [(3, 1)] [go] (by kernel_rfl) (by kernel_rfl) (cellsIn_one bo5) ?_
      simp only [wpUL, tagOf, chk, look, Nat.reduceBEq, if_true, if_false, Nat.reduceEqDiff, List.cons_append, List.nil_append]
      intro K hK
      go_wp2_with fail
      refine OnlyN.normal (hK _ _ (fun _ => ⟨_, _, _, rfl, rfl, by simp⟩) ?_)
      clear hK K
      intro K hK
      go_wp2_with fail
      refine OnlyN.normal (hK _ _ (fun _ => ⟨_, _, _, rfl, rfl, by simp⟩) ?_)
      clear hK K
      intro K hK
      go_wp2_with (at_builtin; go_loud (refine wpList_appE rfl _ _ 23 51 infoEn rfl Tryz.underlying23 rfl w.heap.size (some ⟨gB, 0, none⟩) ps C (ms.take ps) rfl oS (by first | omega | (simp; omega)) (some ⟨gB, (ps + 1) * 9, none⟩) (p - ps) (C - (ps + 1)) (ms.drop (ps + 1)) rfl rS (by unfold maxLen; omega) (by omega) ?_); intro A9 c9 w9 h9)
      rw [hpp] at h9
      have ho9 := h9.oe
      have hc9 : Chg (fun k => ∃ ad, some (⟨gB, 0, none⟩ : Addr) = some ad ∧ k = ad.block) w5 w9 := ((Chg.refl _ w5).drew).trans h9.chg
      refine OnlyN.normal (hK _ _ (sameIn_of hc9 (cellsIn_one bo5) fun k hk ⟨ad, e, hk2⟩ => Own.ne_blk hxo.row bo5 (by decide) ad e (by rw [← hk2]; simpa using hk)) ?_)
      clear hK K
      have hx9 : NXo w9 w.heap.size A9 p c9 (ms.take ps ++ ms.drop (ps + 1)) := by
        refine ⟨ho9, fun y hy => ?_⟩
        have hy2 : y ∈ ms := by
          rcases List.mem_append.1 hy with hy | hy
          · exact List.mem_of_mem_take hy
          · exact List.mem_of_mem_drop hy
        exact OE.apartT (h := hxo.el y hy2) hxo.row (by decide) hc9
      have bo9 : Blk w9 go 25 #[.int .u64 (v : Int), .int .i64 fl, .slice (some ⟨gB, 0, none⟩) (p + 1) C] := bo5.chg hc9 fun ⟨ad, e, hk⟩ => Own.ne_blk hxo.row bo5 (by decide) ad e hk.symm
      have br9 : Blk w9 (w.heap.size + 1) 25 #[.int .u64 0, .int .i64 0, .slice none 0 0] := h7.br.chg hc9 fun ⟨ad, e, hk⟩ => Own.ne_blk hxo.row h7.br (by decide) ad e hk.symm
      have g9 : Grew w w9 := h7.gr.step hc9 fun k hk ⟨ad, e, hk2⟩ => by have := (Own.blk_lt hxo.row ad e).1; omega
      have bo10 := bo9.set 2 (.slice A9 p c9)
      simp only [List.setIfInBounds_toArray, List.set_cons_succ, List.set_cons_zero] at bo10
      have br10 := br9.far (p := ⟨go, 2, none⟩) (by show w.heap.size + 1 ≠ go; omega) (.slice A9 p c9)
      have hx10 := hx9.farBlk bo9 (by decide) (by decide) 2 (.slice A9 p c9)
      have g10 : Grew w (w9.setCell ⟨go, 2, none⟩ (.slice A9 p c9)) := g9.setCell (p := ⟨go, 2, none⟩) (.inl (by show w.heap.size ≤ go; omega)) _
      clear k2
      have k2 := bo9.cell 2
      have kf := bo9.frozen 2
      have l0 := bo10.cell 0
      have l1 := bo10.cell 1
      have l2 := bo10.cell 2
      have r0 := br10.cell 0
      have r1 := br10.cell 1
      have r2 := br10.cell 2
      have f0 := br10.frozen 0
      have f1 := br10.frozen 1
      have f2 := br10.frozen 2
      simp only [List.getElem?_toArray, List.getElem?_cons_succ, List.getElem?_cons_zero] at k2 l0 l1 l2 r0 r1 r2
      clear bo9
      go_wp2
      refine OnlyN.normal ?_
      go_wp2
      refine bodyPost_ret (v := .tuple #[.agg #[.int .u64 (v : Int), .int .i64 fl, .slice A9 p c9], .int .i64 0]) ?_ rfl ⟨A9, c9, by rw [hlrs.out], ?_, g10.far3 (by omega) _ _ _⟩
      · have q := br10.put3 (.int .u64 (v : Int)) (.int .i64 fl) (.slice A9 p c9)
        have q0 := q.cell 0
        have q1 := q.cell 1
        have q2 := q.cell 2
        simp [results, Tryz.results20, go_sem, q0, q1, q2]
      · have := hx10.nx
        rw [hmrs] at this
        rw [hlrs.out]
        exact this.far3 br10 (by decide) (by decide) _ _ _
    · obtain rfl : C = ps + 1 := by omega
      obtain rfl : p = ps := by omega
      clear rS hpp
      go_wp2_with fail
      refine wp_region_textL [(3, 1)] [go] (by kernel_rfl) (by kernel_rfl) (cellsIn_one bo5) ?_
      simp only [wpUL, tagOf, chk, look, Nat.reduceBEq, if_true, if_false, Nat.reduceEqDiff, List.cons_append, List.nil_append]
      intro K hK
      go_wp2_with fail
      refine OnlyN.normal (hK _ _ (fun _ => ⟨_, _, _, rfl, rfl, by simp⟩) ?_)
      clear hK K
      intro K hK
      go_wp2_with fail
      refine OnlyN.normal (hK _ _ (fun _ => ⟨_, _, _, rfl, rfl, by simp⟩) ?_)
      clear hK K
      intro K hK
      go_wp2_with (at_builtin; go_loud (refine wpList_appE rfl _ _ 23 51 infoEn rfl Tryz.underlying23 rfl w.heap.size (some ⟨gB, 0, none⟩) p (p + 1) (ms.take p) rfl oS (by first | omega | (simp; omega)) _ 0 _ [] rfl (RE.nil _ _) (by unfold maxLen; omega) (by omega) ?_); intro A9 c9 w9 h9)
      rw [Nat.add_zero, List.append_nil] at h9
      have hdr : ms.drop (p + 1) = [] := List.drop_of_length_le (by have := OE.len (by decide) hxo.row; omega)
      rw [hdr, List.append_nil] at hmrs
      have ho9 := h9.oe
      have hc9 : Chg (fun k => ∃ ad, some (⟨gB, 0, none⟩ : Addr) = some ad ∧ k = ad.block) w5 w9 := ((Chg.refl _ w5).drew).trans h9.chg
      refine OnlyN.normal (hK _ _ (sameIn_of hc9 (cellsIn_one bo5) fun k hk ⟨ad, e, hk2⟩ => Own.ne_blk hxo.row bo5 (by decide) ad e (by rw [← hk2]; simpa using hk)) ?_)
      clear hK K
      have hx9 : NXo w9 w.heap.size A9 p c9 (ms.take p) := by
        refine ⟨ho9, fun y hy => ?_⟩
        have hy2 : y ∈ ms := List.mem_of_mem_take hy
        exact OE.apartT (h := hxo.el y hy2) hxo.row (by decide) hc9
      have bo9 : Blk w9 go 25 #[.int .u64 (v : Int), .int .i64 fl, .slice (some ⟨gB, 0, none⟩) (p + 1) (p + 1)] := bo5.chg hc9 fun ⟨ad, e, hk⟩ => Own.ne_blk hxo.row bo5 (by decide) ad e hk.symm
      have br9 : Blk w9 (w.heap.size + 1) 25 #[.int .u64 0, .int .i64 0, .slice none 0 0] := h7.br.chg hc9 fun ⟨ad, e, hk⟩ => Own.ne_blk hxo.row h7.br (by decide) ad e hk.symm
      have g9 : Grew w w9 := h7.gr.step hc9 fun k hk ⟨ad, e, hk2⟩ => by have := (Own.blk_lt hxo.row ad e).1; omega
      have bo10 := bo9.set 2 (.slice A9 p c9)
      simp only [List.setIfInBounds_toArray, List.set_cons_succ, List.set_cons_zero] at bo10
      have br10 := br9.far (p := ⟨go, 2, none⟩) (by show w.heap.size + 1 ≠ go; omega) (.slice A9 p c9)
      have hx10 := hx9.farBlk bo9 (by decide) (by decide) 2 (.slice A9 p c9)
      have g10 : Grew w (w9.setCell ⟨go, 2, none⟩ (.slice A9 p c9)) := g9.setCell (p := ⟨go, 2, none⟩) (.inl (by show w.heap.size ≤ go; omega)) _
      clear k2
      have k2 := bo9.cell 2
      have kf := bo9.frozen 2
      have l0 := bo10.cell 0
      have l1 := bo10.cell 1
      have l2 := bo10.cell 2
      have r0 := br10.cell 0
      have r1 := br10.cell 1
      have r2 := br10.cell 2
      have f0 := br10.frozen 0
      have f1 := br10.frozen 1
      have f2 := br10.frozen 2
      simp only [List.getElem?_toArray, List.getElem?_cons_succ, List.getElem?_cons_zero] at k2 l0 l1 l2 r0 r1 r2
      clear bo9
      go_wp2
      refine OnlyN.normal ?_
      go_wp2
      refine bodyPost_ret (v := .tuple #[.agg #[.int .u64 (v : Int), .int .i64 fl, .slice A9 p c9], .int .i64 0]) ?_ rfl ⟨A9, c9, by rw [hlrs.out], ?_, g10.far3 (by omega) _ _ _⟩
      · have q := br10.put3 (.int .u64 (v : Int)) (.int .i64 fl) (.slice A9 p c9)
        have q0 := q.cell 0
        have q1 := q.cell 1
        have q2 := q.cell 2
        simp [results, Tryz.results20, go_sem, q0, q1, q2]
      · have := hx10.nx
        rw [hmrs] at this
        rw [hlrs.out]
        exact this.far3 br10 (by decide) (by decide) _ _ _
end Go.Proofs.YtjoaonppaokhhaaGreat

namespace Go.Proofs.YtjoaonppaokhhaaGreat
open Go.RowKit

set_option maxRecDepth 100000 in
set_option maxHeartbeats 4000000 in
theorem radd_form (v : Nat) (fl : Int) (A : Option Addr) (n c : Nat) (es : List Ent) (m : Met) (D : Option Addr) (p d : Nat) (w : World) (h : RX w A n es) (hn : n ≤ 9223372036854775807) (hs : RE elU w D p m.src) (hp : p ≤ 9223372036854775807) (hno : ¬ (chkI fl es = true ∧ metOk m = true)) :
    Calls Tryz.prog 19 #[.agg #[.int .u64 (v : Int), .int .i64 fl, .slice A n c], .agg #[.int .u64 (m.id : Int), .int .i64 m.lo, .int .i64 m.hi, .int .i64 m.lv, .slice D p d, .int .i64 m.sr, .int .i64 m.pt]] w (IxR w 0 0 [] 140) := by
  have h3 := B3.mk3 w v fl A n c m D p d
  obtain ⟨W, hW⟩ : ∃ W, W = (((w.alloc (.cells #[.int .u64 (v : Int), .int .i64 fl, .slice A n c] 25)).alloc (.cells #[.int .u64 (m.id : Int), .int .i64 m.lo, .int .i64 m.hi, .int .i64 m.lv, .slice D p d, .int .i64 m.sr, .int .i64 m.pt] 28)).alloc (.cells #[.int .u64 0, .int .i64 0, .slice none 0 0] 25)) := ⟨_, rfl⟩
  rw [← hW] at h3
  have hC := rcheck_any v fl A n c es W (h.grew h3.gr) hn
  have hM := fun W' (hg : Grew W W') => metaIs_any m D p d W' (hs.grew (h3.gr.trans hg)) hp
  have hfin : ∀ W', B3 w W' v fl A n c m D p d → NX (((W'.setCell ⟨w.heap.size + 2, 0, none⟩ (.int .u64 0)).setCell ⟨w.heap.size + 2, 1, none⟩ (.int .i64 0)).setCell ⟨w.heap.size + 2, 2, none⟩ (.slice none 0 0)) w.heap.size none 0 0 [] ∧
      Grew w (((W'.setCell ⟨w.heap.size + 2, 0, none⟩ (.int .u64 0)).setCell ⟨w.heap.size + 2, 1, none⟩ (.int .i64 0)).setCell ⟨w.heap.size + 2, 2, none⟩ (.slice none 0 0)) := fun W' hb => ⟨NX.nil _ _, hb.gr.far3 (by omega) _ _ _⟩
  replace hno := Lib.hid hno
  unfold IxR
  cases hck : chkI fl es
  · rw [hck] at hC
    clear hM
    go_enter Tryz.func19, Tryz.ntmps19
    go_wp2_with fail
    rw [← hW]
    refine hC.mono ?_
    rintro e w1 ⟨rfl, hg1⟩
    unfold errI
    have h4 := h3.grew hg1
    have k0 := h4.br.cell 0
    have k1 := h4.br.cell 1
    have k2 := h4.br.cell 2
    have f0 := h4.br.frozen 0
    have f1 := h4.br.frozen 1
    have f2 := h4.br.frozen 2
    simp only [List.getElem?_toArray, List.getElem?_cons_succ, List.getElem?_cons_zero] at k0 k1 k2
    clear hC hck hno hW
    go_wp2
    refine bodyPost_ret (v := .tuple #[.agg #[.int .u64 0, .int .i64 0, .slice none 0 0], .int .i64 140]) ?_ rfl ⟨none, 0, rfl, (hfin _ h4).1, (hfin _ h4).2⟩
    have q := h4.br.put3 (.int .u64 0) (.int .i64 0) (.slice none 0 0)
    have q0 := q.cell 0
    have q1 := q.cell 1
    have q2 := q.cell 2
    simp [results, Tryz.results19, go_sem, q0, q1, q2]
  · have hmo : metOk m = false := by
      cases hmo : metOk m
      · rfl
      · exact absurd ⟨hck, hmo⟩ hno.out
    rw [hck] at hC
    go_enter Tryz.func19, Tryz.ntmps19
    go_wp2_with fail
    rw [← hW]
    refine hC.mono ?_
    rintro e w1 ⟨rfl, hg1⟩
    unfold errI
    have h4 := h3.grew hg1
    have m0 := h4.bm.cell 0
    have m1 := h4.bm.cell 1
    have m2 := h4.bm.cell 2
    have m3 := h4.bm.cell 3
    have m4 := h4.bm.cell 4
    have m5 := h4.bm.cell 5
    have m6 := h4.bm.cell 6
    simp only [List.getElem?_toArray, List.getElem?_cons_succ, List.getElem?_cons_zero] at m0 m1 m2 m3 m4 m5 m6
    clear hC hck hno hW
    go_wp2_with fail
    refine (hM _ hg1).mono ?_
    rintro e w2 ⟨rfl, hg2⟩
    rw [hmo]
    have h5 := h4.grew hg2
    have k0 := h5.br.cell 0
    have k1 := h5.br.cell 1
    have k2 := h5.br.cell 2
    have f0 := h5.br.frozen 0
    have f1 := h5.br.frozen 1
    have f2 := h5.br.frozen 2
    simp only [List.getElem?_toArray, List.getElem?_cons_succ, List.getElem?_cons_zero] at k0 k1 k2
    clear hM hmo m0 m1 m2 m3 m4 m5 m6
    go_wp2
    refine bodyPost_ret (v := .tuple #[.agg #[.int .u64 0, .int .i64 0, .slice none 0 0], .int .i64 140]) ?_ rfl ⟨none, 0, rfl, (hfin _ h5).1, (hfin _ h5).2⟩
    have q := h5.br.put3 (.int .u64 0) (.int .i64 0) (.slice none 0 0)
    have q0 := q.cell 0
    have q1 := q.cell 1
    have q2 := q.cell 2
    simp [results, Tryz.results19, go_sem, q0, q1, q2]

set_option maxRecDepth 100000 in
set_option maxHeartbeats 4000000 in
theorem radd_many (v : Nat) (fl : Int) (A : Option Addr) (n c : Nat) (es : List Ent) (m : Met) (D : Option Addr) (p d : Nat) (w : World) (h : RX w A n es) (hs : RE elU w D p m.src) (hp : p ≤ 9223372036854775807) (hok : IxOk fl es) (hmo : metOk m = true) (hlen : 256 ≤ es.length) :
    Calls Tryz.prog 19 #[.agg #[.int .u64 (v : Int), .int .i64 fl, .slice A n c], .agg #[.int .u64 (m.id : Int), .int .i64 m.lo, .int .i64 m.hi, .int .i64 m.lv, .slice D p d, .int .i64 m.sr, .int .i64 m.pt]] w (IxR w 0 0 [] 141) := by
  have h3 := B3.mk3 w v fl A n c m D p d
  obtain ⟨W, hW⟩ : ∃ W, W = (((w.alloc (.cells #[.int .u64 (v : Int), .int .i64 fl, .slice A n c] 25)).alloc (.cells #[.int .u64 (m.id : Int), .int .i64 m.lo, .int .i64 m.hi, .int .i64 m.lv, .slice D p d, .int .i64 m.sr, .int .i64 m.pt] 28)).alloc (.cells #[.int .u64 0, .int .i64 0, .slice none 0 0] 25)) := ⟨_, rfl⟩
  rw [← hW] at h3
  have hln : es.length = n := h.len
  have hn : n ≤ 256 := by rw [← hln]; exact hok.len
  have hC := rcheck_any v fl A n c es W (h.grew h3.gr) (by omega)
  have hM := fun W' (hg : Grew W W') => metaIs_any m D p d W' (hs.grew (h3.gr.trans hg)) hp
  rw [(chkI_iff fl es).2 hok] at hC
  unfold IxR
  go_enter Tryz.func19, Tryz.ntmps19
  go_wp2_with fail
  rw [← hW]
  refine hC.mono ?_
  rintro e w1 ⟨rfl, hg1⟩
  unfold errI
  have h4 := h3.grew hg1
  have m0 := h4.bm.cell 0
  have m1 := h4.bm.cell 1
  have m2 := h4.bm.cell 2
  have m3 := h4.bm.cell 3
  have m4 := h4.bm.cell 4
  have m5 := h4.bm.cell 5
  have m6 := h4.bm.cell 6
  simp only [List.getElem?_toArray, List.getElem?_cons_succ, List.getElem?_cons_zero] at m0 m1 m2 m3 m4 m5 m6
  clear hC hW
  go_wp2_with fail
  refine (hM _ hg1).mono ?_
  rintro e w2 ⟨rfl, hg2⟩
  rw [hmo]
  clear hM m0 m1 m2 m3 m4 m5 m6
  have h5 := h4.grew hg2
  have i0 := h5.bi.cell 0
  have i1 := h5.bi.cell 1
  have i2 := h5.bi.cell 2
  simp only [List.getElem?_toArray, List.getElem?_cons_succ, List.getElem?_cons_zero] at i0 i1 i2
  have hl2 : (256 : Int) ≤ (n : Int) := by omega
  have k0 := h5.br.cell 0
  have k1 := h5.br.cell 1
  have k2 := h5.br.cell 2
  have f0 := h5.br.frozen 0
  have f1 := h5.br.frozen 1
  have f2 := h5.br.frozen 2
  simp only [List.getElem?_toArray, List.getElem?_cons_succ, List.getElem?_cons_zero] at k0 k1 k2
  clear hlen hln
  go_wp2
  refine bodyPost_ret (v := .tuple #[.agg #[.int .u64 0, .int .i64 0, .slice none 0 0], .int .i64 141]) ?_ rfl ⟨none, 0, rfl, NX.nil _ _, h5.gr.far3 (by omega) _ _ _⟩
  have q := h5.br.put3 (.int .u64 0) (.int .i64 0) (.slice none 0 0)
  have q0 := q.cell 0
  have q1 := q.cell 1
  have q2 := q.cell 2
  simp [results, Tryz.results19, go_sem, q0, q1, q2]
end Go.Proofs.YtjoaonppaokhhaaGreat

namespace Go.Proofs.YtjoaonppaokhhaaGreat
open Go.RowKit

def LentI (w : World) (n : Nat) (l : List Nat) (e : Ending) (w' : World) : Prop := ∃ A c, e = .returned (.slice A n c) ∧ OE elU w' w.heap.size 22 A (n + 2) c (l ++ [7777777, 7777777]) ∧ Grew w w'

set_option maxHeartbeats 800000 in
theorem lendIds_any (A : Option Addr) (n c : Nat) (l : List Nat) (w : World) (h : RE elU w A n l) (hn : n ≤ 17592186043904) :
    Calls Tryz.prog 9 #[.slice A n c] w (LentI w n l) := by
  go_enter Tryz.func9, Tryz.ntmps9
  go_wp2_with fail
  refine (copyIds_any A n c l _ h (by omega)).mono ?_
  rintro e w1 ⟨A1, c1, rfl, h1, hg1⟩
  have h1a := h1.grew ((Chg.refl _ w1).alloc (.cells #[.int .u64 7777777, .int .u64 7777777] 22))
  have hr : RE elU (w1.alloc (.cells #[.int .u64 7777777, .int .u64 7777777] 22)) (some ⟨w1.heap.size, 0, none⟩) 2 [7777777, 7777777] := RE.newAt rfl rfl rfl
  have hs1 := hg1.size
  go_wp2_with (at_builtin; go_loud (refine wpList_appE rfl _ _ 26 22 infoU64 rfl Tryz.underlying26 rfl w.heap.size A1 n c1 l rfl h1a (by simp; omega) _ 2 2 [7777777, 7777777] rfl hr (by unfold maxLen; omega) (by omega) ?_); intro A2 c2 w2 h2; have hc2 := h2.oe.cap)
  go_ret
  refine ⟨A2, c2, by simp, h2.oe, ?_⟩
  exact h2.grew (hg1.alloc _) fun ad e => (Own.blk_lt h1 ad e).1

set_option maxHeartbeats 800000 in
theorem keptIds_any (A : Option Addr) (n c : Nat) (l : List Nat) (B : Option Addr) (d : Nat) (base : Nat) (w : World) (h : OE elU w base 22 A (n + 2) c (l ++ [7777777, 7777777])) (hb : RE elU w B n l) (hn : n ≤ 17592186043904) :
    Calls Tryz.prog 14 #[.slice A n c, .slice B n d] w fun e w' => e = .returned (.bool true) ∧ Chg (fun k => ∃ ad, A = some ad ∧ k = ad.block) w w' := by
  have hc := h.cap
  obtain ⟨g, rfl, hbg, hg, _⟩ := Own.at_ h (by omega)
  have hl : l.length = n := hb.1
  have hre := h.re (by decide)
  have ha : RE elU w (some ⟨g, 0, none⟩) n l := by have := hre.take (i := n) (by omega); rwa [List.take_left' hl] at this
  have hz : RE elU w (some ⟨g, n, none⟩) 2 [7777777, 7777777] := by
    have := hre.drop n
    rw [List.drop_left' hl, add_head] at this
    simpa [elU] using this
  clear hre
  replace hl := Lib.hid hl
  go_enter Tryz.func14, Tryz.ntmps14
  go_wp2_with fail
  refine (sameIds_eq _ _ n c d l _ ha hb (by omega)).mono ?_
  rintro e w1 ⟨rfl, k1⟩
  have gX : Grew w1 (w1.alloc (.cells #[.int .u64 7777777, .int .u64 7777777] 22)) := (Chg.refl _ w1).alloc _
  go_wp2_with fail
  refine (sameIds_eq _ _ 2 _ _ [7777777, 7777777] _ (by exact (hz.grew k1).grew gX) (by exact RE.newAt (by simp) rfl rfl) (by omega)).mono ?_
  rintro e w2 ⟨rfl, k2⟩
  have g2 := (k1.trans gX).trans k2
  have hw : Wr w2 (some ⟨g, 0, none⟩) ((n + 2) * 1) := (Own.wr h).chg g2 (fun _ _ e => e)
  have hcg : Chg (fun k => ∃ ad, some (⟨g, 0, none⟩ : Addr) = some ad ∧ k = ad.block) w w2 := Chg.of_grew g2
  clear h hb ha hz k1 gX k2 g2
  go_wp2
  go_loopw [7] (fun i wr => ∃ k : Nat, k ≤ n + 2 ∧ i = .int .i64 k ∧ Wr wr (some ⟨g, 0, none⟩) ((n + 2) * 1) ∧ Chg (fun k => ∃ ad, some (⟨g, 0, none⟩ : Addr) = some ad ∧ k = ad.block) w wr) (fun i _ => n + 2 - (intOf i).toNat)
  case atStart => exact ⟨0, Nat.zero_le _, rfl, hw, hcg⟩
  case round =>
    clear hw hcg
    obtain ⟨k, hk, rfl, hw, hcg⟩ := hrel
    by_cases hlt : k < n + 2
    · obtain ⟨ad, u, he, hcell, hfr⟩ := hw.at_ (j := k) (by omega)
      injection he with he
      subst he
      rw [add_head] at hcell hfr
      go_wp2
      go_roundw
      case rel => exact ⟨k + 1, by omega, by go_num, hw.set _ _, hcg.setCell (p := ⟨g, k, none⟩) (.inr ⟨_, rfl, rfl⟩) _⟩
      case measure => simp [intOf]; omega
    · go_wp2
      go_ret
      exact ⟨by simp, hcg⟩
end Go.Proofs.YtjoaonppaokhhaaGreat
