/-
  Several texts in one:
  (index.Raise) walked. Conditions: lengths that a slice has.
-/
import Derived.Test.YtjoaonppaokhhaaGreatPart22

namespace Go.Proofs.YtjoaonppaokhhaaGreat
open Go.RowKit

/-- two boxes: an index, a result -/
structure B2 (w W : World) (v : Nat) (fl : Int) (A : Option Addr) (n c : Nat) : Prop where
  bi : Blk W w.heap.size 25 #[.int .u64 (v : Int), .int .i64 fl, .slice A n c]
  br : Blk W (w.heap.size + 1) 25 #[.int .u64 0, .int .i64 0, .slice none 0 0]
  gr : Grew w W
theorem B2.grew {w W W' : World} {v : Nat} {fl : Int} {A : Option Addr} {n c : Nat} (h : B2 w W v fl A n c) (hg : Grew W W') : B2 w W' v fl A n c := ⟨h.bi.grew hg, h.br.grew hg, h.gr.trans hg⟩
theorem B2.mk2 (w : World) (v : Nat) (fl : Int) (A : Option Addr) (n c : Nat) : B2 w ((w.alloc (.cells #[.int .u64 (v : Int), .int .i64 fl, .slice A n c] 25)).alloc (.cells #[.int .u64 0, .int .i64 0, .slice none 0 0] 25)) v fl A n c := by
  refine ⟨(Blk.new w _ _).alloc _, ?_, ((Chg.refl _ w).alloc _).alloc _⟩
  have := Blk.new (w.alloc (.cells #[.int .u64 (v : Int), .int .i64 fl, .slice A n c] 25)) 25 #[.int .u64 0, .int .i64 0, .slice none 0 0]
  simpa using this

set_option maxRecDepth 100000 in
set_option maxHeartbeats 4000000 in
theorem raise_no (v : Nat) (fl : Int) (A : Option Addr) (n c : Nat) (es : List Ent) (t : Int) (w : World) (h : RX w A n es) (hn : n ≤ 9223372036854775807) (hno : ¬ (chkI fl es = true ∧ t ≤ 1099511627776)) :
    Calls Tryz.prog 12 #[.agg #[.int .u64 (v : Int), .int .i64 fl, .slice A n c], .int .i64 t] w (IxR w 0 0 [] 140) := by
  have h3 := B2.mk2 w v fl A n c
  obtain ⟨W, hW⟩ : ∃ W, W = ((w.alloc (.cells #[.int .u64 (v : Int), .int .i64 fl, .slice A n c] 25)).alloc (.cells #[.int .u64 0, .int .i64 0, .slice none 0 0] 25)) := ⟨_, rfl⟩
  rw [← hW] at h3
  have hC := check_any v fl A n c es W (h.grew h3.gr) hn
  replace hno := Lib.hid hno
  unfold IxR
  cases hck : chkI fl es
  · rw [hck] at hC
    go_enter Tryz.func12, Tryz.ntmps12
    go_wp2_with fail
    rw [← hW]
    refine hC.mono ?_
    rintro e w1 ⟨rfl, hg1⟩
    unfold errI
    have h4 := h3.grew hg1
    have k0 := h4.br.cell 0
    have k1 := h4.br.cell 1
    have k2 := h4.br.cell 2
    have f0 := h4.br.frozen 0
    have f1 := h4.br.frozen 1
    have f2 := h4.br.frozen 2
    simp only [List.getElem?_toArray, List.getElem?_cons_succ, List.getElem?_cons_zero] at k0 k1 k2
    clear hC hck hno hW
    go_wp2
    refine bodyPost_ret (v := .tuple #[.agg #[.int .u64 0, .int .i64 0, .slice none 0 0], .int .i64 140]) ?_ rfl ⟨none, 0, rfl, NX.nil _ _, h4.gr.far3 (by omega) _ _ _⟩
    have q := h4.br.put3 (.int .u64 0) (.int .i64 0) (.slice none 0 0)
    have q0 := q.cell 0
    have q1 := q.cell 1
    have q2 := q.cell 2
    simp [results, Tryz.results12, go_sem, q0, q1, q2]
  · have ht : (1099511627776 : Int) < t := by
      by_cases ht : t ≤ 1099511627776
      · exact absurd ⟨hck, ht⟩ hno.out
      · omega
    rw [hck] at hC
    go_enter Tryz.func12, Tryz.ntmps12
    go_wp2_with fail
    rw [← hW]
    refine hC.mono ?_
    rintro e w1 ⟨rfl, hg1⟩
    unfold errI
    have h4 := h3.grew hg1
    have k0 := h4.br.cell 0
    have k1 := h4.br.cell 1
    have k2 := h4.br.cell 2
    have f0 := h4.br.frozen 0
    have f1 := h4.br.frozen 1
    have f2 := h4.br.frozen 2
    simp only [List.getElem?_toArray, List.getElem?_cons_succ, List.getElem?_cons_zero] at k0 k1 k2
    clear hC hck hno hW
    go_wp2
    refine bodyPost_ret (v := .tuple #[.agg #[.int .u64 0, .int .i64 0, .slice none 0 0], .int .i64 140]) ?_ rfl ⟨none, 0, rfl, NX.nil _ _, h4.gr.far3 (by omega) _ _ _⟩
    have q := h4.br.put3 (.int .u64 0) (.int .i64 0) (.slice none 0 0)
    have q0 := q.cell 0
    have q1 := q.cell 1
    have q2 := q.cell 2
    simp [results, Tryz.results12, go_sem, q0, q1, q2]

set_option maxRecDepth 100000 in
set_option maxHeartbeats 4000000 in
theorem raise_ok (v : Nat) (fl : Int) (A : Option Addr) (n c : Nat) (es : List Ent) (t : Int) (w : World) (h : RX w A n es) (hok : IxOk fl es) (ht : t ≤ 1099511627776) :
    Calls Tryz.prog 12 #[.agg #[.int .u64 (v : Int), .int .i64 fl, .slice A n c], .int .i64 t] w (IxR w v (max fl t) es 0) := by
  have h3 := B2.mk2 w v fl A n c
  obtain ⟨W, hW⟩ : ∃ W, W = ((w.alloc (.cells #[.int .u64 (v : Int), .int .i64 fl, .slice A n c] 25)).alloc (.cells #[.int .u64 0, .int .i64 0, .slice none 0 0] 25)) := ⟨_, rfl⟩
  rw [← hW] at h3
  have hln : es.length = n := h.len
  have hn : n ≤ 256 := by rw [← hln]; exact hok.len
  have hC := check_any v fl A n c es W (h.grew h3.gr) (by omega)
  rw [(chkI_iff fl es).2 hok] at hC
  have ht2 : ¬ (1099511627776 : Int) < t := by omega
  replace hln := Lib.hid hln
  unfold IxR
  go_enter Tryz.func12, Tryz.ntmps12
  go_wp2_with fail
  rw [← hW]
  refine hC.mono ?_
  rintro e w2 ⟨rfl, hg1⟩
  unfold errI
  have h5 := h3.grew hg1
  have i0 := h5.bi.cell 0
  have i1 := h5.bi.cell 1
  have i2 := h5.bi.cell 2
  simp only [List.getElem?_toArray, List.getElem?_cons_succ, List.getElem?_cons_zero] at i0 i1 i2
  clear hC hW
  go_wp2_with fail
  refine (copyI_any v fl A n c es w2 (h.grew h5.gr) hok.fit).mono ?_
  rintro e w3 ⟨B, C, rfl, hx3, hg3⟩
  have h6 := h5.grew hg3
  have hsz := h5.gr.size
  have hsz3 := hg3.size
  clear i0 i1 i2
  obtain ⟨w4, hw4⟩ : ∃ w4, w4 = w3.alloc (.cells #[.int .u64 (v : Int), .int .i64 (max fl t), .slice B n C] 25) := ⟨_, rfl⟩
  have hg4 : Grew w3 w4 := by rw [hw4]; exact (Chg.refl _ w3).alloc _
  have br5 := h6.br.grew hg4
  have hx5 := (hx3.mono (base' := w.heap.size) (by omega)).grew hg4
  have g5 : Grew w w4 := h6.gr.trans hg4
  have r0 := br5.cell 0
  have r1 := br5.cell 1
  have r2 := br5.cell 2
  have f0 := br5.frozen 0
  have f1 := br5.frozen 1
  have f2 := br5.frozen 2
  simp only [List.getElem?_toArray, List.getElem?_cons_succ, List.getElem?_cons_zero] at r0 r1 r2
  rw [hw4] at r0 r1 r2 f0 f1 f2
  go_wp2
  rw [← hw4]
  refine bodyPost_ret (v := .tuple #[.agg #[.int .u64 (v : Int), .int .i64 (max fl t), .slice B n C], .int .i64 0]) ?_ rfl ⟨B, C, by rw [hln.out], ?_, g5.far3 (by omega) _ _ _⟩
  · have q := br5.put3 (.int .u64 (v : Int)) (.int .i64 (max fl t)) (.slice B n C)
    have q0 := q.cell 0
    have q1 := q.cell 1
    have q2 := q.cell 2
    simp [results, Tryz.results12, go_sem, q0, q1, q2]
  · rw [hln.out]
    exact hx5.far3 br5 (by decide) (by decide) _ _ _
end Go.Proofs.YtjoaonppaokhhaaGreat
