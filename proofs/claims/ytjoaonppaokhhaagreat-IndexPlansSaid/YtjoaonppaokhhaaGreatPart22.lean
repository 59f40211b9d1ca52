/-
  Several texts in one:
  (index.Add) walked. Conditions: lengths that a slice has.
-/
import Derived.Test.YtjoaonppaokhhaaGreatPart21

namespace Go.Proofs.YtjoaonppaokhhaaGreat
open Go.RowKit

/-- an index in new memory and an error's number are returned -/
def IxR (w : World) (v : Nat) (fl : Int) (es : List Ent) (z : Int) (e : Ending) (w' : World) : Prop :=
  ∃ B C, e = .returned (.tuple #[.agg #[.int .u64 (v : Int), .int .i64 fl, .slice B es.length C], .int .i64 z]) ∧ NX w' w.heap.size B es.length C es ∧ Grew w w'
theorem NXo.ins {w w' : World} {base : Nat} {A A' : Option Addr} {n c c' k : Nat} {ms ls : List EnM} {m : EnM} (h : NXo w base A n c ms) (hm : NxE w base m) (ho : OE elEn w' base 51 A' k c' ls) (hl : ∀ y ∈ ls, y ∈ ms ∨ y = m)
    (hc : Chg (fun k => ∃ ad, A = some ad ∧ k = ad.block) w w') : NXo w' base A' k c' ls := by
  refine ⟨ho, fun y hy => ?_⟩
  rcases hl y hy with h1 | rfl
  · exact OE.apartT (h.el y h1) h.row (by decide) hc
  · exact OE.apartT hm h.row (by decide) hc

/-- three boxes: an index, a meta, a result -/
structure B3 (w W : World) (v : Nat) (fl : Int) (A : Option Addr) (n c : Nat) (m : Met) (D : Option Addr) (p d : Nat) : Prop where
  bi : Blk W w.heap.size 25 #[.int .u64 (v : Int), .int .i64 fl, .slice A n c]
  bm : Blk W (w.heap.size + 1) 28 #[.int .u64 (m.id : Int), .int .i64 m.lo, .int .i64 m.hi, .int .i64 m.lv, .slice D p d, .int .i64 m.sr, .int .i64 m.pt]
  br : Blk W (w.heap.size + 2) 25 #[.int .u64 0, .int .i64 0, .slice none 0 0]
  gr : Grew w W
theorem B3.grew {w W W' : World} {v : Nat} {fl : Int} {A : Option Addr} {n c : Nat} {m : Met} {D : Option Addr} {p d : Nat} (h : B3 w W v fl A n c m D p d) (hg : Grew W W') : B3 w W' v fl A n c m D p d := ⟨h.bi.grew hg, h.bm.grew hg, h.br.grew hg, h.gr.trans hg⟩
theorem B3.mk3 (w : World) (v : Nat) (fl : Int) (A : Option Addr) (n c : Nat) (m : Met) (D : Option Addr) (p d : Nat) : B3 w (((w.alloc (.cells #[.int .u64 (v : Int), .int .i64 fl, .slice A n c] 25)).alloc (.cells #[.int .u64 (m.id : Int), .int .i64 m.lo, .int .i64 m.hi, .int .i64 m.lv, .slice D p d, .int .i64 m.sr, .int .i64 m.pt] 28)).alloc (.cells #[.int .u64 0, .int .i64 0, .slice none 0 0] 25)) v fl A n c m D p d := by
  refine ⟨((Blk.new w _ _).alloc _).alloc _, ?_, ?_, (((Chg.refl _ w).alloc _).alloc _).alloc _⟩
  · have := (Blk.new (w.alloc (.cells #[.int .u64 (v : Int), .int .i64 fl, .slice A n c] 25)) 28 #[.int .u64 (m.id : Int), .int .i64 m.lo, .int .i64 m.hi, .int .i64 m.lv, .slice D p d, .int .i64 m.sr, .int .i64 m.pt]).alloc (.cells #[.int .u64 0, .int .i64 0, .slice none 0 0] 25)
    simpa using this
  · have := Blk.new ((w.alloc (.cells #[.int .u64 (v : Int), .int .i64 fl, .slice A n c] 25)).alloc (.cells #[.int .u64 (m.id : Int), .int .i64 m.lo, .int .i64 m.hi, .int .i64 m.lv, .slice D p d, .int .i64 m.sr, .int .i64 m.pt] 28)) 25 #[.int .u64 0, .int .i64 0, .slice none 0 0]
    simpa using this

set_option maxRecDepth 100000 in
set_option maxHeartbeats 4000000 in
theorem add_form (v : Nat) (fl : Int) (A : Option Addr) (n c : Nat) (es : List Ent) (m : Met) (D : Option Addr) (p d : Nat) (w : World) (h : RX w A n es) (hn : n ≤ 9223372036854775807) (hs : RE elU w D p m.src) (hp : p ≤ 9223372036854775807) (hno : ¬ (chkI fl es = true ∧ metOk m = true)) :
    Calls Tryz.prog 10 #[.agg #[.int .u64 (v : Int), .int .i64 fl, .slice A n c], .agg #[.int .u64 (m.id : Int), .int .i64 m.lo, .int .i64 m.hi, .int .i64 m.lv, .slice D p d, .int .i64 m.sr, .int .i64 m.pt]] w (IxR w 0 0 [] 140) := by
  have h3 := B3.mk3 w v fl A n c m D p d
  obtain ⟨W, hW⟩ : ∃ W, W = (((w.alloc (.cells #[.int .u64 (v : Int), .int .i64 fl, .slice A n c] 25)).alloc (.cells #[.int .u64 (m.id : Int), .int .i64 m.lo, .int .i64 m.hi, .int .i64 m.lv, .slice D p d, .int .i64 m.sr, .int .i64 m.pt] 28)).alloc (.cells #[.int .u64 0, .int .i64 0, .slice none 0 0] 25)) := ⟨_, rfl⟩
  rw [← hW] at h3
  have hC := check_any v fl A n c es W (h.grew h3.gr) hn
  have hM := fun W' (hg : Grew W W') => may_any m D p d W' (hs.grew (h3.gr.trans hg)) hp
  have hfin : ∀ W', B3 w W' v fl A n c m D p d → NX (((W'.setCell ⟨w.heap.size + 2, 0, none⟩ (.int .u64 0)).setCell ⟨w.heap.size + 2, 1, none⟩ (.int .i64 0)).setCell ⟨w.heap.size + 2, 2, none⟩ (.slice none 0 0)) w.heap.size none 0 0 [] ∧
      Grew w (((W'.setCell ⟨w.heap.size + 2, 0, none⟩ (.int .u64 0)).setCell ⟨w.heap.size + 2, 1, none⟩ (.int .i64 0)).setCell ⟨w.heap.size + 2, 2, none⟩ (.slice none 0 0)) := fun W' hb => ⟨NX.nil _ _, hb.gr.far3 (by omega) _ _ _⟩
  replace hno := Lib.hid hno
  unfold IxR
  cases hck : chkI fl es
  · rw [hck] at hC
    clear hM
    go_enter Tryz.func10, Tryz.ntmps10
    go_wp2_with fail
    rw [← hW]
    refine hC.mono ?_
    rintro e w1 ⟨rfl, hg1⟩
    unfold errI
    have h4 := h3.grew hg1
    have k0 := h4.br.cell 0
    have k1 := h4.br.cell 1
    have k2 := h4.br.cell 2
    have f0 := h4.br.frozen 0
    have f1 := h4.br.frozen 1
    have f2 := h4.br.frozen 2
    simp only [List.getElem?_toArray, List.getElem?_cons_succ, List.getElem?_cons_zero] at k0 k1 k2
    clear hC hck hno hW
    go_wp2
    refine bodyPost_ret (v := .tuple #[.agg #[.int .u64 0, .int .i64 0, .slice none 0 0], .int .i64 140]) ?_ rfl ⟨none, 0, rfl, (hfin _ h4).1, (hfin _ h4).2⟩
    have q := h4.br.put3 (.int .u64 0) (.int .i64 0) (.slice none 0 0)
    have q0 := q.cell 0
    have q1 := q.cell 1
    have q2 := q.cell 2
    simp [results, Tryz.results10, go_sem, q0, q1, q2]
  · have hmo : metOk m = false := by
      cases hmo : metOk m
      · rfl
      · exact absurd ⟨hck, hmo⟩ hno.out
    rw [hck] at hC
    go_enter Tryz.func10, Tryz.ntmps10
    go_wp2_with fail
    rw [← hW]
    refine hC.mono ?_
    rintro e w1 ⟨rfl, hg1⟩
    unfold errI
    have h4 := h3.grew hg1
    have m0 := h4.bm.cell 0
    have m1 := h4.bm.cell 1
    have m2 := h4.bm.cell 2
    have m3 := h4.bm.cell 3
    have m4 := h4.bm.cell 4
    have m5 := h4.bm.cell 5
    have m6 := h4.bm.cell 6
    simp only [List.getElem?_toArray, List.getElem?_cons_succ, List.getElem?_cons_zero] at m0 m1 m2 m3 m4 m5 m6
    clear hC hck hno hW
    go_wp2_with fail
    refine (hM _ hg1).mono ?_
    rintro e w2 ⟨rfl, hg2⟩
    rw [hmo]
    have h5 := h4.grew hg2
    have k0 := h5.br.cell 0
    have k1 := h5.br.cell 1
    have k2 := h5.br.cell 2
    have f0 := h5.br.frozen 0
    have f1 := h5.br.frozen 1
    have f2 := h5.br.frozen 2
    simp only [List.getElem?_toArray, List.getElem?_cons_succ, List.getElem?_cons_zero] at k0 k1 k2
    clear hM hmo m0 m1 m2 m3 m4 m5 m6
    go_wp2
    refine bodyPost_ret (v := .tuple #[.agg #[.int .u64 0, .int .i64 0, .slice none 0 0], .int .i64 140]) ?_ rfl ⟨none, 0, rfl, (hfin _ h5).1, (hfin _ h5).2⟩
    have q := h5.br.put3 (.int .u64 0) (.int .i64 0) (.slice none 0 0)
    have q0 := q.cell 0
    have q1 := q.cell 1
    have q2 := q.cell 2
    simp [results, Tryz.results10, go_sem, q0, q1, q2]

set_option maxRecDepth 100000 in
set_option maxHeartbeats 4000000 in
theorem add_many (v : Nat) (fl : Int) (A : Option Addr) (n c : Nat) (es : List Ent) (m : Met) (D : Option Addr) (p d : Nat) (w : World) (h : RX w A n es) (hs : RE elU w D p m.src) (hp : p ≤ 9223372036854775807) (hok : IxOk fl es) (hmo : metOk m = true) (hlen : 256 ≤ es.length) :
    Calls Tryz.prog 10 #[.agg #[.int .u64 (v : Int), .int .i64 fl, .slice A n c], .agg #[.int .u64 (m.id : Int), .int .i64 m.lo, .int .i64 m.hi, .int .i64 m.lv, .slice D p d, .int .i64 m.sr, .int .i64 m.pt]] w (IxR w 0 0 [] 141) := by
  have h3 := B3.mk3 w v fl A n c m D p d
  obtain ⟨W, hW⟩ : ∃ W, W = (((w.alloc (.cells #[.int .u64 (v : Int), .int .i64 fl, .slice A n c] 25)).alloc (.cells #[.int .u64 (m.id : Int), .int .i64 m.lo, .int .i64 m.hi, .int .i64 m.lv, .slice D p d, .int .i64 m.sr, .int .i64 m.pt] 28)).alloc (.cells #[.int .u64 0, .int .i64 0, .slice none 0 0] 25)) := ⟨_, rfl⟩
  rw [← hW] at h3
  have hln : es.length = n := h.len
  have hn : n ≤ 256 := by rw [← hln]; exact hok.len
  have hC := check_any v fl A n c es W (h.grew h3.gr) (by omega)
  have hM := fun W' (hg : Grew W W') => may_any m D p d W' (hs.grew (h3.gr.trans hg)) hp
  rw [(chkI_iff fl es).2 hok] at hC
  unfold IxR
  go_enter Tryz.func10, Tryz.ntmps10
  go_wp2_with fail
  rw [← hW]
  refine hC.mono ?_
  rintro e w1 ⟨rfl, hg1⟩
  unfold errI
  have h4 := h3.grew hg1
  have m0 := h4.bm.cell 0
  have m1 := h4.bm.cell 1
  have m2 := h4.bm.cell 2
  have m3 := h4.bm.cell 3
  have m4 := h4.bm.cell 4
  have m5 := h4.bm.cell 5
  have m6 := h4.bm.cell 6
  simp only [List.getElem?_toArray, List.getElem?_cons_succ, List.getElem?_cons_zero] at m0 m1 m2 m3 m4 m5 m6
  clear hC hW
  go_wp2_with fail
  refine (hM _ hg1).mono ?_
  rintro e w2 ⟨rfl, hg2⟩
  rw [hmo]
  clear hM m0 m1 m2 m3 m4 m5 m6
  have h5 := h4.grew hg2
  have i0 := h5.bi.cell 0
  have i1 := h5.bi.cell 1
  have i2 := h5.bi.cell 2
  simp only [List.getElem?_toArray, List.getElem?_cons_succ, List.getElem?_cons_zero] at i0 i1 i2
  have hl2 : (256 : Int) ≤ (n : Int) := by omega
  have k0 := h5.br.cell 0
  have k1 := h5.br.cell 1
  have k2 := h5.br.cell 2
  have f0 := h5.br.frozen 0
  have f1 := h5.br.frozen 1
  have f2 := h5.br.frozen 2
  simp only [List.getElem?_toArray, List.getElem?_cons_succ, List.getElem?_cons_zero] at k0 k1 k2
  clear hlen hln
  go_wp2
  refine bodyPost_ret (v := .tuple #[.agg #[.int .u64 0, .int .i64 0, .slice none 0 0], .int .i64 141]) ?_ rfl ⟨none, 0, rfl, NX.nil _ _, h5.gr.far3 (by omega) _ _ _⟩
  have q := h5.br.put3 (.int .u64 0) (.int .i64 0) (.slice none 0 0)
  have q0 := q.cell 0
  have q1 := q.cell 1
  have q2 := q.cell 2
  simp [results, Tryz.results10, go_sem, q0, q1, q2]

/-- the new block's sources copied, and stored into the meta -/
structure AdA (w W : World) (go : Nat) (v : Nat) (fl : Int) (A : Option Addr) (n c : Nat) (m : Met) (A2 : Option Addr) (p c2 : Nat) (B : Option Addr) (C : Nat) (es : List Ent) : Prop where
  bm : Blk W (w.heap.size + 1) 28 #[.int .u64 (m.id : Int), .int .i64 m.lo, .int .i64 m.hi, .int .i64 m.lv, .slice A2 p c2, .int .i64 m.sr, .int .i64 m.pt]
  bo : Blk W go 25 #[.int .u64 (v : Int), .int .i64 fl, .slice B n C]
  br : Blk W (w.heap.size + 2) 25 #[.int .u64 0, .int .i64 0, .slice none 0 0]
  hx : NX W w.heap.size B n C es
  hm : NxE W w.heap.size ⟨⟨m, false, 0⟩, A2, p, c2⟩
  gr : Grew w W
theorem add_a {w w6 : World} {go v : Nat} {fl : Int} {A : Option Addr} {n c : Nat} {m : Met} {D : Option Addr} {p d : Nat} {B : Option Addr} {C : Nat} {es : List Ent} {A2 : Option Addr} {c2 : Nat}
    (h : B3 w w6 v fl A n c m D p d) (bo : Blk w6 go 25 #[.int .u64 (v : Int), .int .i64 fl, .slice B n C]) (hgo : go ≠ w.heap.size + 1) (hx : NX w6 w.heap.size B n C es) (hm : NxE w6 w.heap.size ⟨⟨m, false, 0⟩, A2, p, c2⟩) :
    Blk w6 (w.heap.size + 1) 28 #[.int .u64 (m.id : Int), .int .i64 m.lo, .int .i64 m.hi, .int .i64 m.lv, .slice D p d, .int .i64 m.sr, .int .i64 m.pt] ∧ AdA w (w6.setCell ⟨w.heap.size + 1, 4, none⟩ (.slice A2 p c2)) go v fl A n c m A2 p c2 B C es := by
  have b3 := h.bm.set 4 (.slice A2 p c2)
  simp only [List.setIfInBounds_toArray, List.set_cons_succ, List.set_cons_zero] at b3
  exact ⟨h.bm, b3, bo.far hgo _, h.br.far (by show w.heap.size + 2 ≠ w.heap.size + 1; omega) _, hx.farBlk h.bm (by decide) (by decide) 4 _, OE.farBlk hm h.bm (by decide) 4 _, h.gr.setCell (p := ⟨w.heap.size + 1, 4, none⟩) (.inl (by show w.heap.size ≤ w.heap.size + 1; omega)) _⟩

set_option maxRecDepth 100000 in
set_option maxHeartbeats 4000000 in
theorem add_ok (v : Nat) (fl : Int) (A : Option Addr) (n c : Nat) (es : List Ent) (m : Met) (D : Option Addr) (p d : Nat) (w : World) (h : RX w A n es) (hs : RE elU w D p m.src) (hp : p ≤ 9223372036854775807) (hok : IxOk fl es) (hmo : metOk m = true) (hlen : es.length < 256) :
    Calls Tryz.prog 10 #[.agg #[.int .u64 (v : Int), .int .i64 fl, .slice A n c], .agg #[.int .u64 (m.id : Int), .int .i64 m.lo, .int .i64 m.hi, .int .i64 m.lv, .slice D p d, .int .i64 m.sr, .int .i64 m.pt]] w (IxR w v fl (addE es m) 0) := by
  have h3 := B3.mk3 w v fl A n c m D p d
  obtain ⟨W, hW⟩ : ∃ W, W = (((w.alloc (.cells #[.int .u64 (v : Int), .int .i64 fl, .slice A n c] 25)).alloc (.cells #[.int .u64 (m.id : Int), .int .i64 m.lo, .int .i64 m.hi, .int .i64 m.lv, .slice D p d, .int .i64 m.sr, .int .i64 m.pt] 28)).alloc (.cells #[.int .u64 0, .int .i64 0, .slice none 0 0] 25)) := ⟨_, rfl⟩
  rw [← hW] at h3
  have hln : es.length = n := h.len
  have hn : n ≤ 256 := by rw [← hln]; exact hok.len
  have hC := check_any v fl A n c es W (h.grew h3.gr) (by omega)
  have hM := fun W' (hg : Grew W W') => may_any m D p d W' (hs.grew (h3.gr.trans hg)) hp
  rw [(chkI_iff fl es).2 hok] at hC
  obtain ⟨rs, hrs⟩ : ∃ rs, addE es m = rs := ⟨_, rfl⟩
  rw [hrs]
  replace hrs := Lib.hid hrs
  unfold IxR
  go_enter Tryz.func10, Tryz.ntmps10
  go_wp2_with fail
  rw [← hW]
  refine hC.mono ?_
  rintro e w1 ⟨rfl, hg1⟩
  unfold errI
  have h4 := h3.grew hg1
  have m0 := h4.bm.cell 0
  have m1 := h4.bm.cell 1
  have m2 := h4.bm.cell 2
  have m3 := h4.bm.cell 3
  have m4 := h4.bm.cell 4
  have m5 := h4.bm.cell 5
  have m6 := h4.bm.cell 6
  simp only [List.getElem?_toArray, List.getElem?_cons_succ, List.getElem?_cons_zero] at m0 m1 m2 m3 m4 m5 m6
  clear hC hW
  go_wp2_with fail
  refine (hM _ hg1).mono ?_
  rintro e w2 ⟨rfl, hg2⟩
  rw [hmo]
  clear hM m0 m1 m2 m3 m4 m5 m6
  have h5 := h4.grew hg2
  have i0 := h5.bi.cell 0
  have i1 := h5.bi.cell 1
  have i2 := h5.bi.cell 2
  simp only [List.getElem?_toArray, List.getElem?_cons_succ, List.getElem?_cons_zero] at i0 i1 i2
  have hl2 : ¬ (256 : Int) ≤ (n : Int) := by omega
  replace hln := Lib.hid hln
  clear hlen
  go_wp2_with fail
  refine (copyI_any v fl A n c es w2 (h.grew h5.gr) hok.fit).mono ?_
  rintro e w3 ⟨B, C, rfl, hx3, hg3⟩
  obtain ⟨w4, hw4⟩ : ∃ w4, w4 = w3.alloc (.cells #[.int .u64 (v : Int), .int .i64 fl, .slice B n C] 25) := ⟨_, rfl⟩
  have hg4 : Grew w3 w4 := by rw [hw4]; exact (Chg.refl _ w3).alloc _
  have bo4 : Blk w4 w3.heap.size 25 #[.int .u64 (v : Int), .int .i64 fl, .slice B n C] := by rw [hw4]; exact Blk.new _ _ _
  have h6 := (h5.grew hg3).grew hg4
  have hx4 := hx3.grew hg4
  have hsz := h5.gr.size
  have hsz3 := hg3.size
  have hsz4 : w4.heap.size = w3.heap.size + 1 := by rw [hw4]; simp
  clear i0 i1 i2
  have i0 := h6.bi.cell 0
  have i1 := h6.bi.cell 1
  have i2 := h6.bi.cell 2
  have m0 := h6.bm.cell 0
  simp only [List.getElem?_toArray, List.getElem?_cons_succ, List.getElem?_cons_zero] at i0 i1 i2 m0
  rw [hw4] at i0 i1 i2 m0
  go_wp2_with fail
  rw [← hw4]
  refine (find_any v fl A n c es m.id w4 (h.grew h6.gr) hok.srt (by omega)).mono ?_
  rintro e w5 ⟨rfl, hg5⟩
  clear hw4 i0 i1 i2 m0
  have h7 := h6.grew hg5
  have bo5 := bo4.grew hg5
  have hx5 := hx4.grew hg5
  have hsz5 := hg5.size
  have hpos := posI_le es m.id
  have hrs := hrs.out
  unfold addE insE at hrs
  obtain ⟨ps, hps⟩ : ∃ ps, posI es m.id = ps := ⟨_, rfl⟩
  rw [hps] at hpos hrs ⊢
  cases hf : foundI es m.id
  · rw [hf, if_neg (by simp)] at hrs
    replace hrs := Lib.hid hrs
    rw [hln.out] at hpos
    have hp64 : p ≤ 64 := by
      have := hmo
      unfold metOk at this
      simp only [Bool.and_eq_true, decide_eq_true_eq] at this
      rw [← hs.1]
      exact this.2.2.2
    have oL : OE elU (w5.alloc (.cells #[] 22)) w.heap.size 22 (some ⟨w5.heap.size, 0, none⟩) 0 0 [] := OE.made w5 w.heap.size 22 (by omega)
    have rL := hs.grew (h7.gr.alloc (.cells #[] 22))
    have m4 := (h7.bm.alloc (.cells #[] 22)).cell 4
    simp only [List.getElem?_toArray, List.getElem?_cons_succ, List.getElem?_cons_zero] at m4
    have hbl := h5.br.lt
    have hnm := fun w6 (g6 : Grew w5 w6) (A2 : Option Addr) (c2 : Nat) (hx : NxE w6 w.heap.size ⟨⟨m, false, 0⟩, A2, p, c2⟩) => add_a (go := w3.heap.size) (h7.grew g6) (bo5.grew g6) (by omega) ((hx5.mono (base' := w.heap.size) (by omega)).grew g6) hx
    clear hps hf
    go_wp2_with (at_builtin; go_loud (refine wpList_appE rfl _ _ 26 22 infoU64 rfl Tryz.underlying26 rfl w.heap.size (some ⟨w5.heap.size, 0, none⟩) 0 0 [] rfl oL (by simp; omega) D p d m.src rfl rL (by unfold maxLen; omega) (by omega) ?_); intro A2 c2 w6 h2; clear m4; obtain ⟨b6, hA⟩ := hnm w6 (h2.grew ((Chg.refl _ w5).alloc _) (head_le0 (Nat.le_refl _))) A2 c2 h2.at00; have q4 := b6.cell 4; have qf := b6.frozen 4; have e0 := hA.bm.cell 0; have e1 := hA.bm.cell 1; have e2 := hA.bm.cell 2; have e3 := hA.bm.cell 3; have e4 := hA.bm.cell 4; have e5 := hA.bm.cell 5; have e6 := hA.bm.cell 6; have e7 := hA.bo.cell 2; simp only [List.getElem?_toArray, List.getElem?_cons_succ, List.getElem?_cons_zero] at q4 e0 e1 e2 e3 e4 e5 e6 e7)
    obtain ⟨w8, hw8⟩ : ∃ w8, w8 = (w6.setCell ⟨w.heap.size + 1, 4, none⟩ (.slice A2 p c2)).alloc (.cells #[.int .u64 (m.id : Int), .int .i64 m.lo, .int .i64 m.hi, .int .i64 m.lv, .slice A2 p c2, .int .i64 m.sr, .int .i64 m.pt, .bool false, .int .i64 0] 51) := ⟨_, rfl⟩
    have hg8 : Grew (w6.setCell ⟨w.heap.size + 1, 4, none⟩ (.slice A2 p c2)) w8 := by rw [hw8]; exact (Chg.refl _ _).alloc _
    have hbV : Blk w8 w6.heap.size 51 (elEn.cells ⟨⟨m, false, 0⟩, A2, p, c2⟩).toArray := by
      rw [hw8]
      have := Blk.new (w6.setCell ⟨w.heap.size + 1, 4, none⟩ (.slice A2 p c2)) 51 #[.int .u64 (m.id : Int), .int .i64 m.lo, .int .i64 m.hi, .int .i64 m.lv, .slice A2 p c2, .int .i64 m.sr, .int .i64 m.pt, .bool false, .int .i64 0]
      rw [show (w6.setCell ⟨w.heap.size + 1, 4, none⟩ (.slice A2 p c2)).heap.size = w6.heap.size by simp] at this
      exact this
    obtain ⟨ms, hxo, hmap⟩ := hA.hx.grew hg8
    have hsz8 := (hA.gr.trans hg8).size
    have hne : ∀ ad, B = some ad → ad.block ≠ w6.heap.size := fun ad e => by
      have h1 := (hA.hx.blk ad e).2
      simp at h1
      omega
    clear q4 qf e0 e1 e2 e3 e4 e5 e6 e7
    go_wp2_with fail
    rw [← hw8]
    refine (insert_any B n C w.heap.size w6.heap.size ps ms ⟨⟨m, false, 0⟩, A2, p, c2⟩ w8 hxo.row (by omega) hsz8 hbV hne hpos).mono ?_
    rintro e w9 ⟨A', c', rfl, ho9, hc9⟩
    have hx9 := hxo.ins (hA.hm.grew hg8) ho9 (by
      intro y hy
      simp only [List.mem_append, List.mem_singleton] at hy
      rcases hy with (hy | hy) | hy
      · exact .inl (List.mem_of_mem_take hy)
      · exact .inr hy
      · exact .inl (List.mem_of_mem_drop hy)) hc9
    have bo9 : Blk w9 w3.heap.size 25 #[.int .u64 (v : Int), .int .i64 fl, .slice B n C] := (hA.bo.grew hg8).chg hc9 fun ⟨ad, e, hk⟩ => Own.ne_blk hxo.row (hA.bo.grew hg8) (by decide) ad e hk.symm
    have br9 : Blk w9 (w.heap.size + 2) 25 #[.int .u64 0, .int .i64 0, .slice none 0 0] := (hA.br.grew hg8).chg hc9 fun ⟨ad, e, hk⟩ => Own.ne_blk hxo.row (hA.br.grew hg8) (by decide) ad e hk.symm
    have g9 : Grew w w9 := (hA.gr.trans hg8).step hc9 fun k hk ⟨ad, e, he⟩ => by
      have := (Own.blk_lt hxo.row ad e).1
      omega
    have bo10 := bo9.set 2 (.slice A' (n + 1) c')
    simp only [List.setIfInBounds_toArray, List.set_cons_succ, List.set_cons_zero] at bo10
    have br10 := br9.far (p := ⟨w3.heap.size, 2, none⟩) (by show w.heap.size + 2 ≠ w3.heap.size; omega) (.slice A' (n + 1) c')
    have hx10 := hx9.farBlk bo9 (by decide) (by decide) 2 (.slice A' (n + 1) c')
    have g10 : Grew w (w9.setCell ⟨w3.heap.size, 2, none⟩ (.slice A' (n + 1) c')) := g9.setCell (p := ⟨w3.heap.size, 2, none⟩) (.inl (by show w.heap.size ≤ w3.heap.size; omega)) _
    have k2 := bo9.cell 2
    have kf := bo9.frozen 2
    have l0 := bo10.cell 0
    have l1 := bo10.cell 1
    have l2 := bo10.cell 2
    have r0 := br10.cell 0
    have r1 := br10.cell 1
    have r2 := br10.cell 2
    have f0 := br10.frozen 0
    have f1 := br10.frozen 1
    have f2 := br10.frozen 2
    simp only [List.getElem?_toArray, List.getElem?_cons_succ, List.getElem?_cons_zero] at k2 l0 l1 l2 r0 r1 r2
    have hlrs : rs.length = n + 1 := by
      have := hrs.out
      rw [← this, List.length_append, List.length_cons, List.length_take, List.length_drop, hln.out]
      omega
    replace hlrs := Lib.hid hlrs
    have hmrs : (ms.take ps ++ [(⟨⟨m, false, 0⟩, A2, p, c2⟩ : EnM)] ++ ms.drop ps).map EnM.e = rs := by
      rw [← hrs.out, ← hmap]
      simp
    clear hw8 hbV hne hmap bo9
    go_wp2
    refine bodyPost_ret (v := .tuple #[.agg #[.int .u64 (v : Int), .int .i64 fl, .slice A' (n + 1) c'], .int .i64 0]) ?_ rfl ⟨A', c', by rw [hlrs.out], ?_, g10.far3 (by omega) _ _ _⟩
    · have q := br10.put3 (.int .u64 (v : Int)) (.int .i64 fl) (.slice A' (n + 1) c')
      have q0 := q.cell 0
      have q1 := q.cell 1
      have q2 := q.cell 2
      simp [results, Tryz.results10, go_sem, q0, q1, q2]
    · have := hx10.nx
      rw [hmrs] at this
      rw [hlrs.out]
      exact this.far3 br10 (by decide) (by decide) _ _ _
  · rw [hf, if_pos rfl] at hrs
    subst hrs
    have k0 := bo5.cell 0
    have k1 := bo5.cell 1
    have k2 := bo5.cell 2
    have r0 := h7.br.cell 0
    have r1 := h7.br.cell 1
    have r2 := h7.br.cell 2
    have f0 := h7.br.frozen 0
    have f1 := h7.br.frozen 1
    have f2 := h7.br.frozen 2
    simp only [List.getElem?_toArray, List.getElem?_cons_succ, List.getElem?_cons_zero] at k0 k1 k2 r0 r1 r2
    clear hps hf
    go_wp2
    refine bodyPost_ret (v := .tuple #[.agg #[.int .u64 (v : Int), .int .i64 fl, .slice B n C], .int .i64 0]) ?_ rfl ⟨B, C, by rw [hln.out], ?_, h7.gr.far3 (by omega) _ _ _⟩
    · have q := h7.br.put3 (.int .u64 (v : Int)) (.int .i64 fl) (.slice B n C)
      have q0 := q.cell 0
      have q1 := q.cell 1
      have q2 := q.cell 2
      simp [results, Tryz.results10, go_sem, q0, q1, q2]
    · rw [hln.out]
      exact (hx5.mono (by omega)).far3 h7.br (by decide) (by decide) _ _ _
end Go.Proofs.YtjoaonppaokhhaaGreat
