/-
  Several texts in one:
  (tidewracklaw14.IndexChanges) walked. Conditions: lengths that memory bears.
-/
import Derived.Test.YtjoaonppaokhhaaGreatPart47

namespace Go.Proofs.YtjoaonppaokhhaaGreat
open Go.RowKit

set_option maxRecDepth 100000 in
set_option maxHeartbeats 16000000 in
theorem walk_indexChanges (v : Nat) (fl : Int) (A : Option Addr) (n c : Nat) (es : List Ent) (m : Met) (D : Option Addr) (p d : Nat) (id : Nat) (t : Int) (w : World) (h : RX w A n es) (hf : Fit es) (hs : RE elU w D p m.src) (hp : p ≤ 17592186043904) :
    Calls Tryz.prog 3 #[.agg #[.int .u64 (v : Int), .int .i64 fl, .slice A n c], .agg #[.int .u64 (m.id : Int), .int .i64 m.lo, .int .i64 m.hi, .int .i64 m.lv, .slice D p d, .int .i64 m.sr, .int .i64 m.pt], .int .u64 (id : Int), .int .i64 t] w
      fun e w' => e = .returned (.bool true) ∧ Grew w w' := by
  have hln : es.length = n := h.len
  have hfn := hf.n
  have hn : n ≤ 9223372036854775807 := by omega
  have hpl : m.src.length ≤ 9223372036854775807 := by rw [hs.1]; omega
  obtain ⟨va, fa, ea, za, hFa, ca, ka⟩ := add_two v fl es m (by omega) hpl
  unfold IxR at ca ka
  generalize hna : ea.length = na at ca ka
  clear hna
  obtain ⟨vb, fb, eb, zb, hFb, cb, kb⟩ := remove_two v fl es id (by omega)
  unfold IxR at cb kb
  generalize hnb : eb.length = nb at cb kb
  clear hnb
  obtain ⟨vc, fc, ec, zc, cc, kc⟩ := raise_two v fl es t (by omega)
  unfold IxR at cc kc
  generalize hnc : ec.length = nc at cc kc
  clear hnc
  obtain ⟨vd, fd, ed, zd, cd, kd⟩ := mark_two v fl es t (by omega)
  unfold IxR at cd kd
  generalize hnd : ed.length = nd at cd kd
  clear hnd
  obtain ⟨W0, hW0⟩ : ∃ W, W = allocL w [.cells #[.int .u64 (v : Int), .int .i64 fl, .slice A n c] 25, .cells #[.int .u64 (m.id : Int), .int .i64 m.lo, .int .i64 m.hi, .int .i64 m.lv, .slice D p d, .int .i64 m.sr, .int .i64 m.pt] 28] := ⟨_, rfl⟩
  have g0 : Grew w W0 := by rw [hW0]; exact allocL_grew _ _
  have hB0 : Bxs W0 [⟨w.heap.size, 25, #[.int .u64 (v : Int), .int .i64 fl, .slice A n c]⟩, ⟨w.heap.size + 1, 28, #[.int .u64 (m.id : Int), .int .i64 m.lo, .int .i64 m.hi, .int .i64 m.lv, .slice D p d, .int .i64 m.sr, .int .i64 m.pt]⟩] := by
    rw [hW0]
    intro x hx
    simp only [List.mem_cons, List.not_mem_nil, or_false] at hx
    rcases hx with rfl | rfl
    · exact ⟨allocL_at _ _ 0 _ _ rfl, (by show 25 ≠ 22; decide), (by show 25 ≠ 51; decide)⟩
    · exact ⟨allocL_at _ _ 1 _ _ rfl, (by show 28 ≠ 22; decide), (by show 28 ≠ 51; decide)⟩
  have s0 : Hid (W0.heap.size = w.heap.size + 2) := Lib.hid (by rw [hW0]; simp [allocL])
  replace hln := Lib.hid hln
  go_enter Tryz.func3, Tryz.ntmps3
  go_wp2_with fail
  rw [show (w.alloc (.cells #[.int .u64 (v : Int), .int .i64 fl, .slice A n c] 25)).alloc (.cells #[.int .u64 (m.id : Int), .int .i64 m.lo, .int .i64 m.hi, .int .i64 m.lv, .slice D p d, .int .i64 m.sr, .int .i64 m.pt] 28) = W0 from hW0.symm]
  clear hW0
  refine (copyIndex_any v fl A n c es W0 (h.grew g0) hf).mono ?_
  rintro e w1 ⟨Bx, Cx, rfl, x1, g1⟩
  have X1 := x1.nr
  rw [s0.out] at X1
  have hB1 := hB0.grew g1
  have gr1 := g0.trans g1
  have s1 := g1.size
  rw [s0.out] at s1
  obtain ⟨g9, hg9⟩ : ∃ g, w1.heap.size = g := ⟨_, rfl⟩
  rw [hg9] at X1 s1
  obtain ⟨W1, hW1⟩ : ∃ W, W = w1.alloc (.cells #[.int .u64 (v : Int), .int .i64 fl, .slice Bx n Cx] 25) := ⟨_, rfl⟩
  have q1 : Grew w1 W1 := by rw [hW1]; exact (Chg.refl _ w1).alloc _
  have sW1 : W1.heap.size = g9 + 1 := by rw [hW1, World.size_alloc, hg9]
  have hB1' := hB1.push hW1 hg9 (by decide) (by decide)
  simp only [List.cons_append, List.nil_append] at hB1'
  obtain ⟨W2, hW2⟩ : ∃ W, W = W1.alloc (.cells #[.int .u64 (m.id : Int), .int .i64 m.lo, .int .i64 m.hi, .int .i64 m.lv, .slice D p d, .int .i64 m.sr, .int .i64 m.pt] 28) := ⟨_, rfl⟩
  have q2 : Grew W1 W2 := by rw [hW2]; exact (Chg.refl _ W1).alloc _
  have hB2 := hB1'.push hW2 sW1 (by decide) (by decide)
  simp only [List.cons_append, List.nil_append] at hB2
  have sW2 : Hid (W2.heap.size = g9 + 2) := Lib.hid (by rw [hW2, World.size_alloc, sW1])
  have X2 := (X1.grew q1).grew q2
  have gr2 := (gr1.trans q1).trans q2
  replace hg9 := Lib.hid hg9
  have m0 := (hB1.at_ 1 rfl).cell 0
  have m1 := (hB1.at_ 1 rfl).cell 1
  have m2 := (hB1.at_ 1 rfl).cell 2
  have m3 := (hB1.at_ 1 rfl).cell 3
  have m4 := (hB1.at_ 1 rfl).cell 4
  have m5 := (hB1.at_ 1 rfl).cell 5
  have m6 := (hB1.at_ 1 rfl).cell 6
  simp only [List.getElem?_toArray, List.getElem?_cons_succ, List.getElem?_cons_zero] at m0 m1 m2 m3 m4 m5 m6
  have ml := (hB1.at_ 1 rfl).lt
  have ml2 : w.heap.size < w1.heap.size := by omega
  clear x1 X1 hB0 hB1' g1 q1 q2 gr1 g0 s0 sW1
  go_wp2_with fail
  rw [← hW1, ← hW2, hg9.out]
  clear m0 m1 m2 m3 m4 m5 m6 ml ml2 hW1 hW2 hg9 hB1
  refine (lendIds_any D p d m.src W2 (hs.grew gr2) hp).mono ?_
  rintro e w3 ⟨A3, c3, rfl, l3, g3⟩
  rw [sW2.out] at l3
  have hlb := Own.blk_lt l3
  have hB3 := hB2.grew g3
  have s3 := g3.size
  rw [sW2.out] at s3
  have hB3' := Bxs.set (L := [⟨w.heap.size, 25, #[.int .u64 (v : Int), .int .i64 fl, .slice A n c]⟩, ⟨w.heap.size + 1, 28, #[.int .u64 (m.id : Int), .int .i64 m.lo, .int .i64 m.hi, .int .i64 m.lv, .slice D p d, .int .i64 m.sr, .int .i64 m.pt]⟩, ⟨g9, 25, #[.int .u64 (v : Int), .int .i64 fl, .slice Bx n Cx]⟩]) (R := []) hB3 4 (.slice A3 p c3) (fun x hx => by
    simp only [List.append_nil, List.mem_cons, List.not_mem_nil, or_false] at hx
    rcases hx with rfl | rfl | rfl <;> (show _ ≠ g9 + 1; simp only; omega))
  simp only [List.cons_append, List.nil_append, List.setIfInBounds_toArray, List.set_cons_succ, List.set_cons_zero] at hB3'
  have l4 := OE.farBlk l3 (hB3.at_ 3 rfl) (by decide) 4 (.slice A3 p c3)
  have gr3 : Grew w (w3.setCell ⟨g9 + 1, 4, none⟩ (.slice A3 p c3)) := (gr2.trans g3).setCell (p := ⟨g9 + 1, 4, none⟩) (.inl (by show w.heap.size ≤ g9 + 1; omega)) _
  have X3 := (X2.grew g3).chg (Chg.cell1 w3 (g9 + 1) 4 (.slice A3 p c3)) (fun k h1 h2 h3 => by omega)
  obtain ⟨la, hla⟩ : ∃ k, w3.heap.size = k := ⟨_, rfl⟩
  rw [hla] at hlb s3
  replace hlb := Lib.hid hlb
  have hla3 : Hid ((w3.setCell ⟨g9 + 1, 4, none⟩ (.slice A3 p c3)).heap.size = la) := Lib.hid (by rw [← hla]; simp)
  have y4 := (hB3.at_ 3 rfl).cell 4
  simp only [List.getElem?_toArray, List.getElem?_cons_succ, List.getElem?_cons_zero] at y4
  have yf := (hB3.at_ 3 rfl).frozen 4
  have yl := (hB3.at_ 3 rfl).lt
  have k0 := (hB3'.at_ 2 rfl).cell 0
  have k1 := (hB3'.at_ 2 rfl).cell 1
  have k2 := (hB3'.at_ 2 rfl).cell 2
  simp only [List.getElem?_toArray, List.getElem?_cons_succ, List.getElem?_cons_zero] at k0 k1 k2
  have kl := (hB3'.at_ 2 rfl).lt
  have m0 := (hB3'.at_ 3 rfl).cell 0
  have m1 := (hB3'.at_ 3 rfl).cell 1
  have m2 := (hB3'.at_ 3 rfl).cell 2
  have m3 := (hB3'.at_ 3 rfl).cell 3
  have m4 := (hB3'.at_ 3 rfl).cell 4
  have m5 := (hB3'.at_ 3 rfl).cell 5
  have m6 := (hB3'.at_ 3 rfl).cell 6
  simp only [List.getElem?_toArray, List.getElem?_cons_succ, List.getElem?_cons_zero] at m0 m1 m2 m3 m4 m5 m6
  have ml := (hB3'.at_ 3 rfl).lt
  clear X2 hB2 hB3 l3 gr2 hla g3 sW2
  go_wp2_with fail
  clear y4 yf yl k0 k1 k2 kl m0 m1 m2 m3 m4 m5 m6 ml
  generalize w3.setCell ⟨g9 + 1, 4, none⟩ (.slice A3 p c3) = W3 at *
  have r4 : RE elU W3 A3 p m.src := RE.take0 (r := [7777777, 7777777]) (l4.re (by decide))
  refine (ca Bx n Cx A3 p c3 W3 X3.rx r4).mono ?_
  clear r4
  rintro e w4 ⟨Ba, Ca, rfl, xa, g4⟩
  have na4 := xa.nr
  rw [hla3.out] at na4
  have ba := xa.cap
  have s4 := g4.size
  obtain ⟨ha, hha⟩ : ∃ g, w4.heap.size = g := ⟨_, rfl⟩
  rw [hha] at na4 s4
  rw [hla3.out] at s4
  obtain ⟨W4, hW4⟩ : ∃ W, W = w4.alloc (.cells #[.int .u64 (va : Int), .int .i64 fa, .slice Ba na Ca] 25) := ⟨_, rfl⟩
  have q4 : Grew w4 W4 := by rw [hW4]; exact (Chg.refl _ w4).alloc _
  have t4 := g4.trans q4
  have hB4 := (hB3'.grew g4).push hW4 hha (by decide) (by decide)
  simp only [List.cons_append, List.nil_append] at hB4
  have sW4 : Hid (W4.heap.size = ha + 1) := Lib.hid (by rw [hW4, World.size_alloc, hha])
  replace hha := Lib.hid hha
  have gr4 := gr3.trans t4
  have X4 := X3.grew t4
  have l4l := l4.grew t4
  have ma4 := na4.grew q4
  have B4old := hB3'.grew g4
  clear xa na4 hB3' gr3 X3 l4  g4 q4 t4 hla3
  have k0 := (B4old.at_ 2 rfl).cell 0
  have k1 := (B4old.at_ 2 rfl).cell 1
  have k2 := (B4old.at_ 2 rfl).cell 2
  simp only [List.getElem?_toArray, List.getElem?_cons_succ, List.getElem?_cons_zero] at k0 k1 k2
  have kl := (B4old.at_ 2 rfl).lt
  go_wp2_with fail
  rw [← hW4, hha.out]
  clear k0 k1 k2 kl hW4 hha B4old
  refine (cb Bx n Cx W4 X4.rx).mono ?_
  rintro e w5 ⟨Bb, Cb, rfl, xb, g5⟩
  have nb5 := xb.nr
  rw [sW4.out] at nb5
  have bb := xb.cap
  have s5 := g5.size
  obtain ⟨hb, hhb⟩ : ∃ g, w5.heap.size = g := ⟨_, rfl⟩
  rw [hhb] at nb5 s5
  rw [sW4.out] at s5
  obtain ⟨W5, hW5⟩ : ∃ W, W = w5.alloc (.cells #[.int .u64 (vb : Int), .int .i64 fb, .slice Bb nb Cb] 25) := ⟨_, rfl⟩
  have q5 : Grew w5 W5 := by rw [hW5]; exact (Chg.refl _ w5).alloc _
  have t5 := g5.trans q5
  have hB5 := (hB4.grew g5).push hW5 hhb (by decide) (by decide)
  simp only [List.cons_append, List.nil_append] at hB5
  have sW5 : Hid (W5.heap.size = hb + 1) := Lib.hid (by rw [hW5, World.size_alloc, hhb])
  replace hhb := Lib.hid hhb
  have gr5 := gr4.trans t5
  have X5 := X4.grew t5
  have l5l := l4l.grew t5
  have na5 := ma4.grew t5
  have mb5 := nb5.grew q5
  have B5old := hB4.grew g5
  clear xb nb5 hB4 gr4 X4 l4l ma4 g5 q5 t5 sW4
  have k0 := (B5old.at_ 2 rfl).cell 0
  have k1 := (B5old.at_ 2 rfl).cell 1
  have k2 := (B5old.at_ 2 rfl).cell 2
  simp only [List.getElem?_toArray, List.getElem?_cons_succ, List.getElem?_cons_zero] at k0 k1 k2
  have kl := (B5old.at_ 2 rfl).lt
  go_wp2_with fail
  rw [← hW5, hhb.out]
  clear k0 k1 k2 kl hW5 hhb B5old
  refine (cc Bx n Cx W5 X5.rx).mono ?_
  rintro e w6 ⟨Bc, Cc, rfl, xc, g6⟩
  have nc6 := xc.nr
  rw [sW5.out] at nc6
  have bc := xc.cap
  have s6 := g6.size
  obtain ⟨hc, hhc⟩ : ∃ g, w6.heap.size = g := ⟨_, rfl⟩
  rw [hhc] at nc6 s6
  rw [sW5.out] at s6
  obtain ⟨W6, hW6⟩ : ∃ W, W = w6.alloc (.cells #[.int .u64 (vc : Int), .int .i64 fc, .slice Bc nc Cc] 25) := ⟨_, rfl⟩
  have q6 : Grew w6 W6 := by rw [hW6]; exact (Chg.refl _ w6).alloc _
  have t6 := g6.trans q6
  have hB6 := (hB5.grew g6).push hW6 hhc (by decide) (by decide)
  simp only [List.cons_append, List.nil_append] at hB6
  have sW6 : Hid (W6.heap.size = hc + 1) := Lib.hid (by rw [hW6, World.size_alloc, hhc])
  replace hhc := Lib.hid hhc
  have gr6 := gr5.trans t6
  have X6 := X5.grew t6
  have l6l := l5l.grew t6
  have na6 := na5.grew t6
  have nb6 := mb5.grew t6
  have mc6 := nc6.grew q6
  have B6old := hB5.grew g6
  clear xc nc6 hB5 gr5 X5 l5l na5 mb5 g6 q6 t6 sW5
  have k0 := (B6old.at_ 2 rfl).cell 0
  have k1 := (B6old.at_ 2 rfl).cell 1
  have k2 := (B6old.at_ 2 rfl).cell 2
  simp only [List.getElem?_toArray, List.getElem?_cons_succ, List.getElem?_cons_zero] at k0 k1 k2
  have kl := (B6old.at_ 2 rfl).lt
  go_wp2_with fail
  rw [← hW6, hhc.out]
  clear k0 k1 k2 kl hW6 hhc B6old
  refine (cd Bx n Cx W6 X6.rx).mono ?_
  rintro e w7 ⟨Bd, Cd, rfl, xd, g7⟩
  have nd7 := xd.nr
  rw [sW6.out] at nd7
  have bd := xd.cap
  have s7 := g7.size
  obtain ⟨hd, hhd⟩ : ∃ g, w7.heap.size = g := ⟨_, rfl⟩
  rw [hhd] at nd7 s7
  rw [sW6.out] at s7
  obtain ⟨W7, hW7⟩ : ∃ W, W = w7.alloc (.cells #[.int .u64 (vd : Int), .int .i64 fd, .slice Bd nd Cd] 25) := ⟨_, rfl⟩
  have q7 : Grew w7 W7 := by rw [hW7]; exact (Chg.refl _ w7).alloc _
  have t7 := g7.trans q7
  have hB7 := (hB6.grew g7).push hW7 hhd (by decide) (by decide)
  simp only [List.cons_append, List.nil_append] at hB7
  have sW7 : Hid (W7.heap.size = hd + 1) := Lib.hid (by rw [hW7, World.size_alloc, hhd])
  replace hhd := Lib.hid hhd
  have gr7 := gr6.trans t7
  have X7 := X6.grew t7
  have l7l := l6l.grew t7
  have na7 := na6.grew t7
  have nb7 := nb6.grew t7
  have nc7 := mc6.grew t7
  have md7 := nd7.grew q7
  have B7old := hB6.grew g7
  clear xd nd7 hB6 gr6 X6 l6l na6 nb6 mc6 g7 q7 t7 sW6
  go_wp2_with fail
  rw [← hW7, hhd.out]
  clear hW7 hhd B7old
  have hcs : CellsIn [w.heap.size, w.heap.size + 1, g9, g9 + 1] W7 := cellsIn_blk (hB7.at_ 0 rfl) (cellsIn_blk (hB7.at_ 1 rfl) (cellsIn_blk (hB7.at_ 2 rfl) (cellsIn_blk (hB7.at_ 3 rfl) (cellsIn_nil W7))))
  have m4 := (hB7.at_ 1 rfl).cell 4
  simp only [List.getElem?_toArray, List.getElem?_cons_succ, List.getElem?_cons_zero] at m4
  have ml := (hB7.at_ 1 rfl).lt
  have j4 := (hB7.at_ 3 rfl).cell 4
  simp only [List.getElem?_toArray, List.getElem?_cons_succ, List.getElem?_cons_zero] at j4
  have jl := (hB7.at_ 3 rfl).lt
  refine wp_region_textS [(31, 1)] [w.heap.size, w.heap.size + 1, g9, g9 + 1] (by kernel_rfl) (by kernel_rfl) hcs ?_
  simp (config := { maxSteps := 2000000 }) only [wpU, tagOf, chk, look, Nat.reduceBEq, if_true, if_false, Nat.reduceEqDiff, List.nil_append, List.cons_append]
  have p0 : Grew W7 W7.drew := (Chg.refl _ W7).drew
  intro K hK
  go_wp2_with fail
  refine OnlyN.normal (hK _ _ (fun _ => ⟨_, _, _, rfl, rfl, by simp⟩) ?_)
  clear hK K
  intro K hK
  go_wp2_with fail
  refine OnlyN.normal (hK _ _ (fun _ => ⟨_, _, _, rfl, rfl, by simp⟩) ?_)
  clear hK K
  intro K0 hK
  go_wp2_with fail
  refine (keptIds_any A3 p c3 m.src D d (g9 + 2) _ (l7l.grew p0) (hs.grew (gr7.trans p0)) hp).mono ?_
  rintro e w8 ⟨rfl, c8⟩
  clear m4 ml j4 jl
  have c8' : Chg (fun k => ∃ ad, A3 = some ad ∧ k = ad.block) W7 w8 := (Chg.of_grew p0).trans c8
  have hl7 : ∀ k, (∃ ad, A3 = some ad ∧ k = ad.block) → g9 + 2 ≤ k ∧ k < la := fun k ⟨ad, e, e2⟩ => by
    have := hlb.out ad e
    rw [e2]
    exact this
  have hB8 := hB7.rowU l7l c8'
  have gr8 : Grew w w8 := gr7.step c8' fun k hk hS => by have := (hl7 k hS).1; omega
  have X8 := X7.chg c8' fun k h1 h2 hS => by have := (hl7 k hS).1; omega
  have na8 := na7.chg c8' fun k h1 h2 hS => by have := (hl7 k hS).2; omega
  have nb8 := nb7.chg c8' fun k h1 h2 hS => by have := (hl7 k hS).2; omega
  have nc8 := nc7.chg c8' fun k h1 h2 hS => by have := (hl7 k hS).2; omega
  have nd8 := md7.chg c8' fun k h1 h2 hS => by have := (hl7 k hS).2; omega
  have hsm := Lib.hid fun (Y : World) (g : Grew w8 Y) => sameIn_of (c8'.grow g) hcs (fun k hk hS => by
    have h1 := hl7 k hS
    simp only [List.mem_cons, List.not_mem_nil, or_false] at hk
    omega)
  have s8 := c8'.size
  rw [sW7.out] at s8
  go_wp2_with fail
  refine OnlyN.normal (hK _ _ (hsm.out _ (Chg.refl _ _)) ?_)
  clear hK K0 c8 c8' hl7 hB7 gr7 X7 l7l p0 sW7 na7 nb7 nc7 md7
  have i0 := (hB8.at_ 0 rfl).cell 0
  have i1 := (hB8.at_ 0 rfl).cell 1
  have i2 := (hB8.at_ 0 rfl).cell 2
  simp only [List.getElem?_toArray, List.getElem?_cons_succ, List.getElem?_cons_zero] at i0 i1 i2
  have il := (hB8.at_ 0 rfl).lt
  have k0 := (hB8.at_ 2 rfl).cell 0
  have k1 := (hB8.at_ 2 rfl).cell 1
  have k2 := (hB8.at_ 2 rfl).cell 2
  simp only [List.getElem?_toArray, List.getElem?_cons_succ, List.getElem?_cons_zero] at k0 k1 k2
  have kl := (hB8.at_ 2 rfl).lt
  intro K hK
  go_wp2_with fail
  refine OnlyN.normal (hK _ _ (fun _ => ⟨_, _, _, rfl, rfl, by simp⟩) ?_)
  clear hK K
  intro K hK
  go_wp2_with fail
  refine OnlyN.normal (hK _ _ (fun _ => ⟨_, _, _, rfl, rfl, by simp⟩) ?_)
  clear hK K
  intro K0 hK
  go_wp2_with fail
  refine (sameIndex_eq v fl Bx A n Cx c es _ X8.rx (h.grew gr8) hn).mono ?_
  rintro e w9 ⟨rfl, d9⟩
  clear i0 i1 i2 il k0 k1 k2 kl
  go_wp2_with fail
  refine OnlyN.normal (hK _ _ (hsm.out _ d9) ?_)
  clear hK K0
  have hB9 := hB8.grew d9
  have k0 := (hB9.at_ 2 rfl).cell 0
  have k1 := (hB9.at_ 2 rfl).cell 1
  have k2 := (hB9.at_ 2 rfl).cell 2
  simp only [List.getElem?_toArray, List.getElem?_cons_succ, List.getElem?_cons_zero] at k0 k1 k2
  have kl := (hB9.at_ 2 rfl).lt
  obtain ⟨er, hec⟩ : ∃ er, errI (chkI fl es) = er := ⟨_, rfl⟩
  have hC1 := check_any v fl Bx n Cx es w9 (X8.grew d9).rx hn
  rw [hec] at hC1
  intro K hK
  go_wp2_with fail
  refine OnlyN.normal (hK _ _ (fun _ => ⟨_, _, _, rfl, rfl, by simp⟩) ?_)
  clear hK K
  intro K0 hK
  go_wp2_with fail
  refine hC1.mono ?_
  rintro e w10 ⟨rfl, d10⟩
  clear k0 k1 k2 kl hC1
  have k10 := d9.trans d10
  have hC2 := rcheck_any v fl A n c es w10 (h.grew (gr8.trans k10)) hn
  rw [hec] at hC2
  clear hec
  go_wp2_with fail
  refine OnlyN.normal (hK _ _ (hsm.out _ k10) ?_)
  clear hK K0
  have hB10 := hB9.grew d10
  have i0 := (hB10.at_ 0 rfl).cell 0
  have i1 := (hB10.at_ 0 rfl).cell 1
  have i2 := (hB10.at_ 0 rfl).cell 2
  simp only [List.getElem?_toArray, List.getElem?_cons_succ, List.getElem?_cons_zero] at i0 i1 i2
  have il := (hB10.at_ 0 rfl).lt
  intro K hK
  go_wp2_with fail
  refine OnlyN.normal (hK _ _ (fun _ => ⟨_, _, _, rfl, rfl, by simp⟩) ?_)
  clear hK K
  intro K0 hK
  go_wp2_with fail
  refine hC2.mono ?_
  rintro e w11 ⟨rfl, d11⟩
  clear i0 i1 i2 il hC2
  have k11 := k10.trans d11
  go_wp2_with fail
  refine OnlyN.normal (hK _ _ (hsm.out _ k11) ?_)
  clear hK K0 hsm hcs
  have hB11 := hB10.grew d11
  have gr11 := gr8.trans k11
  have X11 := X8.grew k11
  have na11 := na8.grew k11
  have nb11 := nb8.grew k11
  have nc11 := nc8.grew k11
  have nd11 := nd8.grew k11
  have s11 := k11.size
  clear hB8 hB9 hB10 gr8 X8 d9 d10 d11 k10 k11 na8 nb8 nc8 nd8
  have k0 := (hB11.at_ 2 rfl).cell 0
  have k1 := (hB11.at_ 2 rfl).cell 1
  have k2 := (hB11.at_ 2 rfl).cell 2
  simp only [List.getElem?_toArray, List.getElem?_cons_succ, List.getElem?_cons_zero] at k0 k1 k2
  have kl := (hB11.at_ 2 rfl).lt
  go_wp2_with fail
  refine OnlyN.normal ?_
  go_wp2_with fail
  refine (spoilIx_any v fl Bx n Cx es (w.heap.size + 2) g9 _ X11 (by omega) hf).mono ?_
  rintro e w12 ⟨rfl, c12⟩
  clear k0 k1 k2 kl
  have hB12 := hB11.range c12 (fun x hx => by
    simp only [List.mem_cons, List.not_mem_nil, or_false] at hx
    rcases hx with rfl | rfl | rfl | rfl | rfl | rfl | rfl | rfl <;> simp only <;> omega)
  have gr12 : Grew w w12 := gr11.step c12 fun k hk hS => by omega
  have na12 := na11.chg c12 fun k h1 h2 hS => by omega
  have nb12 := nb11.chg c12 fun k h1 h2 hS => by omega
  have nc12 := nc11.chg c12 fun k h1 h2 hS => by omega
  have nd12 := nd11.chg c12 fun k h1 h2 hS => by omega
  have s12 := c12.size
  clear hB11 gr11 c12 na11 nb11 nc11 nd11
  clear X11 hlb
  have i0 := (hB12.at_ 0 rfl).cell 0
  have i1 := (hB12.at_ 0 rfl).cell 1
  have i2 := (hB12.at_ 0 rfl).cell 2
  simp only [List.getElem?_toArray, List.getElem?_cons_succ, List.getElem?_cons_zero] at i0 i1 i2
  have il := (hB12.at_ 0 rfl).lt
  have m0 := (hB12.at_ 1 rfl).cell 0
  have m1 := (hB12.at_ 1 rfl).cell 1
  have m2 := (hB12.at_ 1 rfl).cell 2
  have m3 := (hB12.at_ 1 rfl).cell 3
  have m4 := (hB12.at_ 1 rfl).cell 4
  have m5 := (hB12.at_ 1 rfl).cell 5
  have m6 := (hB12.at_ 1 rfl).cell 6
  simp only [List.getElem?_toArray, List.getElem?_cons_succ, List.getElem?_cons_zero] at m0 m1 m2 m3 m4 m5 m6
  have ml := (hB12.at_ 1 rfl).lt
  go_wp2_with fail
  clear i0 i1 i2 il m0 m1 m2 m3 m4 m5 m6 ml
  obtain ⟨lp, hlp⟩ : ∃ k, w12.heap.size = k := ⟨_, rfl⟩
  have slp : hd + 1 ≤ lp := by omega
  clear s8 s11 s12
  replace hlp := Lib.hid hlp
  refine (ka A n c D p d w12 (h.grew gr12) (hs.grew gr12)).mono ?_
  rintro e w13 ⟨Bp, Cp, rfl, xp, g13⟩
  have np13 := xp.nr
  rw [hlp.out] at np13
  have bp := xp.cap
  have s13 := g13.size
  obtain ⟨hp, hhp⟩ : ∃ g, w13.heap.size = g := ⟨_, rfl⟩
  rw [hhp] at np13 s13
  rw [hlp.out] at s13
  obtain ⟨W13, hW13⟩ : ∃ W, W = w13.alloc (.cells #[.int .u64 (va : Int), .int .i64 fa, .slice Bp na Cp] 25) := ⟨_, rfl⟩
  have q13 : Grew w13 W13 := by rw [hW13]; exact (Chg.refl _ w13).alloc _
  have t13 := g13.trans q13
  have hB13 := (hB12.grew g13).push hW13 hhp (by decide) (by decide)
  simp only [List.cons_append, List.nil_append] at hB13
  have sW13 : Hid (W13.heap.size = hp + 1) := Lib.hid (by rw [hW13, World.size_alloc, hhp])
  replace hhp := Lib.hid hhp
  have gr13 := gr12.trans t13
  have na13 := na12.grew t13
  have nb13 := nb12.grew t13
  have nc13 := nc12.grew t13
  have nd13 := nd12.grew t13
  have mp13 := np13.grew q13
  have B13old := hB12.grew g13
  clear xp np13 hB12 gr12   na12 nb12 nc12 nd12 g13 q13 t13 hlp
  have k0 := (B13old.at_ 0 rfl).cell 0
  have k1 := (B13old.at_ 0 rfl).cell 1
  have k2 := (B13old.at_ 0 rfl).cell 2
  simp only [List.getElem?_toArray, List.getElem?_cons_succ, List.getElem?_cons_zero] at k0 k1 k2
  have kl := (B13old.at_ 0 rfl).lt
  go_wp2_with fail
  rw [← hW13, hhp.out]
  clear k0 k1 k2 kl hW13 hhp B13old
  refine (kb A n c W13 (h.grew gr13)).mono ?_
  rintro e w14 ⟨Bq, Cq, rfl, xq, g14⟩
  have nq14 := xq.nr
  rw [sW13.out] at nq14
  have bq := xq.cap
  have s14 := g14.size
  obtain ⟨hq, hhq⟩ : ∃ g, w14.heap.size = g := ⟨_, rfl⟩
  rw [hhq] at nq14 s14
  rw [sW13.out] at s14
  obtain ⟨W14, hW14⟩ : ∃ W, W = w14.alloc (.cells #[.int .u64 (vb : Int), .int .i64 fb, .slice Bq nb Cq] 25) := ⟨_, rfl⟩
  have q14 : Grew w14 W14 := by rw [hW14]; exact (Chg.refl _ w14).alloc _
  have t14 := g14.trans q14
  have hB14 := (hB13.grew g14).push hW14 hhq (by decide) (by decide)
  simp only [List.cons_append, List.nil_append] at hB14
  have sW14 : Hid (W14.heap.size = hq + 1) := Lib.hid (by rw [hW14, World.size_alloc, hhq])
  replace hhq := Lib.hid hhq
  have gr14 := gr13.trans t14
  have na14 := na13.grew t14
  have nb14 := nb13.grew t14
  have nc14 := nc13.grew t14
  have nd14 := nd13.grew t14
  have np14 := mp13.grew t14
  have mq14 := nq14.grew q14
  have B14old := hB13.grew g14
  clear xq nq14 hB13 gr13   na13 nb13 nc13 nd13 mp13 g14 q14 t14 sW13
  have k0 := (B14old.at_ 0 rfl).cell 0
  have k1 := (B14old.at_ 0 rfl).cell 1
  have k2 := (B14old.at_ 0 rfl).cell 2
  simp only [List.getElem?_toArray, List.getElem?_cons_succ, List.getElem?_cons_zero] at k0 k1 k2
  have kl := (B14old.at_ 0 rfl).lt
  go_wp2_with fail
  rw [← hW14, hhq.out]
  clear k0 k1 k2 kl hW14 hhq B14old
  refine (kc A n c W14 (h.grew gr14)).mono ?_
  rintro e w15 ⟨Br, Cr, rfl, xr, g15⟩
  have nr15 := xr.nr
  rw [sW14.out] at nr15
  have br := xr.cap
  have s15 := g15.size
  obtain ⟨hr, hhr⟩ : ∃ g, w15.heap.size = g := ⟨_, rfl⟩
  rw [hhr] at nr15 s15
  rw [sW14.out] at s15
  obtain ⟨W15, hW15⟩ : ∃ W, W = w15.alloc (.cells #[.int .u64 (vc : Int), .int .i64 fc, .slice Br nc Cr] 25) := ⟨_, rfl⟩
  have q15 : Grew w15 W15 := by rw [hW15]; exact (Chg.refl _ w15).alloc _
  have t15 := g15.trans q15
  have hB15 := (hB14.grew g15).push hW15 hhr (by decide) (by decide)
  simp only [List.cons_append, List.nil_append] at hB15
  have sW15 : Hid (W15.heap.size = hr + 1) := Lib.hid (by rw [hW15, World.size_alloc, hhr])
  replace hhr := Lib.hid hhr
  have gr15 := gr14.trans t15
  have na15 := na14.grew t15
  have nb15 := nb14.grew t15
  have nc15 := nc14.grew t15
  have nd15 := nd14.grew t15
  have np15 := np14.grew t15
  have nq15 := mq14.grew t15
  have mr15 := nr15.grew q15
  have B15old := hB14.grew g15
  clear xr nr15 hB14 gr14   na14 nb14 nc14 nd14 np14 mq14 g15 q15 t15 sW14
  have k0 := (B15old.at_ 0 rfl).cell 0
  have k1 := (B15old.at_ 0 rfl).cell 1
  have k2 := (B15old.at_ 0 rfl).cell 2
  simp only [List.getElem?_toArray, List.getElem?_cons_succ, List.getElem?_cons_zero] at k0 k1 k2
  have kl := (B15old.at_ 0 rfl).lt
  go_wp2_with fail
  rw [← hW15, hhr.out]
  clear k0 k1 k2 kl hW15 hhr B15old
  refine (kd A n c W15 (h.grew gr15)).mono ?_
  rintro e w16 ⟨Bs, Cs, rfl, xs, g16⟩
  have ns16 := xs.nr
  rw [sW15.out] at ns16
  have bs := xs.cap
  have s16 := g16.size
  obtain ⟨hs, hhs⟩ : ∃ g, w16.heap.size = g := ⟨_, rfl⟩
  rw [hhs] at ns16 s16
  rw [sW15.out] at s16
  obtain ⟨W16, hW16⟩ : ∃ W, W = w16.alloc (.cells #[.int .u64 (vd : Int), .int .i64 fd, .slice Bs nd Cs] 25) := ⟨_, rfl⟩
  have q16 : Grew w16 W16 := by rw [hW16]; exact (Chg.refl _ w16).alloc _
  have t16 := g16.trans q16
  have hB16 := (hB15.grew g16).push hW16 hhs (by decide) (by decide)
  simp only [List.cons_append, List.nil_append] at hB16
  have sW16 : Hid (W16.heap.size = hs + 1) := Lib.hid (by rw [hW16, World.size_alloc, hhs])
  replace hhs := Lib.hid hhs
  have gr16 := gr15.trans t16
  have na16 := na15.grew t16
  have nb16 := nb15.grew t16
  have nc16 := nc15.grew t16
  have nd16 := nd15.grew t16
  have np16 := np15.grew t16
  have nq16 := nq15.grew t16
  have nr16 := mr15.grew t16
  have ms16 := ns16.grew q16
  have B16old := hB15.grew g16
  clear xs ns16 hB15 gr15   na15 nb15 nc15 nd15 np15 nq15 mr15 g16 q16 t16 sW15
  have k0 := (B16old.at_ 4 rfl).cell 0
  have k1 := (B16old.at_ 4 rfl).cell 1
  have k2 := (B16old.at_ 4 rfl).cell 2
  simp only [List.getElem?_toArray, List.getElem?_cons_succ, List.getElem?_cons_zero] at k0 k1 k2
  have kl := (B16old.at_ 4 rfl).lt
  have j0 := (B16old.at_ 8 rfl).cell 0
  have j1 := (B16old.at_ 8 rfl).cell 1
  have j2 := (B16old.at_ 8 rfl).cell 2
  simp only [List.getElem?_toArray, List.getElem?_cons_succ, List.getElem?_cons_zero] at j0 j1 j2
  have jl := (B16old.at_ 8 rfl).lt
  go_wp2_with fail
  rw [← hW16, hhs.out]
  clear k0 k1 k2 kl j0 j1 j2 jl hW16 hhs B16old
  refine (sameIndex_eq va fa Ba Bp na Ca Cp ea W16 na16.rx np16.rx (by omega)).mono ?_
  rintro e w17 ⟨rfl, d17⟩
  have hB17 := hB16.grew d17
  have gr17 := gr16.trans d17
  have na17 := na16.grew d17
  have nb17 := nb16.grew d17
  have nc17 := nc16.grew d17
  have nd17 := nd16.grew d17
  have np17 := np16.grew d17
  have nq17 := nq16.grew d17
  have nr17 := nr16.grew d17
  have ns17 := ms16.grew d17
  have s17 := d17.size
  clear hB16 gr16 d17 na16 nb16 nc16 nd16 np16 nq16 nr16 ms16
  rw [sW16.out] at s17
  clear sW16
  have i0 := (hB17.at_ 5 rfl).cell 0
  have i1 := (hB17.at_ 5 rfl).cell 1
  have i2 := (hB17.at_ 5 rfl).cell 2
  simp only [List.getElem?_toArray, List.getElem?_cons_succ, List.getElem?_cons_zero] at i0 i1 i2
  have il := (hB17.at_ 5 rfl).lt
  have k0 := (hB17.at_ 9 rfl).cell 0
  have k1 := (hB17.at_ 9 rfl).cell 1
  have k2 := (hB17.at_ 9 rfl).cell 2
  simp only [List.getElem?_toArray, List.getElem?_cons_succ, List.getElem?_cons_zero] at k0 k1 k2
  have kl := (hB17.at_ 9 rfl).lt
  go_wp2_with fail
  refine (sameIndex_eq vb fb Bb Bq nb Cb Cq eb w17 nb17.rx nq17.rx (by omega)).mono ?_
  rintro e w18 ⟨rfl, d18⟩
  clear i0 i1 i2 il k0 k1 k2 kl
  have hB18 := hB17.grew d18
  have gr18 := gr17.trans d18
  have na18 := na17.grew d18
  have nb18 := nb17.grew d18
  have nc18 := nc17.grew d18
  have nd18 := nd17.grew d18
  have np18 := np17.grew d18
  have nq18 := nq17.grew d18
  have nr18 := nr17.grew d18
  have ns18 := ns17.grew d18
  have s18 := d18.size
  clear hB17 gr17 d18 na17 nb17 nc17 nd17 np17 nq17 nr17 ns17
  have i0 := (hB18.at_ 6 rfl).cell 0
  have i1 := (hB18.at_ 6 rfl).cell 1
  have i2 := (hB18.at_ 6 rfl).cell 2
  simp only [List.getElem?_toArray, List.getElem?_cons_succ, List.getElem?_cons_zero] at i0 i1 i2
  have il := (hB18.at_ 6 rfl).lt
  have k0 := (hB18.at_ 10 rfl).cell 0
  have k1 := (hB18.at_ 10 rfl).cell 1
  have k2 := (hB18.at_ 10 rfl).cell 2
  simp only [List.getElem?_toArray, List.getElem?_cons_succ, List.getElem?_cons_zero] at k0 k1 k2
  have kl := (hB18.at_ 10 rfl).lt
  go_wp2_with fail
  refine (sameIndex_eq vc fc Bc Br nc Cc Cr ec w18 nc18.rx nr18.rx (by omega)).mono ?_
  rintro e w19 ⟨rfl, d19⟩
  clear i0 i1 i2 il k0 k1 k2 kl
  have hB19 := hB18.grew d19
  have gr19 := gr18.trans d19
  have na19 := na18.grew d19
  have nb19 := nb18.grew d19
  have nc19 := nc18.grew d19
  have nd19 := nd18.grew d19
  have np19 := np18.grew d19
  have nq19 := nq18.grew d19
  have nr19 := nr18.grew d19
  have ns19 := ns18.grew d19
  have s19 := d19.size
  clear hB18 gr18 d19 na18 nb18 nc18 nd18 np18 nq18 nr18 ns18
  have i0 := (hB19.at_ 4 rfl).cell 0
  have i1 := (hB19.at_ 4 rfl).cell 1
  have i2 := (hB19.at_ 4 rfl).cell 2
  simp only [List.getElem?_toArray, List.getElem?_cons_succ, List.getElem?_cons_zero] at i0 i1 i2
  have il := (hB19.at_ 4 rfl).lt
  go_wp2_with fail
  refine (spoilIx_any va fa Ba na Ca ea la ha w19 na19 (by omega) hFa).mono ?_
  rintro e w20 ⟨rfl, c20⟩
  clear i0 i1 i2 il
  have hB20 := hB19.range c20 (fun x hx => by
    simp only [List.mem_cons, List.not_mem_nil, or_false] at hx
    rcases hx with rfl | rfl | rfl | rfl | rfl | rfl | rfl | rfl | rfl | rfl | rfl | rfl <;> simp only <;> omega)
  have gr20 : Grew w w20 := gr19.step c20 fun k hk hS => by omega
  have nb20 := nb19.chg c20 fun k h1 h2 hS => by omega
  have nc20 := nc19.chg c20 fun k h1 h2 hS => by omega
  have nd20 := nd19.chg c20 fun k h1 h2 hS => by omega
  have nq20 := nq19.chg c20 fun k h1 h2 hS => by omega
  have nr20 := nr19.chg c20 fun k h1 h2 hS => by omega
  have ns20 := ns19.chg c20 fun k h1 h2 hS => by omega
  have s20 := c20.size
  clear hB19 gr19 c20 nb19 nc19 nd19 nq19 nr19 ns19 na19 np19
  have i0 := (hB20.at_ 5 rfl).cell 0
  have i1 := (hB20.at_ 5 rfl).cell 1
  have i2 := (hB20.at_ 5 rfl).cell 2
  simp only [List.getElem?_toArray, List.getElem?_cons_succ, List.getElem?_cons_zero] at i0 i1 i2
  have il := (hB20.at_ 5 rfl).lt
  go_wp2_with fail
  refine (spoilIx_any vb fb Bb nb Cb eb (ha + 1) hb w20 nb20 (by omega) hFb).mono ?_
  rintro e w21 ⟨rfl, c21⟩
  clear i0 i1 i2 il
  have hB21 := hB20.range c21 (fun x hx => by
    simp only [List.mem_cons, List.not_mem_nil, or_false] at hx
    rcases hx with rfl | rfl | rfl | rfl | rfl | rfl | rfl | rfl | rfl | rfl | rfl | rfl <;> simp only <;> omega)
  have gr21 : Grew w w21 := gr20.step c21 fun k hk hS => by omega
  have nc21 := nc20.chg c21 fun k h1 h2 hS => by omega
  have nd21 := nd20.chg c21 fun k h1 h2 hS => by omega
  have nr21 := nr20.chg c21 fun k h1 h2 hS => by omega
  have ns21 := ns20.chg c21 fun k h1 h2 hS => by omega
  have s21 := c21.size
  clear hB20 gr20 c21 nc20 nd20 nr20 ns20 nb20 nq20
  have i0 := (hB21.at_ 6 rfl).cell 0
  have i1 := (hB21.at_ 6 rfl).cell 1
  have i2 := (hB21.at_ 6 rfl).cell 2
  simp only [List.getElem?_toArray, List.getElem?_cons_succ, List.getElem?_cons_zero] at i0 i1 i2
  have il := (hB21.at_ 6 rfl).lt
  have k0 := (hB21.at_ 10 rfl).cell 0
  have k1 := (hB21.at_ 10 rfl).cell 1
  have k2 := (hB21.at_ 10 rfl).cell 2
  simp only [List.getElem?_toArray, List.getElem?_cons_succ, List.getElem?_cons_zero] at k0 k1 k2
  have kl := (hB21.at_ 10 rfl).lt
  go_wp2_with fail
  refine (sameIndex_eq vc fc Bc Br nc Cc Cr ec w21 nc21.rx nr21.rx (by omega)).mono ?_
  rintro e w22 ⟨rfl, d22⟩
  clear i0 i1 i2 il k0 k1 k2 kl
  have hB22 := hB21.grew d22
  have gr22 := gr21.trans d22
  have nc22 := nc21.grew d22
  have nd22 := nd21.grew d22
  have nr22 := nr21.grew d22
  have ns22 := ns21.grew d22
  have s22 := d22.size
  clear hB21 gr21 d22 nc21 nd21 nr21 ns21
  have i0 := (hB22.at_ 7 rfl).cell 0
  have i1 := (hB22.at_ 7 rfl).cell 1
  have i2 := (hB22.at_ 7 rfl).cell 2
  simp only [List.getElem?_toArray, List.getElem?_cons_succ, List.getElem?_cons_zero] at i0 i1 i2
  have il := (hB22.at_ 7 rfl).lt
  have k0 := (hB22.at_ 11 rfl).cell 0
  have k1 := (hB22.at_ 11 rfl).cell 1
  have k2 := (hB22.at_ 11 rfl).cell 2
  simp only [List.getElem?_toArray, List.getElem?_cons_succ, List.getElem?_cons_zero] at k0 k1 k2
  have kl := (hB22.at_ 11 rfl).lt
  go_wp2_with fail
  refine (sameIndex_eq vd fd Bd Bs nd Cd Cs ed w22 nd22.rx ns22.rx (by omega)).mono ?_
  rintro e w23 ⟨rfl, d23⟩
  clear i0 i1 i2 il k0 k1 k2 kl
  have hB23 := hB22.grew d23
  have gr23 := gr22.trans d23
  have nc23 := nc22.grew d23
  have nd23 := nd22.grew d23
  have nr23 := nr22.grew d23
  have ns23 := ns22.grew d23
  have s23 := d23.size
  clear hB22 gr22 d23 nc22 nd22 nr22 ns22
  go_wp2_with fail
  refine (awake_any w23).mono ?_
  rintro e w24 ⟨rfl, d24⟩
  go_wp2
  go_ret
  exact ⟨rfl, gr23.trans d24⟩
end Go.Proofs.YtjoaonppaokhhaaGreat
