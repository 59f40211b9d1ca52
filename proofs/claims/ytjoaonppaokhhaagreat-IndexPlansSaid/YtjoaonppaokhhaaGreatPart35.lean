/-
  Several texts in one:
  (block.DecodeMeta)'s closure, on the way that gives nothing up. Conditions: lengths that memory bears; numbers of 64 bits.
  (block.caught), (block.DecodeMeta) on a meta's own bytes. Conditions: lengths that memory bears; numbers of 64 bits.
-/
import Derived.Test.YtjoaonppaokhhaaGreatPart34

namespace Go.Proofs.YtjoaonppaokhhaaGreat
open Go.RowKit

theorem DmS.look {w W : World} {m : Met} {gm gv g : Nat} {B : Option Addr} {n c k : Nat} {cs : Array Value} (h : DmS w W m gm gv g B n c k cs) : W.cell? ⟨gv, 0, none⟩ = some (.pointer (some ⟨g, 0, none⟩)) := h.bv.cell 0

set_option maxRecDepth 100000 in
set_option maxHeartbeats 8000000 in
theorem closure_ok (m : Met) (hok : metOk m = true) (hw : MetW m) (w : World) (gb gm : Nat) (B : Option Addr) (n c : Nat) (hbb : Blk w gb 42 #[.slice B (n + 4) c]) (hbm : Blk w gm 28 #[.int .u64 0, .int .i64 0, .int .i64 0, .int .i64 0, .slice none 0 0, .int .i64 0, .int .i64 0])
    (hr : RB w B (n + 4) (encM m)) (hBm : ∀ ad, B = some ad → ad.block ≠ gm) (hc : n + 4 ≤ c ∧ c ≤ 9223372036854775807) (hn : n ≤ 140737488350000) :
    Calls Tryz.prog 116 #[.pointer (some ⟨gb, 0, none⟩), .pointer (some ⟨gm, 0, none⟩)] w
      fun e w' => e = .returned (.tuple #[]) ∧ (∃ A2 d2, Blk w' gm 28 (csM m A2 m.src.length d2) ∧ OE elU w' w.heap.size 22 A2 m.src.length d2 m.src) ∧ Chg (fun k => k = gm) w w' := by
  obtain ⟨o1, o2, o3, o4, o5, o6⟩ := (metOk_iff m).1 hok
  obtain ⟨r0, hr0⟩ := metB_head m
  have hBlt : ∀ ad, B = some ad → 0 < n → ad.block < w.heap.size := fun ad e _ => hr.lt ad e (by omega)
  have hO := open_ok B n c (metB m) r0 w hr hr0 hn hc
  have q0 := readM hok hw (show (numsM m)[0]? = some m.id from rfl)
  have q1 := readM hok hw (show (numsM m)[1]? = some m.lv.toNat from rfl)
  have q2 := readM hok hw (show (numsM m)[2]? = some m.sr.toNat from rfl)
  have q3 := readM hok hw (show (numsM m)[3]? = some m.pt.toNat from rfl)
  have q4 := readM hok hw (show (numsM m)[4]? = some (zz m.lo) from rfl)
  have q5 := readM hok hw (show (numsM m)[5]? = some (zz m.hi) from rfl)
  replace q1 := Lib.hid q1
  replace q2 := Lib.hid q2
  replace q3 := Lib.hid q3
  replace q4 := Lib.hid q4
  replace q5 := Lib.hid q5
  have hmf : ∀ (fn : Fn) (first cap : Array Value) (w : World), (Instr.makeFunc fn first cap).run Tryz.prog w = .ok (.func fn first cap) w := fun _ _ _ _ => rfl
  have hpe := posM_end m (k := 7 + m.src.length) (by unfold numsM; simp; omega)
  have hml : (metB m).length = n := by have := hr.1; unfold encM at this; rw [sealB_len] at this; omega
  rw [hml] at hpe
  replace hpe := Lib.hid hpe
  have b0 := hbb.cell 0
  simp only [List.getElem?_toArray, List.getElem?_cons_zero] at b0
  clear hr0 hml
  go_enter Tryz.func116, Tryz.ntmps116
  go_wp2_with fail
  refine hO.mono ?_
  rintro e w1 ⟨g, rfl, hg, hrd, hg1⟩
  obtain ⟨gv, hgv⟩ : ∃ gv, w1.heap.size = gv := ⟨_, rfl⟩
  obtain ⟨W1, hW1⟩ : ∃ W1, W1 = w1.alloc (.cells #[.pointer (some ⟨g, 0, none⟩)] 135) := ⟨_, rfl⟩
  have hgW : Grew w1 W1 := by rw [hW1]; exact (Chg.refl _ w1).alloc _
  have hbv : Blk W1 gv 135 #[.pointer (some ⟨g, 0, none⟩)] := by rw [hW1, ← hgv]; exact Blk.new _ _ _
  have hD0 : DmS w W1 m gm gv g B n c 0 #[.int .u64 0, .int .i64 0, .int .i64 0, .int .i64 0, .slice none 0 0, .int .i64 0, .int .i64 0] :=
    ⟨hrd.chg hgW (fun e => e) (fun _ _ _ e => e), (hbm.grew hg1).grew hgW, hbv, fun ad e _ => hBm ad e, Chg.of_grew (hg1.trans hgW), hg⟩
  have v0 := hD0.look
  rw [hW1] at v0
  clear hO b0 hbb hbm hrd hg1 hgW hbv
  rw [← hgv] at v0
  replace hgv := Lib.hid hgv
  go_wp2_with fail
  rw [← hW1, hgv.out]
  refine (rnumber_ok g B n c (metB m) (posM m 0) m.id (posM m 1) W1 hD0.rd (by omega) q0).mono ?_
  rintro e w2 ⟨rfl, hT⟩
  have hD1 := (hD0.to hT)
  have m0 := hD1.bm.cell 0
  have mf := hD1.bm.frozen 0
  simp only [List.getElem?_toArray, List.getElem?_cons_zero] at m0
  have hD2 := hD1.set 0 (.int .u64 (m.id : Int))
  simp only [List.setIfInBounds_toArray, List.set_cons_zero] at hD2
  obtain ⟨w3, hw3⟩ : ∃ w3, w3 = w2.setCell ⟨gm, 0, none⟩ (.int .u64 (m.id : Int)) := ⟨_, rfl⟩
  rw [← hw3] at hD2
  obtain ⟨w4, hw4⟩ : ∃ w4, w4 = w3.alloc (.cells #[.pointer (some ⟨gm, 3, none⟩), .pointer (some ⟨gm, 5, none⟩), .pointer (some ⟨gm, 6, none⟩)] 137) := ⟨_, rfl⟩
  have hg4 : Grew w3 w4 := by rw [hw4]; exact (Chg.refl _ w3).alloc _
  obtain ⟨gp, hgp⟩ : ∃ gp, w3.heap.size = gp := ⟨_, rfl⟩
  have hbp : Blk w4 gp 137 #[.pointer (some ⟨gm, 3, none⟩), .pointer (some ⟨gm, 5, none⟩), .pointer (some ⟨gm, 6, none⟩)] := by rw [hw4, ← hgp]; exact Blk.new _ _ _
  have hD4 := hD2.grew hg4
  have hgp2 : w2.heap.size = gp := by rw [← hgp, hw3]; simp
  replace hgp2 := Lib.hid hgp2
  clear hT hD0 q0 hW1 hD1 v0 hgp
  go_wp2
  rw [← hw3, ← hw4, hgp2.out]
  clear m0 mf hw3 hw4 hgp2 hg4 hD2
  refine wp_loop_rounds 4 ?_
  rw [rounds_succ]
  have p0 := hbp.cell 0
  have v0 := hD4.look
  simp only [List.getElem?_toArray, List.getElem?_cons_zero] at p0
  obtain ⟨a0, ha0⟩ : ∃ a : Nat, m.lv.toNat = a := ⟨_, rfl⟩
  have n0 : ((a0 : Nat) : Int) = m.lv := by omega
  have l0 : (a0 : Int) < 2147483648 := by omega
  have qq0 := q1.out
  rw [ha0] at qq0
  replace n0 := Lib.hid n0
  clear ha0
  go_wp2_with fail
  refine (rnumber_ok g B n c (metB m) _ a0 _ w4 hD4.rd (by omega) qq0).mono ?_
  rintro e w10 ⟨rfl, hT0⟩
  have hE0 := hD4.to hT0
  have hbq0 := hbp.chg hT0.ch (fun e => Blk.neT hbp hD4.rd.bk (by decide) e)
  clear p0 v0 hT0
  go_wp2_with fail
  refine (must_yes _).mono ?_
  rintro e wx0 ⟨rfl, rfl⟩
  have m0 := hE0.bm.cell 3
  have mf0 := hE0.bm.frozen 3
  simp only [List.getElem?_toArray, List.getElem?_cons_succ, List.getElem?_cons_zero] at m0
  have hF0 := hE0.set 3 (.int .i64 m.lv)
  simp only [List.setIfInBounds_toArray, List.set_cons_succ, List.set_cons_zero] at hF0
  have hbr0 := hbq0.far (p := ⟨gm, 3, none⟩) (Blk.neT hbq0 hE0.bm (by decide)) (.int .i64 m.lv)
  go_wp2
  rw [n0.out]
  obtain ⟨w11, hw0⟩ : ∃ W, W = wx0.setCell ⟨gm, 3, none⟩ (.int .i64 m.lv) := ⟨_, rfl⟩
  rw [← hw0] at hF0 hbr0 ⊢
  clear hw0 m0 mf0 hE0 hbq0 n0 l0 qq0
  rw [rounds_succ]
  have p1 := hbr0.cell 1
  have v1 := hF0.look
  simp only [List.getElem?_toArray, List.getElem?_cons_succ, List.getElem?_cons_zero] at p1
  obtain ⟨a1, ha1⟩ : ∃ a : Nat, m.sr.toNat = a := ⟨_, rfl⟩
  have n1 : ((a1 : Nat) : Int) = m.sr := by omega
  have l1 : (a1 : Int) < 2147483648 := by omega
  have qq1 := q2.out
  rw [ha1] at qq1
  replace n1 := Lib.hid n1
  clear ha1
  go_wp2_with fail
  refine (rnumber_ok g B n c (metB m) _ a1 _ w11 hF0.rd (by omega) qq1).mono ?_
  rintro e w13 ⟨rfl, hT1⟩
  have hE1 := hF0.to hT1
  have hbq1 := hbr0.chg hT1.ch (fun e => Blk.neT hbr0 hF0.rd.bk (by decide) e)
  clear p1 v1 hT1
  go_wp2_with fail
  refine (must_yes _).mono ?_
  rintro e wx1 ⟨rfl, rfl⟩
  have m1 := hE1.bm.cell 5
  have mf1 := hE1.bm.frozen 5
  simp only [List.getElem?_toArray, List.getElem?_cons_succ, List.getElem?_cons_zero] at m1
  have hF1 := hE1.set 5 (.int .i64 m.sr)
  simp only [List.setIfInBounds_toArray, List.set_cons_succ, List.set_cons_zero] at hF1
  have hbr1 := hbq1.far (p := ⟨gm, 5, none⟩) (Blk.neT hbq1 hE1.bm (by decide)) (.int .i64 m.sr)
  go_wp2
  rw [n1.out]
  obtain ⟨w14, hw1⟩ : ∃ W, W = wx1.setCell ⟨gm, 5, none⟩ (.int .i64 m.sr) := ⟨_, rfl⟩
  rw [← hw1] at hF1 hbr1 ⊢
  clear hw1 m1 mf1 hE1 hbq1 n1 l1 qq1
  rw [rounds_succ]
  have p2 := hbr1.cell 2
  have v2 := hF1.look
  simp only [List.getElem?_toArray, List.getElem?_cons_succ, List.getElem?_cons_zero] at p2
  obtain ⟨a2, ha2⟩ : ∃ a : Nat, m.pt.toNat = a := ⟨_, rfl⟩
  have n2 : ((a2 : Nat) : Int) = m.pt := by omega
  have l2 : (a2 : Int) < 2147483648 := by omega
  have qq2 := q3.out
  rw [ha2] at qq2
  replace n2 := Lib.hid n2
  clear ha2
  go_wp2_with fail
  refine (rnumber_ok g B n c (metB m) _ a2 _ w14 hF1.rd (by omega) qq2).mono ?_
  rintro e w16 ⟨rfl, hT2⟩
  have hE2 := hF1.to hT2
  have hbq2 := hbr1.chg hT2.ch (fun e => Blk.neT hbr1 hF1.rd.bk (by decide) e)
  clear p2 v2 hT2
  go_wp2_with fail
  refine (must_yes _).mono ?_
  rintro e wx2 ⟨rfl, rfl⟩
  have m2 := hE2.bm.cell 6
  have mf2 := hE2.bm.frozen 6
  simp only [List.getElem?_toArray, List.getElem?_cons_succ, List.getElem?_cons_zero] at m2
  have hF2 := hE2.set 6 (.int .i64 m.pt)
  simp only [List.setIfInBounds_toArray, List.set_cons_succ, List.set_cons_zero] at hF2
  have hbr2 := hbq2.far (p := ⟨gm, 6, none⟩) (Blk.neT hbq2 hE2.bm (by decide)) (.int .i64 m.pt)
  go_wp2
  rw [n2.out]
  obtain ⟨w17, hw2⟩ : ∃ W, W = wx2.setCell ⟨gm, 6, none⟩ (.int .i64 m.pt) := ⟨_, rfl⟩
  rw [← hw2] at hF2 hbr2 ⊢
  clear hw2 m2 mf2 hE2 hbq2 n2 l2 qq2
  rw [rounds_succ]
  go_wp2_with fail
  have v9 := hF2.look
  have hcs : CellsIn [gv] w17 := cellsIn_one hF2.bv
  have hngv : ∀ k', k' ∈ [gv] → ¬ (k' = g ∨ k' = gm) := fun k' hk' => by
    simp only [List.mem_cons, List.not_mem_nil, or_false] at hk'
    subst hk'
    rintro (e | e)
    · exact Blk.neT hF2.bv hF2.rd.bk (by decide) e
    · exact Blk.neT hF2.bv hF2.bm (by decide) e
  refine wp_region_textS [] [gv] (by kernel_rfl) (by kernel_rfl) hcs ?_
  simp only [wpU, tagOf, chk, List.cons_append, List.nil_append]
  intro K hK
  go_wp2_with fail
  refine OnlyN.normal (hK _ _ (fun _ => ⟨_, _, _, rfl, rfl, by simp⟩) ?_)
  clear hK K
  intro K hK
  go_wp2_with fail
  refine (rsigned_ok g B n c (metB m) _ (zz m.lo) _ _ (hF2.grew (Chg.refl _ w17).drew).rd (by omega) q4.out).mono ?_
  rintro e w20 ⟨rfl, hT3⟩
  rw [uz_zz]
  have hG1 := (hF2.grew (Chg.refl _ w17).drew).to hT3
  have hC1 : Chg (fun k => k = g ∨ k = gm) w17 w20 := (Chg.refl _ w17).drew.trans (hT3.ch.mono fun k _ e => Or.inl e)
  go_wp2_with fail
  refine OnlyN.normal (hK _ _ (sameIn_of hC1 hcs hngv) ?_)
  clear hK K hT3 v9
  have v9 := hG1.look
  intro K hK
  go_wp2_with fail
  refine OnlyN.normal (hK _ _ (fun _ => ⟨_, _, _, rfl, rfl, by simp⟩) ?_)
  clear hK K
  intro K hK
  go_wp2_with fail
  refine (rsigned_ok g B n c (metB m) _ (zz m.hi) _ w20 hG1.rd (by omega) q5.out).mono ?_
  rintro e w21 ⟨rfl, hT4⟩
  rw [uz_zz]
  have hG2 := hG1.to hT4
  have hC2 : Chg (fun k => k = g ∨ k = gm) w17 w21 := hC1.trans (hT4.ch.mono fun k _ e => Or.inl e)
  go_wp2_with fail
  refine OnlyN.normal (hK _ _ (sameIn_of hC2 hcs hngv) ?_)
  clear hK K hT4 v9 hG1 hC1
  have e1 := hG2.bm.cell 1
  have f1 := hG2.bm.frozen 1
  simp only [List.getElem?_toArray, List.getElem?_cons_succ, List.getElem?_cons_zero] at e1
  have hG3 := hG2.set 1 (.int .i64 m.lo)
  simp only [List.setIfInBounds_toArray, List.set_cons_succ, List.set_cons_zero] at hG3
  have hC3 : Chg (fun k => k = g ∨ k = gm) w17 (w21.setCell ⟨gm, 1, none⟩ (.int .i64 m.lo)) := hC2.setCell (p := ⟨gm, 1, none⟩) (.inr (.inr rfl)) _
  intro K hK
  go_wp2_with fail
  refine OnlyN.normal (hK _ _ (sameIn_of hC3 hcs hngv) ?_)
  clear hK K
  have e2 := hG3.bm.cell 2
  have f2 := hG3.bm.frozen 2
  simp only [List.getElem?_toArray, List.getElem?_cons_succ, List.getElem?_cons_zero] at e2
  have hG4 := hG3.set 2 (.int .i64 m.hi)
  simp only [List.setIfInBounds_toArray, List.set_cons_succ, List.set_cons_zero] at hG4
  have hC4 : Chg (fun k => k = g ∨ k = gm) w17 ((w21.setCell ⟨gm, 1, none⟩ (.int .i64 m.lo)).setCell ⟨gm, 2, none⟩ (.int .i64 m.hi)) := hC3.setCell (p := ⟨gm, 2, none⟩) (.inr (.inr rfl)) _
  intro K hK
  go_wp2_with fail
  refine OnlyN.normal (hK _ _ (sameIn_of hC4 hcs hngv) ?_)
  clear hK K
  refine OnlyN.normal ?_
  obtain ⟨w22, hw22⟩ : ∃ W, W = (w21.setCell ⟨gm, 1, none⟩ (.int .i64 m.lo)).setCell ⟨gm, 2, none⟩ (.int .i64 m.hi) := ⟨_, rfl⟩
  rw [← hw22] at hG4 ⊢
  clear hw22 hC4 hC3 hC2 hG3 hG2 e1 f1 e2 f2 hngv hcs hF2 hF1 hF0 hbr0 hbr1 hbr2 hD4 hbp
  have v9 := hG4.look
  go_wp2_with fail
  refine (rows_ok m hok hw w w22 gm gv g B n c hG4 hBlt (by omega)).mono ?_
  rintro e w23 ⟨rfl, A2, d2, hD5, hA5⟩
  clear hG4 v9
  have v9 := hD5.look
  have z0 := hD5.rd.bk.cell 0
  have z1 := hD5.rd.bk.cell 1
  have y0 := hD5.bm.cell 0
  have y1 := hD5.bm.cell 1
  have y2 := hD5.bm.cell 2
  have y3 := hD5.bm.cell 3
  have y4 := hD5.bm.cell 4
  have y5 := hD5.bm.cell 5
  have y6 := hD5.bm.cell 6
  simp only [List.getElem?_toArray, List.getElem?_cons_succ, List.getElem?_cons_zero] at z0 z1 y0 y1 y2 y3 y4 y5 y6
  rw [hpe.out] at z1
  have hMay := fun W1 (hW1 : Grew w23 W1) => may_any m A2 m.src.length d2 W1 ((OE.re (by decide) hA5).grew hW1) (by omega)
  rw [hok] at hMay
  replace hMay := Lib.hid hMay
  go_wp2_with fail
  refine wp_region_text [(3, 1)] (by kernel_rfl) (by kernel_rfl) ?_
  simp only [instr, chk, look, Nat.reduceBEq, if_true, if_false, Nat.reduceEqDiff, List.cons_append, List.nil_append]
  go_wp2_with fail
  refine (hMay.out _ (Chg.refl _ w23).drew).mono ?_
  rintro e w24 ⟨rfl, hg24⟩
  have hg : Grew w23 w24 := (Chg.refl _ w23).drew.trans hg24
  clear hMay y0 y1 y2 y3 y4 y5 y6 z0 z1 v9
  go_wp2_with fail
  refine (must_yes _).mono ?_
  rintro e w25 ⟨rfl, rfl⟩
  go_wp2_with fail
  refine OnlyN.normal ?_
  go_wp2
  go_end0
  have hD6 := hD5.grew hg
  exact ⟨rfl, ⟨A2, d2, hD6.bm, hA5.grew hg⟩, hD6.ch⟩
end Go.Proofs.YtjoaonppaokhhaaGreat

namespace Go.Proofs.YtjoaonppaokhhaaGreat
open Go.RowKit

set_option maxRecDepth 100000 in
set_option maxHeartbeats 4000000 in
theorem caught1_idle (p : Addr) (w : World) :
    CallsD Tryz.prog 130 #[.pointer (some p)] .returning w fun e u' w' => e = .returned (.tuple #[]) ∧ u' = .returning ∧ w' = w := by
  refine callsD_of_wpS Tryz.func130 rfl fun c₀ cs hu => ?_
  apply wpS_seq
  apply wpS_region
  simp [wpOpsS, go_sem, recoverD, hu, Tryz.ntmps130, Exit.thenS]
  apply wpS_seq
  apply wpS_region
  simp [wpOpsS, go_sem, Exit.thenS]
  refine wpS_cond (t := false) (by simp [Act.eval, Array.replicate]) ?_
  simp only [Bool.false_eq_true, if_false]
  refine wpS_of_wp (wp_skip ?_)
  cases c₀
  simp_all [bodyPostS, results, Tryz.results130]

set_option maxRecDepth 100000 in
set_option maxHeartbeats 4000000 in
theorem caught_ok (m : Met) (hok : metOk m = true) (hw : MetW m) (w : World) (gb gm : Nat) (B : Option Addr) (n c : Nat) (hbb : Blk w gb 42 #[.slice B (n + 4) c]) (hbm : Blk w gm 28 #[.int .u64 0, .int .i64 0, .int .i64 0, .int .i64 0, .slice none 0 0, .int .i64 0, .int .i64 0])
    (hr : RB w B (n + 4) (encM m)) (hBm : ∀ ad, B = some ad → ad.block ≠ gm) (hc : n + 4 ≤ c ∧ c ≤ 9223372036854775807) (hn : n ≤ 140737488350000) :
    Calls Tryz.prog 115 #[.func (.func 116) #[] #[.pointer (some ⟨gb, 0, none⟩), .pointer (some ⟨gm, 0, none⟩)]] w
      fun e w' => e = .returned (.bool true) ∧ (∃ A2 d2, Blk w' gm 28 (csM m A2 m.src.length d2) ∧ OE elU w' w.heap.size 22 A2 m.src.length d2 m.src) ∧ Chg (fun k => k = gm) w w' := by
  have hmf : ∀ (fn : Fn) (first cap : Array Value) (w : World), (Instr.makeFunc fn first cap).run Tryz.prog w = .ok (.func fn first cap) w := fun _ _ _ _ => rfl
  have hg0 : Grew w (w.alloc (.cells #[.bool false] 4)) := (Chg.refl _ w).alloc _
  have hbk := Blk.new w 4 #[.bool false]
  have hgl := hbm.lt
  have hCl := closure_ok m hok hw _ gb gm B n c (hbb.grew hg0) (hbm.grew hg0) (hr.grew hg0) hBm hc hn
  go_enter_defers Tryz.func115, Tryz.ntmps115
  go_wp2_with fail
  refine hCl.mono ?_
  rintro e w1 ⟨rfl, ⟨A2, d2, hb2, hA2⟩, hc1⟩
  have hk1 := hbk.chg hc1 (by omega)
  have k0 := hk1.cell 0
  have kf := hk1.frozen 0
  simp only [List.getElem?_toArray, List.getElem?_cons_zero] at k0
  have hb3 := hb2.far (p := ⟨w.heap.size, 0, none⟩) (Blk.neT hb2 hk1 (by decide)) (.bool true)
  have hA3 := OE.farBlk hA2 hk1 (by decide) 0 (.bool true)
  have hk2 := hk1.set 0 (.bool true)
  simp only [List.setIfInBounds_toArray, List.set_cons_zero] at hk2
  have q0 := hk2.cell 0
  simp only [List.getElem?_toArray, List.getElem?_cons_zero] at q0
  have hcc : Chg (fun k => k = gm) w (w1.setCell ⟨w.heap.size, 0, none⟩ (.bool true)) := ((Chg.of_grew hg0).trans hc1).setCell (p := ⟨w.heap.size, 0, none⟩) (.inl (Nat.le_refl _)) _
  clear hCl
  go_wp2
  refine leaves_cons (f := 130) (args := #[.pointer (some ⟨w.heap.size, 0, none⟩)]) (by simp) (by simp [go_sem]) ?_
  refine (caught1_idle ⟨w.heap.size, 0, none⟩ _).mono ?_
  rintro e u' w'' ⟨rfl, rfl, rfl⟩
  refine ⟨_, ?_, rfl, ⟨A2, d2, hb3, Own.mono hA3 (by simp)⟩, hcc⟩
  simp [results, Tryz.results115, go_sem, q0]

/-- a meta in new memory and an error's number are returned -/
def MtR (w : World) (m : Met) (z : Int) (e : Ending) (w' : World) : Prop :=
  ∃ A d, e = .returned (.tuple #[.agg #[.int .u64 (m.id : Int), .int .i64 m.lo, .int .i64 m.hi, .int .i64 m.lv, .slice A m.src.length d, .int .i64 m.sr, .int .i64 m.pt], .int .i64 z]) ∧ OE elU w' w.heap.size 22 A m.src.length d m.src ∧ Grew w w'

set_option maxRecDepth 100000 in
set_option maxHeartbeats 4000000 in
theorem decodeMeta_ok (m : Met) (hok : metOk m = true) (hw : MetW m) (w : World) (B : Option Addr) (n c : Nat) (hr : RB w B (n + 4) (encM m)) (hc : n + 4 ≤ c ∧ c ≤ 9223372036854775807) (hn : n ≤ 140737488350000) :
    Calls Tryz.prog 102 #[.slice B (n + 4) c] w (MtR w m 0) := by
  have hmf : ∀ (fn : Fn) (first cap : Array Value) (w : World), (Instr.makeFunc fn first cap).run Tryz.prog w = .ok (.func fn first cap) w := fun _ _ _ _ => rfl
  obtain ⟨W, hW⟩ : ∃ W, W = ((w.alloc (.cells #[.slice B (n + 4) c] 42)).alloc (.cells #[.int .u64 0, .int .i64 0, .int .i64 0, .int .i64 0, .slice none 0 0, .int .i64 0, .int .i64 0] 28)).alloc (.cells #[.int .u64 0, .int .i64 0, .int .i64 0, .int .i64 0, .slice none 0 0, .int .i64 0, .int .i64 0] 28) := ⟨_, rfl⟩
  have hgW : Grew w W := by rw [hW]; exact (((Chg.refl _ w).alloc _).alloc _).alloc _
  have b0 : Blk W w.heap.size 42 #[.slice B (n + 4) c] := by rw [hW]; exact ((Blk.new w _ _).alloc _).alloc _
  have b1 : Blk W (w.heap.size + 1) 28 #[.int .u64 0, .int .i64 0, .int .i64 0, .int .i64 0, .slice none 0 0, .int .i64 0, .int .i64 0] := by
    rw [hW]
    have := (Blk.new (w.alloc (.cells #[.slice B (n + 4) c] 42)) 28 #[.int .u64 0, .int .i64 0, .int .i64 0, .int .i64 0, .slice none 0 0, .int .i64 0, .int .i64 0]).alloc (.cells #[.int .u64 0, .int .i64 0, .int .i64 0, .int .i64 0, .slice none 0 0, .int .i64 0, .int .i64 0] 28)
    rwa [World.size_alloc] at this
  have b2 : Blk W (w.heap.size + 2) 28 #[.int .u64 0, .int .i64 0, .int .i64 0, .int .i64 0, .slice none 0 0, .int .i64 0, .int .i64 0] := by
    rw [hW]
    have := Blk.new ((w.alloc (.cells #[.slice B (n + 4) c] 42)).alloc (.cells #[.int .u64 0, .int .i64 0, .int .i64 0, .int .i64 0, .slice none 0 0, .int .i64 0, .int .i64 0] 28)) 28 #[.int .u64 0, .int .i64 0, .int .i64 0, .int .i64 0, .slice none 0 0, .int .i64 0, .int .i64 0]
    rwa [World.size_alloc, World.size_alloc] at this
  have hCt := caught_ok m hok hw W w.heap.size (w.heap.size + 2) B n c b0 b2 (hr.grew hgW) (fun ad e => by have := hr.lt ad e (by omega); omega) hc hn
  unfold MtR
  go_enter Tryz.func102, Tryz.ntmps102
  go_wp2_with fail
  rw [← hW]
  refine hCt.mono ?_
  rintro e w1 ⟨rfl, ⟨A2, d2, hb, hA⟩, hc1⟩
  have hbr := b1.chg hc1 (by omega)
  have g1 : Grew w w1 := hgW.step hc1 fun k hk e => by omega
  have y0 := hb.cell 0
  have y1 := hb.cell 1
  have y2 := hb.cell 2
  have y3 := hb.cell 3
  have y4 := hb.cell 4
  have y5 := hb.cell 5
  have y6 := hb.cell 6
  have r0 := hbr.cell 0
  have r1 := hbr.cell 1
  have r2 := hbr.cell 2
  have r3 := hbr.cell 3
  have r4 := hbr.cell 4
  have r5 := hbr.cell 5
  have r6 := hbr.cell 6
  have f0 := hbr.frozen 0
  have f1 := hbr.frozen 1
  have f2 := hbr.frozen 2
  have f3 := hbr.frozen 3
  have f4 := hbr.frozen 4
  have f5 := hbr.frozen 5
  have f6 := hbr.frozen 6
  simp only [List.getElem?_toArray, List.getElem?_cons_succ, List.getElem?_cons_zero] at y0 y1 y2 y3 y4 y5 y6 r0 r1 r2 r3 r4 r5 r6
  have hq := ((((((hbr.set 0 (.int .u64 (m.id : Int))).set 1 (.int .i64 m.lo)).set 2 (.int .i64 m.hi)).set 3 (.int .i64 m.lv)).set 4 (.slice A2 m.src.length d2)).set 5 (.int .i64 m.sr)).set 6 (.int .i64 m.pt)
  simp only [List.setIfInBounds_toArray, List.set_cons_succ, List.set_cons_zero] at hq
  have hcc : Chg (fun k => k = w.heap.size + 1) w1 (((((((w1.setCell ⟨w.heap.size + 1, 0, none⟩ (.int .u64 (m.id : Int))).setCell ⟨w.heap.size + 1, 1, none⟩ (.int .i64 m.lo)).setCell ⟨w.heap.size + 1, 2, none⟩ (.int .i64 m.hi)).setCell ⟨w.heap.size + 1, 3, none⟩ (.int .i64 m.lv)).setCell ⟨w.heap.size + 1, 4, none⟩ (.slice A2 m.src.length d2)).setCell ⟨w.heap.size + 1, 5, none⟩ (.int .i64 m.sr)).setCell ⟨w.heap.size + 1, 6, none⟩ (.int .i64 m.pt)) :=
    (((((((Chg.refl (fun k => k = w.heap.size + 1) w1).setCell (p := ⟨w.heap.size + 1, 0, none⟩) (.inr rfl) _).setCell (p := ⟨w.heap.size + 1, 1, none⟩) (.inr rfl) _).setCell (p := ⟨w.heap.size + 1, 2, none⟩) (.inr rfl) _).setCell (p := ⟨w.heap.size + 1, 3, none⟩) (.inr rfl) _).setCell (p := ⟨w.heap.size + 1, 4, none⟩) (.inr rfl) _).setCell (p := ⟨w.heap.size + 1, 5, none⟩) (.inr rfl) _).setCell (p := ⟨w.heap.size + 1, 6, none⟩) (.inr rfl) _
  have hA4 := OE.chg hA hcc fun ad e hk => Own.ne_blk hA hbr (by decide) ad e hk
  have hgz := hgW.size
  clear hCt hW
  go_wp2
  refine bodyPost_ret (v := .tuple #[.agg #[.int .u64 (m.id : Int), .int .i64 m.lo, .int .i64 m.hi, .int .i64 m.lv, .slice A2 m.src.length d2, .int .i64 m.sr, .int .i64 m.pt], .int .i64 0]) ?_ rfl ⟨A2, d2, rfl, Own.mono hA4 hgz, g1.step hcc fun k hk e => by omega⟩
  have q0 := hq.cell 0
  have q1 := hq.cell 1
  have q2 := hq.cell 2
  have q3 := hq.cell 3
  have q4 := hq.cell 4
  have q5 := hq.cell 5
  have q6 := hq.cell 6
  simp [results, Tryz.results102, go_sem, q0, q1, q2, q3, q4, q5, q6]
end Go.Proofs.YtjoaonppaokhhaaGreat
