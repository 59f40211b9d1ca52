/-
  Several texts in one:
  An entry read back out of an index' bytes. Conditions: lengths that memory bears; numbers of 64 bits.
-/
import Derived.Test.YtjoaonppaokhhaaGreatPart36

namespace Go.Proofs.YtjoaonppaokhhaaGreat
open Go.RowKit

/-- nine cells stored -/
theorem put9 {w : World} {g : Nat} {t : TypeId} {x0 x1 x2 x3 x4 x5 x6 x7 x8 a0 a1 a2 a3 a4 a5 a6 a7 a8 : Value} (h : Blk w g t #[x0, x1, x2, x3, x4, x5, x6, x7, x8]) : Blk (((((((((w.setCell ⟨g, 0, none⟩ a0).setCell ⟨g, 1, none⟩ a1).setCell ⟨g, 2, none⟩ a2).setCell ⟨g, 3, none⟩ a3).setCell ⟨g, 4, none⟩ a4).setCell ⟨g, 5, none⟩ a5).setCell ⟨g, 6, none⟩ a6).setCell ⟨g, 7, none⟩ a7).setCell ⟨g, 8, none⟩ a8) g t #[a0, a1, a2, a3, a4, a5, a6, a7, a8] ∧ Chg (fun k => k = g) w (((((((((w.setCell ⟨g, 0, none⟩ a0).setCell ⟨g, 1, none⟩ a1).setCell ⟨g, 2, none⟩ a2).setCell ⟨g, 3, none⟩ a3).setCell ⟨g, 4, none⟩ a4).setCell ⟨g, 5, none⟩ a5).setCell ⟨g, 6, none⟩ a6).setCell ⟨g, 7, none⟩ a7).setCell ⟨g, 8, none⟩ a8) := by
  have h9 := (((((((((h.set 0 a0).set 1 a1).set 2 a2).set 3 a3).set 4 a4).set 5 a5).set 6 a6).set 7 a7).set 8 a8)
  simp only [List.setIfInBounds_toArray, List.set_cons_succ, List.set_cons_zero] at h9
  exact ⟨h9, ((((((((((Chg.refl (fun k => k = g) w).setCell (p := ⟨g, 0, none⟩) (.inr rfl) a0).setCell (p := ⟨g, 1, none⟩) (.inr rfl) a1).setCell (p := ⟨g, 2, none⟩) (.inr rfl) a2).setCell (p := ⟨g, 3, none⟩) (.inr rfl) a3).setCell (p := ⟨g, 4, none⟩) (.inr rfl) a4).setCell (p := ⟨g, 5, none⟩) (.inr rfl) a5).setCell (p := ⟨g, 6, none⟩) (.inr rfl) a6).setCell (p := ⟨g, 7, none⟩) (.inr rfl) a7).setCell (p := ⟨g, 8, none⟩) (.inr rfl) a8)⟩

set_option maxRecDepth 100000 in
set_option maxHeartbeats 8000000 in
theorem entry_ok (e0 : Ent) (hok : metOk e0.m = true) (hw : EntW e0) (g : Nat) (B : Option Addr) (n c : Nat) (p r : List UInt8) (w : World) (h : RiS w g B n c (p ++ (entB e0 ++ r)) p.length) (hn : n ≤ 140737488355328) (hc : n ≤ c ∧ c ≤ 9223372036854775807) :
    Calls Tryz.prog 72 #[.pointer (some ⟨g, 0, none⟩)] w
      fun e w' => ∃ A d, e = .returned (.agg #[.int .u64 (e0.m.id : Int), .int .i64 e0.m.lo, .int .i64 e0.m.hi, .int .i64 e0.m.lv, .slice A e0.m.src.length d, .int .i64 e0.m.sr, .int .i64 e0.m.pt, .bool e0.mkd, .int .i64 e0.tm]) ∧ OE elU w' w.heap.size 22 A e0.m.src.length d e0.m.src ∧ RiT w w' g B n c (p ++ (entB e0 ++ r)) (p ++ entB e0).length := by
  have hml := encM_len hok hw.m
  obtain ⟨q, hq⟩ : ∃ q, encM e0.m = q := ⟨_, rfl⟩
  have hql : q.length = (metB e0.m).length + 4 := by rw [← hq]; unfold encM; exact sealB_len _
  have hent : entB e0 = uv q.length ++ q ++ uv (bitN e0.mkd) ++ uv (zz e0.tm) := by unfold entB; rw [hq]
  obtain ⟨l, hl⟩ : ∃ l, p ++ (entB e0 ++ r) = l := ⟨_, rfl⟩
  rw [hl] at h ⊢
  rw [hq] at hml
  have t1 : textR l (p.length : Int) = (q, p.length + (uv q.length).length + q.length, 0) := by
    have := textR_at p q (uv (bitN e0.mkd) ++ uv (zz e0.tm) ++ r) q.length rfl (by omega)
    rw [← hl, hent, ← this]
    simp only [List.append_assoc]
  have t2 : uintR l ((p ++ uv q.length ++ q).length : Int) = (bitN e0.mkd, (p ++ uv q.length ++ q ++ uv (bitN e0.mkd)).length, 0) := by
    have := uintR_at (p ++ uv q.length ++ q) (uv (zz e0.tm) ++ r) (bitN e0.mkd) (bitN_lt _)
    rw [← List.length_append] at this
    rw [← hl, hent, ← this]
    simp only [List.append_assoc]
  have t3 : uintR l ((p ++ uv q.length ++ q ++ uv (bitN e0.mkd)).length : Int) = (zz e0.tm, (p ++ entB e0).length, 0) := by
    have := uintR_at (p ++ uv q.length ++ q ++ uv (bitN e0.mkd)) r (zz e0.tm) (zz_lt hw.tm.1 hw.tm.2)
    rw [← List.length_append] at this
    rw [← hl, hent]
    simp only [List.append_assoc] at this ⊢
    exact this
  obtain ⟨k1, hk1⟩ : ∃ k1, (p ++ uv q.length ++ q).length = k1 := ⟨_, rfl⟩
  obtain ⟨k2, hk2⟩ : ∃ k2, (p ++ uv q.length ++ q ++ uv (bitN e0.mkd)).length = k2 := ⟨_, rfl⟩
  obtain ⟨k3, hk3⟩ : ∃ k3, (p ++ entB e0).length = k3 := ⟨_, rfl⟩
  have hk1' : p.length + (uv q.length).length + q.length = k1 := by rw [← hk1]; simp only [List.length_append]
  rw [hk1'] at t1
  rw [hk1, hk2] at t2
  rw [hk2, hk3] at t3
  rw [hk3]
  obtain ⟨pl, hpl⟩ : ∃ pl, p.length = pl := ⟨_, rfl⟩
  rw [hpl] at h t1
  obtain ⟨nm, hnm⟩ : ∃ nm, (metB e0.m).length = nm := ⟨_, rfl⟩
  rw [hnm] at hql
  clear hk1 hk2 hk3 hk1' hpl hl hent hnm
  have hT := fun W (hW : Grew w W) => text_any B n c l (pl : Int) W (h.rb.grew hW) hn hc
  rw [t1] at hT
  unfold TextPost textEnd at hT
  replace hT := Lib.hid hT
  replace t2 := Lib.hid t2
  replace t3 := Lib.hid t3
  have c0 := h.bk.cell 0
  have c1 := h.bk.cell 1
  simp only [List.getElem?_toArray, List.getElem?_cons_succ, List.getElem?_cons_zero] at c0 c1
  replace hq := Lib.hid hq
  clear t1
  go_enter Tryz.func72, Tryz.ntmps72
  obtain ⟨W0, hW0⟩ : ∃ W0, W0 = w.alloc (.cells #[.int .u64 0, .int .i64 0, .int .i64 0, .int .i64 0, .slice none 0 0, .int .i64 0, .int .i64 0, .bool false, .int .i64 0] 51) := ⟨_, rfl⟩
  have hg0 : Grew w W0 := by rw [hW0]; exact (Chg.refl _ w).alloc _
  have hbr : Blk W0 w.heap.size 51 #[.int .u64 0, .int .i64 0, .int .i64 0, .int .i64 0, .slice none 0 0, .int .i64 0, .int .i64 0, .bool false, .int .i64 0] := by rw [hW0]; exact Blk.new _ _ _
  have hs0 : W0.heap.size = w.heap.size + 1 := by rw [hW0]; simp
  have hgl := h.bk.lt
  go_wp2_with fail
  refine wp_region_text [] (by kernel_rfl) (by kernel_rfl) ?_
  simp only [instr, chk, List.nil_append]
  go_wp2_with fail
  rw [← hW0]
  clear hW0
  refine (hT.out _ hg0.drew).mono ?_
  rintro e w1 ⟨rfl, rfl⟩
  clear hT c0 c1
  go_wp2_with fail
  refine OnlyN.normal ?_
  go_wp2_with fail
  refine (istep_ok g B n c l pl k1 _ (h.grew hg0.drew)).mono ?_
  rintro e w2 ⟨rfl, hT2⟩
  have hR2 : RiT w w2 g B n c l k1 := RiT.ahead hg0.drew hT2
  have hbr2 := Blk.chg (w := W0.drew) hbr hT2.ch (by omega)
  have hTs : (⟨q.toArray⟩ : ByteArray).size = q.length := rfl
  obtain ⟨c3, w3, hcv, hrb3, hg3, hcc1, hcc2⟩ := conv_str w2 ⟨q.toArray⟩ (by rw [hTs]; omega)
  rw [hTs, hql] at hcv hrb3 hcc1
  rw [show (⟨q.toArray⟩ : ByteArray).data.toList = encM e0.m by rw [hq.out]] at hrb3
  clear hT2
  go_wp2_with fail
  refine (decodeMeta_ok e0.m hok hw.m w3 _ nm c3 hrb3 ⟨hcc1, hcc2⟩ (by omega)).mono ?_
  rintro e w4 ⟨A4, d4, rfl, hA4, hg4⟩
  have hg34 := hg3.trans hg4
  have hR4 : RiT w w4 g B n c l k1 := hR2.grew hg34
  have hbr4 := hbr2.grew hg34
  clear hcv hrb3 hTs
  have hc2 := hR4.rd.bk.cell 2
  have hf2 := hR4.rd.bk.frozen 2
  simp only [List.getElem?_toArray, List.getElem?_cons_succ, List.getElem?_cons_zero] at hc2
  obtain ⟨W4, hW4⟩ : ∃ W4, W4 = w4.alloc (.cells #[.int .u64 (e0.m.id : Int), .int .i64 e0.m.lo, .int .i64 e0.m.hi, .int .i64 e0.m.lv, .slice A4 e0.m.src.length d4, .int .i64 e0.m.sr, .int .i64 e0.m.pt] 28) := ⟨_, rfl⟩
  have hgW : Grew w4 W4 := by rw [hW4]; exact (Chg.refl _ w4).alloc _
  obtain ⟨g6, hg6⟩ : ∃ g6, w4.heap.size = g6 := ⟨_, rfl⟩
  have hbm : Blk W4 g6 28 #[.int .u64 (e0.m.id : Int), .int .i64 e0.m.lo, .int .i64 e0.m.hi, .int .i64 e0.m.lv, .slice A4 e0.m.src.length d4, .int .i64 e0.m.sr, .int .i64 e0.m.pt] := by rw [hW4, ← hg6]; exact Blk.new _ _ _
  have hb4 := (hR4.grew hgW)
  have hc2' := hb4.rd.bk.cell 2
  have hf2' := hb4.rd.bk.frozen 2
  simp only [List.getElem?_toArray, List.getElem?_cons_succ, List.getElem?_cons_zero] at hc2'
  rw [hW4] at hc2' hf2'
  have hB4 := hb4.rd.bad
  obtain ⟨W5, hW5⟩ : ∃ W5, W5 = W4.setCell ⟨g, 2, none⟩ (.bool false) := ⟨_, rfl⟩
  rw [← hW5] at hB4
  have hR5 := hb4.trans hB4
  have hcg : Chg (fun k => k = g) w4 W5 := (Chg.of_grew hgW).trans hB4.ch
  have hbr5 := hbr4.chg hcg (by omega)
  have hbm5 := hbm.chg hB4.ch (Blk.neT hbm hb4.rd.bk (by decide))
  have hA5 := OE.chg hA4 hcg fun ad e hk => Own.ne_blk hA4 hR4.rd.bk (by decide) ad e hk
  replace hg6 := Lib.hid hg6
  clear hc2 hf2 hb4 hB4 hbm hgW hR4
  go_wp2_with fail
  rw [← hW4, ← hW5, hg6.out]
  clear hW4 hW5 hc2' hf2' hg6
  refine (inumber_ok g B n c l k1 (bitN e0.mkd) k2 W5 hR5.rd hn t2.out).mono ?_
  rintro e w6 ⟨rfl, hT6⟩
  have hR6 := hR5.trans hT6
  have hbr6 := hbr5.chg hT6.ch (by omega)
  have hbm6 := hbm5.chg hT6.ch (Blk.neT hbm5 hR5.rd.bk (by decide))
  have hA6 := OE.chg hA5 hT6.ch fun ad e hk => Own.ne_blk hA5 hR5.rd.bk (by decide) ad e hk
  have hc2 := hR6.rd.bk.cell 2
  have hf2 := hR6.rd.bk.frozen 2
  simp only [List.getElem?_toArray, List.getElem?_cons_succ, List.getElem?_cons_zero] at hc2
  have hB6 := hR6.rd.bad
  obtain ⟨w7, hw7⟩ : ∃ w7, w7 = w6.setCell ⟨g, 2, none⟩ (.bool false) := ⟨_, rfl⟩
  rw [← hw7] at hB6
  have hR7 := hR6.trans hB6
  have hbr7 := hbr6.chg hB6.ch (by omega)
  have hbm7 := hbm6.chg hB6.ch (Blk.neT hbm6 hR6.rd.bk (by decide))
  have hA7 := OE.chg hA6 hB6.ch fun ad e hk => Own.ne_blk hA6 hR6.rd.bk (by decide) ad e hk
  have hbi : decide ((1 : Int) < (bitN e0.mkd : Int)) = false := by cases e0.mkd <;> rfl
  have hbe : ((bitN e0.mkd : Int) == 1) = e0.mkd := by cases e0.mkd <;> rfl
  clear hT6 hB6 hR6 hA6 hbr6 hbm6 hA5 hbr5 hbm5 hR5 hA4 hbr4
  go_wp2_with fail
  rw [← hw7]
  clear hw7 hc2 hf2 hbi
  have m0 := hbm7.cell 0
  have m1 := hbm7.cell 1
  have m2 := hbm7.cell 2
  have m3 := hbm7.cell 3
  have m4 := hbm7.cell 4
  have m5 := hbm7.cell 5
  have m6 := hbm7.cell 6
  simp only [List.getElem?_toArray, List.getElem?_cons_succ, List.getElem?_cons_zero] at m0 m1 m2 m3 m4 m5 m6
  have hcs : CellsIn [g6] w7 := cellsIn_one hbm7
  have hng : ∀ k', k' ∈ [g6] → ¬ k' = g := fun k' hk' => by
    simp only [List.mem_cons, List.not_mem_nil, or_false] at hk'
    subst hk'
    exact Blk.neT hbm7 hR7.rd.bk (by decide)
  refine wp_region_textS [(22, 1)] [g6] (by kernel_rfl) (by kernel_rfl) hcs ?_
  simp only [wpU, tagOf, chk, look, Nat.reduceBEq, if_true, if_false, Nat.reduceEqDiff, List.cons_append, List.nil_append]
  intro K hK
  go_wp2_with fail
  refine OnlyN.normal (hK _ _ (fun _ => ⟨_, _, _, rfl, rfl, by simp⟩) ?_)
  clear hK K
  intro K hK
  go_wp2_with fail
  refine (isigned_ok g B n c l k2 (zz e0.tm) k3 _ (hR7.rd.grew (Chg.refl _ w7).drew) hn t3.out).mono ?_
  rintro e w8 ⟨rfl, hT8⟩
  rw [uz_zz]
  have hT8' : RiT w7 w8 g B n c l k3 := RiT.ahead (Chg.refl _ w7).drew hT8
  go_wp2_with fail
  refine OnlyN.normal (hK _ _ (sameIn_of hT8'.ch hcs hng) ?_)
  clear hK K
  have hbr8 := hbr7.chg hT8'.ch (by omega)
  have hR8 := hR7.trans hT8'
  have hA8 := OE.chg hA7 hT8'.ch fun ad e hk => Own.ne_blk hA7 hR7.rd.bk (by decide) ad e hk
  have r0 := hbr8.cell 0
  have f0 := hbr8.frozen 0
  have r1 := hbr8.cell 1
  have f1 := hbr8.frozen 1
  have r2 := hbr8.cell 2
  have f2 := hbr8.frozen 2
  have r3 := hbr8.cell 3
  have f3 := hbr8.frozen 3
  have r4 := hbr8.cell 4
  have f4 := hbr8.frozen 4
  have r5 := hbr8.cell 5
  have f5 := hbr8.frozen 5
  have r6 := hbr8.cell 6
  have f6 := hbr8.frozen 6
  have r7 := hbr8.cell 7
  have f7 := hbr8.frozen 7
  have r8 := hbr8.cell 8
  have f8 := hbr8.frozen 8
  simp only [List.getElem?_toArray, List.getElem?_cons_succ, List.getElem?_cons_zero] at r0 r1 r2 r3 r4 r5 r6 r7 r8
  obtain ⟨hb9, hc9⟩ := put9 (a0 := .int .u64 (e0.m.id : Int)) (a1 := .int .i64 e0.m.lo) (a2 := .int .i64 e0.m.hi) (a3 := .int .i64 e0.m.lv) (a4 := .slice A4 e0.m.src.length d4) (a5 := .int .i64 e0.m.sr) (a6 := .int .i64 e0.m.pt) (a7 := .bool e0.mkd) (a8 := .int .i64 e0.tm) hbr8
  have hng2 : ∀ k', k' ∈ [g6] → ¬ (k' = g ∨ k' = w.heap.size) := fun k' hk' => by
    simp only [List.mem_cons, List.not_mem_nil, or_false] at hk'
    subst hk'
    rintro (e | e)
    · exact Blk.neT hbm7 hR7.rd.bk (by decide) e
    · exact Blk.neT hbm7 hbr7 (by decide) e
  have hcA : Chg (fun k => k = g ∨ k = w.heap.size) w7 _ := (hT8'.ch.mono fun k _ e => Or.inl e).trans (hc9.mono fun k _ e => Or.inr e)
  have hRd9 : RiS _ g B n c l k3 := ⟨hR8.rd.bk.chg hc9 (by omega), hR8.rd.rb.far hc9 (fun ad e h0 hk => by have := h.rb.lt ad e h0; omega), hR8.rd.ne⟩
  have hA9 := OE.chg hA8 hc9 fun ad e hk => Own.ne_blk hA8 hbr8 (by decide) ad e hk
  have hsz3 := hg3.size
  have hgrow := hR2.ch.size
  intro K hK
  go_wp2_with fail
  refine OnlyN.normal (hK _ _ (sameIn_of hcA hcs hng2) ?_)
  clear hK K
  refine OnlyN.normal ?_
  clear hcA hcs hng hng2 m0 m1 m2 m3 m4 m5 m6 r0 r1 r2 r3 r4 r5 r6 r7 r8 f0 f1 f2 f3 f4 f5 f6 f7 f8
  go_wp2
  refine bodyPost_ret (v := .agg #[.int .u64 (e0.m.id : Int), .int .i64 e0.m.lo, .int .i64 e0.m.hi, .int .i64 e0.m.lv, .slice A4 e0.m.src.length d4, .int .i64 e0.m.sr, .int .i64 e0.m.pt, .bool e0.mkd, .int .i64 e0.tm]) ?_ rfl ⟨A4, d4, rfl, Own.mono hA9 (by omega), hRd9, hR8.ch.step hc9 fun j hj e => by omega⟩
  have q0 := hb9.cell 0
  have q1 := hb9.cell 1
  have q2 := hb9.cell 2
  have q3 := hb9.cell 3
  have q4 := hb9.cell 4
  have q5 := hb9.cell 5
  have q6 := hb9.cell 6
  have q7 := hb9.cell 7
  have q8 := hb9.cell 8
  simp [results, Tryz.results72, go_sem, q0, q1, q2, q3, q4, q5, q6, q7, q8]
end Go.Proofs.YtjoaonppaokhhaaGreat
