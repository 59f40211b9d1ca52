/-
  Several texts in one:
  An entry read out of any bytes. Conditions: lengths that memory bears.
  (index.Decode) on bytes that are no index' bytes. Conditions: lengths that memory bears.
  Bytes of indexes told apart; Encode and Decode, the program's and the document's in one word each. Conditions: lengths that memory bears.
  (tidewracklaw14.IndexBytes) walked. Conditions: an index that memory bears, at most 1048576 bytes.
-/
import Derived.Test.YtjoaonppaokhhaaGreatPart52
import Derived.Test.YtjoaonppaokhhaaGreatPart48
import Derived.Test.YtjoaonppaokhhaaGreatPart23

namespace Go.Proofs.YtjoaonppaokhhaaGreat
open Go.RowKit

/-- an entry was read, whatever is wrong -/
def EnB (w : World) (g : Nat) (B : Option Addr) (n c : Nat) (l : List UInt8) (e : Ending) (w' : World) : Prop := ∃ (e0 : Ent) (A : Option Addr) (d : Nat), EntW e0 ∧ e = .returned (.agg #[.int .u64 (e0.m.id : Int), .int .i64 e0.m.lo, .int .i64 e0.m.hi, .int .i64 e0.m.lv, .slice A e0.m.src.length d, .int .i64 e0.m.sr, .int .i64 e0.m.pt, .bool e0.mkd, .int .i64 e0.tm]) ∧ OE elU w' w.heap.size 22 A e0.m.src.length d e0.m.src ∧ ∃ q b, RiC w w' g B n c l q b
set_option maxRecDepth 100000 in
set_option maxHeartbeats 8000000 in
theorem ientry_any (g : Nat) (B : Option Addr) (n c : Nat) (l : List UInt8) (q : Nat) (b : Bool) (w : World) (h : RiB w g B n c l q b) (hn : n ≤ 140737488340000) (hc : n ≤ c ∧ c ≤ 9223372036854775807) :
    Calls Tryz.prog 72 #[.pointer (some ⟨g, 0, none⟩)] w (EnB w g B n c l) := by
  have hT := fun W (hW : Grew w W) => text_any B n c l (q : Int) W (h.rb.grew hW) (by omega) hc
  have hXl := textR_len l (q : Int)
  rw [h.rb.1] at hXl
  unfold TextPost textEnd at hT
  generalize (textR l (q : Int)).1 = X at hT hXl
  generalize (textR l (q : Int)).2.1 = q1 at hT
  generalize (textR l (q : Int)).2.2 = er at hT
  obtain ⟨sX, hsX⟩ : ∃ s, s = (⟨X.toArray⟩ : ByteArray) := ⟨_, rfl⟩
  rw [← hsX] at hT
  have hsz : sX.size ≤ n := by rw [hsX]; show X.toArray.size ≤ n; rw [List.size_toArray]; exact hXl
  replace hT := Lib.hid hT
  clear hsX hXl
  have c0 := h.bk.cell 0
  have c1 := h.bk.cell 1
  simp only [List.getElem?_toArray, List.getElem?_cons_succ, List.getElem?_cons_zero] at c0 c1
  unfold EnB
  go_enter Tryz.func72, Tryz.ntmps72
  obtain ⟨W0, hW0⟩ : ∃ W0, W0 = w.alloc (.cells #[.int .u64 0, .int .i64 0, .int .i64 0, .int .i64 0, .slice none 0 0, .int .i64 0, .int .i64 0, .bool false, .int .i64 0] 51) := ⟨_, rfl⟩
  have hg0 : Grew w W0 := by rw [hW0]; exact (Chg.refl _ w).alloc _
  have hbr : Blk W0 w.heap.size 51 #[.int .u64 0, .int .i64 0, .int .i64 0, .int .i64 0, .slice none 0 0, .int .i64 0, .int .i64 0, .bool false, .int .i64 0] := by rw [hW0]; exact Blk.new _ _ _
  have hs0 : W0.heap.size = w.heap.size + 1 := by rw [hW0]; simp
  have hgl := h.bk.lt
  go_wp2_with fail
  refine wp_region_text [] (by kernel_rfl) (by kernel_rfl) ?_
  simp only [instr, chk, List.nil_append]
  go_wp2_with fail
  rw [← hW0]
  clear hW0
  refine (hT.out _ hg0.drew).mono ?_
  rintro e w1 ⟨rfl, rfl⟩
  clear hT c0 c1
  go_wp2_with fail
  refine OnlyN.normal ?_
  go_wp2_with fail
  refine (istep_any g B n c l q q1 er b _ (h.grew hg0.drew)).mono ?_
  rintro e w2 ⟨rfl, q2, b2, hT2⟩
  have hR2 : RiC w w2 g B n c l q2 b2 := RiC.ahead hg0.drew hT2
  have hbr2 := Blk.chg (w := W0.drew) hbr hT2.ch (by omega)
  obtain ⟨c3, w3, hcv, hrb3, hg3, hcc1, hcc2⟩ := conv_str w2 sX (by omega)
  generalize sX.data.toList = lb at hrb3
  generalize sX.size = nX at hcv hrb3 hcc1 hsz
  clear hT2
  have hM := dm_any w3 _ nX c3 lb hrb3 ⟨hcc1, hcc2⟩ (by omega)
  replace hM := Lib.hid hM
  go_wp2_with fail
  refine hM.out.mono ?_
  rintro e w4 ⟨m, z, hmw, A4, d4, rfl, hA4, hg4⟩
  have hg34 := hg3.trans hg4
  have hR4 : RiC w w4 g B n c l q2 b2 := hR2.grew hg34
  have hbr4 := hbr2.grew hg34
  clear hcv hrb3 hM
  obtain ⟨pm, hpm⟩ : ∃ p, m.src.length = p := ⟨_, rfl⟩
  rw [hpm] at hA4 ⊢
  have hpm' := Lib.hid hpm
  clear hpm
  obtain ⟨W4, hW4⟩ : ∃ W4, W4 = w4.alloc (.cells #[.int .u64 (m.id : Int), .int .i64 m.lo, .int .i64 m.hi, .int .i64 m.lv, .slice A4 pm d4, .int .i64 m.sr, .int .i64 m.pt] 28) := ⟨_, rfl⟩
  have hgW : Grew w4 W4 := by rw [hW4]; exact (Chg.refl _ w4).alloc _
  obtain ⟨g6, hg6⟩ : ∃ g6, w4.heap.size = g6 := ⟨_, rfl⟩
  have hbm : Blk W4 g6 28 #[.int .u64 (m.id : Int), .int .i64 m.lo, .int .i64 m.hi, .int .i64 m.lv, .slice A4 pm d4, .int .i64 m.sr, .int .i64 m.pt] := by rw [hW4, ← hg6]; exact Blk.new _ _ _
  have hb4 := (hR4.grew hgW)
  have hc2' := hb4.rd.bk.cell 2
  have hf2' := hb4.rd.bk.frozen 2
  simp only [List.getElem?_toArray, List.getElem?_cons_succ, List.getElem?_cons_zero] at hc2'
  rw [hW4] at hc2' hf2'
  replace hg6 := Lib.hid hg6
  have hsz3 := hg3.size
  have hgrow := hR2.ch.size
  cases b2
  · by_cases hz : z = 0
    · subst hz
      have hB4 := hb4.rd.bad false
      obtain ⟨W5, hW5⟩ : ∃ W5, W5 = W4.setCell ⟨g, 2, none⟩ (.bool false) := ⟨_, rfl⟩
      rw [← hW5] at hB4
      have hR5 := hb4.trans hB4
      have hcg : Chg (fun k => k = g) w4 W5 := (Chg.of_grew hgW).trans hB4.ch
      have hbr5 := hbr4.chg hcg (by omega)
      have hbm5 := hbm.chg hB4.ch (Blk.neT hbm hb4.rd.bk (by decide))
      have hA5 := OE.chg hA4 hcg fun ad e hk => Own.ne_blk hA4 hR4.rd.bk (by decide) ad e hk
      clear hb4 hB4 hbm hgW hR4
      go_wp2_with fail
      rw [← hW4, ← hW5, hg6.out]
      clear hW4 hW5 hc2' hf2' hg6
      refine (inumber_any g B n c l _ _ W5 hR5.rd (by omega)).mono ?_
      rintro e w6 ⟨y, hy, rfl, q6, b6, hT6⟩
      have hR6 := hR5.trans hT6
      have hbr6 := hbr5.chg hT6.ch (by omega)
      have hbm6 := hbm5.chg hT6.ch (Blk.neT hbm5 hR5.rd.bk (by decide))
      have hA6 := OE.chg hA5 hT6.ch fun ad e hk => Own.ne_blk hA5 hR5.rd.bk (by decide) ad e hk
      have hc2 := hR6.rd.bk.cell 2
      have hf2 := hR6.rd.bk.frozen 2
      simp only [List.getElem?_toArray, List.getElem?_cons_succ, List.getElem?_cons_zero] at hc2
      clear hT6 hA5 hbr5 hbm5 hR5 hA4 hbr4
      cases b6
      · by_cases hy1 : y ≤ 1
        · have hbi : decide ((1 : Int) < (y : Int)) = false := decide_eq_false (by omega)
          have hB6 := hR6.rd.bad false
          obtain ⟨w7, hw7⟩ : ∃ w7, w7 = w6.setCell ⟨g, 2, none⟩ (.bool false) := ⟨_, rfl⟩
          rw [← hw7] at hB6
          have hR7 := hR6.trans hB6
          have hbr7 := hbr6.chg hB6.ch (by omega)
          have hbm7 := hbm6.chg hB6.ch (Blk.neT hbm6 hR6.rd.bk (by decide))
          have hA7 := OE.chg hA6 hB6.ch fun ad e hk => Own.ne_blk hA6 hR6.rd.bk (by decide) ad e hk
          clear hB6 hR6 hA6 hbr6 hbm6
          go_wp2_with fail
          rw [← hw7]
          clear hw7 hc2 hf2
          obtain ⟨mk, hbe⟩ : ∃ mk, ((y : Int) == 1) = mk := ⟨_, rfl⟩
          have m0 := hbm7.cell 0
          have m1 := hbm7.cell 1
          have m2 := hbm7.cell 2
          have m3 := hbm7.cell 3
          have m4 := hbm7.cell 4
          have m5 := hbm7.cell 5
          have m6 := hbm7.cell 6
          simp only [List.getElem?_toArray, List.getElem?_cons_succ, List.getElem?_cons_zero] at m0 m1 m2 m3 m4 m5 m6
          have hcs : CellsIn [g6] w7 := cellsIn_one hbm7
          have hng : ∀ k', k' ∈ [g6] → ¬ k' = g := fun k' hk' => by
            simp only [List.mem_cons, List.not_mem_nil, or_false] at hk'
            subst hk'
            exact Blk.neT hbm7 hR7.rd.bk (by decide)
          refine wp_region_textS [(22, 1)] [g6] (by kernel_rfl) (by kernel_rfl) hcs ?_
          simp only [wpU, tagOf, chk, look, Nat.reduceBEq, if_true, if_false, Nat.reduceEqDiff, List.cons_append, List.nil_append]
          intro K hK
          go_wp2_with fail
          refine OnlyN.normal (hK _ _ (fun _ => ⟨_, _, _, rfl, rfl, by simp⟩) ?_)
          clear hK K
          intro K hK
          go_wp2_with fail
          refine (isigned_any g B n c l _ _ _ (hR7.rd.grew (Chg.refl _ w7).drew) (by omega)).mono ?_
          rintro e w8 ⟨tm, htm, rfl, q8, b8, hT8⟩
          have hT8' : RiC w7 w8 g B n c l q8 b8 := RiC.ahead (Chg.refl _ w7).drew hT8
          go_wp2_with fail
          refine OnlyN.normal (hK _ _ (sameIn_of hT8'.ch hcs hng) ?_)
          clear hK K
          have hbr8 := hbr7.chg hT8'.ch (by omega)
          have hR8 := hR7.trans hT8'
          have hA8 := OE.chg hA7 hT8'.ch fun ad e hk => Own.ne_blk hA7 hR7.rd.bk (by decide) ad e hk
          have r0 := hbr8.cell 0
          have f0 := hbr8.frozen 0
          have r1 := hbr8.cell 1
          have f1 := hbr8.frozen 1
          have r2 := hbr8.cell 2
          have f2 := hbr8.frozen 2
          have r3 := hbr8.cell 3
          have f3 := hbr8.frozen 3
          have r4 := hbr8.cell 4
          have f4 := hbr8.frozen 4
          have r5 := hbr8.cell 5
          have f5 := hbr8.frozen 5
          have r6 := hbr8.cell 6
          have f6 := hbr8.frozen 6
          have r7 := hbr8.cell 7
          have f7 := hbr8.frozen 7
          have r8 := hbr8.cell 8
          have f8 := hbr8.frozen 8
          simp only [List.getElem?_toArray, List.getElem?_cons_succ, List.getElem?_cons_zero] at r0 r1 r2 r3 r4 r5 r6 r7 r8
          obtain ⟨hb9, hc9⟩ := put9 (a0 := .int .u64 (m.id : Int)) (a1 := .int .i64 m.lo) (a2 := .int .i64 m.hi) (a3 := .int .i64 m.lv) (a4 := .slice A4 pm d4) (a5 := .int .i64 m.sr) (a6 := .int .i64 m.pt) (a7 := .bool mk) (a8 := .int .i64 tm) hbr8
          have hng2 : ∀ k', k' ∈ [g6] → ¬ (k' = g ∨ k' = w.heap.size) := fun k' hk' => by
            simp only [List.mem_cons, List.not_mem_nil, or_false] at hk'
            subst hk'
            rintro (e | e)
            · exact Blk.neT hbm7 hR7.rd.bk (by decide) e
            · exact Blk.neT hbm7 hbr7 (by decide) e
          have hcA : Chg (fun k => k = g ∨ k = w.heap.size) w7 _ := (hT8'.ch.mono fun k _ e => Or.inl e).trans (hc9.mono fun k _ e => Or.inr e)
          have hRd9 : RiB _ g B n c l q8 b8 := ⟨hR8.rd.bk.chg hc9 (by omega), hR8.rd.rb.far hc9 (fun ad e h0 hk => by have := h.rb.lt ad e h0; omega), hR8.rd.ne⟩
          have hA9 := OE.chg hA8 hc9 fun ad e hk => Own.ne_blk hA8 hbr8 (by decide) ad e hk
          intro K hK
          go_wp2_with fail
          refine OnlyN.normal (hK _ _ (sameIn_of hcA hcs hng2) ?_)
          clear hK K
          refine OnlyN.normal ?_
          clear hcA hcs hng hng2 m0 m1 m2 m3 m4 m5 m6 r0 r1 r2 r3 r4 r5 r6 r7 r8 f0 f1 f2 f3 f4 f5 f6 f7 f8
          go_wp2
          refine bodyPost_ret (v := .agg #[.int .u64 (m.id : Int), .int .i64 m.lo, .int .i64 m.hi, .int .i64 m.lv, .slice A4 pm d4, .int .i64 m.sr, .int .i64 m.pt, .bool mk, .int .i64 tm]) ?_ rfl ⟨⟨m, mk, tm⟩, A4, d4, ⟨hmw, htm⟩, by rw [hpm'.out], by rw [hpm'.out]; exact Own.mono hA9 (by omega), q8, b8, hRd9, hR8.ch.step hc9 fun j hj e => by omega⟩
          have q0 := hb9.cell 0
          have q1 := hb9.cell 1
          have q2 := hb9.cell 2
          have q3 := hb9.cell 3
          have q4 := hb9.cell 4
          have q5 := hb9.cell 5
          have q6 := hb9.cell 6
          have q7 := hb9.cell 7
          have q8 := hb9.cell 8
          simp [results, Tryz.results72, go_sem, q0, q1, q2, q3, q4, q5, q6, q7, q8]
        · have hbi : decide ((1 : Int) < (y : Int)) = true := decide_eq_true (by omega)
          have hB6 := hR6.rd.bad true
          obtain ⟨w7, hw7⟩ : ∃ w7, w7 = w6.setCell ⟨g, 2, none⟩ (.bool true) := ⟨_, rfl⟩
          rw [← hw7] at hB6
          have hR7 := hR6.trans hB6
          have hbr7 := hbr6.chg hB6.ch (by omega)
          have hbm7 := hbm6.chg hB6.ch (Blk.neT hbm6 hR6.rd.bk (by decide))
          have hA7 := OE.chg hA6 hB6.ch fun ad e hk => Own.ne_blk hA6 hR6.rd.bk (by decide) ad e hk
          clear hB6 hR6 hA6 hbr6 hbm6
          go_wp2_with fail
          rw [← hw7]
          clear hw7 hc2 hf2
          obtain ⟨mk, hbe⟩ : ∃ mk, ((y : Int) == 1) = mk := ⟨_, rfl⟩
          have m0 := hbm7.cell 0
          have m1 := hbm7.cell 1
          have m2 := hbm7.cell 2
          have m3 := hbm7.cell 3
          have m4 := hbm7.cell 4
          have m5 := hbm7.cell 5
          have m6 := hbm7.cell 6
          simp only [List.getElem?_toArray, List.getElem?_cons_succ, List.getElem?_cons_zero] at m0 m1 m2 m3 m4 m5 m6
          have hcs : CellsIn [g6] w7 := cellsIn_one hbm7
          have hng : ∀ k', k' ∈ [g6] → ¬ k' = g := fun k' hk' => by
            simp only [List.mem_cons, List.not_mem_nil, or_false] at hk'
            subst hk'
            exact Blk.neT hbm7 hR7.rd.bk (by decide)
          refine wp_region_textS [(22, 1)] [g6] (by kernel_rfl) (by kernel_rfl) hcs ?_
          simp only [wpU, tagOf, chk, look, Nat.reduceBEq, if_true, if_false, Nat.reduceEqDiff, List.cons_append, List.nil_append]
          intro K hK
          go_wp2_with fail
          refine OnlyN.normal (hK _ _ (fun _ => ⟨_, _, _, rfl, rfl, by simp⟩) ?_)
          clear hK K
          intro K hK
          go_wp2_with fail
          refine (isigned_any g B n c l _ _ _ (hR7.rd.grew (Chg.refl _ w7).drew) (by omega)).mono ?_
          rintro e w8 ⟨tm, htm, rfl, q8, b8, hT8⟩
          have hT8' : RiC w7 w8 g B n c l q8 b8 := RiC.ahead (Chg.refl _ w7).drew hT8
          go_wp2_with fail
          refine OnlyN.normal (hK _ _ (sameIn_of hT8'.ch hcs hng) ?_)
          clear hK K
          have hbr8 := hbr7.chg hT8'.ch (by omega)
          have hR8 := hR7.trans hT8'
          have hA8 := OE.chg hA7 hT8'.ch fun ad e hk => Own.ne_blk hA7 hR7.rd.bk (by decide) ad e hk
          have r0 := hbr8.cell 0
          have f0 := hbr8.frozen 0
          have r1 := hbr8.cell 1
          have f1 := hbr8.frozen 1
          have r2 := hbr8.cell 2
          have f2 := hbr8.frozen 2
          have r3 := hbr8.cell 3
          have f3 := hbr8.frozen 3
          have r4 := hbr8.cell 4
          have f4 := hbr8.frozen 4
          have r5 := hbr8.cell 5
          have f5 := hbr8.frozen 5
          have r6 := hbr8.cell 6
          have f6 := hbr8.frozen 6
          have r7 := hbr8.cell 7
          have f7 := hbr8.frozen 7
          have r8 := hbr8.cell 8
          have f8 := hbr8.frozen 8
          simp only [List.getElem?_toArray, List.getElem?_cons_succ, List.getElem?_cons_zero] at r0 r1 r2 r3 r4 r5 r6 r7 r8
          obtain ⟨hb9, hc9⟩ := put9 (a0 := .int .u64 (m.id : Int)) (a1 := .int .i64 m.lo) (a2 := .int .i64 m.hi) (a3 := .int .i64 m.lv) (a4 := .slice A4 pm d4) (a5 := .int .i64 m.sr) (a6 := .int .i64 m.pt) (a7 := .bool mk) (a8 := .int .i64 tm) hbr8
          have hng2 : ∀ k', k' ∈ [g6] → ¬ (k' = g ∨ k' = w.heap.size) := fun k' hk' => by
            simp only [List.mem_cons, List.not_mem_nil, or_false] at hk'
            subst hk'
            rintro (e | e)
            · exact Blk.neT hbm7 hR7.rd.bk (by decide) e
            · exact Blk.neT hbm7 hbr7 (by decide) e
          have hcA : Chg (fun k => k = g ∨ k = w.heap.size) w7 _ := (hT8'.ch.mono fun k _ e => Or.inl e).trans (hc9.mono fun k _ e => Or.inr e)
          have hRd9 : RiB _ g B n c l q8 b8 := ⟨hR8.rd.bk.chg hc9 (by omega), hR8.rd.rb.far hc9 (fun ad e h0 hk => by have := h.rb.lt ad e h0; omega), hR8.rd.ne⟩
          have hA9 := OE.chg hA8 hc9 fun ad e hk => Own.ne_blk hA8 hbr8 (by decide) ad e hk
          intro K hK
          go_wp2_with fail
          refine OnlyN.normal (hK _ _ (sameIn_of hcA hcs hng2) ?_)
          clear hK K
          refine OnlyN.normal ?_
          clear hcA hcs hng hng2 m0 m1 m2 m3 m4 m5 m6 r0 r1 r2 r3 r4 r5 r6 r7 r8 f0 f1 f2 f3 f4 f5 f6 f7 f8
          go_wp2
          refine bodyPost_ret (v := .agg #[.int .u64 (m.id : Int), .int .i64 m.lo, .int .i64 m.hi, .int .i64 m.lv, .slice A4 pm d4, .int .i64 m.sr, .int .i64 m.pt, .bool mk, .int .i64 tm]) ?_ rfl ⟨⟨m, mk, tm⟩, A4, d4, ⟨hmw, htm⟩, by rw [hpm'.out], by rw [hpm'.out]; exact Own.mono hA9 (by omega), q8, b8, hRd9, hR8.ch.step hc9 fun j hj e => by omega⟩
          have q0 := hb9.cell 0
          have q1 := hb9.cell 1
          have q2 := hb9.cell 2
          have q3 := hb9.cell 3
          have q4 := hb9.cell 4
          have q5 := hb9.cell 5
          have q6 := hb9.cell 6
          have q7 := hb9.cell 7
          have q8 := hb9.cell 8
          simp [results, Tryz.results72, go_sem, q0, q1, q2, q3, q4, q5, q6, q7, q8]
      · skip
        have hB6 := hR6.rd.bad true
        obtain ⟨w7, hw7⟩ : ∃ w7, w7 = w6.setCell ⟨g, 2, none⟩ (.bool true) := ⟨_, rfl⟩
        rw [← hw7] at hB6
        have hR7 := hR6.trans hB6
        have hbr7 := hbr6.chg hB6.ch (by omega)
        have hbm7 := hbm6.chg hB6.ch (Blk.neT hbm6 hR6.rd.bk (by decide))
        have hA7 := OE.chg hA6 hB6.ch fun ad e hk => Own.ne_blk hA6 hR6.rd.bk (by decide) ad e hk
        clear hB6 hR6 hA6 hbr6 hbm6
        go_wp2_with fail
        rw [← hw7]
        clear hw7 hc2 hf2
        obtain ⟨mk, hbe⟩ : ∃ mk, ((y : Int) == 1) = mk := ⟨_, rfl⟩
        have m0 := hbm7.cell 0
        have m1 := hbm7.cell 1
        have m2 := hbm7.cell 2
        have m3 := hbm7.cell 3
        have m4 := hbm7.cell 4
        have m5 := hbm7.cell 5
        have m6 := hbm7.cell 6
        simp only [List.getElem?_toArray, List.getElem?_cons_succ, List.getElem?_cons_zero] at m0 m1 m2 m3 m4 m5 m6
        have hcs : CellsIn [g6] w7 := cellsIn_one hbm7
        have hng : ∀ k', k' ∈ [g6] → ¬ k' = g := fun k' hk' => by
          simp only [List.mem_cons, List.not_mem_nil, or_false] at hk'
          subst hk'
          exact Blk.neT hbm7 hR7.rd.bk (by decide)
        refine wp_region_textS [(22, 1)] [g6] (by kernel_rfl) (by kernel_rfl) hcs ?_
        simp only [wpU, tagOf, chk, look, Nat.reduceBEq, if_true, if_false, Nat.reduceEqDiff, List.cons_append, List.nil_append]
        intro K hK
        go_wp2_with fail
        refine OnlyN.normal (hK _ _ (fun _ => ⟨_, _, _, rfl, rfl, by simp⟩) ?_)
        clear hK K
        intro K hK
        go_wp2_with fail
        refine (isigned_any g B n c l _ _ _ (hR7.rd.grew (Chg.refl _ w7).drew) (by omega)).mono ?_
        rintro e w8 ⟨tm, htm, rfl, q8, b8, hT8⟩
        have hT8' : RiC w7 w8 g B n c l q8 b8 := RiC.ahead (Chg.refl _ w7).drew hT8
        go_wp2_with fail
        refine OnlyN.normal (hK _ _ (sameIn_of hT8'.ch hcs hng) ?_)
        clear hK K
        have hbr8 := hbr7.chg hT8'.ch (by omega)
        have hR8 := hR7.trans hT8'
        have hA8 := OE.chg hA7 hT8'.ch fun ad e hk => Own.ne_blk hA7 hR7.rd.bk (by decide) ad e hk
        have r0 := hbr8.cell 0
        have f0 := hbr8.frozen 0
        have r1 := hbr8.cell 1
        have f1 := hbr8.frozen 1
        have r2 := hbr8.cell 2
        have f2 := hbr8.frozen 2
        have r3 := hbr8.cell 3
        have f3 := hbr8.frozen 3
        have r4 := hbr8.cell 4
        have f4 := hbr8.frozen 4
        have r5 := hbr8.cell 5
        have f5 := hbr8.frozen 5
        have r6 := hbr8.cell 6
        have f6 := hbr8.frozen 6
        have r7 := hbr8.cell 7
        have f7 := hbr8.frozen 7
        have r8 := hbr8.cell 8
        have f8 := hbr8.frozen 8
        simp only [List.getElem?_toArray, List.getElem?_cons_succ, List.getElem?_cons_zero] at r0 r1 r2 r3 r4 r5 r6 r7 r8
        obtain ⟨hb9, hc9⟩ := put9 (a0 := .int .u64 (m.id : Int)) (a1 := .int .i64 m.lo) (a2 := .int .i64 m.hi) (a3 := .int .i64 m.lv) (a4 := .slice A4 pm d4) (a5 := .int .i64 m.sr) (a6 := .int .i64 m.pt) (a7 := .bool mk) (a8 := .int .i64 tm) hbr8
        have hng2 : ∀ k', k' ∈ [g6] → ¬ (k' = g ∨ k' = w.heap.size) := fun k' hk' => by
          simp only [List.mem_cons, List.not_mem_nil, or_false] at hk'
          subst hk'
          rintro (e | e)
          · exact Blk.neT hbm7 hR7.rd.bk (by decide) e
          · exact Blk.neT hbm7 hbr7 (by decide) e
        have hcA : Chg (fun k => k = g ∨ k = w.heap.size) w7 _ := (hT8'.ch.mono fun k _ e => Or.inl e).trans (hc9.mono fun k _ e => Or.inr e)
        have hRd9 : RiB _ g B n c l q8 b8 := ⟨hR8.rd.bk.chg hc9 (by omega), hR8.rd.rb.far hc9 (fun ad e h0 hk => by have := h.rb.lt ad e h0; omega), hR8.rd.ne⟩
        have hA9 := OE.chg hA8 hc9 fun ad e hk => Own.ne_blk hA8 hbr8 (by decide) ad e hk
        intro K hK
        go_wp2_with fail
        refine OnlyN.normal (hK _ _ (sameIn_of hcA hcs hng2) ?_)
        clear hK K
        refine OnlyN.normal ?_
        clear hcA hcs hng hng2 m0 m1 m2 m3 m4 m5 m6 r0 r1 r2 r3 r4 r5 r6 r7 r8 f0 f1 f2 f3 f4 f5 f6 f7 f8
        go_wp2
        refine bodyPost_ret (v := .agg #[.int .u64 (m.id : Int), .int .i64 m.lo, .int .i64 m.hi, .int .i64 m.lv, .slice A4 pm d4, .int .i64 m.sr, .int .i64 m.pt, .bool mk, .int .i64 tm]) ?_ rfl ⟨⟨m, mk, tm⟩, A4, d4, ⟨hmw, htm⟩, by rw [hpm'.out], by rw [hpm'.out]; exact Own.mono hA9 (by omega), q8, b8, hRd9, hR8.ch.step hc9 fun j hj e => by omega⟩
        have q0 := hb9.cell 0
        have q1 := hb9.cell 1
        have q2 := hb9.cell 2
        have q3 := hb9.cell 3
        have q4 := hb9.cell 4
        have q5 := hb9.cell 5
        have q6 := hb9.cell 6
        have q7 := hb9.cell 7
        have q8 := hb9.cell 8
        simp [results, Tryz.results72, go_sem, q0, q1, q2, q3, q4, q5, q6, q7, q8]
    · have h1 : ¬ (z : Int) = 0 := by omega
      have h2 : ((z : Int) == 0) = false := by simpa using h1
      have h3 : ((z : Int) != 0) = true := by simp [bne, h2]
      have hB4 := hb4.rd.bad true
      obtain ⟨W5, hW5⟩ : ∃ W5, W5 = W4.setCell ⟨g, 2, none⟩ (.bool true) := ⟨_, rfl⟩
      rw [← hW5] at hB4
      have hR5 := hb4.trans hB4
      have hcg : Chg (fun k => k = g) w4 W5 := (Chg.of_grew hgW).trans hB4.ch
      have hbr5 := hbr4.chg hcg (by omega)
      have hbm5 := hbm.chg hB4.ch (Blk.neT hbm hb4.rd.bk (by decide))
      have hA5 := OE.chg hA4 hcg fun ad e hk => Own.ne_blk hA4 hR4.rd.bk (by decide) ad e hk
      clear hb4 hB4 hbm hgW hR4
      go_wp2_with fail
      rw [← hW4, ← hW5, hg6.out]
      clear hW4 hW5 hc2' hf2' hg6
      refine (inumber_any g B n c l _ _ W5 hR5.rd (by omega)).mono ?_
      rintro e w6 ⟨y, hy, rfl, q6, b6, hT6⟩
      have hR6 := hR5.trans hT6
      have hbr6 := hbr5.chg hT6.ch (by omega)
      have hbm6 := hbm5.chg hT6.ch (Blk.neT hbm5 hR5.rd.bk (by decide))
      have hA6 := OE.chg hA5 hT6.ch fun ad e hk => Own.ne_blk hA5 hR5.rd.bk (by decide) ad e hk
      have hc2 := hR6.rd.bk.cell 2
      have hf2 := hR6.rd.bk.frozen 2
      simp only [List.getElem?_toArray, List.getElem?_cons_succ, List.getElem?_cons_zero] at hc2
      clear hT6 hA5 hbr5 hbm5 hR5 hA4 hbr4
      cases b6
      · by_cases hy1 : y ≤ 1
        · have hbi : decide ((1 : Int) < (y : Int)) = false := decide_eq_false (by omega)
          have hB6 := hR6.rd.bad false
          obtain ⟨w7, hw7⟩ : ∃ w7, w7 = w6.setCell ⟨g, 2, none⟩ (.bool false) := ⟨_, rfl⟩
          rw [← hw7] at hB6
          have hR7 := hR6.trans hB6
          have hbr7 := hbr6.chg hB6.ch (by omega)
          have hbm7 := hbm6.chg hB6.ch (Blk.neT hbm6 hR6.rd.bk (by decide))
          have hA7 := OE.chg hA6 hB6.ch fun ad e hk => Own.ne_blk hA6 hR6.rd.bk (by decide) ad e hk
          clear hB6 hR6 hA6 hbr6 hbm6
          go_wp2_with fail
          rw [← hw7]
          clear hw7 hc2 hf2
          obtain ⟨mk, hbe⟩ : ∃ mk, ((y : Int) == 1) = mk := ⟨_, rfl⟩
          have m0 := hbm7.cell 0
          have m1 := hbm7.cell 1
          have m2 := hbm7.cell 2
          have m3 := hbm7.cell 3
          have m4 := hbm7.cell 4
          have m5 := hbm7.cell 5
          have m6 := hbm7.cell 6
          simp only [List.getElem?_toArray, List.getElem?_cons_succ, List.getElem?_cons_zero] at m0 m1 m2 m3 m4 m5 m6
          have hcs : CellsIn [g6] w7 := cellsIn_one hbm7
          have hng : ∀ k', k' ∈ [g6] → ¬ k' = g := fun k' hk' => by
            simp only [List.mem_cons, List.not_mem_nil, or_false] at hk'
            subst hk'
            exact Blk.neT hbm7 hR7.rd.bk (by decide)
          refine wp_region_textS [(22, 1)] [g6] (by kernel_rfl) (by kernel_rfl) hcs ?_
          simp only [wpU, tagOf, chk, look, Nat.reduceBEq, if_true, if_false, Nat.reduceEqDiff, List.cons_append, List.nil_append]
          intro K hK
          go_wp2_with fail
          refine OnlyN.normal (hK _ _ (fun _ => ⟨_, _, _, rfl, rfl, by simp⟩) ?_)
          clear hK K
          intro K hK
          go_wp2_with fail
          refine (isigned_any g B n c l _ _ _ (hR7.rd.grew (Chg.refl _ w7).drew) (by omega)).mono ?_
          rintro e w8 ⟨tm, htm, rfl, q8, b8, hT8⟩
          have hT8' : RiC w7 w8 g B n c l q8 b8 := RiC.ahead (Chg.refl _ w7).drew hT8
          go_wp2_with fail
          refine OnlyN.normal (hK _ _ (sameIn_of hT8'.ch hcs hng) ?_)
          clear hK K
          have hbr8 := hbr7.chg hT8'.ch (by omega)
          have hR8 := hR7.trans hT8'
          have hA8 := OE.chg hA7 hT8'.ch fun ad e hk => Own.ne_blk hA7 hR7.rd.bk (by decide) ad e hk
          have r0 := hbr8.cell 0
          have f0 := hbr8.frozen 0
          have r1 := hbr8.cell 1
          have f1 := hbr8.frozen 1
          have r2 := hbr8.cell 2
          have f2 := hbr8.frozen 2
          have r3 := hbr8.cell 3
          have f3 := hbr8.frozen 3
          have r4 := hbr8.cell 4
          have f4 := hbr8.frozen 4
          have r5 := hbr8.cell 5
          have f5 := hbr8.frozen 5
          have r6 := hbr8.cell 6
          have f6 := hbr8.frozen 6
          have r7 := hbr8.cell 7
          have f7 := hbr8.frozen 7
          have r8 := hbr8.cell 8
          have f8 := hbr8.frozen 8
          simp only [List.getElem?_toArray, List.getElem?_cons_succ, List.getElem?_cons_zero] at r0 r1 r2 r3 r4 r5 r6 r7 r8
          obtain ⟨hb9, hc9⟩ := put9 (a0 := .int .u64 (m.id : Int)) (a1 := .int .i64 m.lo) (a2 := .int .i64 m.hi) (a3 := .int .i64 m.lv) (a4 := .slice A4 pm d4) (a5 := .int .i64 m.sr) (a6 := .int .i64 m.pt) (a7 := .bool mk) (a8 := .int .i64 tm) hbr8
          have hng2 : ∀ k', k' ∈ [g6] → ¬ (k' = g ∨ k' = w.heap.size) := fun k' hk' => by
            simp only [List.mem_cons, List.not_mem_nil, or_false] at hk'
            subst hk'
            rintro (e | e)
            · exact Blk.neT hbm7 hR7.rd.bk (by decide) e
            · exact Blk.neT hbm7 hbr7 (by decide) e
          have hcA : Chg (fun k => k = g ∨ k = w.heap.size) w7 _ := (hT8'.ch.mono fun k _ e => Or.inl e).trans (hc9.mono fun k _ e => Or.inr e)
          have hRd9 : RiB _ g B n c l q8 b8 := ⟨hR8.rd.bk.chg hc9 (by omega), hR8.rd.rb.far hc9 (fun ad e h0 hk => by have := h.rb.lt ad e h0; omega), hR8.rd.ne⟩
          have hA9 := OE.chg hA8 hc9 fun ad e hk => Own.ne_blk hA8 hbr8 (by decide) ad e hk
          intro K hK
          go_wp2_with fail
          refine OnlyN.normal (hK _ _ (sameIn_of hcA hcs hng2) ?_)
          clear hK K
          refine OnlyN.normal ?_
          clear hcA hcs hng hng2 m0 m1 m2 m3 m4 m5 m6 r0 r1 r2 r3 r4 r5 r6 r7 r8 f0 f1 f2 f3 f4 f5 f6 f7 f8
          go_wp2
          refine bodyPost_ret (v := .agg #[.int .u64 (m.id : Int), .int .i64 m.lo, .int .i64 m.hi, .int .i64 m.lv, .slice A4 pm d4, .int .i64 m.sr, .int .i64 m.pt, .bool mk, .int .i64 tm]) ?_ rfl ⟨⟨m, mk, tm⟩, A4, d4, ⟨hmw, htm⟩, by rw [hpm'.out], by rw [hpm'.out]; exact Own.mono hA9 (by omega), q8, b8, hRd9, hR8.ch.step hc9 fun j hj e => by omega⟩
          have q0 := hb9.cell 0
          have q1 := hb9.cell 1
          have q2 := hb9.cell 2
          have q3 := hb9.cell 3
          have q4 := hb9.cell 4
          have q5 := hb9.cell 5
          have q6 := hb9.cell 6
          have q7 := hb9.cell 7
          have q8 := hb9.cell 8
          simp [results, Tryz.results72, go_sem, q0, q1, q2, q3, q4, q5, q6, q7, q8]
        · have hbi : decide ((1 : Int) < (y : Int)) = true := decide_eq_true (by omega)
          have hB6 := hR6.rd.bad true
          obtain ⟨w7, hw7⟩ : ∃ w7, w7 = w6.setCell ⟨g, 2, none⟩ (.bool true) := ⟨_, rfl⟩
          rw [← hw7] at hB6
          have hR7 := hR6.trans hB6
          have hbr7 := hbr6.chg hB6.ch (by omega)
          have hbm7 := hbm6.chg hB6.ch (Blk.neT hbm6 hR6.rd.bk (by decide))
          have hA7 := OE.chg hA6 hB6.ch fun ad e hk => Own.ne_blk hA6 hR6.rd.bk (by decide) ad e hk
          clear hB6 hR6 hA6 hbr6 hbm6
          go_wp2_with fail
          rw [← hw7]
          clear hw7 hc2 hf2
          obtain ⟨mk, hbe⟩ : ∃ mk, ((y : Int) == 1) = mk := ⟨_, rfl⟩
          have m0 := hbm7.cell 0
          have m1 := hbm7.cell 1
          have m2 := hbm7.cell 2
          have m3 := hbm7.cell 3
          have m4 := hbm7.cell 4
          have m5 := hbm7.cell 5
          have m6 := hbm7.cell 6
          simp only [List.getElem?_toArray, List.getElem?_cons_succ, List.getElem?_cons_zero] at m0 m1 m2 m3 m4 m5 m6
          have hcs : CellsIn [g6] w7 := cellsIn_one hbm7
          have hng : ∀ k', k' ∈ [g6] → ¬ k' = g := fun k' hk' => by
            simp only [List.mem_cons, List.not_mem_nil, or_false] at hk'
            subst hk'
            exact Blk.neT hbm7 hR7.rd.bk (by decide)
          refine wp_region_textS [(22, 1)] [g6] (by kernel_rfl) (by kernel_rfl) hcs ?_
          simp only [wpU, tagOf, chk, look, Nat.reduceBEq, if_true, if_false, Nat.reduceEqDiff, List.cons_append, List.nil_append]
          intro K hK
          go_wp2_with fail
          refine OnlyN.normal (hK _ _ (fun _ => ⟨_, _, _, rfl, rfl, by simp⟩) ?_)
          clear hK K
          intro K hK
          go_wp2_with fail
          refine (isigned_any g B n c l _ _ _ (hR7.rd.grew (Chg.refl _ w7).drew) (by omega)).mono ?_
          rintro e w8 ⟨tm, htm, rfl, q8, b8, hT8⟩
          have hT8' : RiC w7 w8 g B n c l q8 b8 := RiC.ahead (Chg.refl _ w7).drew hT8
          go_wp2_with fail
          refine OnlyN.normal (hK _ _ (sameIn_of hT8'.ch hcs hng) ?_)
          clear hK K
          have hbr8 := hbr7.chg hT8'.ch (by omega)
          have hR8 := hR7.trans hT8'
          have hA8 := OE.chg hA7 hT8'.ch fun ad e hk => Own.ne_blk hA7 hR7.rd.bk (by decide) ad e hk
          have r0 := hbr8.cell 0
          have f0 := hbr8.frozen 0
          have r1 := hbr8.cell 1
          have f1 := hbr8.frozen 1
          have r2 := hbr8.cell 2
          have f2 := hbr8.frozen 2
          have r3 := hbr8.cell 3
          have f3 := hbr8.frozen 3
          have r4 := hbr8.cell 4
          have f4 := hbr8.frozen 4
          have r5 := hbr8.cell 5
          have f5 := hbr8.frozen 5
          have r6 := hbr8.cell 6
          have f6 := hbr8.frozen 6
          have r7 := hbr8.cell 7
          have f7 := hbr8.frozen 7
          have r8 := hbr8.cell 8
          have f8 := hbr8.frozen 8
          simp only [List.getElem?_toArray, List.getElem?_cons_succ, List.getElem?_cons_zero] at r0 r1 r2 r3 r4 r5 r6 r7 r8
          obtain ⟨hb9, hc9⟩ := put9 (a0 := .int .u64 (m.id : Int)) (a1 := .int .i64 m.lo) (a2 := .int .i64 m.hi) (a3 := .int .i64 m.lv) (a4 := .slice A4 pm d4) (a5 := .int .i64 m.sr) (a6 := .int .i64 m.pt) (a7 := .bool mk) (a8 := .int .i64 tm) hbr8
          have hng2 : ∀ k', k' ∈ [g6] → ¬ (k' = g ∨ k' = w.heap.size) := fun k' hk' => by
            simp only [List.mem_cons, List.not_mem_nil, or_false] at hk'
            subst hk'
            rintro (e | e)
            · exact Blk.neT hbm7 hR7.rd.bk (by decide) e
            · exact Blk.neT hbm7 hbr7 (by decide) e
          have hcA : Chg (fun k => k = g ∨ k = w.heap.size) w7 _ := (hT8'.ch.mono fun k _ e => Or.inl e).trans (hc9.mono fun k _ e => Or.inr e)
          have hRd9 : RiB _ g B n c l q8 b8 := ⟨hR8.rd.bk.chg hc9 (by omega), hR8.rd.rb.far hc9 (fun ad e h0 hk => by have := h.rb.lt ad e h0; omega), hR8.rd.ne⟩
          have hA9 := OE.chg hA8 hc9 fun ad e hk => Own.ne_blk hA8 hbr8 (by decide) ad e hk
          intro K hK
          go_wp2_with fail
          refine OnlyN.normal (hK _ _ (sameIn_of hcA hcs hng2) ?_)
          clear hK K
          refine OnlyN.normal ?_
          clear hcA hcs hng hng2 m0 m1 m2 m3 m4 m5 m6 r0 r1 r2 r3 r4 r5 r6 r7 r8 f0 f1 f2 f3 f4 f5 f6 f7 f8
          go_wp2
          refine bodyPost_ret (v := .agg #[.int .u64 (m.id : Int), .int .i64 m.lo, .int .i64 m.hi, .int .i64 m.lv, .slice A4 pm d4, .int .i64 m.sr, .int .i64 m.pt, .bool mk, .int .i64 tm]) ?_ rfl ⟨⟨m, mk, tm⟩, A4, d4, ⟨hmw, htm⟩, by rw [hpm'.out], by rw [hpm'.out]; exact Own.mono hA9 (by omega), q8, b8, hRd9, hR8.ch.step hc9 fun j hj e => by omega⟩
          have q0 := hb9.cell 0
          have q1 := hb9.cell 1
          have q2 := hb9.cell 2
          have q3 := hb9.cell 3
          have q4 := hb9.cell 4
          have q5 := hb9.cell 5
          have q6 := hb9.cell 6
          have q7 := hb9.cell 7
          have q8 := hb9.cell 8
          simp [results, Tryz.results72, go_sem, q0, q1, q2, q3, q4, q5, q6, q7, q8]
      · skip
        have hB6 := hR6.rd.bad true
        obtain ⟨w7, hw7⟩ : ∃ w7, w7 = w6.setCell ⟨g, 2, none⟩ (.bool true) := ⟨_, rfl⟩
        rw [← hw7] at hB6
        have hR7 := hR6.trans hB6
        have hbr7 := hbr6.chg hB6.ch (by omega)
        have hbm7 := hbm6.chg hB6.ch (Blk.neT hbm6 hR6.rd.bk (by decide))
        have hA7 := OE.chg hA6 hB6.ch fun ad e hk => Own.ne_blk hA6 hR6.rd.bk (by decide) ad e hk
        clear hB6 hR6 hA6 hbr6 hbm6
        go_wp2_with fail
        rw [← hw7]
        clear hw7 hc2 hf2
        obtain ⟨mk, hbe⟩ : ∃ mk, ((y : Int) == 1) = mk := ⟨_, rfl⟩
        have m0 := hbm7.cell 0
        have m1 := hbm7.cell 1
        have m2 := hbm7.cell 2
        have m3 := hbm7.cell 3
        have m4 := hbm7.cell 4
        have m5 := hbm7.cell 5
        have m6 := hbm7.cell 6
        simp only [List.getElem?_toArray, List.getElem?_cons_succ, List.getElem?_cons_zero] at m0 m1 m2 m3 m4 m5 m6
        have hcs : CellsIn [g6] w7 := cellsIn_one hbm7
        have hng : ∀ k', k' ∈ [g6] → ¬ k' = g := fun k' hk' => by
          simp only [List.mem_cons, List.not_mem_nil, or_false] at hk'
          subst hk'
          exact Blk.neT hbm7 hR7.rd.bk (by decide)
        refine wp_region_textS [(22, 1)] [g6] (by kernel_rfl) (by kernel_rfl) hcs ?_
        simp only [wpU, tagOf, chk, look, Nat.reduceBEq, if_true, if_false, Nat.reduceEqDiff, List.cons_append, List.nil_append]
        intro K hK
        go_wp2_with fail
        refine OnlyN.normal (hK _ _ (fun _ => ⟨_, _, _, rfl, rfl, by simp⟩) ?_)
        clear hK K
        intro K hK
        go_wp2_with fail
        refine (isigned_any g B n c l _ _ _ (hR7.rd.grew (Chg.refl _ w7).drew) (by omega)).mono ?_
        rintro e w8 ⟨tm, htm, rfl, q8, b8, hT8⟩
        have hT8' : RiC w7 w8 g B n c l q8 b8 := RiC.ahead (Chg.refl _ w7).drew hT8
        go_wp2_with fail
        refine OnlyN.normal (hK _ _ (sameIn_of hT8'.ch hcs hng) ?_)
        clear hK K
        have hbr8 := hbr7.chg hT8'.ch (by omega)
        have hR8 := hR7.trans hT8'
        have hA8 := OE.chg hA7 hT8'.ch fun ad e hk => Own.ne_blk hA7 hR7.rd.bk (by decide) ad e hk
        have r0 := hbr8.cell 0
        have f0 := hbr8.frozen 0
        have r1 := hbr8.cell 1
        have f1 := hbr8.frozen 1
        have r2 := hbr8.cell 2
        have f2 := hbr8.frozen 2
        have r3 := hbr8.cell 3
        have f3 := hbr8.frozen 3
        have r4 := hbr8.cell 4
        have f4 := hbr8.frozen 4
        have r5 := hbr8.cell 5
        have f5 := hbr8.frozen 5
        have r6 := hbr8.cell 6
        have f6 := hbr8.frozen 6
        have r7 := hbr8.cell 7
        have f7 := hbr8.frozen 7
        have r8 := hbr8.cell 8
        have f8 := hbr8.frozen 8
        simp only [List.getElem?_toArray, List.getElem?_cons_succ, List.getElem?_cons_zero] at r0 r1 r2 r3 r4 r5 r6 r7 r8
        obtain ⟨hb9, hc9⟩ := put9 (a0 := .int .u64 (m.id : Int)) (a1 := .int .i64 m.lo) (a2 := .int .i64 m.hi) (a3 := .int .i64 m.lv) (a4 := .slice A4 pm d4) (a5 := .int .i64 m.sr) (a6 := .int .i64 m.pt) (a7 := .bool mk) (a8 := .int .i64 tm) hbr8
        have hng2 : ∀ k', k' ∈ [g6] → ¬ (k' = g ∨ k' = w.heap.size) := fun k' hk' => by
          simp only [List.mem_cons, List.not_mem_nil, or_false] at hk'
          subst hk'
          rintro (e | e)
          · exact Blk.neT hbm7 hR7.rd.bk (by decide) e
          · exact Blk.neT hbm7 hbr7 (by decide) e
        have hcA : Chg (fun k => k = g ∨ k = w.heap.size) w7 _ := (hT8'.ch.mono fun k _ e => Or.inl e).trans (hc9.mono fun k _ e => Or.inr e)
        have hRd9 : RiB _ g B n c l q8 b8 := ⟨hR8.rd.bk.chg hc9 (by omega), hR8.rd.rb.far hc9 (fun ad e h0 hk => by have := h.rb.lt ad e h0; omega), hR8.rd.ne⟩
        have hA9 := OE.chg hA8 hc9 fun ad e hk => Own.ne_blk hA8 hbr8 (by decide) ad e hk
        intro K hK
        go_wp2_with fail
        refine OnlyN.normal (hK _ _ (sameIn_of hcA hcs hng2) ?_)
        clear hK K
        refine OnlyN.normal ?_
        clear hcA hcs hng hng2 m0 m1 m2 m3 m4 m5 m6 r0 r1 r2 r3 r4 r5 r6 r7 r8 f0 f1 f2 f3 f4 f5 f6 f7 f8
        go_wp2
        refine bodyPost_ret (v := .agg #[.int .u64 (m.id : Int), .int .i64 m.lo, .int .i64 m.hi, .int .i64 m.lv, .slice A4 pm d4, .int .i64 m.sr, .int .i64 m.pt, .bool mk, .int .i64 tm]) ?_ rfl ⟨⟨m, mk, tm⟩, A4, d4, ⟨hmw, htm⟩, by rw [hpm'.out], by rw [hpm'.out]; exact Own.mono hA9 (by omega), q8, b8, hRd9, hR8.ch.step hc9 fun j hj e => by omega⟩
        have q0 := hb9.cell 0
        have q1 := hb9.cell 1
        have q2 := hb9.cell 2
        have q3 := hb9.cell 3
        have q4 := hb9.cell 4
        have q5 := hb9.cell 5
        have q6 := hb9.cell 6
        have q7 := hb9.cell 7
        have q8 := hb9.cell 8
        simp [results, Tryz.results72, go_sem, q0, q1, q2, q3, q4, q5, q6, q7, q8]
  · skip
    have hB4 := hb4.rd.bad true
    obtain ⟨W5, hW5⟩ : ∃ W5, W5 = W4.setCell ⟨g, 2, none⟩ (.bool true) := ⟨_, rfl⟩
    rw [← hW5] at hB4
    have hR5 := hb4.trans hB4
    have hcg : Chg (fun k => k = g) w4 W5 := (Chg.of_grew hgW).trans hB4.ch
    have hbr5 := hbr4.chg hcg (by omega)
    have hbm5 := hbm.chg hB4.ch (Blk.neT hbm hb4.rd.bk (by decide))
    have hA5 := OE.chg hA4 hcg fun ad e hk => Own.ne_blk hA4 hR4.rd.bk (by decide) ad e hk
    clear hb4 hB4 hbm hgW hR4
    go_wp2_with fail
    rw [← hW4, ← hW5, hg6.out]
    clear hW4 hW5 hc2' hf2' hg6
    refine (inumber_any g B n c l _ _ W5 hR5.rd (by omega)).mono ?_
    rintro e w6 ⟨y, hy, rfl, q6, b6, hT6⟩
    have hR6 := hR5.trans hT6
    have hbr6 := hbr5.chg hT6.ch (by omega)
    have hbm6 := hbm5.chg hT6.ch (Blk.neT hbm5 hR5.rd.bk (by decide))
    have hA6 := OE.chg hA5 hT6.ch fun ad e hk => Own.ne_blk hA5 hR5.rd.bk (by decide) ad e hk
    have hc2 := hR6.rd.bk.cell 2
    have hf2 := hR6.rd.bk.frozen 2
    simp only [List.getElem?_toArray, List.getElem?_cons_succ, List.getElem?_cons_zero] at hc2
    clear hT6 hA5 hbr5 hbm5 hR5 hA4 hbr4
    cases b6
    · by_cases hy1 : y ≤ 1
      · have hbi : decide ((1 : Int) < (y : Int)) = false := decide_eq_false (by omega)
        have hB6 := hR6.rd.bad false
        obtain ⟨w7, hw7⟩ : ∃ w7, w7 = w6.setCell ⟨g, 2, none⟩ (.bool false) := ⟨_, rfl⟩
        rw [← hw7] at hB6
        have hR7 := hR6.trans hB6
        have hbr7 := hbr6.chg hB6.ch (by omega)
        have hbm7 := hbm6.chg hB6.ch (Blk.neT hbm6 hR6.rd.bk (by decide))
        have hA7 := OE.chg hA6 hB6.ch fun ad e hk => Own.ne_blk hA6 hR6.rd.bk (by decide) ad e hk
        clear hB6 hR6 hA6 hbr6 hbm6
        go_wp2_with fail
        rw [← hw7]
        clear hw7 hc2 hf2
        obtain ⟨mk, hbe⟩ : ∃ mk, ((y : Int) == 1) = mk := ⟨_, rfl⟩
        have m0 := hbm7.cell 0
        have m1 := hbm7.cell 1
        have m2 := hbm7.cell 2
        have m3 := hbm7.cell 3
        have m4 := hbm7.cell 4
        have m5 := hbm7.cell 5
        have m6 := hbm7.cell 6
        simp only [List.getElem?_toArray, List.getElem?_cons_succ, List.getElem?_cons_zero] at m0 m1 m2 m3 m4 m5 m6
        have hcs : CellsIn [g6] w7 := cellsIn_one hbm7
        have hng : ∀ k', k' ∈ [g6] → ¬ k' = g := fun k' hk' => by
          simp only [List.mem_cons, List.not_mem_nil, or_false] at hk'
          subst hk'
          exact Blk.neT hbm7 hR7.rd.bk (by decide)
        refine wp_region_textS [(22, 1)] [g6] (by kernel_rfl) (by kernel_rfl) hcs ?_
        simp only [wpU, tagOf, chk, look, Nat.reduceBEq, if_true, if_false, Nat.reduceEqDiff, List.cons_append, List.nil_append]
        intro K hK
        go_wp2_with fail
        refine OnlyN.normal (hK _ _ (fun _ => ⟨_, _, _, rfl, rfl, by simp⟩) ?_)
        clear hK K
        intro K hK
        go_wp2_with fail
        refine (isigned_any g B n c l _ _ _ (hR7.rd.grew (Chg.refl _ w7).drew) (by omega)).mono ?_
        rintro e w8 ⟨tm, htm, rfl, q8, b8, hT8⟩
        have hT8' : RiC w7 w8 g B n c l q8 b8 := RiC.ahead (Chg.refl _ w7).drew hT8
        go_wp2_with fail
        refine OnlyN.normal (hK _ _ (sameIn_of hT8'.ch hcs hng) ?_)
        clear hK K
        have hbr8 := hbr7.chg hT8'.ch (by omega)
        have hR8 := hR7.trans hT8'
        have hA8 := OE.chg hA7 hT8'.ch fun ad e hk => Own.ne_blk hA7 hR7.rd.bk (by decide) ad e hk
        have r0 := hbr8.cell 0
        have f0 := hbr8.frozen 0
        have r1 := hbr8.cell 1
        have f1 := hbr8.frozen 1
        have r2 := hbr8.cell 2
        have f2 := hbr8.frozen 2
        have r3 := hbr8.cell 3
        have f3 := hbr8.frozen 3
        have r4 := hbr8.cell 4
        have f4 := hbr8.frozen 4
        have r5 := hbr8.cell 5
        have f5 := hbr8.frozen 5
        have r6 := hbr8.cell 6
        have f6 := hbr8.frozen 6
        have r7 := hbr8.cell 7
        have f7 := hbr8.frozen 7
        have r8 := hbr8.cell 8
        have f8 := hbr8.frozen 8
        simp only [List.getElem?_toArray, List.getElem?_cons_succ, List.getElem?_cons_zero] at r0 r1 r2 r3 r4 r5 r6 r7 r8
        obtain ⟨hb9, hc9⟩ := put9 (a0 := .int .u64 (m.id : Int)) (a1 := .int .i64 m.lo) (a2 := .int .i64 m.hi) (a3 := .int .i64 m.lv) (a4 := .slice A4 pm d4) (a5 := .int .i64 m.sr) (a6 := .int .i64 m.pt) (a7 := .bool mk) (a8 := .int .i64 tm) hbr8
        have hng2 : ∀ k', k' ∈ [g6] → ¬ (k' = g ∨ k' = w.heap.size) := fun k' hk' => by
          simp only [List.mem_cons, List.not_mem_nil, or_false] at hk'
          subst hk'
          rintro (e | e)
          · exact Blk.neT hbm7 hR7.rd.bk (by decide) e
          · exact Blk.neT hbm7 hbr7 (by decide) e
        have hcA : Chg (fun k => k = g ∨ k = w.heap.size) w7 _ := (hT8'.ch.mono fun k _ e => Or.inl e).trans (hc9.mono fun k _ e => Or.inr e)
        have hRd9 : RiB _ g B n c l q8 b8 := ⟨hR8.rd.bk.chg hc9 (by omega), hR8.rd.rb.far hc9 (fun ad e h0 hk => by have := h.rb.lt ad e h0; omega), hR8.rd.ne⟩
        have hA9 := OE.chg hA8 hc9 fun ad e hk => Own.ne_blk hA8 hbr8 (by decide) ad e hk
        intro K hK
        go_wp2_with fail
        refine OnlyN.normal (hK _ _ (sameIn_of hcA hcs hng2) ?_)
        clear hK K
        refine OnlyN.normal ?_
        clear hcA hcs hng hng2 m0 m1 m2 m3 m4 m5 m6 r0 r1 r2 r3 r4 r5 r6 r7 r8 f0 f1 f2 f3 f4 f5 f6 f7 f8
        go_wp2
        refine bodyPost_ret (v := .agg #[.int .u64 (m.id : Int), .int .i64 m.lo, .int .i64 m.hi, .int .i64 m.lv, .slice A4 pm d4, .int .i64 m.sr, .int .i64 m.pt, .bool mk, .int .i64 tm]) ?_ rfl ⟨⟨m, mk, tm⟩, A4, d4, ⟨hmw, htm⟩, by rw [hpm'.out], by rw [hpm'.out]; exact Own.mono hA9 (by omega), q8, b8, hRd9, hR8.ch.step hc9 fun j hj e => by omega⟩
        have q0 := hb9.cell 0
        have q1 := hb9.cell 1
        have q2 := hb9.cell 2
        have q3 := hb9.cell 3
        have q4 := hb9.cell 4
        have q5 := hb9.cell 5
        have q6 := hb9.cell 6
        have q7 := hb9.cell 7
        have q8 := hb9.cell 8
        simp [results, Tryz.results72, go_sem, q0, q1, q2, q3, q4, q5, q6, q7, q8]
      · have hbi : decide ((1 : Int) < (y : Int)) = true := decide_eq_true (by omega)
        have hB6 := hR6.rd.bad true
        obtain ⟨w7, hw7⟩ : ∃ w7, w7 = w6.setCell ⟨g, 2, none⟩ (.bool true) := ⟨_, rfl⟩
        rw [← hw7] at hB6
        have hR7 := hR6.trans hB6
        have hbr7 := hbr6.chg hB6.ch (by omega)
        have hbm7 := hbm6.chg hB6.ch (Blk.neT hbm6 hR6.rd.bk (by decide))
        have hA7 := OE.chg hA6 hB6.ch fun ad e hk => Own.ne_blk hA6 hR6.rd.bk (by decide) ad e hk
        clear hB6 hR6 hA6 hbr6 hbm6
        go_wp2_with fail
        rw [← hw7]
        clear hw7 hc2 hf2
        obtain ⟨mk, hbe⟩ : ∃ mk, ((y : Int) == 1) = mk := ⟨_, rfl⟩
        have m0 := hbm7.cell 0
        have m1 := hbm7.cell 1
        have m2 := hbm7.cell 2
        have m3 := hbm7.cell 3
        have m4 := hbm7.cell 4
        have m5 := hbm7.cell 5
        have m6 := hbm7.cell 6
        simp only [List.getElem?_toArray, List.getElem?_cons_succ, List.getElem?_cons_zero] at m0 m1 m2 m3 m4 m5 m6
        have hcs : CellsIn [g6] w7 := cellsIn_one hbm7
        have hng : ∀ k', k' ∈ [g6] → ¬ k' = g := fun k' hk' => by
          simp only [List.mem_cons, List.not_mem_nil, or_false] at hk'
          subst hk'
          exact Blk.neT hbm7 hR7.rd.bk (by decide)
        refine wp_region_textS [(22, 1)] [g6] (by kernel_rfl) (by kernel_rfl) hcs ?_
        simp only [wpU, tagOf, chk, look, Nat.reduceBEq, if_true, if_false, Nat.reduceEqDiff, List.cons_append, List.nil_append]
        intro K hK
        go_wp2_with fail
        refine OnlyN.normal (hK _ _ (fun _ => ⟨_, _, _, rfl, rfl, by simp⟩) ?_)
        clear hK K
        intro K hK
        go_wp2_with fail
        refine (isigned_any g B n c l _ _ _ (hR7.rd.grew (Chg.refl _ w7).drew) (by omega)).mono ?_
        rintro e w8 ⟨tm, htm, rfl, q8, b8, hT8⟩
        have hT8' : RiC w7 w8 g B n c l q8 b8 := RiC.ahead (Chg.refl _ w7).drew hT8
        go_wp2_with fail
        refine OnlyN.normal (hK _ _ (sameIn_of hT8'.ch hcs hng) ?_)
        clear hK K
        have hbr8 := hbr7.chg hT8'.ch (by omega)
        have hR8 := hR7.trans hT8'
        have hA8 := OE.chg hA7 hT8'.ch fun ad e hk => Own.ne_blk hA7 hR7.rd.bk (by decide) ad e hk
        have r0 := hbr8.cell 0
        have f0 := hbr8.frozen 0
        have r1 := hbr8.cell 1
        have f1 := hbr8.frozen 1
        have r2 := hbr8.cell 2
        have f2 := hbr8.frozen 2
        have r3 := hbr8.cell 3
        have f3 := hbr8.frozen 3
        have r4 := hbr8.cell 4
        have f4 := hbr8.frozen 4
        have r5 := hbr8.cell 5
        have f5 := hbr8.frozen 5
        have r6 := hbr8.cell 6
        have f6 := hbr8.frozen 6
        have r7 := hbr8.cell 7
        have f7 := hbr8.frozen 7
        have r8 := hbr8.cell 8
        have f8 := hbr8.frozen 8
        simp only [List.getElem?_toArray, List.getElem?_cons_succ, List.getElem?_cons_zero] at r0 r1 r2 r3 r4 r5 r6 r7 r8
        obtain ⟨hb9, hc9⟩ := put9 (a0 := .int .u64 (m.id : Int)) (a1 := .int .i64 m.lo) (a2 := .int .i64 m.hi) (a3 := .int .i64 m.lv) (a4 := .slice A4 pm d4) (a5 := .int .i64 m.sr) (a6 := .int .i64 m.pt) (a7 := .bool mk) (a8 := .int .i64 tm) hbr8
        have hng2 : ∀ k', k' ∈ [g6] → ¬ (k' = g ∨ k' = w.heap.size) := fun k' hk' => by
          simp only [List.mem_cons, List.not_mem_nil, or_false] at hk'
          subst hk'
          rintro (e | e)
          · exact Blk.neT hbm7 hR7.rd.bk (by decide) e
          · exact Blk.neT hbm7 hbr7 (by decide) e
        have hcA : Chg (fun k => k = g ∨ k = w.heap.size) w7 _ := (hT8'.ch.mono fun k _ e => Or.inl e).trans (hc9.mono fun k _ e => Or.inr e)
        have hRd9 : RiB _ g B n c l q8 b8 := ⟨hR8.rd.bk.chg hc9 (by omega), hR8.rd.rb.far hc9 (fun ad e h0 hk => by have := h.rb.lt ad e h0; omega), hR8.rd.ne⟩
        have hA9 := OE.chg hA8 hc9 fun ad e hk => Own.ne_blk hA8 hbr8 (by decide) ad e hk
        intro K hK
        go_wp2_with fail
        refine OnlyN.normal (hK _ _ (sameIn_of hcA hcs hng2) ?_)
        clear hK K
        refine OnlyN.normal ?_
        clear hcA hcs hng hng2 m0 m1 m2 m3 m4 m5 m6 r0 r1 r2 r3 r4 r5 r6 r7 r8 f0 f1 f2 f3 f4 f5 f6 f7 f8
        go_wp2
        refine bodyPost_ret (v := .agg #[.int .u64 (m.id : Int), .int .i64 m.lo, .int .i64 m.hi, .int .i64 m.lv, .slice A4 pm d4, .int .i64 m.sr, .int .i64 m.pt, .bool mk, .int .i64 tm]) ?_ rfl ⟨⟨m, mk, tm⟩, A4, d4, ⟨hmw, htm⟩, by rw [hpm'.out], by rw [hpm'.out]; exact Own.mono hA9 (by omega), q8, b8, hRd9, hR8.ch.step hc9 fun j hj e => by omega⟩
        have q0 := hb9.cell 0
        have q1 := hb9.cell 1
        have q2 := hb9.cell 2
        have q3 := hb9.cell 3
        have q4 := hb9.cell 4
        have q5 := hb9.cell 5
        have q6 := hb9.cell 6
        have q7 := hb9.cell 7
        have q8 := hb9.cell 8
        simp [results, Tryz.results72, go_sem, q0, q1, q2, q3, q4, q5, q6, q7, q8]
    · skip
      have hB6 := hR6.rd.bad true
      obtain ⟨w7, hw7⟩ : ∃ w7, w7 = w6.setCell ⟨g, 2, none⟩ (.bool true) := ⟨_, rfl⟩
      rw [← hw7] at hB6
      have hR7 := hR6.trans hB6
      have hbr7 := hbr6.chg hB6.ch (by omega)
      have hbm7 := hbm6.chg hB6.ch (Blk.neT hbm6 hR6.rd.bk (by decide))
      have hA7 := OE.chg hA6 hB6.ch fun ad e hk => Own.ne_blk hA6 hR6.rd.bk (by decide) ad e hk
      clear hB6 hR6 hA6 hbr6 hbm6
      go_wp2_with fail
      rw [← hw7]
      clear hw7 hc2 hf2
      obtain ⟨mk, hbe⟩ : ∃ mk, ((y : Int) == 1) = mk := ⟨_, rfl⟩
      have m0 := hbm7.cell 0
      have m1 := hbm7.cell 1
      have m2 := hbm7.cell 2
      have m3 := hbm7.cell 3
      have m4 := hbm7.cell 4
      have m5 := hbm7.cell 5
      have m6 := hbm7.cell 6
      simp only [List.getElem?_toArray, List.getElem?_cons_succ, List.getElem?_cons_zero] at m0 m1 m2 m3 m4 m5 m6
      have hcs : CellsIn [g6] w7 := cellsIn_one hbm7
      have hng : ∀ k', k' ∈ [g6] → ¬ k' = g := fun k' hk' => by
        simp only [List.mem_cons, List.not_mem_nil, or_false] at hk'
        subst hk'
        exact Blk.neT hbm7 hR7.rd.bk (by decide)
      refine wp_region_textS [(22, 1)] [g6] (by kernel_rfl) (by kernel_rfl) hcs ?_
      simp only [wpU, tagOf, chk, look, Nat.reduceBEq, if_true, if_false, Nat.reduceEqDiff, List.cons_append, List.nil_append]
      intro K hK
      go_wp2_with fail
      refine OnlyN.normal (hK _ _ (fun _ => ⟨_, _, _, rfl, rfl, by simp⟩) ?_)
      clear hK K
      intro K hK
      go_wp2_with fail
      refine (isigned_any g B n c l _ _ _ (hR7.rd.grew (Chg.refl _ w7).drew) (by omega)).mono ?_
      rintro e w8 ⟨tm, htm, rfl, q8, b8, hT8⟩
      have hT8' : RiC w7 w8 g B n c l q8 b8 := RiC.ahead (Chg.refl _ w7).drew hT8
      go_wp2_with fail
      refine OnlyN.normal (hK _ _ (sameIn_of hT8'.ch hcs hng) ?_)
      clear hK K
      have hbr8 := hbr7.chg hT8'.ch (by omega)
      have hR8 := hR7.trans hT8'
      have hA8 := OE.chg hA7 hT8'.ch fun ad e hk => Own.ne_blk hA7 hR7.rd.bk (by decide) ad e hk
      have r0 := hbr8.cell 0
      have f0 := hbr8.frozen 0
      have r1 := hbr8.cell 1
      have f1 := hbr8.frozen 1
      have r2 := hbr8.cell 2
      have f2 := hbr8.frozen 2
      have r3 := hbr8.cell 3
      have f3 := hbr8.frozen 3
      have r4 := hbr8.cell 4
      have f4 := hbr8.frozen 4
      have r5 := hbr8.cell 5
      have f5 := hbr8.frozen 5
      have r6 := hbr8.cell 6
      have f6 := hbr8.frozen 6
      have r7 := hbr8.cell 7
      have f7 := hbr8.frozen 7
      have r8 := hbr8.cell 8
      have f8 := hbr8.frozen 8
      simp only [List.getElem?_toArray, List.getElem?_cons_succ, List.getElem?_cons_zero] at r0 r1 r2 r3 r4 r5 r6 r7 r8
      obtain ⟨hb9, hc9⟩ := put9 (a0 := .int .u64 (m.id : Int)) (a1 := .int .i64 m.lo) (a2 := .int .i64 m.hi) (a3 := .int .i64 m.lv) (a4 := .slice A4 pm d4) (a5 := .int .i64 m.sr) (a6 := .int .i64 m.pt) (a7 := .bool mk) (a8 := .int .i64 tm) hbr8
      have hng2 : ∀ k', k' ∈ [g6] → ¬ (k' = g ∨ k' = w.heap.size) := fun k' hk' => by
        simp only [List.mem_cons, List.not_mem_nil, or_false] at hk'
        subst hk'
        rintro (e | e)
        · exact Blk.neT hbm7 hR7.rd.bk (by decide) e
        · exact Blk.neT hbm7 hbr7 (by decide) e
      have hcA : Chg (fun k => k = g ∨ k = w.heap.size) w7 _ := (hT8'.ch.mono fun k _ e => Or.inl e).trans (hc9.mono fun k _ e => Or.inr e)
      have hRd9 : RiB _ g B n c l q8 b8 := ⟨hR8.rd.bk.chg hc9 (by omega), hR8.rd.rb.far hc9 (fun ad e h0 hk => by have := h.rb.lt ad e h0; omega), hR8.rd.ne⟩
      have hA9 := OE.chg hA8 hc9 fun ad e hk => Own.ne_blk hA8 hbr8 (by decide) ad e hk
      intro K hK
      go_wp2_with fail
      refine OnlyN.normal (hK _ _ (sameIn_of hcA hcs hng2) ?_)
      clear hK K
      refine OnlyN.normal ?_
      clear hcA hcs hng hng2 m0 m1 m2 m3 m4 m5 m6 r0 r1 r2 r3 r4 r5 r6 r7 r8 f0 f1 f2 f3 f4 f5 f6 f7 f8
      go_wp2
      refine bodyPost_ret (v := .agg #[.int .u64 (m.id : Int), .int .i64 m.lo, .int .i64 m.hi, .int .i64 m.lv, .slice A4 pm d4, .int .i64 m.sr, .int .i64 m.pt, .bool mk, .int .i64 tm]) ?_ rfl ⟨⟨m, mk, tm⟩, A4, d4, ⟨hmw, htm⟩, by rw [hpm'.out], by rw [hpm'.out]; exact Own.mono hA9 (by omega), q8, b8, hRd9, hR8.ch.step hc9 fun j hj e => by omega⟩
      have q0 := hb9.cell 0
      have q1 := hb9.cell 1
      have q2 := hb9.cell 2
      have q3 := hb9.cell 3
      have q4 := hb9.cell 4
      have q5 := hb9.cell 5
      have q6 := hb9.cell 6
      have q7 := hb9.cell 7
      have q8 := hb9.cell 8
      simp [results, Tryz.results72, go_sem, q0, q1, q2, q3, q4, q5, q6, q7, q8]
end Go.Proofs.YtjoaonppaokhhaaGreat

namespace Go.Proofs.YtjoaonppaokhhaaGreat
open Go.RowKit

/-- an index that is being read, whatever is wrong -/
structure DcB (w W : World) (gr gx : Nat) (B : Option Addr) (n c : Nat) (l : List UInt8) (q : Nat) (b : Bool) (v : Nat) (fl : Int) (P : Option Addr) (k d : Nat) (ms : List EnM) : Prop where
  rd : RiB W gr B n c l q b
  bx : Blk W gx 25 #[.int .u64 (v : Int), .int .i64 fl, .slice P k d]
  br : Blk W w.heap.size 25 #[.int .u64 0, .int .i64 0, .slice none 0 0]
  xo : NXo W w.heap.size P k d ms
  gw : Grew w W
  lo : w.heap.size < gr ∧ w.heap.size < gx
  bl : ∀ ad, B = some ad → 0 < n → ad.block < w.heap.size
theorem DcB.grew {w W W' : World} {gr gx : Nat} {B : Option Addr} {n c : Nat} {l : List UInt8} {q v : Nat} {b : Bool} {fl : Int} {P : Option Addr} {k d : Nat} {ms : List EnM} (h : DcB w W gr gx B n c l q b v fl P k d ms) (hg : Grew W W') : DcB w W' gr gx B n c l q b v fl P k d ms :=
  ⟨h.rd.grew hg, h.bx.grew hg, h.br.grew hg, h.xo.grew hg, h.gw.trans hg, h.lo, h.bl⟩
theorem DcB.to {w W W' : World} {gr gx : Nat} {B : Option Addr} {n c : Nat} {l : List UInt8} {q q2 v : Nat} {b b2 : Bool} {fl : Int} {P : Option Addr} {k d : Nat} {ms : List EnM} (h : DcB w W gr gx B n c l q b v fl P k d ms) (ht : RiC W W' gr B n c l q2 b2) : DcB w W' gr gx B n c l q2 b2 v fl P k d ms :=
  ⟨ht.rd, h.bx.chg ht.ch (Blk.neT h.bx h.rd.bk (by decide)), h.br.chg ht.ch (Blk.neT h.br h.rd.bk (by decide)), ⟨h.xo.row.chg ht.ch (fun ad e hk => Own.ne_blk h.xo.row h.rd.bk (by decide) ad e hk), fun m hm => OE.chg (h.xo.el m hm) ht.ch (fun ad e hk => Own.ne_blk (h.xo.el m hm) h.rd.bk (by decide) ad e hk)⟩,
    h.gw.step ht.ch fun j hj e => by have := h.lo.1; omega, h.lo, h.bl⟩
theorem DcB.app {w W W' : World} {gr gx : Nat} {B : Option Addr} {n c : Nat} {l : List UInt8} {q v : Nat} {b : Bool} {fl : Int} {P P' : Option Addr} {k d d' : Nat} {ms : List EnM} {m : EnM} (h : DcB w W gr gx B n c l q b v fl P k d ms) (hm : NxE W w.heap.size m) (ha : ApE elEn W w.heap.size 51 P (k + 1) d (ms ++ [m]) P' d' W') :
    Blk W' gx 25 #[.int .u64 (v : Int), .int .i64 fl, .slice P k d] ∧ DcB w (W'.setCell ⟨gx, 2, none⟩ (.slice P' (k + 1) d')) gr gx B n c l q b v fl P' (k + 1) d' (ms ++ [m]) := by
  have bx := ha.ne_blk h.xo.row h.bx (by decide)
  have br := ha.ne_blk h.xo.row h.br (by decide)
  have bk := ha.ne_blk h.xo.row h.rd.bk (by decide)
  have xo := h.xo.app hm ha
  have g2 : Grew w W' := ha.grew h.gw (fun ad e => (Own.blk_lt h.xo.row ad e).1)
  have b3 := bx.set 2 (.slice P' (k + 1) d')
  simp only [List.setIfInBounds_toArray, List.set_cons_succ, List.set_cons_zero] at b3
  have hrb := h.rd.rb.far ha.chg (fun ad e h0 ⟨bd, e2, hk⟩ => by have := h.bl ad e h0; have := (Own.blk_lt h.xo.row bd e2).1; omega)
  refine ⟨bx, ⟨bk.far (Blk.neT bk bx (by decide)) _, hrb.far (Chg.cell1 W' gx 2 _) (fun ad e h0 hk => by have := h.bl ad e h0; have := h.lo.2; omega), h.rd.ne⟩, b3, br.far (by have := h.lo.2; show w.heap.size ≠ gx; omega) _, xo.farBlk bx (by decide) (by decide) 2 _, g2.setCell (p := ⟨gx, 2, none⟩) (.inl (by have := h.lo.2; show w.heap.size ≤ gx; omega)) _, h.lo, h.bl⟩

/-- an index written, if it may be, but never so -/
theorem enc_off (v : Nat) (fl : Int) (A : Option Addr) (k d : Nat) (es : List Ent) (l : List UInt8) (w : World) (h : RX w A k es) (hk : k ≤ 9223372036854775807) (hv : v < 18446744073709551616) (hw : ∀ e ∈ es, EntW e) (hno : ∀ v fl es, IxW v fl es → l ≠ encI v fl es) :
    Calls Tryz.prog 27 #[.agg #[.int .u64 (v : Int), .int .i64 fl, .slice A k d]] w fun e w' => ∃ (R : List UInt8) (z : Nat), EncP w R (z : Int) e w' ∧ ((z = 0 ∧ R ≠ l) ∨ z = 140) := by
  cases hck : chkI fl es
  · exact (encode_no v fl A k d es w h hk hck).mono fun e w' hE => ⟨[], 140, hE, .inr rfl⟩
  · have hok := (chkI_iff fl es).1 hck
    exact (encode_ok v fl A k d es w h hok hv hw).mono fun e w' hE => ⟨_, 0, hE, .inl ⟨rfl, fun e => hno v fl es ⟨hok, hv, hw⟩ e.symm⟩⟩
set_option maxRecDepth 100000 in
set_option maxHeartbeats 8000000 in
theorem decode_no (B : Option Addr) (n c : Nat) (l : List UInt8) (w : World) (hr : RB w B n l) (hn : n ≤ 140737488340000) (hc : n ≤ c ∧ c ≤ 9223372036854775807) (hno : ∀ v fl es, IxW v fl es → l ≠ encI v fl es) :
    Calls Tryz.prog 28 #[.slice B n c] w (IxR w 0 0 [] 140) := by
  replace hno := Lib.hid hno
  obtain ⟨W0, hW0⟩ : ∃ W0, W0 = (w.alloc (.cells #[.int .u64 0, .int .i64 0, .slice none 0 0] 25)).alloc (.cells #[.slice B n c, .int .i64 0, .bool false] 88) := ⟨_, rfl⟩
  have hg0 : Grew w W0 := by rw [hW0]; exact ((Chg.refl _ w).alloc _).alloc _
  have hbr : Blk W0 w.heap.size 25 #[.int .u64 0, .int .i64 0, .slice none 0 0] := by rw [hW0]; exact (Blk.new _ _ _).alloc _
  have hbk : Blk W0 (w.heap.size + 1) 88 #[.slice B n c, .int .i64 ((0 : Nat) : Int), .bool false] := by
    rw [hW0]
    have := Blk.new (w.alloc (.cells #[.int .u64 0, .int .i64 0, .slice none 0 0] 25)) 88 #[.slice B n c, .int .i64 0, .bool false]
    rwa [World.size_alloc] at this
  have hbl : ∀ ad, B = some ad → 0 < n → ad.block < w.heap.size := fun ad e h0 => hr.lt ad e h0
  have hR0 : RiB W0 (w.heap.size + 1) B n c l 0 false := ⟨hbk, hr.grew hg0, fun ad e h0 => by have := hbl ad e h0; omega⟩
  unfold IxR
  go_enter Tryz.func28, Tryz.ntmps28
  go_wp2_with fail
  rw [← hW0]
  clear hW0
  refine (inumber_any (w.heap.size + 1) B n c l 0 false W0 hR0 (by omega)).mono ?_
  rintro e w1 ⟨v, hv, rfl, q1, b1, hT1⟩
  go_wp2_with fail
  refine (isigned_any (w.heap.size + 1) B n c l q1 b1 w1 hT1.rd (by omega)).mono ?_
  rintro e w2 ⟨fl, hfl, rfl, q2, b2, hT2⟩
  have hT12 := hT1.trans hT2
  have hbr2 := hbr.chg hT12.ch (by omega)
  have g2 : Grew w w2 := hg0.step hT12.ch fun k hk e => by omega
  obtain ⟨W2, hW2⟩ : ∃ W2, W2 = w2.alloc (.cells #[.int .u64 (v : Int), .int .i64 fl, .slice none 0 0] 25) := ⟨_, rfl⟩
  have hgW : Grew w2 W2 := by rw [hW2]; exact (Chg.refl _ w2).alloc _
  obtain ⟨gx, hgx⟩ : ∃ gx, w2.heap.size = gx := ⟨_, rfl⟩
  have hbx : Blk W2 gx 25 #[.int .u64 (v : Int), .int .i64 fl, .slice none 0 0] := by rw [hW2, ← hgx]; exact Blk.new _ _ _
  have hs2 := hbr2.lt
  have hS : DcB w W2 (w.heap.size + 1) gx B n c l q2 b2 v fl none 0 0 [] := ⟨hT12.rd.grew hgW, hbx, hbr2.grew hgW, ⟨OE.nil _ _ _, fun m hm => by simp at hm⟩, g2.trans hgW, ⟨by omega, by omega⟩, hbl⟩
  obtain ⟨gr, hgr⟩ : ∃ gr, w.heap.size + 1 = gr := ⟨_, rfl⟩
  rw [hgr] at hS ⊢
  replace hgx := Lib.hid hgx
  replace hgr := Lib.hid hgr
  clear hT1 hT2 hT12 hR0 hbk hbr hbr2 hbx hgW hg0 g2
  go_wp2_with fail
  rw [← hW2, hgx.out]
  clear hW2 hgx
  refine (inumber_any gr B n c l q2 b2 W2 hS.rd (by omega)).mono ?_
  rintro e w3 ⟨N0, hN, rfl, q3, b3, hT3⟩
  have hS3 := hS.to hT3
  clear hS hT3
  go_wp2
  go_loopw [6] (fun s wr => ∃ (N q k : Nat) (b : Bool) (P : Option Addr) (d : Nat) (ms : List EnM), s = .int .u64 (N : Int) ∧ N < 18446744073709551616 ∧ k ≤ 257 ∧ DcB w wr gr gx B n c l q b v fl P k d ms ∧ Hid (∀ m ∈ ms, EntW m.e)) (fun s _ => (intOf s).toNat)
  case atStart => exact ⟨N0, q3, 0, b3, none, 0, [], rfl, hN, by omega, hS3, Lib.hid (fun x hx => by cases hx)⟩
  case round =>
    clear hS3 hN
    obtain ⟨N, q, k, b, P, d, ms, rfl, hN, hk, hS, hX⟩ := hrel
    have z2 := hS.rd.bk.cell 2
    have b2 := hS.bx.cell 2
    simp only [List.getElem?_toArray, List.getElem?_cons_succ, List.getElem?_cons_zero] at z2 b2
    have hcap := hS.xo.row.cap
    cases b
    · by_cases hN0 : 0 < N
      · obtain ⟨r, rfl⟩ : ∃ r, N = r + 1 := ⟨N - 1, by omega⟩
        by_cases hk2 : k ≤ 256
        · have hwq : IntKind.u64.wrap (r : Int) = (r : Int) := by rw [IntKind.wrap_u64]; omega
          have hk256 : (k : Int) ≤ 256 := by omega
          have hE := fun W (hW : Grew wr W) => ientry_any gr B n c l q false W (hS.rd.grew hW) hn hc
          unfold EnB at hE
          replace hE := Lib.hid hE
          go_wp2_with fail
          have hcs : CellsIn [gx] wr := cellsIn_one hS.bx
          have hng : ∀ k', k' ∈ [gx] → ¬ k' = gr := fun k' hk' => by
            simp only [List.mem_cons, List.not_mem_nil, or_false] at hk'
            subst hk'
            exact Blk.neT hS.bx hS.rd.bk (by decide)
          refine wp_region_textL [] [gx] (by kernel_rfl) (by kernel_rfl) hcs ?_
          simp only [wpUL, tagOf, chk, List.cons_append, List.nil_append]
          intro K hK
          go_wp2_with fail
          refine OnlyN.normal (hK _ _ (fun _ => ⟨_, _, _, rfl, rfl, by simp⟩) ?_)
          clear hK K
          intro K hK
          go_wp2_with fail
          refine (hE.out _ (Chg.refl _ wr).drew).mono ?_
          rintro e4 w4 ⟨e, A4, d4, heW, rfl, hA4, q4, b4, hT4⟩
          have hT4' : RiC wr w4 gr B n c l q4 b4 := RiC.ahead (Chg.refl _ wr).drew hT4
          have hS4 := hS.to hT4'
          have hsz4 := hS4.gw.size
          have hxE : NxE w4 w.heap.size ⟨e, A4, e.m.src.length, d4⟩ := Own.mono hA4 (by have := hS.gw.size; simpa using this)
          go_wp2_with fail
          refine OnlyN.normal (hK _ _ (sameIn_of hT4'.ch hcs hng) ?_)
          clear hK K hE
          obtain ⟨w5, hw5⟩ : ∃ w5, w5 = w4.alloc (.cells #[.int .u64 (e.m.id : Int), .int .i64 e.m.lo, .int .i64 e.m.hi, .int .i64 e.m.lv, .slice A4 e.m.src.length d4, .int .i64 e.m.sr, .int .i64 e.m.pt, .bool e.mkd, .int .i64 e.tm] 51) := ⟨_, rfl⟩
          have hg5 : Grew w4 w5 := by rw [hw5]; exact (Chg.refl _ w4).alloc _
          have hsrc : RE elEn w5 (some ⟨w4.heap.size, 0, none⟩) 1 [⟨e, A4, e.m.src.length, d4⟩] := by rw [hw5]; exact RE.newAt rfl rfl rfl
          have hS5 := hS4.grew hg5
          have hx5 : NxE w5 w.heap.size ⟨e, A4, e.m.src.length, d4⟩ := NxE.grew hxE hg5
          have hs5 := hS5.gw.size
          intro K hK
          go_wp2_with fail
          rw [← hw5]
          refine OnlyN.normal (hK _ _ (sameIn_of (hT4'.ch.trans (Chg.of_grew hg5)) hcs hng) ?_)
          clear hK K hw5
          intro K hK
          go_wp2_with (at_builtin; go_loud (refine wpList_appE rfl _ _ 23 51 infoEn rfl Tryz.underlying23 rfl w.heap.size P k d ms rfl hS5.xo.row hs5 _ 1 1 [⟨e, A4, e.m.src.length, d4⟩] rfl hsrc (by unfold maxLen; omega) (by omega) ?_); intro P6 d6 w6 h6)
          obtain ⟨bx6, hS6⟩ := hS5.app hx5 h6
          have hng2 : ∀ k', k' ∈ [gx] → ¬ (k' = gr ∨ ∃ ad, P = some ad ∧ k' = ad.block) := fun k' hk' => by
            rintro (e | ⟨ad, e, hk⟩)
            · exact hng k' hk' e
            · simp only [List.mem_cons, List.not_mem_nil, or_false] at hk'
              subst hk'
              exact Own.ne_blk hS.xo.row hS.bx (by decide) ad e hk.symm
          refine OnlyN.normal (hK _ _ (sameIn_of (((hT4'.ch.mono fun k _ e => Or.inl e).trans (Chg.of_grew hg5)).trans (h6.chg.mono fun k _ e => Or.inr e)) hcs hng2) ?_)
          clear hK K
          have k2 := bx6.cell 2
          have kf := bx6.frozen 2
          simp only [List.getElem?_toArray, List.getElem?_cons_succ, List.getElem?_cons_zero] at k2
          have hX6 : Hid (∀ m ∈ ms ++ [(⟨e, A4, e.m.src.length, d4⟩ : EnM)], EntW m.e) := Lib.hid (fun m' hm' => by
            rcases List.mem_append.1 hm' with hm' | hm'
            · exact hX.out m' hm'
            · rcases List.mem_singleton.1 hm' with rfl
              exact heW)
          go_wp2_with fail
          refine OnlyN.normal ?_
          clear hcs hng hng2 h6 hsrc hS5 hS4 hT4 hT4' hS z2 b2 bx6 k2 kf hx5 hxE hA4 heW
          go_wp2
          go_roundw
          case rel => exact ⟨r, q4, k + 1, b4, P6, d6, _, by go_num, by omega, by omega, hS6, hX6⟩
          case measure => simp [intOf]
        · have hk257 : (k : Int) = 257 := by omega
          have b0 := hS.bx.cell 0
          have b1 := hS.bx.cell 1
          simp only [List.getElem?_toArray, List.getElem?_cons_succ, List.getElem?_cons_zero] at b0 b1
          have hE := fun W (hW : Grew wr W) => enc_off v fl P k d (ms.map EnM.e) l W (hS.xo.nx.rx.grew hW) (by omega) hv (fun e he => by
            obtain ⟨m, hm, rfl⟩ := List.mem_map.1 he
            exact hX.out m hm) hno.out
          unfold EncP at hE
          replace hE := Lib.hid hE
          go_wp2_with fail
          refine (hE.out _ (Chg.refl _ _)).mono ?_
          rintro e w5 ⟨R, z, ⟨A5, c5, rfl, ho5, hg5⟩, hz⟩
          clear hE
          have hS5 := hS.grew hg5
          have z2' := hS5.rd.bk.cell 2
          simp only [List.getElem?_toArray, List.getElem?_cons_succ, List.getElem?_cons_zero] at z2'
          obtain ⟨nR, hnR⟩ : ∃ m, R.length = m := ⟨_, rfl⟩
          rw [hnR] at ho5 ⊢
          clear hnR
          clear z2 b2 b0 b1
          rcases hz with ⟨rfl, hne⟩ | rfl
          · have hne2 : (R == l) = false := by simpa using hne
            clear hne
            go_wp2_with fail
            refine (bytesEqual_any A5 B _ n c5 c R l w5 ho5.rb hS5.rd.rb).mono ?_
            rintro e w6 ⟨rfl, rfl⟩
            rw [hne2]
            have r0 := hS5.br.cell 0
            have r1 := hS5.br.cell 1
            have r2 := hS5.br.cell 2
            have f0 := hS5.br.frozen 0
            have f1 := hS5.br.frozen 1
            have f2 := hS5.br.frozen 2
            simp only [List.getElem?_toArray, List.getElem?_cons_succ, List.getElem?_cons_zero] at r0 r1 r2
            clear z2'
            have q := hS5.br.put3 (.int .u64 0) (.int .i64 0) (.slice none 0 0)
            go_wp2
            refine bodyPost_ret (v := .tuple #[.agg #[.int .u64 0, .int .i64 0, .slice none 0 0], .int .i64 140]) ?_ rfl ⟨none, 0, rfl, NX.nil _ _, hS5.gw.far3 (Nat.le_refl _) _ _ _⟩
            have q0 := q.cell 0
            have q1 := q.cell 1
            have q2 := q.cell 2
            simp [results, Tryz.results28, go_sem, q0, q1, q2]
          · skip
            have r0 := hS5.br.cell 0
            have r1 := hS5.br.cell 1
            have r2 := hS5.br.cell 2
            have f0 := hS5.br.frozen 0
            have f1 := hS5.br.frozen 1
            have f2 := hS5.br.frozen 2
            simp only [List.getElem?_toArray, List.getElem?_cons_succ, List.getElem?_cons_zero] at r0 r1 r2
            have q := hS5.br.put3 (.int .u64 0) (.int .i64 0) (.slice none 0 0)
            go_wp2
            refine bodyPost_ret (v := .tuple #[.agg #[.int .u64 0, .int .i64 0, .slice none 0 0], .int .i64 140]) ?_ rfl ⟨none, 0, rfl, NX.nil _ _, hS5.gw.far3 (Nat.le_refl _) _ _ _⟩
            have q0 := q.cell 0
            have q1 := q.cell 1
            have q2 := q.cell 2
            simp [results, Tryz.results28, go_sem, q0, q1, q2]
      · obtain rfl : N = 0 := by omega
        have b0 := hS.bx.cell 0
        have b1 := hS.bx.cell 1
        simp only [List.getElem?_toArray, List.getElem?_cons_succ, List.getElem?_cons_zero] at b0 b1
        have hE := fun W (hW : Grew wr W) => enc_off v fl P k d (ms.map EnM.e) l W (hS.xo.nx.rx.grew hW) (by omega) hv (fun e he => by
          obtain ⟨m, hm, rfl⟩ := List.mem_map.1 he
          exact hX.out m hm) hno.out
        unfold EncP at hE
        replace hE := Lib.hid hE
        go_wp2_with fail
        refine (hE.out _ (Chg.refl _ _)).mono ?_
        rintro e w5 ⟨R, z, ⟨A5, c5, rfl, ho5, hg5⟩, hz⟩
        clear hE
        have hS5 := hS.grew hg5
        have z2' := hS5.rd.bk.cell 2
        simp only [List.getElem?_toArray, List.getElem?_cons_succ, List.getElem?_cons_zero] at z2'
        obtain ⟨nR, hnR⟩ : ∃ m, R.length = m := ⟨_, rfl⟩
        rw [hnR] at ho5 ⊢
        clear hnR
        clear z2 b2 b0 b1
        rcases hz with ⟨rfl, hne⟩ | rfl
        · have hne2 : (R == l) = false := by simpa using hne
          clear hne
          go_wp2_with fail
          refine (bytesEqual_any A5 B _ n c5 c R l w5 ho5.rb hS5.rd.rb).mono ?_
          rintro e w6 ⟨rfl, rfl⟩
          rw [hne2]
          have r0 := hS5.br.cell 0
          have r1 := hS5.br.cell 1
          have r2 := hS5.br.cell 2
          have f0 := hS5.br.frozen 0
          have f1 := hS5.br.frozen 1
          have f2 := hS5.br.frozen 2
          simp only [List.getElem?_toArray, List.getElem?_cons_succ, List.getElem?_cons_zero] at r0 r1 r2
          clear z2'
          have q := hS5.br.put3 (.int .u64 0) (.int .i64 0) (.slice none 0 0)
          go_wp2
          refine bodyPost_ret (v := .tuple #[.agg #[.int .u64 0, .int .i64 0, .slice none 0 0], .int .i64 140]) ?_ rfl ⟨none, 0, rfl, NX.nil _ _, hS5.gw.far3 (Nat.le_refl _) _ _ _⟩
          have q0 := q.cell 0
          have q1 := q.cell 1
          have q2 := q.cell 2
          simp [results, Tryz.results28, go_sem, q0, q1, q2]
        · skip
          have r0 := hS5.br.cell 0
          have r1 := hS5.br.cell 1
          have r2 := hS5.br.cell 2
          have f0 := hS5.br.frozen 0
          have f1 := hS5.br.frozen 1
          have f2 := hS5.br.frozen 2
          simp only [List.getElem?_toArray, List.getElem?_cons_succ, List.getElem?_cons_zero] at r0 r1 r2
          have q := hS5.br.put3 (.int .u64 0) (.int .i64 0) (.slice none 0 0)
          go_wp2
          refine bodyPost_ret (v := .tuple #[.agg #[.int .u64 0, .int .i64 0, .slice none 0 0], .int .i64 140]) ?_ rfl ⟨none, 0, rfl, NX.nil _ _, hS5.gw.far3 (Nat.le_refl _) _ _ _⟩
          have q0 := q.cell 0
          have q1 := q.cell 1
          have q2 := q.cell 2
          simp [results, Tryz.results28, go_sem, q0, q1, q2]
    · by_cases hN0 : 0 < N
      · skip
        have b0 := hS.bx.cell 0
        have b1 := hS.bx.cell 1
        simp only [List.getElem?_toArray, List.getElem?_cons_succ, List.getElem?_cons_zero] at b0 b1
        have hE := fun W (hW : Grew wr W) => enc_off v fl P k d (ms.map EnM.e) l W (hS.xo.nx.rx.grew hW) (by omega) hv (fun e he => by
          obtain ⟨m, hm, rfl⟩ := List.mem_map.1 he
          exact hX.out m hm) hno.out
        unfold EncP at hE
        replace hE := Lib.hid hE
        go_wp2_with fail
        refine (hE.out _ (Chg.refl _ _)).mono ?_
        rintro e w5 ⟨R, z, ⟨A5, c5, rfl, ho5, hg5⟩, hz⟩
        clear hE
        have hS5 := hS.grew hg5
        have z2' := hS5.rd.bk.cell 2
        simp only [List.getElem?_toArray, List.getElem?_cons_succ, List.getElem?_cons_zero] at z2'
        obtain ⟨nR, hnR⟩ : ∃ m, R.length = m := ⟨_, rfl⟩
        rw [hnR] at ho5 ⊢
        clear hnR
        clear z2 b2 b0 b1
        clear ho5 hz
        have r0 := hS5.br.cell 0
        have r1 := hS5.br.cell 1
        have r2 := hS5.br.cell 2
        have f0 := hS5.br.frozen 0
        have f1 := hS5.br.frozen 1
        have f2 := hS5.br.frozen 2
        simp only [List.getElem?_toArray, List.getElem?_cons_succ, List.getElem?_cons_zero] at r0 r1 r2
        have q := hS5.br.put3 (.int .u64 0) (.int .i64 0) (.slice none 0 0)
        go_wp2
        refine bodyPost_ret (v := .tuple #[.agg #[.int .u64 0, .int .i64 0, .slice none 0 0], .int .i64 140]) ?_ rfl ⟨none, 0, rfl, NX.nil _ _, hS5.gw.far3 (Nat.le_refl _) _ _ _⟩
        have q0 := q.cell 0
        have q1 := q.cell 1
        have q2 := q.cell 2
        simp [results, Tryz.results28, go_sem, q0, q1, q2]
      · obtain rfl : N = 0 := by omega
        have b0 := hS.bx.cell 0
        have b1 := hS.bx.cell 1
        simp only [List.getElem?_toArray, List.getElem?_cons_succ, List.getElem?_cons_zero] at b0 b1
        have hE := fun W (hW : Grew wr W) => enc_off v fl P k d (ms.map EnM.e) l W (hS.xo.nx.rx.grew hW) (by omega) hv (fun e he => by
          obtain ⟨m, hm, rfl⟩ := List.mem_map.1 he
          exact hX.out m hm) hno.out
        unfold EncP at hE
        replace hE := Lib.hid hE
        go_wp2_with fail
        refine (hE.out _ (Chg.refl _ _)).mono ?_
        rintro e w5 ⟨R, z, ⟨A5, c5, rfl, ho5, hg5⟩, hz⟩
        clear hE
        have hS5 := hS.grew hg5
        have z2' := hS5.rd.bk.cell 2
        simp only [List.getElem?_toArray, List.getElem?_cons_succ, List.getElem?_cons_zero] at z2'
        obtain ⟨nR, hnR⟩ : ∃ m, R.length = m := ⟨_, rfl⟩
        rw [hnR] at ho5 ⊢
        clear hnR
        clear z2 b2 b0 b1
        clear ho5 hz
        have r0 := hS5.br.cell 0
        have r1 := hS5.br.cell 1
        have r2 := hS5.br.cell 2
        have f0 := hS5.br.frozen 0
        have f1 := hS5.br.frozen 1
        have f2 := hS5.br.frozen 2
        simp only [List.getElem?_toArray, List.getElem?_cons_succ, List.getElem?_cons_zero] at r0 r1 r2
        have q := hS5.br.put3 (.int .u64 0) (.int .i64 0) (.slice none 0 0)
        go_wp2
        refine bodyPost_ret (v := .tuple #[.agg #[.int .u64 0, .int .i64 0, .slice none 0 0], .int .i64 140]) ?_ rfl ⟨none, 0, rfl, NX.nil _ _, hS5.gw.far3 (Nat.le_refl _) _ _ _⟩
        have q0 := q.cell 0
        have q1 := q.cell 1
        have q2 := q.cell 2
        simp [results, Tryz.results28, go_sem, q0, q1, q2]
end Go.Proofs.YtjoaonppaokhhaaGreat

namespace Go.Proofs.YtjoaonppaokhhaaGreat
open Go.RowKit

theorem entB_cancel {e f : Ent} (he : metOk e.m = true ∧ EntW e) (hf : metOk f.m = true ∧ EntW f) {x y : List UInt8} (h : entB e ++ x = entB f ++ y) : e = f ∧ x = y := by
  unfold entB at h
  simp only [List.append_assoc] at h
  have l1 := encM_len he.1 he.2.m
  have l2 := encM_len hf.1 hf.2.m
  obtain ⟨h1, h2⟩ := uv_cancel (by omega) (by omega) h
  obtain ⟨h3, h4⟩ := List.append_inj h2 h1
  obtain ⟨h5, h6⟩ := uv_cancel (bitN_lt _) (bitN_lt _) h4
  obtain ⟨h7, h8⟩ := uv_cancel (zz_lt he.2.tm.1 he.2.tm.2) (zz_lt hf.2.tm.1 hf.2.tm.2) h6
  have m1 := encM_inj he.1 he.2.m hf.1 hf.2.m h3
  have b1 : e.mkd = f.mkd := by rw [← bitN_one (b := e.mkd), h5, bitN_one]
  have t1 : e.tm = f.tm := by rw [← uz_zz e.tm, h7, uz_zz]
  refine ⟨?_, h8⟩
  cases e
  cases f
  simp only at m1 b1 t1
  rw [m1, b1, t1]
theorem ents_cancel : ∀ {es fs : List Ent} {x y : List UInt8}, es.length = fs.length → (∀ e ∈ es, metOk e.m = true ∧ EntW e) → (∀ e ∈ fs, metOk e.m = true ∧ EntW e) → es.flatMap entB ++ x = fs.flatMap entB ++ y → es = fs
  | [], [], _, _, _, _, _, _ => rfl
  | a :: es, b :: fs, x, y, hl, ha, hb, h => by
    rw [List.flatMap_cons, List.flatMap_cons, List.append_assoc, List.append_assoc] at h
    obtain ⟨rfl, h2⟩ := entB_cancel (ha a List.mem_cons_self) (hb b List.mem_cons_self) h
    rw [ents_cancel (by simpa using hl) (fun z hz => ha z (List.mem_cons_of_mem _ hz)) (fun z hz => hb z (List.mem_cons_of_mem _ hz)) h2]
  | [], _ :: _, _, _, hl, _, _, _ => by simp at hl
  | _ :: _, [], _, _, hl, _, _, _ => by simp at hl
theorem encI_inj {v v' : Nat} {fl fl' : Int} {es es' : List Ent} (h : IxW v fl es) (h' : IxW v' fl' es') (e : encI v fl es = encI v' fl' es') : v = v' ∧ fl = fl' ∧ es = es' := by
  have e1 : bodyI v fl es ++ four (crc (bodyI v fl es)) = bodyI v' fl' es' ++ four (crc (bodyI v' fl' es')) := e
  generalize four (crc (bodyI v fl es)) = x at e1
  generalize four (crc (bodyI v' fl' es')) = y at e1
  unfold bodyI at e1
  simp only [List.append_assoc] at e1
  have hl := h.ok.len
  have hl' := h'.ok.len
  have a1 := h.ok.lo
  have a2 := h.ok.hi
  have a3 := h'.ok.lo
  have a4 := h'.ok.hi
  obtain ⟨h1, h2⟩ := uv_cancel h.v h'.v e1
  obtain ⟨h3, h4⟩ := uv_cancel (zz_lt (by omega) (by omega)) (zz_lt (by omega) (by omega)) h2
  obtain ⟨h5, h6⟩ := uv_cancel (by omega) (by omega) h4
  exact ⟨h1, by rw [← uz_zz fl, h3, uz_zz], ents_cancel h5 (fun e he => ⟨(h.ok.el e he).1, h.w e he⟩) (fun e he => ⟨(h'.ok.el e he).1, h'.w e he⟩) h6⟩
theorem ents_len : ∀ {es : List Ent}, (∀ e ∈ es, metOk e.m = true ∧ EntW e) → (es.flatMap entB).length ≤ 790 * es.length
  | [], _ => by simp
  | a :: es, h => by
    rw [List.flatMap_cons, List.length_append, List.length_cons]
    have h1 := entB_len (h a List.mem_cons_self).1 (h a List.mem_cons_self).2
    have h2 := ents_len fun z hz => h z (List.mem_cons_of_mem _ hz)
    omega
theorem encI_len {v : Nat} {fl : Int} {es : List Ent} (h : IxW v fl es) : (encI v fl es).length ≤ 300000 := by
  unfold encI
  rw [sealB_len]
  unfold bodyI
  simp only [List.length_append]
  have a1 := h.ok.lo
  have a2 := h.ok.hi
  have hl := h.ok.len
  have h1 := uv_len10 h.v
  have h2 := uv_len10 (v := zz fl) (zz_lt (by omega) (by omega))
  have h3 := uv_len10 (v := es.length) (by omega)
  have h4 := ents_len fun e he => ⟨(h.ok.el e he).1, h.w e he⟩
  omega

theorem enc_two (v : Nat) (fl : Int) (es : List Ent) (hv : v < 18446744073709551616) (hw : ∀ e ∈ es, EntW e) (hn : es.length ≤ 9223372036854775807) : ∃ (R : List UInt8) (z : Int), ((z = 0 ∧ R = encI v fl es ∧ IxW v fl es) ∨ z = 140) ∧ R.length ≤ 300000 ∧
    (∀ A n c w, RX w A n es → Calls Tryz.prog 27 #[.agg #[.int .u64 (v : Int), .int .i64 fl, .slice A n c]] w (EncP w R z)) ∧
    (∀ A n c w, RX w A n es → Calls Tryz.prog 24 #[.agg #[.int .u64 (v : Int), .int .i64 fl, .slice A n c]] w (EncP w R z)) := by
  have hnn : ∀ {w : World} {A : Option Addr} {n : Nat}, RX w A n es → n ≤ 9223372036854775807 := fun h => by rw [← h.len]; exact hn
  cases hck : chkI fl es
  · exact ⟨[], 140, .inr rfl, by simp, fun A n c w h => encode_no v fl A n c es w h (hnn h) hck, fun A n c w h => rencode_no v fl A n c es w h (hnn h) hck⟩
  · have hok := (chkI_iff fl es).1 hck
    exact ⟨encI v fl es, 0, .inl ⟨rfl, rfl, hok, hv, hw⟩, encI_len ⟨hok, hv, hw⟩, fun A n c w h => encode_ok v fl A n c es w h hok hv hw, fun A n c w h => rencode_ok v fl A n c es w h hok hv hw⟩

theorem dec_two (l : List UInt8) (hl : l.length ≤ 1048576) : ∃ (v : Nat) (fl : Int) (es : List Ent) (z : Int), es.length ≤ 256 ∧
    (∀ B n c w, RB w B n l → n ≤ c ∧ c ≤ 9223372036854775807 → Calls Tryz.prog 28 #[.slice B n c] w (IxR w v fl es z)) ∧
    (∀ B n c w, RB w B n l → n ≤ c ∧ c ≤ 9223372036854775807 → Calls Tryz.prog 25 #[.slice B n c] w (IxR w v fl es z)) := by
  have hnn : ∀ {w : World} {B : Option Addr} {n : Nat}, RB w B n l → n ≤ 1048576 := fun h => by rw [← h.1]; exact hl
  by_cases h : ∃ v fl es, IxW v fl es ∧ l = encI v fl es
  · obtain ⟨v, fl, es, h1, h2⟩ := h
    refine ⟨v, fl, es, 0, h1.ok.len, fun B n c w hr hc => ?_, fun B n c w hr hc => ?_⟩
    · have hn := hnn hr
      rw [h2] at hr
      exact decode_ok v fl es B n c w h1.ok h1.v h1.w hr (by omega) hc
    · have hn := hnn hr
      refine (rdecodeI_any w B n c l hr hc (by omega)).mono fun e w' hd => ?_
      rcases hd with ⟨v', fl', es', k1, k2, k3⟩ | ⟨k1, _⟩
      · obtain ⟨rfl, rfl, rfl⟩ := encI_inj h1 k1 (h2.symm.trans k2)
        exact k3
      · exact absurd h2 (k1 v fl es h1)
  · have hno : ∀ v fl es, IxW v fl es → l ≠ encI v fl es := fun v fl es h1 h2 => h ⟨v, fl, es, h1, h2⟩
    refine ⟨0, 0, [], 140, by simp, fun B n c w hr hc => decode_no B n c l w hr (by have := hnn hr; omega) hc hno, fun B n c w hr hc => ?_⟩
    have hn := hnn hr
    refine (rdecodeI_any w B n c l hr hc (by omega)).mono fun e w' hd => ?_
    rcases hd with ⟨v', fl', es', k1, k2, _⟩ | ⟨_, k3⟩
    · exact absurd k2 (hno _ _ _ k1)
    · exact k3
end Go.Proofs.YtjoaonppaokhhaaGreat

namespace Go.Proofs.YtjoaonppaokhhaaGreat
open Go.RowKit

set_option maxRecDepth 100000 in
set_option maxHeartbeats 16000000 in
theorem walk_indexBytes (v : Nat) (fl : Int) (A : Option Addr) (n c : Nat) (es : List Ent) (B : Option Addr) (p d : Nat) (l : List UInt8) (w : World) (hv : v < 18446744073709551616) (hw : ∀ e ∈ es, EntW e) (h : RX w A n es) (hf : Fit es) (hb : RB w B p l) (hcp : p ≤ d ∧ d ≤ 9223372036854775807) (hp : p ≤ 1048576) :
    Calls Tryz.prog 4 #[.agg #[.int .u64 (v : Int), .int .i64 fl, .slice A n c], .slice B p d] w
      fun e w' => e = .returned (.bool true) ∧ Grew w w' := by
  have hln : es.length = n := h.len
  have hfn := hf.n
  have hn : n ≤ 9223372036854775807 := by omega
  obtain ⟨R, z, hz, hRl, ce, ke⟩ := enc_two v fl es hv hw (by omega)
  have hRI : Hid (z = 0 → R = encI v fl es ∧ IxW v fl es) := Lib.hid (fun e => by
    rcases hz with ⟨_, h1, h2⟩ | h1
    · exact ⟨h1, h2⟩
    · omega)
  have hz' : z = 0 ∨ z = 140 := by
    rcases hz with ⟨h1, _, _⟩ | h1
    · exact .inl h1
    · exact .inr h1
  clear hz
  unfold EncP at ce ke
  obtain ⟨nR, hnR⟩ : ∃ m, R.length = m := ⟨_, rfl⟩
  rw [hnR] at ce ke hRl
  replace hnR := Lib.hid hnR
  obtain ⟨vb, fb, eb, zb, hel, cd, kd⟩ := dec_two l (by rw [hb.1]; exact hp)
  unfold IxR at cd kd
  generalize hnb : eb.length = nb at cd kd hel
  clear hnb
  obtain ⟨W0, hW0⟩ : ∃ W, W = w.alloc (.cells #[.int .u64 (v : Int), .int .i64 fl, .slice A n c] 25) := ⟨_, rfl⟩
  have g0 : Grew w W0 := by rw [hW0]; exact (Chg.refl _ w).alloc _
  have hB0 : Bxs W0 [⟨w.heap.size, 25, #[.int .u64 (v : Int), .int .i64 fl, .slice A n c]⟩] := by
    rw [hW0]
    intro x hx
    rcases List.mem_singleton.1 hx with rfl
    exact ⟨Blk.new _ _ _, (by show 25 ≠ 22; decide), (by show 25 ≠ 51; decide)⟩
  have s0 : Hid (W0.heap.size = w.heap.size + 1) := Lib.hid (by rw [hW0, World.size_alloc])
  replace hln := Lib.hid hln
  go_enter Tryz.func4, Tryz.ntmps4
  go_wp2_with fail
  rw [← hW0]
  clear hW0
  refine (ke A n c W0 (h.grew g0)).mono ?_
  rintro e w1 ⟨A1, c1, rfl, o1, g1⟩
  have bl1 := Own.blk_lt o1
  rw [s0.out] at bl1
  have hcap1 := o1.cap
  have s1 := g1.size
  rw [s0.out] at s1
  have hB1 := hB0.grew g1
  have gr1 := g0.trans g1
  have rb1 := o1.rb
  obtain ⟨h1, hh1⟩ : ∃ g, w1.heap.size = g := ⟨_, rfl⟩
  rw [hh1] at bl1 s1
  replace hh1 := Lib.hid hh1
  replace bl1 := Lib.hid bl1
  clear o1 hB0 g0 g1 s0 ke
  go_wp2_with fail
  refine (kd B p d w1 (hb.grew gr1) hcp).mono ?_
  rintro e w2 ⟨Bk, Ck, rfl, x2, g2⟩
  have nk2 := x2.nr
  rw [hh1.out] at nk2
  have bk := x2.cap
  have s2 := g2.size
  rw [hh1.out] at s2
  obtain ⟨h2, hh2⟩ : ∃ g, w2.heap.size = g := ⟨_, rfl⟩
  rw [hh2] at nk2 s2
  obtain ⟨W2, hW2⟩ : ∃ W, W = w2.alloc (.cells #[.int .u64 (vb : Int), .int .i64 fb, .slice Bk nb Ck] 25) := ⟨_, rfl⟩
  have q2 : Grew w2 W2 := by rw [hW2]; exact (Chg.refl _ w2).alloc _
  have t2 := g2.trans q2
  have B2old := hB1.grew g2
  have hB2 := B2old.push hW2 hh2 (by decide) (by decide)
  simp only [List.cons_append, List.nil_append] at hB2
  have sW2 : Hid (W2.heap.size = h2 + 1) := Lib.hid (by rw [hW2, World.size_alloc, hh2])
  replace hh2 := Lib.hid hh2
  have gr2 := gr1.trans t2
  have rb2 := rb1.grew t2
  have mk2 := nk2.grew q2
  clear x2 nk2 hB1 gr1 rb1 g2 q2 t2 hh1 kd
  have k0 := (B2old.at_ 0 rfl).cell 0
  have k1 := (B2old.at_ 0 rfl).cell 1
  have k2 := (B2old.at_ 0 rfl).cell 2
  simp only [List.getElem?_toArray, List.getElem?_cons_succ, List.getElem?_cons_zero] at k0 k1 k2
  have kl := (B2old.at_ 0 rfl).lt
  go_wp2_with fail
  rw [← hW2, hh2.out]
  clear k0 k1 k2 kl hW2 hh2 B2old
  refine (copyIndex_any v fl A n c es W2 (h.grew gr2) hf).mono ?_
  rintro e w3 ⟨Bx, Cx, rfl, x3, g3⟩
  have nx3 := x3.nr
  rw [sW2.out] at nx3
  have bx := x3.cap
  have s3 := g3.size
  rw [sW2.out] at s3
  obtain ⟨h3, hh3⟩ : ∃ g, w3.heap.size = g := ⟨_, rfl⟩
  rw [hh3] at nx3 s3
  replace hh3 := Lib.hid hh3
  have hB3 := hB2.grew g3
  have gr3 := gr2.trans g3
  have rb3 := rb2.grew g3
  have nk3 := mk2.grew g3
  clear x3 hB2 gr2 rb2 mk2 g3 sW2
  go_wp2_with fail
  refine (lendBytes_any B p d l w3 (hb.grew gr3) (by omega)).mono ?_
  rintro e w4 ⟨Ay, cy, rfl, oy, g4⟩
  have ny4 := Own.blk_lt oy
  rw [hh3.out] at ny4
  have s4 := g4.size
  rw [hh3.out] at s4
  obtain ⟨h4, hh4⟩ : ∃ g, w4.heap.size = g := ⟨_, rfl⟩
  rw [hh4] at ny4 s4
  replace ny4 := Lib.hid ny4
  have hcapy := oy.cap
  obtain ⟨W4, hW4⟩ : ∃ W, W = w4.alloc (.cells #[.int .u64 (v : Int), .int .i64 fl, .slice Bx n Cx] 25) := ⟨_, rfl⟩
  have q4 : Grew w4 W4 := by rw [hW4]; exact (Chg.refl _ w4).alloc _
  have t4 := g4.trans q4
  have B4old := hB3.grew g4
  have hB4 := B4old.push hW4 hh4 (by decide) (by decide)
  simp only [List.cons_append, List.nil_append] at hB4
  have sW4 : Hid (W4.heap.size = h4 + 1) := Lib.hid (by rw [hW4, World.size_alloc, hh4])
  replace hh4 := Lib.hid hh4
  have gr4 := gr3.trans t4
  have rb4 := rb3.grew t4
  have nk4 := nk3.grew t4
  have nx4 := nx3.grew t4
  have oy4 := oy.grew q4
  have hln4 := h
  clear oy hB3 gr3 rb3 nk3 nx3 g4 q4 t4 hh3 hln4
  go_wp2_with fail
  rw [← hW4, hh4.out]
  clear hW4 hh4 B4old
  refine (ce Bx n Cx W4 nx4.rx).mono ?_
  rintro e w5 ⟨A5, c5, rfl, o5, g5⟩
  have bl5 := Own.blk_lt o5
  rw [sW4.out] at bl5
  have hcap5 := o5.cap
  have s5 := g5.size
  rw [sW4.out] at s5
  obtain ⟨h5, hh5⟩ : ∃ g, w5.heap.size = g := ⟨_, rfl⟩
  rw [hh5] at bl5 s5
  replace hh5 := Lib.hid hh5
  replace bl5 := Lib.hid bl5
  have rc5 := o5.rb
  have hB5 := hB4.grew g5
  have gr5 := gr4.trans g5
  have rb5 := rb4.grew g5
  have nk5 := nk4.grew g5
  have nx5 := nx4.grew g5
  have oy5 := oy4.grew g5
  clear o5 hB4 gr4 rb4 nk4 nx4 oy4 g5 sW4 ce
  go_wp2_with fail
  refine (cd Ay p cy w5 (by have := oy5.rb.take (i := p) (by omega); rwa [List.take_left' hb.1] at this) (by omega)).mono ?_
  rintro e w6 ⟨Bd, Cd, rfl, x6, g6⟩
  have nd6 := x6.nr
  rw [hh5.out] at nd6
  have bd := x6.cap
  have s6 := g6.size
  rw [hh5.out] at s6
  obtain ⟨h6, hh6⟩ : ∃ g, w6.heap.size = g := ⟨_, rfl⟩
  rw [hh6] at nd6 s6
  obtain ⟨W6, hW6⟩ : ∃ W, W = w6.alloc (.cells #[.int .u64 (vb : Int), .int .i64 fb, .slice Bd nb Cd] 25) := ⟨_, rfl⟩
  have q6 : Grew w6 W6 := by rw [hW6]; exact (Chg.refl _ w6).alloc _
  have t6 := g6.trans q6
  have B6old := hB5.grew g6
  have hB6 := B6old.push hW6 hh6 (by decide) (by decide)
  simp only [List.cons_append, List.nil_append] at hB6
  have sW6 : Hid (W6.heap.size = h6 + 1) := Lib.hid (by rw [hW6, World.size_alloc, hh6])
  replace hh6 := Lib.hid hh6
  have gr6 := gr5.trans t6
  have rb6 := rb5.grew t6
  have rc6 := rc5.grew t6
  have nk6 := nk5.grew t6
  have nx6 := nx5.grew t6
  have oy6 := oy5.grew t6
  have md6 := nd6.grew q6
  clear x6 nd6 hB5 gr5 rb5 rc5 nk5 nx5 oy5 g6 q6 t6 hh5 cd
  have k0 := (B6old.at_ 2 rfl).cell 0
  have k1 := (B6old.at_ 2 rfl).cell 1
  have k2 := (B6old.at_ 2 rfl).cell 2
  simp only [List.getElem?_toArray, List.getElem?_cons_succ, List.getElem?_cons_zero] at k0 k1 k2
  have kl := (B6old.at_ 2 rfl).lt
  have i0 := (B6old.at_ 0 rfl).cell 0
  have i1 := (B6old.at_ 0 rfl).cell 1
  have i2 := (B6old.at_ 0 rfl).cell 2
  simp only [List.getElem?_toArray, List.getElem?_cons_succ, List.getElem?_cons_zero] at i0 i1 i2
  have il := (B6old.at_ 0 rfl).lt
  go_wp2_with fail
  rw [← hW6, hh6.out]
  clear k0 k1 k2 kl i0 i1 i2 il
  clear hW6 hh6 B6old
  refine (sameIndex_eq v fl Bx A n Cx c es W6 nx6.rx (h.grew gr6) hn).mono ?_
  rintro e w7 ⟨rfl, d7⟩
  have hB7 := hB6.grew d7
  have gr7 := gr6.trans d7
  have rb7 := rb6.grew d7
  have rc7 := rc6.grew d7
  have nk7 := nk6.grew d7
  have oy7 := oy6.grew d7
  have nd7 := md6.grew d7
  have s7 := d7.size
  rw [sW6.out] at s7
  clear hB6 gr6 rb6 rc6 nk6 nx6 oy6 md6 d7 sW6
  go_wp2_with fail
  refine (keptBytes_any Ay p cy l B d _ w7 oy7 (hb.grew gr7) (by omega)).mono ?_
  rintro e w8 ⟨rfl, c8⟩
  have hl7 : ∀ k, (∃ ad, Ay = some ad ∧ k = ad.block) → h3 ≤ k ∧ k < h4 := fun k ⟨ad, e, e2⟩ => by
    have := ny4.out ad e
    rw [e2]
    exact this
  have hB8 := hB7.chg c8 (fun x hx hS => by
    have h1 := hl7 _ hS
    simp only [List.mem_cons, List.not_mem_nil, or_false] at hx
    rcases hx with rfl | rfl | rfl | rfl <;> simp only at h1 <;> omega)
  have gr8 : Grew w w8 := gr7.step c8 fun k hk hS => by have := (hl7 k hS).1; omega
  have rb8 := rb7.chg c8 fun ad e hS => by have h1 := (hl7 _ hS).1; have h2 := (bl1.out ad e).2; omega
  have rc8 := rc7.chg c8 fun ad e hS => by have h1 := (hl7 _ hS).2; have h2 := (bl5.out ad e).1; omega
  have nk8 := nk7.chg c8 fun k h1 h2 hS => by have := (hl7 k hS).1; omega
  have nd8 := nd7.chg c8 fun k h1 h2 hS => by have := (hl7 k hS).2; omega
  have s8 := c8.size
  clear hl7 hB7 gr7 rb7 rc7 nk7 nd7 oy7 c8
  rcases hz' with rfl | rfl
  · skip
    go_wp2_with fail
    refine (sameBytes_yes A5 A1 nR nR c5 c1 R w8 rc8 rb8 (by omega) (by omega)).mono ?_
    rintro e w9 ⟨rfl, k9, rfl⟩
    have d9 : Grew w8 (w8.drewN k9) := (Chg.refl _ w8).drewN k9
    generalize w8.drewN k9 = w9 at *
    have hB9 := hB8.grew d9
    have gr9 := gr8.trans d9
    have rc9 := rc8.grew d9
    have nk9 := nk8.grew d9
    have nd9 := nd8.grew d9
    clear hB8 gr8 rb8 rc8 nk8 nd8 d9
    have k0 := (hB9.at_ 3 rfl).cell 0
    have k1 := (hB9.at_ 3 rfl).cell 1
    have k2 := (hB9.at_ 3 rfl).cell 2
    simp only [List.getElem?_toArray, List.getElem?_cons_succ, List.getElem?_cons_zero] at k0 k1 k2
    have kl := (hB9.at_ 3 rfl).lt
    have i0 := (hB9.at_ 1 rfl).cell 0
    have i1 := (hB9.at_ 1 rfl).cell 1
    have i2 := (hB9.at_ 1 rfl).cell 2
    simp only [List.getElem?_toArray, List.getElem?_cons_succ, List.getElem?_cons_zero] at i0 i1 i2
    have il := (hB9.at_ 1 rfl).lt
    go_wp2_with fail
    refine (sameIndex_eq vb fb Bd Bk nb Cd Ck eb w9 nd9.rx nk9.rx (by omega)).mono ?_
    rintro e w10 ⟨rfl, d10⟩
    clear k0 k1 k2 kl i0 i1 i2 il
    have hB10 := hB9.grew d10
    have gr10 := gr9.trans d10
    have rc10 := rc9.grew d10
    clear hB9 gr9 rc9 nk9 nd9 d10
    go_wp2_with fail
    obtain ⟨hRe, hRw⟩ := hRI.out (by first | trivial | rfl)
    rw [hRe] at rc10
    refine (decode_ok v fl es A5 nR c5 w10 hRw.ok hv hw rc10 (by omega) hcap5).mono ?_
    rintro e w11 ⟨Bz, Cz, rfl, x11, g11⟩
    rw [hln.out] at x11 ⊢
    have bz := x11.cap
    have gr11 := gr10.trans g11
    obtain ⟨h11, hh11⟩ : ∃ g, w11.heap.size = g := ⟨_, rfl⟩
    obtain ⟨W11, hW11⟩ : ∃ W, W = w11.alloc (.cells #[.int .u64 (v : Int), .int .i64 fl, .slice Bz n Cz] 25) := ⟨_, rfl⟩
    have q11 : Grew w11 W11 := by rw [hW11]; exact (Chg.refl _ w11).alloc _
    have hB11 := hB10.grew g11
    have gr12 := gr11.trans q11
    have x12 := x11.grew q11
    replace hh11 := Lib.hid hh11
    clear hB10 gr10 rc10 g11 hRe hRw gr11 x11 q11
    have i0 := (hB11.at_ 0 rfl).cell 0
    have i1 := (hB11.at_ 0 rfl).cell 1
    have i2 := (hB11.at_ 0 rfl).cell 2
    simp only [List.getElem?_toArray, List.getElem?_cons_succ, List.getElem?_cons_zero] at i0 i1 i2
    have il := (hB11.at_ 0 rfl).lt
    go_wp2_with fail
    rw [← hW11]
    clear i0 i1 i2 il
    refine (sameIndex_eq v fl Bz A n Cz c es W11 x12.rx (h.grew gr12) hn).mono ?_
    rintro e w12 ⟨rfl, d12⟩
    have gr13 := gr12.trans d12
    clear hB11 hW11 hh11 x12 gr12 d12
    go_wp2_with fail
    refine (awake_any w12).mono ?_
    rintro e w13 ⟨rfl, d13⟩
    go_wp2
    go_ret
    exact ⟨rfl, gr13.trans d13⟩
  · skip
    go_wp2_with fail
    refine (sameBytes_yes A5 A1 nR nR c5 c1 R w8 rc8 rb8 (by omega) (by omega)).mono ?_
    rintro e w9 ⟨rfl, k9, rfl⟩
    have d9 : Grew w8 (w8.drewN k9) := (Chg.refl _ w8).drewN k9
    generalize w8.drewN k9 = w9 at *
    have hB9 := hB8.grew d9
    have gr9 := gr8.trans d9
    have rc9 := rc8.grew d9
    have nk9 := nk8.grew d9
    have nd9 := nd8.grew d9
    clear hB8 gr8 rb8 rc8 nk8 nd8 d9
    have k0 := (hB9.at_ 3 rfl).cell 0
    have k1 := (hB9.at_ 3 rfl).cell 1
    have k2 := (hB9.at_ 3 rfl).cell 2
    simp only [List.getElem?_toArray, List.getElem?_cons_succ, List.getElem?_cons_zero] at k0 k1 k2
    have kl := (hB9.at_ 3 rfl).lt
    have i0 := (hB9.at_ 1 rfl).cell 0
    have i1 := (hB9.at_ 1 rfl).cell 1
    have i2 := (hB9.at_ 1 rfl).cell 2
    simp only [List.getElem?_toArray, List.getElem?_cons_succ, List.getElem?_cons_zero] at i0 i1 i2
    have il := (hB9.at_ 1 rfl).lt
    go_wp2_with fail
    refine (sameIndex_eq vb fb Bd Bk nb Cd Ck eb w9 nd9.rx nk9.rx (by omega)).mono ?_
    rintro e w10 ⟨rfl, d10⟩
    clear k0 k1 k2 kl i0 i1 i2 il
    have hB10 := hB9.grew d10
    have gr10 := gr9.trans d10
    have rc10 := rc9.grew d10
    clear hB9 gr9 rc9 nk9 nd9 d10
    go_wp2_with fail
    refine (awake_any w10).mono ?_
    rintro e w11 ⟨rfl, d11⟩
    go_wp2
    go_ret
    exact ⟨rfl, gr10.trans d11⟩
end Go.Proofs.YtjoaonppaokhhaaGreat
