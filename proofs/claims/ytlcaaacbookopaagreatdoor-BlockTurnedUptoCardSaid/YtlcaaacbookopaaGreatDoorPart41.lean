/-
  Several texts in one:
  The document's bytes of an index (tidewrackref14.Encode); what is no index has none. Conditions: numbers of 64 bits.
  Bytes of metas and of indexes, told apart; an index' own bytes read by the document's reader; the boxes of the document's Decode. Conditions: numbers of 64 bits.
  Metas on both sides in one word; the law BlockMetas, walked. Conditions: lengths that memory bears; the table that the library reads.
  Arguments that came in, opened: an index, a block's meta. Conditions: none.
  Arguments that came in, opened: labels and matchers. Conditions: none.
  Lists of series copied. Conditions: lengths that memory bears.
  A list of series that came in. Conditions: none.
-/
import Derived.Test.YtlcaaacbookopaaGreatDoorPart40
import Derived.Test.YtlcaaacbookopaaGreatDoorPart38
import Derived.Test.YtlcaaacbookopaaGreatDoorPart26
import Derived.Test.YtlcaaacbookopaaGreatDoorPart4
import Derived.Test.YtlcaaacbookopaaGreatDoorPart3
import Derived.Test.YtlcaaacbookopaaGreatDoorPart24
import Derived.Test.YtlcaaacbookopaaGreatDoorPart8
import Derived.Test.YtlcaaacbookopaaGreatDoorPart35
import Derived.Test.YtlcaaacbookopaaGreatDoorPart29
import Derived.Test.YtlcaaacbookopaaGreatDoorPart25

namespace Go.Proofs.YtlcaaacbookopaaGreatDoor
open Go.RowKit

end Go.Proofs.YtlcaaacbookopaaGreatDoor

namespace Go.Proofs.YtlcaaacbookopaaGreatDoor
open Go.RowKit

theorem uv_cancel {a b : Nat} {x y : List UInt8} (ha : a < 18446744073709551616) (hb : b < 18446744073709551616) (h : uv a ++ x = uv b ++ y) : a = b ∧ x = y := by
  have h1 := uintR_at [] x a ha
  have h2 := uintR_at [] y b hb
  rw [List.nil_append] at h1 h2
  rw [h] at h1
  rw [h1] at h2
  injection h2 with h2 _
  subst h2
  exact ⟨rfl, List.append_cancel_left h⟩
theorem flat_cancel : ∀ {xs ys : List Nat} {x y : List UInt8}, xs.length = ys.length → (∀ a ∈ xs, a < 18446744073709551616) → (∀ b ∈ ys, b < 18446744073709551616) → xs.flatMap uv ++ x = ys.flatMap uv ++ y → xs = ys ∧ x = y
  | [], [], x, y, _, _, _, h => ⟨rfl, by simpa using h⟩
  | a :: xs, b :: ys, x, y, hl, ha, hb, h => by
    rw [List.flatMap_cons, List.flatMap_cons, List.append_assoc, List.append_assoc] at h
    obtain ⟨rfl, h2⟩ := uv_cancel (ha a List.mem_cons_self) (hb b List.mem_cons_self) h
    obtain ⟨rfl, h3⟩ := flat_cancel (by simpa using hl) (fun z hz => ha z (List.mem_cons_of_mem _ hz)) (fun z hz => hb z (List.mem_cons_of_mem _ hz)) h2
    exact ⟨rfl, h3⟩
  | [], _ :: _, _, _, hl, _, _, _ => by simp at hl
  | _ :: _, [], _, _, hl, _, _, _ => by simp at hl
theorem encM_inj {m m0 : Met} (h1 : metOk m = true) (w1 : MetW m) (h2 : metOk m0 = true) (w2 : MetW m0) (h : encM m = encM m0) : m = m0 := by
  rw [encM_nums, encM_nums] at h
  have h := List.append_cancel_left h
  have n1 := numsM_lt h1 w1
  have n2 := numsM_lt h2 w2
  unfold numsM at h n1 n2
  rw [List.flatMap_append, List.flatMap_append, List.append_assoc, List.append_assoc] at h
  obtain ⟨e1, e2⟩ := flat_cancel (xs := [m.id, m.lv.toNat, m.sr.toNat, m.pt.toNat, zz m.lo, zz m.hi, m.src.length]) (ys := [m0.id, m0.lv.toNat, m0.sr.toNat, m0.pt.toNat, zz m0.lo, zz m0.hi, m0.src.length]) rfl (fun z hz => n1 z (List.mem_append_left _ hz)) (fun z hz => n2 z (List.mem_append_left _ hz)) h
  simp only [List.cons.injEq, and_true] at e1
  obtain ⟨i0, i3, i5, i6, i1, i2, i4⟩ := e1
  obtain ⟨e3, _⟩ := flat_cancel i4 (fun z hz => n1 z (List.mem_append_right _ hz)) (fun z hz => n2 z (List.mem_append_right _ hz)) e2
  obtain ⟨o1, o2, o3, _⟩ := (metOk_iff m).1 h1
  obtain ⟨p1, p2, p3, _⟩ := (metOk_iff m0).1 h2
  have j1 : m.lo = m0.lo := by rw [← uz_zz m.lo, i1, uz_zz]
  have j2 : m.hi = m0.hi := by rw [← uz_zz m.hi, i2, uz_zz]
  cases m
  cases m0
  simp only at *
  subst i0 e3 j1 j2
  congr 1 <;> omega

end Go.Proofs.YtlcaaacbookopaaGreatDoor

namespace Go.Proofs.YtlcaaacbookopaaGreatDoor
open Go.RowKit

/-- both encode alike -/
theorem encm_two (m : Met) (hw : MetW m) (hp : m.src.length ≤ 9223372036854775807) : ∃ (L : List UInt8) (z : Nat), L.length ≤ 2000 ∧
    (∀ (D : Option Addr) (p d : Nat) (w : World), RE elU w D p m.src → Calls Tryz.prog 7 #[.agg #[.int .u64 (m.id : Int), .int .i64 m.lo, .int .i64 m.hi, .int .i64 m.lv, .slice D p d, .int .i64 m.sr, .int .i64 m.pt]] w (EncP w L (z : Int))) ∧
    (∀ (D : Option Addr) (p d : Nat) (w : World), RE elU w D p m.src → Calls Tryz.prog 11 #[.agg #[.int .u64 (m.id : Int), .int .i64 m.lo, .int .i64 m.hi, .int .i64 m.lv, .slice D p d, .int .i64 m.sr, .int .i64 m.pt]] w (EncP w L (z : Int))) := by
  cases hok : metOk m
  · exact ⟨[], 92, by simp, fun D p d w h => rencodeMeta_no m D p d w h (by rw [← h.1]; exact hp) hok, fun D p d w h => encodeMeta_no m D p d w h (by rw [← h.1]; exact hp) hok⟩
  · obtain ⟨k, h1, h2⟩ := kencM_len hok hw
    exact ⟨encM m, 0, by omega, fun D p d w h => rencodeMeta_ok m D p d w h hok hw, fun D p d w h => encodeMeta_ok m D p d w h hok hw⟩
/-- both decode alike -/
theorem decm_two (lb : List UInt8) : ∃ (m : Met) (z : Nat), m.src.length ≤ 64 ∧
    (∀ (B : Option Addr) (n c : Nat) (w : World), RB w B n lb → n ≤ c ∧ c ≤ 9223372036854775807 → n ≤ 17592186040000 → Calls Tryz.prog 8 #[.slice B n c] w (MtR w m (z : Int))) ∧
    (∀ (B : Option Addr) (n c : Nat) (w : World), RB w B n lb → n ≤ c ∧ c ≤ 9223372036854775807 → n ≤ 17592186040000 → Calls Tryz.prog 12 #[.slice B n c] w (MtR w m (z : Int))) := by
  by_cases h : ∃ m, metOk m = true ∧ MetW m ∧ lb = encM m
  · obtain ⟨m, h1, h2, h3⟩ := h
    refine ⟨m, 0, ((metOk_iff m).1 h1).2.2.2.2.2, fun B n c w hr hc hn => (rdecodeMeta_any w B n c lb hr hc hn).mono fun e w' he => ?_, fun B n c w hr hc hn => ?_⟩
    · rcases he with ⟨m0, g1, g2, g3, g4⟩ | ⟨g1, _⟩
      · have : m = m0 := by
          refine encM_inj h1 h2 g1 g2 ?_
          rw [← h3, g3]
        subst this
        exact g4
      · exact absurd h3 (g1 m h1 h2)
    · obtain ⟨k, h4, h5⟩ := kencM_len h1 h2
      have hl := hr.1
      rw [h3, h4] at hl
      subst hl
      exact decodeMeta_ok m h1 h2 w B k c (by rw [← h3]; exact hr) hc (by omega)
  · refine ⟨⟨0, 0, 0, 0, [], 0, 0⟩, 92, by simp, fun B n c w hr hc hn => (rdecodeMeta_any w B n c lb hr hc hn).mono fun e w' he => ?_, fun B n c w hr hc hn => decodeMeta_no w B n c lb hr hc (by omega) fun m h1 h2 h3 => h ⟨m, h1, h2, h3⟩⟩
    rcases he with ⟨m0, g1, g2, g3, _⟩ | ⟨_, g1⟩
    · exact absurd ⟨m0, g1, g2, g3⟩ h
    · exact g1

set_option maxRecDepth 100000 in
set_option maxHeartbeats 8000000 in
theorem walk_blockMetas (m : Met) (A : Option Addr) (n c : Nat) (B : Option Addr) (k d : Nat) (lb : List UInt8) (w : World) (hA : RE elU w A n m.src) (hw : MetW m) (hn : n ≤ 17592186043904) (hB : RB w B k lb) (hd : k ≤ d ∧ d ≤ 9223372036854775807) (hk : k ≤ 1048576) (hm : MaxL w) :
    Calls Tryz.prog 3 #[.agg #[.int .u64 (m.id : Int), .int .i64 m.lo, .int .i64 m.hi, .int .i64 m.lv, .slice A n c, .int .i64 m.sr, .int .i64 m.pt], .slice B k d] w fun e w' => e = .returned (.bool true) ∧ Grew w w' := by
  obtain ⟨L, z, hL, hE1, hE2⟩ := encm_two m hw (by have := hA.1; omega)
  obtain ⟨q, y, hq, hD1, hD2⟩ := decm_two lb
  obtain ⟨W, hW⟩ : ∃ W, W = w.alloc (.cells #[.int .u64 (m.id : Int), .int .i64 m.lo, .int .i64 m.hi, .int .i64 m.lv, .slice A n c, .int .i64 m.sr, .int .i64 m.pt] 25) := ⟨_, rfl⟩
  have gW : Grew w W := by rw [hW]; exact (Chg.refl _ w).alloc _
  have b2 : Blk W w.heap.size 25 #[.int .u64 (m.id : Int), .int .i64 m.lo, .int .i64 m.hi, .int .i64 m.lv, .slice A n c, .int .i64 m.sr, .int .i64 m.pt] := by rw [hW]; exact Blk.new w _ _
  have hE1' := hE1 A n c W (hA.grew gW)
  unfold EncP at hE1'
  obtain ⟨nl, hnl⟩ : ∃ nl, L.length = nl := ⟨_, rfl⟩
  rw [hnl] at hE1' hL
  obtain ⟨nq, hnq⟩ : ∃ nq, q.src.length = nq := ⟨_, rfl⟩
  rw [hnq] at hq
  replace hnl := Lib.hid hnl
  replace hnq := Lib.hid hnq
  replace hm := Lib.hid hm
  go_enter Tryz.func3, Tryz.ntmps3
  go_wp2_with fail
  rw [← hW]
  clear hW
  generalize w.heap.size = g2 at *
  refine hE1'.mono ?_
  rintro e w1 ⟨B1, c1, rfl, o1, g1⟩
  clear hE1 hE1'
  have gg1 := gW.trans g1
  have hD1' := hD1 B k d w1 (hB.grew gg1) hd (by omega)
  unfold MtR at hD1'
  rw [hnq.out] at hD1'
  go_wp2_with fail
  refine hD1'.mono ?_
  rintro e w2 ⟨A2, d2, rfl, o2, g2'⟩
  clear hD1 hD1'
  have gg2 := gg1.trans g2'
  obtain ⟨V, hV⟩ : ∃ V, V = w2.alloc (.cells #[.int .u64 (q.id : Int), .int .i64 q.lo, .int .i64 q.hi, .int .i64 q.lv, .slice A2 nq d2, .int .i64 q.sr, .int .i64 q.pt] 25) := ⟨_, rfl⟩
  have gV : Grew w2 V := by rw [hV]; exact (Chg.refl _ w2).alloc _
  have b7 : Blk V w2.heap.size 25 #[.int .u64 (q.id : Int), .int .i64 q.lo, .int .i64 q.hi, .int .i64 q.lv, .slice A2 nq d2, .int .i64 q.sr, .int .i64 q.pt] := by rw [hV]; exact Blk.new w2 _ _
  obtain ⟨g7, hg7⟩ : ∃ g7, w2.heap.size = g7 := ⟨_, rfl⟩
  rw [hg7] at b7
  have ggV := gg2.trans gV
  have hWV : Grew W V := (g1.trans g2').trans gV
  have b2V := b2.grew hWV
  have s4 := b2V.cell 4
  simp only [List.getElem?_toArray, List.getElem?_cons_succ, List.getElem?_cons_zero] at s4
  rw [hV] at s4
  have hLi := lendIds_any A n c m.src V (hA.grew ggV) hn
  unfold LentI at hLi
  go_wp2_with fail
  rw [← hV]
  clear hV s4
  refine hLi.mono ?_
  rintro e w3 ⟨Al, cl, rfl, ol, g3⟩
  clear hLi
  have gg3 := ggV.trans g3
  have hLb := lendBytes_any B k d lb w3 (hB.grew gg3) (by omega)
  unfold LentB at hLb
  go_wp2_with fail
  refine hLb.mono ?_
  rintro e w4 ⟨Xl, cx, rfl, ox, g4⟩
  clear hLb
  have gg4 := gg3.trans g4
  have b2c := (b2V.grew g3).grew g4
  have r0 := b2c.cell 0
  have r1 := b2c.cell 1
  have r2 := b2c.cell 2
  have r3 := b2c.cell 3
  have r4 := b2c.cell 4
  have r5 := b2c.cell 5
  have r6 := b2c.cell 6
  simp only [List.getElem?_toArray, List.getElem?_cons_succ, List.getElem?_cons_zero] at r0 r1 r2 r3 r4 r5 r6
  have rl : RE elU w3 Al n m.src := RE.take0 (OE.re (by decide) ol)
  have rx : RB w4 Xl k lb := by
    have h1 := ox.rb
    have h2 := RB.take (h1) (i := k) (by omega)
    rwa [List.take_left' hB.1] at h2
  have hcx := Own.cap ox
  unfold maxLen at hcx
  have hE2c : ∀ U, Grew w4 U → Calls Tryz.prog 11 #[.agg #[.int .u64 (m.id : Int), .int .i64 m.lo, .int .i64 m.hi, .int .i64 m.lv, .slice Al n cl, .int .i64 m.sr, .int .i64 m.pt]] U fun e w' => ∃ B5 c5, e = .returned (.tuple #[.slice B5 nl c5, .int .i64 (z : Int)]) ∧ OB w' w4.heap.size 5 B5 nl c5 L ∧ Grew w4 w' := fun U g => (hE2 Al n cl U ((rl.grew g4).grew g)).mono fun e w' ⟨B5, c5, h1, h2, h3⟩ => ⟨B5, c5, by rw [← hnl.out]; exact h1, by rw [← hnl.out]; exact Own.mono h2 g.size, g.trans h3⟩
  replace hE2c := Lib.hid hE2c
  clear hE2
  go_wp2_with fail
  refine (hE2c.out _ ?_).mono ?_
  · first
      | exact (Chg.refl _ w4).alloc _
      | exact ((Chg.refl _ w4).alloc _).setCell (.inl (Nat.le_refl _)) _
  rintro e w5 ⟨B5, c5, rfl, o5, g5⟩
  have hD2' := hD2 Xl k cx w5 (rx.grew g5) (by omega) (by omega)
  unfold MtR at hD2'
  rw [hnq.out] at hD2'
  clear hD2 hE2c r0 r1 r2 r3 r4 r5 r6
  go_wp2_with fail
  refine hD2'.mono ?_
  rintro e w6 ⟨A6, d6, rfl, o6, g6⟩
  clear hD2'
  obtain ⟨X, hX⟩ : ∃ X, X = w6.alloc (.cells #[.int .u64 (q.id : Int), .int .i64 q.lo, .int .i64 q.hi, .int .i64 q.lv, .slice A6 nq d6, .int .i64 q.sr, .int .i64 q.pt] 25) := ⟨_, rfl⟩
  have gX : Grew w6 X := by rw [hX]; exact (Chg.refl _ w6).alloc _
  have b14 : Blk X w6.heap.size 25 #[.int .u64 (q.id : Int), .int .i64 q.lo, .int .i64 q.hi, .int .i64 q.lv, .slice A6 nq d6, .int .i64 q.sr, .int .i64 q.pt] := by rw [hX]; exact Blk.new w6 _ _
  have g4X : Grew w4 X := (g5.trans g6).trans gX
  have g3X : Grew w3 X := g4.trans g4X
  have gVX : Grew V X := g3.trans g3X
  have ggX := ggV.trans gVX
  have b2X := b2V.grew gVX
  have s4 := b2X.cell 4
  simp only [List.getElem?_toArray, List.getElem?_cons_succ, List.getElem?_cons_zero] at s4
  rw [hX] at s4
  -- where the rows lie
  have z1 := gW.size
  have z2 := g1.size
  have z3 := g2'.size
  have z4 := gV.size
  have z5 := g3.size
  have z6 := g4.size
  have z7 := g5.size
  have z8 := g6.size
  have z9 := gX.size
  have kl := fun ad e => Own.blk_lt ol ad e
  have kx := fun ad e => Own.blk_lt ox ad e
  have k1 := fun ad e => Own.blk_lt o1 ad e
  have k2 := fun ad e => Own.blk_lt o2 ad e
  have k5 := fun ad e => Own.blk_lt o5 ad e
  have k6 := fun ad e => Own.blk_lt o6 ad e
  have k7 := b7.lt
  have hBl := fun ad e h0 => hB.lt ad e h0
  have olX := OE.grew ol g3X
  have oxX := Own.grew ox g4X
  have o1X := Own.grew o1 ((g2'.trans gV).trans gVX)
  have o2X := OE.grew o2 (gV.trans gVX)
  have o5X := Own.grew o5 (g6.trans gX)
  have o6X := OE.grew o6 gX
  have b7X := b7.grew gVX
  have hBX := hB.grew ggX
  have hKi := keptIds_any Al n cl m.src A c _ X olX (hA.grew ggX) hn
  go_wp2_with fail
  rw [← hX]
  clear hX s4
  refine hKi.mono ?_
  rintro e w7 ⟨rfl, h7⟩
  have hKb := keptBytes_any Xl k cx lb B d _ w7 (Own.chg oxX h7 fun ad e ⟨bd, e2, e3⟩ => by
    have := kl bd e2
    have := kx ad e
    omega) (hBX.far h7 fun ad e h0 ⟨bd, e2, e3⟩ => by
    have := kl bd e2
    have := hBl ad e h0
    omega) (by omega)
  go_wp2_with fail
  refine hKb.mono ?_
  rintro e w8 ⟨rfl, h8⟩
  have hch : Chg (fun j => V.heap.size ≤ j ∧ j < w4.heap.size) X w8 := (h7.mono fun j _ ⟨bd, e2, e3⟩ => by
    have := kl bd e2
    omega).trans (h8.mono fun j _ ⟨bd, e2, e3⟩ => by
    have := kx bd e2
    omega)
  have o1w := Own.chg o1X hch fun ad e ⟨e2, e3⟩ => by
    have := k1 ad e
    omega
  have o5w := Own.chg o5X hch fun ad e ⟨e2, e3⟩ => by
    have := k5 ad e
    omega
  have o2w := OE.chg o2X hch fun ad e ⟨e2, e3⟩ => by
    have := k2 ad e
    omega
  have o6w := OE.chg o6X hch fun ad e ⟨e2, e3⟩ => by
    have := k6 ad e
    omega
  have b7w := b7X.chg hch fun ⟨e2, e3⟩ => by omega
  have b14w := b14.chg hch fun ⟨e2, e3⟩ => by omega
  have gg8 : Grew w w8 := ggX.step hch fun j hj ⟨e2, e3⟩ => by omega
  have hSb := sameBytes_yes B5 B1 nl nl c5 c1 L w8 (OB.rb o5w) (OB.rb o1w) (by omega) (by omega)
  clear hKi hKb h7 h8 olX oxX o1X o2X o5X o6X b7X b14 hBX
  go_wp2_with fail
  refine hSb.mono ?_
  rintro e w9 ⟨rfl, kk, rfl⟩
  have p0 := (b14w.drewN kk).cell 0
  have p1 := (b14w.drewN kk).cell 1
  have p2 := (b14w.drewN kk).cell 2
  have p3 := (b14w.drewN kk).cell 3
  have p4 := (b14w.drewN kk).cell 4
  have p5 := (b14w.drewN kk).cell 5
  have p6 := (b14w.drewN kk).cell 6
  have q0 := (b7w.drewN kk).cell 0
  have q1 := (b7w.drewN kk).cell 1
  have q2 := (b7w.drewN kk).cell 2
  have q3 := (b7w.drewN kk).cell 3
  have q4 := (b7w.drewN kk).cell 4
  have q5 := (b7w.drewN kk).cell 5
  have q6 := (b7w.drewN kk).cell 6
  simp only [List.getElem?_toArray, List.getElem?_cons_succ, List.getElem?_cons_zero] at p0 p1 p2 p3 p4 p5 p6 q0 q1 q2 q3 q4 q5 q6
  have gg9 := gg8.drewN kk
  have hSm := sameMeta_eq q A6 A2 nq d6 d2 (w8.drewN kk) (OE.re (by decide) (OE.drewN o6w kk)) (OE.re (by decide) (OE.drewN o2w kk)) (by omega)
  generalize w8.drewN kk = w9 at *
  clear hSb o5w o1w o2w o6w b7w b14w
  go_wp2_with fail
  refine hSm.mono ?_
  rintro e w10 ⟨rfl, g10⟩
  have gg10 := gg9.trans g10
  clear hSm p0 p1 p2 p3 p4 p5 p6 q0 q1 q2 q3 q4 q5 q6
  go_wp2_with fail
  refine (bawake_any w10 (hm.out.grewK gg10)).mono ?_
  rintro e w11 ⟨rfl, g11⟩
  go_wp2
  go_ret
  exact ⟨by simp, gg10.trans g11⟩
end Go.Proofs.YtlcaaacbookopaaGreatDoor

namespace Go.Proofs.YtlcaaacbookopaaGreatDoor
open Go.ChangeShapes Go.WideShapes Go.ChangeAt Go.RowKit Go.Deep

section
variable {H : Type} {enc : TypeId × Value → H} {P : Program} {W : World} {base : Nat} {spare : Nat → Bool} {held : Bool}
theorem weights_all {e : TypeId} {d : DataW H} {z : Nat} (hz : z ∈ d.weights P e) : ∀ {l : List (DataW H)}, d ∈ l → z ∈ DataW.weightsAll P e l
  | x :: r, h => by
    simp only [DataW.weightsAll, List.mem_append]
    rcases List.mem_cons.1 h with rfl | h
    · exact .inl hz
    · exact .inr (weights_all hz h)
theorem open_elemsW {α : Type} (E : El α) (Q : α → DataW H → Prop) {t e : TypeId} (ht : P.underlying t = some (.slice e)) (ce : P.cellsOf e = E.sz)
    (dec : ∀ n cs x, DataW.trod enc P W base spare held n e cs = some x → cs.length = P.cellsOf e → ∃ y, cs = E.cells y ∧ Q y x.1)
    {A : Option Addr} {n c : Nat} {d : DataW H} {p : List MemPlace} (h : DataW.Trod enc P W base spare held t (.slice A n c) d p) (hw : ∀ z ∈ d.weights P t, z ≤ reachBytes) :
    ∃ l : List α, RE E W A n l ∧ n * P.bytesOf e ≤ reachBytes ∧ (n ≤ c ∧ c ≤ 9223372036854775807) ∧ ∀ y ∈ l, ∃ dd, Q y dd ∧ ∀ z ∈ dd.weights P e, z ≤ reachBytes := by
  obtain ⟨fuel, hf⟩ := h
  rcases open_slice ht hf with ⟨hcs, _⟩ | ⟨a, len, cap, m, n', D, Pl, hcs, hb, hl, hm, hmm, hx, hel⟩
  · simp [Value.cells] at hcs
    obtain ⟨rfl, rfl, rfl⟩ := hcs
    exact ⟨[], RE.nil _ _, by simp, by omega, fun y hy => by cases hy⟩
  · simp [Value.cells] at hcs
    obtain ⟨rfl, rfl, rfl⟩ := hcs
    simp only [Prod.mk.injEq] at hx
    obtain ⟨rfl, _⟩ := hx
    have hlm : n ≤ m := by rw [hmm]; split <;> omega
    have key : ∀ i, i < n → ∃ y, (∀ j u, (E.cells y)[j]? = some u → W.cell? (a.add (i * E.sz + j)) = some u) ∧ Q y (D i) := fun i hi => by
      obtain ⟨cs', h1, h2⟩ := hel i (by omega)
      obtain ⟨_, hlen, hcell⟩ := World.cells?_some h1
      obtain ⟨y, rfl, hq⟩ := dec _ _ _ h2 hlen
      refine ⟨y, fun j u hu => ?_, hq⟩
      have hj : j < (E.cells y).length := (List.getElem?_eq_some_iff.1 hu).1
      have h3 := hcell j (by rw [← hlen]; exact hj)
      rw [add_add, ce] at h3
      rw [h3]
      exact hu
    obtain ⟨l, hll, hlp⟩ := list_of n _ key
    simp only [DataW.weights, ht] at hw
    refine ⟨l, ⟨hll, fun k u hu => ⟨a, rfl, ?_⟩⟩, ?_, by unfold maxLen at hm; omega, fun y hy => ?_⟩
    · have hk := (List.getElem?_eq_some_iff.1 hu).1
      rw [El.flat_length, hll] at hk
      have hs : 0 < E.sz := by
        rcases Nat.eq_zero_or_pos E.sz with e0 | e0
        · rw [e0] at hk; omega
        · exact e0
      obtain ⟨i, j, rfl, hj⟩ : ∃ i j, k = i * E.sz + j ∧ j < E.sz := ⟨k / E.sz, k % E.sz, by rw [Nat.mul_comm]; exact (Nat.div_add_mod k E.sz).symm, Nat.mod_lt _ hs⟩
      have hi : i < n := by
        rcases Nat.lt_or_ge i n with h1 | h1
        · exact h1
        · have := Nat.mul_le_mul_right E.sz h1; omega
      have hx : l[i]? = some l[i] := List.getElem?_eq_getElem (by omega)
      rw [E.flat_get l hx hj] at hu
      exact (hlp i _ hx).1 j u hu
    · have := hw _ (List.mem_cons_self)
      simp only [List.length_map, List.length_range] at this
      exact Nat.le_trans (Nat.mul_le_mul_right _ (Nat.le_add_right _ _)) this
    · obtain ⟨i, hi⟩ := List.mem_iff_getElem?.1 hy
      have hin : i < n := by have := (List.getElem?_eq_some_iff.1 hi).1; omega
      refine ⟨D i, (hlp i y hi).2, fun z hz => hw z (List.mem_cons_of_mem _ (List.mem_append_left _ (weights_all hz (List.mem_map.2 ⟨i, List.mem_range.2 hin, rfl⟩))))⟩
end

section
variable {H : Type} {enc : TypeId × Value → H} {W : World} {base : Nat} {spare : Nat → Bool} {held : Bool}
theorem cells_i64 : Tryz.prog.cellsOf 2 = 1 := by kernel_rfl
theorem cells_u64s : Tryz.prog.cellsOf 23 = 1 := by kernel_rfl
theorem cells_met : Tryz.prog.cellsOf 25 = 7 := by kernel_rfl
theorem bytes_u64 : Tryz.prog.bytesOf 22 = 8 := by kernel_rfl
theorem slice_o2 {t e : TypeId} (ht : Tryz.prog.underlying t = some (.slice e)) {k : Nat} {v : Value} {y : DataW H × List MemPlace} (h : DataW.trod enc Tryz.prog W base spare held k t [v] = some y) : ∃ A n c, v = .slice A n c := by
  rcases open_slice ht h with ⟨hcs, _⟩ | ⟨a, len, cap, m, n', D, Pl, hcs, _⟩
  · exact ⟨none, 0, 0, (List.cons.inj hcs).1⟩
  · exact ⟨some a, len, cap, (List.cons.inj hcs).1⟩
theorem u64s_bound {A : Option Addr} {n c : Nat} {d : DataW H} {p : List MemPlace} (h : DataW.Trod enc Tryz.prog W base spare held 23 (.slice A n c) d p) (hw : ∀ z ∈ d.weights Tryz.prog 23, z ≤ reachBytes) : n ≤ 17592186043904 := by
  obtain ⟨l, _, h2, _⟩ := open_elemsW elU (fun _ _ => True) Tryz.underlying23 (by kernel_rfl) (fun n cs x hx hl => by
    obtain ⟨v, rfl⟩ := one_cell (hl.trans cells_u64)
    obtain ⟨z, e0, d0, hz⟩ := DataW.trod_int Tryz.underlying22 hx
    obtain rfl := (List.cons.inj e0).1
    have hb := Go.bounds_u64 hz
    exact ⟨z.toNat, by simp [elU]; omega, trivial⟩) h hw
  rw [bytes_u64] at h2
  unfold reachBytes at h2
  omega
/-- a meta's cells -/
def metC (m : Met) (A : Option Addr) (k c : Nat) : List Value := [.int .u64 (m.id : Int), .int .i64 m.lo, .int .i64 m.hi, .int .i64 m.lv, .slice A k c, .int .i64 m.sr, .int .i64 m.pt]
set_option maxRecDepth 100000 in
theorem dec_met (n : Nat) (cs : List Value) (x : DataW H × List MemPlace) (h : DataW.trod enc Tryz.prog W base spare held n 25 cs = some x) :
    ∃ m A k c, cs = metC m A k c ∧ RE elU W A k m.src ∧ (k ≤ c ∧ c ≤ 9223372036854775807) ∧ MetW m ∧ ((∀ z ∈ x.1.weights Tryz.prog 25, z ≤ reachBytes) → k ≤ 17592186043904) := by
  obtain ⟨xs, k, _, rfl, hl, hxl, hf⟩ := DataW.trod_struct Tryz.underlying25 h
  have hl2 : cs.length = 7 := hl.trans cells_met
  match xs, hxl, cs, hl2 with
  | [y0, y1, y2, y3, y4, y5, y6], _, [v0, v1, v2, v3, v4, v5, v6], _ =>
    have g0' : DataW.trod enc Tryz.prog W base spare held k 22 (([v0, v1, v2, v3, v4, v5, v6].drop 0).take (Tryz.prog.cellsOf 22)) = some y0 := hf 0 _ rfl
    rw [cells_u64] at g0'
    have g0 : DataW.trod enc Tryz.prog W base spare held k 22 [v0] = some y0 := g0'
    have g1' : DataW.trod enc Tryz.prog W base spare held k 2 (([v0, v1, v2, v3, v4, v5, v6].drop 1).take (Tryz.prog.cellsOf 2)) = some y1 := hf 1 _ rfl
    rw [cells_i64] at g1'
    have g1 : DataW.trod enc Tryz.prog W base spare held k 2 [v1] = some y1 := g1'
    have g2' : DataW.trod enc Tryz.prog W base spare held k 2 (([v0, v1, v2, v3, v4, v5, v6].drop 2).take (Tryz.prog.cellsOf 2)) = some y2 := hf 2 _ rfl
    rw [cells_i64] at g2'
    have g2 : DataW.trod enc Tryz.prog W base spare held k 2 [v2] = some y2 := g2'
    have g3' : DataW.trod enc Tryz.prog W base spare held k 3 (([v0, v1, v2, v3, v4, v5, v6].drop 3).take (Tryz.prog.cellsOf 3)) = some y3 := hf 3 _ rfl
    rw [cells_int] at g3'
    have g3 : DataW.trod enc Tryz.prog W base spare held k 3 [v3] = some y3 := g3'
    have g4' : DataW.trod enc Tryz.prog W base spare held k 23 (([v0, v1, v2, v3, v4, v5, v6].drop 4).take (Tryz.prog.cellsOf 23)) = some y4 := hf 4 _ rfl
    rw [cells_u64s] at g4'
    have g4 : DataW.trod enc Tryz.prog W base spare held k 23 [v4] = some y4 := g4'
    have g5' : DataW.trod enc Tryz.prog W base spare held k 3 (([v0, v1, v2, v3, v4, v5, v6].drop 5).take (Tryz.prog.cellsOf 3)) = some y5 := hf 5 _ rfl
    rw [cells_int] at g5'
    have g5 : DataW.trod enc Tryz.prog W base spare held k 3 [v5] = some y5 := g5'
    have g6' : DataW.trod enc Tryz.prog W base spare held k 3 (([v0, v1, v2, v3, v4, v5, v6].drop 6).take (Tryz.prog.cellsOf 3)) = some y6 := hf 6 _ rfl
    rw [cells_int] at g6'
    have g6 : DataW.trod enc Tryz.prog W base spare held k 3 [v6] = some y6 := g6'
    obtain ⟨z0, e0, d0, hz0⟩ := DataW.trod_int Tryz.underlying22 g0
    obtain ⟨z1, e1, d1, hz1⟩ := DataW.trod_int Tryz.underlying2 g1
    obtain ⟨z2, e2, d2, hz2⟩ := DataW.trod_int Tryz.underlying2 g2
    obtain ⟨z3, e3, d3, hz3⟩ := DataW.trod_int Tryz.underlying3 g3
    obtain ⟨z5, e5, d5, hz5⟩ := DataW.trod_int Tryz.underlying3 g5
    obtain ⟨z6, e6, d6, hz6⟩ := DataW.trod_int Tryz.underlying3 g6
    obtain rfl := (List.cons.inj e0).1
    obtain rfl := (List.cons.inj e1).1
    obtain rfl := (List.cons.inj e2).1
    obtain rfl := (List.cons.inj e3).1
    obtain rfl := (List.cons.inj e5).1
    obtain rfl := (List.cons.inj e6).1
    obtain ⟨A, m, c, rfl⟩ := slice_o2 Tryz.underlying23 g4
    have b0 := Go.bounds_u64 hz0
    have b1 := Go.bounds_i64 hz1
    have b2 := Go.bounds_i64 hz2
    have hT : DataW.Trod enc Tryz.prog W base spare held 23 (.slice A m c) y4.1 y4.2 := ⟨k, g4⟩
    obtain ⟨l, r1, r2, r3⟩ := open_u64s0 hT
    refine ⟨⟨z0.toNat, z1, z2, z3, l, z5, z6⟩, A, m, c, ?_, r1, r2, ⟨by show z0.toNat < _; omega, b1, b2, r3⟩, fun hw => ?_⟩
    · show [Value.int .u64 z0, Value.int .i64 z1, Value.int .i64 z2, Value.int .i64 z3, Value.slice A m c, Value.int .i64 z5, Value.int .i64 z6] = [Value.int .u64 (z0.toNat : Int), Value.int .i64 z1, Value.int .i64 z2, Value.int .i64 z3, Value.slice A m c, Value.int .i64 z5, Value.int .i64 z6]
      rw [Int.toNat_of_nonneg (by omega)]
    · simp only [DataW.weights, Tryz.underlying25] at hw
      exact u64s_bound hT fun z hz => hw z (DataW.weights_mem_each (j := 4) rfl rfl z hz)
set_option maxRecDepth 100000 in
theorem open_meta {b0 : Nat} {r : Reach} {v : Value} {d : DataW H} {p : List MemPlace} (hval : Value.okWide Tryz.prog W r b0 25 v) (h : DataW.Trod enc Tryz.prog W base spare held 25 v d p) (hw : ∀ z ∈ d.weights Tryz.prog 25, z ≤ reachBytes) :
    ∃ (m : Met) (A : Option Addr) (n c : Nat), v = .agg #[.int .u64 (m.id : Int), .int .i64 m.lo, .int .i64 m.hi, .int .i64 m.lv, .slice A n c, .int .i64 m.sr, .int .i64 m.pt] ∧ RE elU W A n m.src ∧ (n ≤ c ∧ c ≤ 9223372036854775807) ∧ MetW m ∧ n ≤ 17592186043904 := by
  obtain ⟨cs, rfl, _⟩ := okWide_struct Tryz.underlying25 hval
  obtain ⟨fuel, hf⟩ := h
  have hc : Value.cells (.agg cs) = cs := rfl
  rw [hc] at hf
  obtain ⟨m, A, k, c, e, r1, r2, r3, r4⟩ := dec_met _ _ _ hf
  obtain ⟨cl⟩ := cs
  simp only at e
  subst e
  exact ⟨m, A, k, c, rfl, r1, r2, r3, r4 hw⟩
end
end Go.Proofs.YtlcaaacbookopaaGreatDoor

namespace Go.Proofs.YtlcaaacbookopaaGreatDoor
open Go.ChangeShapes Go.WideShapes Go.ChangeAt Go.RowKit Go.Deep

section
variable {H : Type} {enc : TypeId × Value → H} {W : World} {base : Nat} {spare : Nat → Bool} {held : Bool}
theorem cells9 : Tryz.prog.cellsOf 9 = 1 := by kernel_rfl
theorem str_len (s : ByteArray) : s.data.toList.length = s.size := by rw [Array.length_toList]; rfl

set_option maxRecDepth 100000 in
theorem dec_label (n : Nat) (cs : List Value) (x : DataW H × List MemPlace) (h : DataW.trod enc Tryz.prog W base spare held n 79 cs = some x) (hl : cs.length = Tryz.prog.cellsOf 79) :
    ∃ y, cs = elLb.cells y ∧ (y.1.size ≤ Rows.uptoBulk x.1 ∧ y.2.size ≤ Rows.uptoBulk x.1) := by
  obtain ⟨xs, k, _, rfl, _, hxl, hf⟩ := DataW.trod_struct Tryz.underlying79 h
  have hl2 : cs.length = 2 := hl.trans (by kernel_rfl)
  match xs, hxl, cs, hl2 with
  | [y0, y1], _, [v0, v1], _ =>
    have g0' : DataW.trod enc Tryz.prog W base spare held k 9 (([v0, v1].drop 0).take (Tryz.prog.cellsOf 9)) = some y0 := hf 0 _ rfl
    rw [cells9] at g0'
    have g0 : DataW.trod enc Tryz.prog W base spare held k 9 [v0] = some y0 := g0'
    have g1' : DataW.trod enc Tryz.prog W base spare held k 9 (([v0, v1].drop 1).take (Tryz.prog.cellsOf 9)) = some y1 := hf 1 _ rfl
    rw [cells9] at g1'
    have g1 : DataW.trod enc Tryz.prog W base spare held k 9 [v1] = some y1 := g1'
    obtain ⟨s0, e0, d0, _⟩ := DataW.trod_string Tryz.underlying9 g0
    obtain ⟨s1, e1, d1, _⟩ := DataW.trod_string Tryz.underlying9 g1
    obtain rfl := (List.cons.inj e0).1
    obtain rfl := (List.cons.inj e1).1
    subst d0; subst d1
    refine ⟨(s0, s1), rfl, ?_⟩
    simp only [List.map_cons, List.map_nil, Rows.uptoBulk, Rows.uptoBulkAll, str_len]
    omega
set_option maxRecDepth 100000 in
theorem open_labels {A : Option Addr} {n c : Nat} {d : DataW H} {p : List MemPlace} (h : DataW.Trod enc Tryz.prog W base spare held 80 (.slice A n c) d p) :
    ∃ l : List (ByteArray × ByteArray), RE elLb W A n l ∧ n ≤ Rows.uptoBulk d ∧ (n ≤ c ∧ c ≤ 9223372036854775807) ∧ ∀ x ∈ l, x.2.size ≤ Rows.uptoBulk d := by
  obtain ⟨l, h1, h2, h3, h4⟩ := open_elems elLb (fun y dd => y.1.size ≤ Rows.uptoBulk dd ∧ y.2.size ≤ Rows.uptoBulk dd) Tryz.underlying80 (by kernel_rfl) dec_label h
  exact ⟨l, h1, h2, h3, fun x hx => by obtain ⟨dd, h5, h6⟩ := h4 x hx; omega⟩
end
end Go.Proofs.YtlcaaacbookopaaGreatDoor

namespace Go.Proofs.YtlcaaacbookopaaGreatDoor
open Go.RowKit

theorem infoSer : (Tryz.prog.info? 85).map (fun i => (i.zero, i.size, i.bytes)) = some (some (.agg #[.slice none 0 0, .slice none 0 0]), 2, 48) := by kernel_rfl
theorem NsE.mono {w : World} {base base' : Nat} {m : SerM} {s : Ser} (h : NsE w base m s) (hb : base' ≤ base) : NsE w base' m s := ⟨Own.mono h.lb hb, Own.mono h.pt hb⟩
/-- lengths that memory bears -/
structure Small (ss : List Ser) : Prop where
  n : ss.length ≤ 1073741824
  el : ∀ s ∈ ss, s.lbs.length ≤ 1048576 ∧ s.pts.length ≤ 1099511627776
/-- new series: their labels and points lie in rows of the call's own -/
def NewS (w : World) (ss : List Ser) (e : Ending) (w' : World) : Prop := ∃ A c, e = .returned (.slice A ss.length c) ∧ NS w' w.heap.size A ss.length c ss ∧ Grew w w'
end Go.Proofs.YtlcaaacbookopaaGreatDoor

namespace Go.Proofs.YtlcaaacbookopaaGreatDoor
open Go.RowKit

/-- a list of series that came in, of a size that memory bears -/
structure InS (w : World) (A : Option Addr) (n c : Nat) (ss : List Ser) : Prop where
  rs : RS w A n ss
  cap : n ≤ c ∧ c ≤ 9223372036854775807
  small : Small ss
  len : ss.length ≤ 4194304
  tot : tot ss ≤ 4194304
theorem InS.grew {w w' : World} {A : Option Addr} {n c : Nat} {ss : List Ser} (h : InS w A n c ss) (hg : Grew w w') : InS w' A n c ss := ⟨h.rs.grew hg, h.cap, h.small, h.len, h.tot⟩
end Go.Proofs.YtlcaaacbookopaaGreatDoor
