/-
  Several texts in one:
  The document's bytes of a meta (tidewrackref9.EncodeMeta). Conditions: lengths that memory bears; numbers of 64 bits.
-/
import Derived.Test.YtlcaaacbookopaaGreatDoorPart38

namespace Go.Proofs.YtlcaaacbookopaaGreatDoor
open Go.RowKit

/-- new bytes, so many at most -/
def NwB (w : World) (k : Nat) (l : List UInt8) (e : Ending) (w' : World) : Prop := ∃ B n C, n ≤ k ∧ e = .returned (.slice B n C) ∧ OB w' w.heap.size 5 B n C l ∧ Grew w w'
theorem rput (A : Option Addr) (m c : Nat) (l : List UInt8) (v : Nat) (vz : Int) (w : World) (h : RB w A m l) (hvz : vz = v) (hm : m ≤ 140737488355300) (hv : v < 18446744073709551616) :
    Calls Tryz.prog 29 #[.slice A m c, .int .u64 vz] w (NwB w (m + 10) (l ++ uv v)) :=
  (refPutUint_any A m c l v vz w h hvz hm hv).mono fun e w' ⟨B, C, he, ho, hg⟩ => ⟨B, _, C, by have := uv_len10 hv; omega, he, ho, hg⟩
theorem rputI (A : Option Addr) (m c : Nat) (l : List UInt8) (x : Int) (w : World) (h : RB w A m l) (hm : m ≤ 140737488355300) (h1 : -9223372036854775808 ≤ x) (h2 : x ≤ 9223372036854775807) :
    Calls Tryz.prog 30 #[.slice A m c, .int .i64 x] w (NwB w (m + 10) (l ++ uv (zz x))) :=
  (refPutInt_any A m c l x w h hm h1 h2).mono fun e w' ⟨B, C, he, ho, hg⟩ => ⟨B, _, C, by have := uv_len10 (zz_lt h1 h2); omega, he, ho, hg⟩
set_option maxRecDepth 100000 in
set_option maxHeartbeats 4000000 in
theorem rsealed_any (base : Nat) (A : Option Addr) (n c : Nat) (l : List UInt8) (w : World) (h : OB w base 5 A n c l) (hb : base ≤ w.heap.size) (hn : n ≤ 140737488355000) :
    Calls Tryz.prog 31 #[.slice A n c] w (SealP w base A n l) := by
  have hS := refSum_any A n c l w h.rb (by omega)
  have hcl := crc_lt l
  unfold SealP sealB
  obtain ⟨s, hs⟩ : ∃ s, crc l = s := ⟨_, rfl⟩
  rw [hs] at hS hcl ⊢
  clear hs
  go_enter Tryz.func31, Tryz.ntmps31
  go_wp2_with fail
  refine hS.mono ?_
  rintro e w1 ⟨rfl, rfl⟩
  go_wp2_with fail
  refine (four_any s _ hcl).mono ?_
  rintro e w2 ⟨D, d, rfl, hD, hg2⟩
  have ho := h.grew hg2
  have hsz := hg2.size
  clear hS
  go_wp2_with (at_builtin; go_loud (refine wpList_appB rfl _ _ rfl base A n c l rfl ho (by omega) D 4 d (four s) rfl hD.rb (by omega) ?_); intro A2 c2 w3 h3)
  go_ret
  exact ⟨A2, c2, rfl, h3.ob, (Chg.of_grew hg2).trans h3.chg⟩

set_option maxRecDepth 100000 in
set_option maxHeartbeats 4000000 in
theorem rencodeMeta_no (m : Met) (D : Option Addr) (p d : Nat) (w : World) (h : RE elU w D p m.src) (hp : p ≤ 9223372036854775807) (hno : metOk m = false) :
    Calls Tryz.prog 7 #[.agg #[.int .u64 (m.id : Int), .int .i64 m.lo, .int .i64 m.hi, .int .i64 m.lv, .slice D p d, .int .i64 m.sr, .int .i64 m.pt]] w (EncP w [] 92) := by
  have hg0 : Grew w (w.alloc (.cells #[.int .u64 (m.id : Int), .int .i64 m.lo, .int .i64 m.hi, .int .i64 m.lv, .slice D p d, .int .i64 m.sr, .int .i64 m.pt] 25)) := (Chg.refl _ w).alloc _
  have hM := metaIs_any m D p d _ (h.grew hg0) hp
  rw [hno] at hM
  unfold EncP
  go_enter Tryz.func7, Tryz.ntmps7
  go_wp2_with fail
  refine hM.mono ?_
  rintro e w1 ⟨rfl, hg1⟩
  clear hM
  go_wp2
  go_ret2
  exact ⟨none, 0, rfl, Own.nil _ _ _ _, hg0.trans hg1⟩

set_option maxRecDepth 100000 in
set_option maxHeartbeats 8000000 in
theorem rencodeMeta_ok (m : Met) (D : Option Addr) (p d : Nat) (w : World) (h : RE elU w D p m.src) (hok : metOk m = true) (hw : MetW m) :
    Calls Tryz.prog 7 #[.agg #[.int .u64 (m.id : Int), .int .i64 m.lo, .int .i64 m.hi, .int .i64 m.lv, .slice D p d, .int .i64 m.sr, .int .i64 m.pt]] w (EncP w (encM m) 0) := by
  obtain ⟨o1, o2, o3, o4, o5, o6⟩ := (metOk_iff m).1 hok
  have hpl : m.src.length = p := h.1
  have hp : p ≤ 64 := by rw [← hpl]; exact o6
  obtain ⟨W, hW⟩ : ∃ W, W = w.alloc (.cells #[.int .u64 (m.id : Int), .int .i64 m.lo, .int .i64 m.hi, .int .i64 m.lv, .slice D p d, .int .i64 m.sr, .int .i64 m.pt] 25) := ⟨_, rfl⟩
  have hg0 : Grew w W := by rw [hW]; exact (Chg.refl _ w).alloc _
  have hb0 : Blk W w.heap.size 25 #[.int .u64 (m.id : Int), .int .i64 m.lo, .int .i64 m.hi, .int .i64 m.lv, .slice D p d, .int .i64 m.sr, .int .i64 m.pt] := by rw [hW]; exact Blk.new w _ _
  have hM := metaIs_any m D p d W (h.grew hg0) (by omega)
  rw [hok] at hM
  obtain ⟨a3, e3⟩ : ∃ a : Nat, m.lv = (a : Int) := ⟨m.lv.toNat, by omega⟩
  obtain ⟨a5, e5⟩ : ∃ a : Nat, m.sr = (a : Int) := ⟨m.sr.toNat, by omega⟩
  obtain ⟨a6, e6⟩ : ∃ a : Nat, m.pt = (a : Int) := ⟨m.pt.toNat, by omega⟩
  have hfin : Hid (encM m = sealB (headM ++ uv m.id ++ uv a3 ++ uv a5 ++ uv a6 ++ uv (zz m.lo) ++ uv (zz m.hi) ++ uv p ++ m.src.flatMap uv)) := Lib.hid (by
    unfold encM metB uvs
    rw [hpl]
    simp [e3, e5, e6])
  have b3 : a3 < 18446744073709551616 := by omega
  have b5 : a5 < 18446744073709551616 := by omega
  have b6 : a6 < 18446744073709551616 := by omega
  obtain ⟨R, hR⟩ : ∃ R, encM m = R := ⟨_, rfl⟩
  rw [hR] at hfin ⊢
  replace hR := Lib.hid hR
  replace hpl := Lib.hid hpl
  have E3 := Lib.hid e3
  have E5 := Lib.hid e5
  have E6 := Lib.hid e6
  clear e3 e5 e6
  unfold EncP
  go_enter Tryz.func7, Tryz.ntmps7
  go_wp2_with fail
  rw [← hW]
  refine hM.mono ?_
  rintro e w1 ⟨rfl, hg1⟩
  have hb1 := hb0.grew hg1
  have m0 := hb1.cell 0
  have ml := hb1.lt
  simp only [List.getElem?_toArray, List.getElem?_cons_zero] at m0
  have gH : Grew w1 (w1.alloc (.cells #[.int .u8 84, .int .u8 87, .int .u8 77, .int .u8 1] 5)) := (Chg.refl _ w1).alloc _
  have rH : RB (w1.alloc (.cells #[.int .u8 84, .int .u8 87, .int .u8 77, .int .u8 1] 5)) (some ⟨w1.heap.size, 0, none⟩) 4 headM := RB.new w1 headM 4 _ 5 rfl rfl
  clear hM hW
  go_wp2_with fail
  refine (rput _ 4 4 headM m.id _ _ rH rfl (by omega) hw.id).mono ?_
  rintro e w2 ⟨B2, n2, c2, l2, rfl, h2, g2⟩
  have gr2 := ((hg0.trans hg1).trans gH).trans g2
  have hb2 := (hb1.grew gH).grew g2
  clear m0 ml hb1 hb0 rH gH g2 hg1
  have m3 := hb2.cell 3
  simp only [List.getElem?_toArray, List.getElem?_cons_succ, List.getElem?_cons_zero] at m3
  rw [E3.out] at m3
  go_wp2_with fail
  refine (rput B2 n2 c2 _ a3 _ _ h2.rb rfl (by omega) b3).mono ?_
  rintro e w3 ⟨B3, n3, c3, l3, rfl, h3, g3⟩
  have gr3 := gr2.trans g3
  have hb3 := hb2.grew g3
  clear m3 hb2 h2 g3 gr2
  have m5 := hb3.cell 5
  simp only [List.getElem?_toArray, List.getElem?_cons_succ, List.getElem?_cons_zero] at m5
  rw [E5.out] at m5
  go_wp2_with fail
  refine (rput B3 n3 c3 _ a5 _ _ h3.rb rfl (by omega) b5).mono ?_
  rintro e w4 ⟨B4, n4, c4, l4, rfl, h4, g4⟩
  have gr4 := gr3.trans g4
  have hb4 := hb3.grew g4
  clear m5 hb3 h3 g4 gr3
  have m6 := hb4.cell 6
  simp only [List.getElem?_toArray, List.getElem?_cons_succ, List.getElem?_cons_zero] at m6
  rw [E6.out] at m6
  go_wp2_with fail
  refine (rput B4 n4 c4 _ a6 _ _ h4.rb rfl (by omega) b6).mono ?_
  rintro e w5 ⟨B5, n5, c5, l5, rfl, h5, g5⟩
  have gr5 := gr4.trans g5
  have hb5 := hb4.grew g5
  clear m6 hb4 h4 g5 gr4
  have m1 := hb5.cell 1
  have m2 := hb5.cell 2
  simp only [List.getElem?_toArray, List.getElem?_cons_succ, List.getElem?_cons_zero] at m1 m2
  have hcs : CellsIn [w.heap.size] w5 := cellsIn_one hb5
  have hsm := Lib.hid fun (Y : World) (g : Grew w5 Y) => sameIn_of g hcs fun _ _ e => e
  go_wp2_with fail
  refine wp_region_textS [] [w.heap.size] (by kernel_rfl) (by kernel_rfl) hcs ?_
  simp only [wpU, tagOf, chk, List.cons_append, List.nil_append]
  have p0 : Grew w5 w5.drew := (Chg.refl _ w5).drew
  intro K hK
  go_wp2_with fail
  refine OnlyN.normal (hK _ _ (fun _ => ⟨_, _, _, rfl, rfl, by simp⟩) ?_)
  clear hK K
  intro K hK
  go_wp2_with fail
  refine (rputI B5 n5 c5 _ m.lo _ (h5.rb.grew p0) (by omega) hw.lo.1 hw.lo.2).mono ?_
  rintro e w6 ⟨B6, n6, c6, l6, rfl, h6, g6⟩
  have k6 := p0.trans g6
  go_wp2_with fail
  refine OnlyN.normal (hK _ _ (hsm.out _ k6) ?_)
  clear hK K m1 m2
  have hb6 := hb5.grew k6
  have m2 := hb6.cell 2
  simp only [List.getElem?_toArray, List.getElem?_cons_succ, List.getElem?_cons_zero] at m2
  intro K hK
  go_wp2_with fail
  refine OnlyN.normal (hK _ _ (fun _ => ⟨_, _, _, rfl, rfl, by simp⟩) ?_)
  clear hK K
  intro K hK
  go_wp2_with fail
  refine (rputI B6 n6 c6 _ m.hi _ h6.rb (by omega) hw.hi.1 hw.hi.2).mono ?_
  rintro e w7 ⟨B7, n7, c7, l7, rfl, h7, g7⟩
  have k7 := k6.trans g7
  go_wp2_with fail
  refine OnlyN.normal (hK _ _ (hsm.out _ k7) ?_)
  clear hK K hsm hcs m2
  have gr7 := gr5.trans k7
  have hb7 := hb6.grew g7
  have m4 := hb7.cell 4
  simp only [List.getElem?_toArray, List.getElem?_cons_succ, List.getElem?_cons_zero] at m4
  clear h5 h6 hb5 hb6 g6 g7 k6 k7 p0 gr5
  go_wp2_with fail
  refine OnlyN.normal ?_
  go_wp2_with fail
  refine (rput B7 n7 c7 _ p _ _ h7.rb rfl (by omega) (by omega)).mono ?_
  rintro e w8 ⟨B8, n8, c8, l8, rfl, h8, g8⟩
  have gr8 := gr7.trans g8
  have hb8 := hb7.grew g8
  have hs7 := gr7.size
  have h8' := Own.mono h8 hs7
  clear m4 h7 hb7 g8 gr7 h8
  obtain ⟨b8, hb8e⟩ : ∃ b, headM ++ uv m.id ++ uv a3 ++ uv a5 ++ uv a6 ++ uv (zz m.lo) ++ uv (zz m.hi) ++ uv p = b := ⟨_, rfl⟩
  rw [hb8e] at h8' hfin
  clear hb8e
  go_wp2
  go_loopw [4, 5] (fun s i wr => ∃ (j : Nat) (B : Option Addr) (n c : Nat), j ≤ p ∧ i = .int .i64 (j : Int) ∧ s = .slice B n c ∧ n ≤ 74 + 10 * j ∧ OB wr w.heap.size 5 B n c (b8 ++ (m.src.take j).flatMap uv) ∧ Blk wr w.heap.size 25 #[.int .u64 (m.id : Int), .int .i64 m.lo, .int .i64 m.hi, .int .i64 m.lv, .slice D p d, .int .i64 m.sr, .int .i64 m.pt] ∧ Grew w wr) (fun _ i _ => p - (intOf i).toNat)
  case atStart => exact ⟨0, B8, n8, c8, by omega, rfl, rfl, by omega, by rw [List.take_zero, List.flatMap_nil, List.append_nil]; exact h8', hb8, gr8⟩
  case round =>
    clear h8' hb8 gr8
    obtain ⟨j, B, n, c, hj, rfl, rfl, hnn, ho, hb, hg⟩ := hrel
    have m4 := hb.cell 4
    simp only [List.getElem?_toArray, List.getElem?_cons_succ, List.getElem?_cons_zero] at m4
    by_cases hlt : j < p
    · obtain ⟨ad, x, rfl, hx, x0⟩ := (h.grew hg).uat hlt
      have hxl := hw.src x (List.mem_of_getElem? hx)
      have htk : Hid (b8 ++ (m.src.take (j + 1)).flatMap uv = b8 ++ (m.src.take j).flatMap uv ++ uv x) := Lib.hid (by rw [List.take_add_one, hx]; simp)
      clear hx
      go_wp2_with fail
      refine (rput B n c _ x _ _ (OB.rb ho) rfl (by omega) hxl).mono ?_
      rintro e w9 ⟨B9, n9, c9, l9, rfl, h9, g9⟩
      have hs9 := hg.size
      have h9' := Own.mono h9 hs9
      have hb9 := hb.grew g9
      clear h9 x0 m4
      go_wp2
      go_roundw
      case rel =>
        refine ⟨j + 1, B9, n9, c9, by omega, by go_num, rfl, by omega, ?_, hb9, hg.trans g9⟩
        rw [htk.out]
        exact h9'
      case measure => simp [intOf]; omega
    · obtain rfl : j = p := by omega
      rw [List.take_of_length_le (by have := hpl.out; omega)] at ho
      have hs9 := hg.size
      go_wp2_with fail
      refine (rsealed_any w.heap.size B n c _ _ ho hs9 (by omega)).mono ?_
      rintro e w9 ⟨B9, c9, rfl, h9, g9⟩
      have hbl := Own.blk_lt ho
      rw [← hfin.out] at h9
      have hlen := OB.len h9
      replace hlen := Lib.hid hlen
      go_wp2
      go_ret2
      refine ⟨B9, c9, by rw [hlen.out]; simp, by rw [hlen.out]; exact h9, hg.step g9 fun k hk ⟨ad, e, he⟩ => by have := (hbl ad e).1; omega⟩
end Go.Proofs.YtlcaaacbookopaaGreatDoor
