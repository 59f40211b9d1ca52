/-
  Several texts in one:
  The document's bytes of an index (tidewrackref14.Encode); what is no index has none. Conditions: numbers of 64 bits.
  Bytes of metas and of indexes, told apart; an index' own bytes read by the document's reader; the boxes of the document's Decode. Conditions: numbers of 64 bits.
  The document's (tidewrackref14.Decode) on any bytes: an index is read just of its own bytes. Conditions: lengths that memory bears.
  An index' reader on any bytes: its numbers. Conditions: lengths that memory bears.
-/
import Derived.Test.YtjoaonppaokhhaaGreatPart51
import Derived.Test.YtjoaonppaokhhaaGreatPart50
import Derived.Test.YtjoaonppaokhhaaGreatPart34

namespace Go.Proofs.YtjoaonppaokhhaaGreat
open Go.RowKit

set_option maxRecDepth 100000 in
set_option maxHeartbeats 4000000 in
theorem encode_no (v : Nat) (fl : Int) (A : Option Addr) (n c : Nat) (es : List Ent) (w : World) (h : RX w A n es) (hn : n ≤ 9223372036854775807) (hck : chkI fl es = false) :
    Calls Tryz.prog 27 #[.agg #[.int .u64 (v : Int), .int .i64 fl, .slice A n c]] w (EncP w [] 140) := by
  have hg0 : Grew w (w.alloc (.cells #[.int .u64 (v : Int), .int .i64 fl, .slice A n c] 25)) := (Chg.refl _ w).alloc _
  have hC := check_any v fl A n c es _ (h.grew hg0) hn
  rw [hck] at hC
  unfold EncP
  go_enter Tryz.func27, Tryz.ntmps27
  go_wp2_with fail
  refine hC.mono ?_
  rintro e w1 ⟨rfl, hg1⟩
  unfold errI
  clear hC
  go_wp2
  go_ret2
  exact ⟨none, 0, rfl, Own.nil _ _ _ _, hg0.trans hg1⟩
set_option maxRecDepth 100000 in
set_option maxHeartbeats 4000000 in
theorem rencode_no (v : Nat) (fl : Int) (A : Option Addr) (n c : Nat) (es : List Ent) (w : World) (h : RX w A n es) (hn : n ≤ 9223372036854775807) (hck : chkI fl es = false) :
    Calls Tryz.prog 24 #[.agg #[.int .u64 (v : Int), .int .i64 fl, .slice A n c]] w (EncP w [] 140) := by
  have hg0 : Grew w (w.alloc (.cells #[.int .u64 (v : Int), .int .i64 fl, .slice A n c] 25)) := (Chg.refl _ w).alloc _
  have hC := rcheck_any v fl A n c es _ (h.grew hg0) hn
  rw [hck] at hC
  unfold EncP
  go_enter Tryz.func24, Tryz.ntmps24
  go_wp2_with fail
  refine hC.mono ?_
  rintro e w1 ⟨rfl, hg1⟩
  unfold errI
  clear hC
  go_wp2
  go_ret2
  exact ⟨none, 0, rfl, Own.nil _ _ _ _, hg0.trans hg1⟩

set_option maxRecDepth 100000 in
set_option maxHeartbeats 8000000 in
theorem rencode_ok (v : Nat) (fl : Int) (A : Option Addr) (n c : Nat) (es : List Ent) (w : World) (h : RX w A n es) (hok : IxOk fl es) (hv : v < 18446744073709551616) (hw : ∀ e ∈ es, EntW e) :
    Calls Tryz.prog 24 #[.agg #[.int .u64 (v : Int), .int .i64 fl, .slice A n c]] w (EncP w (encI v fl es) 0) := by
  obtain ⟨W, hW⟩ : ∃ W, W = w.alloc (.cells #[.int .u64 (v : Int), .int .i64 fl, .slice A n c] 25) := ⟨_, rfl⟩
  have hg0 : Grew w W := by rw [hW]; exact (Chg.refl _ w).alloc _
  have hb0 : Blk W w.heap.size 25 #[.int .u64 (v : Int), .int .i64 fl, .slice A n c] := by rw [hW]; exact Blk.new w _ _
  have hln : es.length = n := h.len
  have hn : n ≤ 256 := by rw [← hln]; exact hok.len
  have hC := rcheck_any v fl A n c es W (h.grew hg0) (by omega)
  rw [(chkI_iff fl es).2 hok] at hC
  have hfl1 : -9223372036854775808 ≤ fl := by have := hok.lo; omega
  have hfl2 : fl ≤ 9223372036854775807 := by have := hok.hi; omega
  have hfin : Hid (encI v fl es = sealB (uv v ++ uv (zz fl) ++ uv n ++ es.flatMap entB)) := Lib.hid (by unfold encI bodyI; rw [hln])
  obtain ⟨R, hR⟩ : ∃ R, encI v fl es = R := ⟨_, rfl⟩
  rw [hR] at hfin ⊢
  clear hR
  replace hln := Lib.hid hln
  unfold EncP
  go_enter Tryz.func24, Tryz.ntmps24
  go_wp2_with fail
  rw [← hW]
  refine hC.mono ?_
  rintro e w1 ⟨rfl, hg1⟩
  unfold errI
  have hb1 := hb0.grew hg1
  have gr1 := hg0.trans hg1
  have m0 := hb1.cell 0
  have m1 := hb1.cell 1
  simp only [List.getElem?_toArray, List.getElem?_cons_succ, List.getElem?_cons_zero] at m0 m1
  have hcs : CellsIn [w.heap.size] w1 := cellsIn_one hb1
  have hsm := Lib.hid fun (Y : World) (g : Grew w1 Y) => sameIn_of g hcs fun _ _ e => e
  clear hC hW hb0 hg0 hg1
  go_wp2_with fail
  refine wp_region_textS [] [w.heap.size] (by kernel_rfl) (by kernel_rfl) hcs ?_
  simp only [wpU, tagOf, chk, List.cons_append, List.nil_append]
  have p0 : Grew w1 w1.drew := (Chg.refl _ w1).drew
  intro K hK
  go_wp2_with fail
  refine OnlyN.normal (hK _ _ (fun _ => ⟨_, _, _, rfl, rfl, by simp⟩) ?_)
  clear hK K
  intro K hK
  go_wp2_with fail
  refine (rput none 0 0 [] v _ _ ⟨rfl, Rd.nil _ _⟩ rfl (by omega) hv).mono ?_
  rintro e w2 ⟨B2, n2, c2, l2, rfl, h2, g2⟩
  rw [List.nil_append] at h2
  have k2 := p0.trans g2
  go_wp2_with fail
  refine OnlyN.normal (hK _ _ (hsm.out _ k2) ?_)
  clear hK K m0 m1
  have m1 := (hb1.grew k2).cell 1
  simp only [List.getElem?_toArray, List.getElem?_cons_succ, List.getElem?_cons_zero] at m1
  intro K hK
  go_wp2_with fail
  refine OnlyN.normal (hK _ _ (fun _ => ⟨_, _, _, rfl, rfl, by simp⟩) ?_)
  clear hK K
  intro K hK
  go_wp2_with fail
  refine (rputI B2 n2 c2 _ fl _ h2.rb (by omega) hfl1 hfl2).mono ?_
  rintro e w3 ⟨B3, n3, c3, l3, rfl, h3, g3⟩
  have k3 := k2.trans g3
  go_wp2_with fail
  refine OnlyN.normal (hK _ _ (hsm.out _ k3) ?_)
  clear hK K hsm hcs m1
  have gr3 := gr1.trans k3
  have hb3 := hb1.grew k3
  have m2 := hb3.cell 2
  simp only [List.getElem?_toArray, List.getElem?_cons_succ, List.getElem?_cons_zero] at m2
  clear h2 hb1 g2 g3 k2 k3 p0 gr1
  go_wp2_with fail
  refine OnlyN.normal ?_
  go_wp2_with fail
  refine (rput B3 n3 c3 _ n _ _ h3.rb rfl (by omega) (by omega)).mono ?_
  rintro e w4 ⟨B4, n4, c4, l4, rfl, h4, g4⟩
  have gr4 := gr3.trans g4
  have hb4 := hb3.grew g4
  have hs4 := gr3.size
  have h4' := Own.mono h4 hs4
  clear m2 h3 hb3 g4 gr3 h4
  obtain ⟨b8, hb8e⟩ : ∃ b, uv v ++ uv (zz fl) ++ uv n = b := ⟨_, rfl⟩
  rw [hb8e] at h4' hfin
  clear hb8e
  go_wp2
  go_loopw [5, 6] (fun s i wr => ∃ (j : Nat) (B : Option Addr) (k c2 : Nat), j ≤ n ∧ i = .int .i64 (j : Int) ∧ s = .slice B k c2 ∧ k ≤ 30 + 790 * j ∧ OB wr w.heap.size 5 B k c2 (b8 ++ (es.take j).flatMap entB) ∧ Blk wr w.heap.size 25 #[.int .u64 (v : Int), .int .i64 fl, .slice A n c] ∧ Grew w wr) (fun _ i _ => n - (intOf i).toNat)
  case atStart => exact ⟨0, B4, n4, c4, by omega, rfl, rfl, by omega, by rw [List.take_zero, List.flatMap_nil, List.append_nil]; exact h4', hb4, gr4⟩
  case round =>
    clear h4' hb4 gr4
    obtain ⟨j, B, k, c2, hj, rfl, rfl, hkk, ho, hb, hg⟩ := hrel
    have m2 := hb.cell 2
    simp only [List.getElem?_toArray, List.getElem?_cons_succ, List.getElem?_cons_zero] at m2
    by_cases hlt : j < n
    · obtain ⟨ad, m, rfl, hx, hm, x0, x1, x2, x3, x4, x5, x6, x7, x8⟩ := (h.grew hg).at_ hlt
      have hmem := List.mem_of_getElem? hx
      have hmo := (hok.el m.e hmem).1
      have hmw := hw m.e hmem
      have htk : Hid (b8 ++ (es.take (j + 1)).flatMap entB = b8 ++ (es.take j).flatMap entB ++ uv (encM m.e.m).length ++ encM m.e.m ++ uv (bitN m.e.mkd) ++ uv (zz m.e.tm)) := Lib.hid (by
        rw [List.take_add_one, hx]
        simp [entB])
      obtain ⟨W, hW⟩ : ∃ W, W = wr.alloc (.cells #[.int .u64 (m.e.m.id : Int), .int .i64 m.e.m.lo, .int .i64 m.e.m.hi, .int .i64 m.e.m.lv, .slice m.A m.n m.c, .int .i64 m.e.m.sr, .int .i64 m.e.m.pt, .bool m.e.mkd, .int .i64 m.e.tm] 51) := ⟨_, rfl⟩
      have hgW : Grew wr W := by rw [hW]; exact (Chg.refl _ wr).alloc _
      obtain ⟨gx, hgx⟩ : ∃ g, wr.heap.size = g := ⟨_, rfl⟩
      have hbW : Blk W gx 51 #[.int .u64 (m.e.m.id : Int), .int .i64 m.e.m.lo, .int .i64 m.e.m.hi, .int .i64 m.e.m.lv, .slice m.A m.n m.c, .int .i64 m.e.m.sr, .int .i64 m.e.m.pt, .bool m.e.mkd, .int .i64 m.e.tm] := by rw [hW, ← hgx]; exact Blk.new wr _ _
      have hmr : m.n = m.e.m.src.length := hm.row.1.symm
      have hE := rencodeMeta_ok m.e.m m.A m.n m.c W (hm.row.grew hgW) hmo hmw.m
      have hel := encM_len hmo hmw.m
      unfold EncP at hE
      obtain ⟨Q, hQ⟩ : ∃ Q, encM m.e.m = Q := ⟨_, rfl⟩
      rw [hQ] at hE hel htk
      obtain ⟨nQ, hnQ⟩ : ∃ k, Q.length = k := ⟨_, rfl⟩
      rw [hnQ] at hE hel htk
      have hgx' := Lib.hid hgx
      have hnQ' := Lib.hid hnQ
      clear hx hmem hgx hnQ hQ hmr
      go_wp2_with fail
      rw [← hW, hgx'.out]
      refine hE.mono ?_
      rintro e w5 ⟨C5, c5, rfl, o5, g5⟩
      have hb5 := hbW.grew g5
      have hcv := run_conv_RB (P := Tryz.prog) (c := c5) Tryz.underlying42 Tryz.underlying5 Tryz.underlying9 o5.rb
      have hsz : (⟨Q.toArray⟩ : ByteArray).size = nQ := by show Q.toArray.size = nQ; rw [List.size_toArray]; exact hnQ'.out
      have hsd : (⟨Q.toArray⟩ : ByteArray).data.toList = Q := by simp
      generalize (⟨Q.toArray⟩ : ByteArray) = sQ at hcv hsz hsd
      replace hsz := Lib.hid hsz
      replace hsd := Lib.hid hsd
      have hT := fun W' (hg' : Grew w5 W') => rputT B k c2 _ sQ W' (((OB.rb ho).grew (hgW.trans g5)).grew hg') (by rw [hsz.out]; omega)
      rw [hsz.out, hsd.out] at hT
      replace hT := Lib.hid hT
      have gr5 := (hg.trans hgW).trans g5
      have hbi5 := (hb.grew hgW).grew g5
      have hs5 := gr5.size
      clear hE hW m2 x0 x1 x2 x3 x4 x5 x6 x7 x8 ho hb hg o5 g5 hgW hbW hm
      go_wp2_with fail
      refine (hT.out _ (Chg.refl _ _)).mono ?_
      rintro e w6 ⟨B6, n6, c6, l6, rfl, o6, g6⟩
      have hb6 := hb5.grew g6
      have hbi6 := hbi5.grew g6
      have gr6 := gr5.trans g6
      have y7 := hb6.cell 7
      simp only [List.getElem?_toArray, List.getElem?_cons_succ, List.getElem?_cons_zero] at y7
      clear hT hcv hb5 hbi5 hgx' hs5 gr5 g6
      cases hmk : m.e.mkd
      · have hbit : bitN m.e.mkd = 0 := by rw [hmk]; rfl
        rw [hmk] at y7
        rw [hbit] at htk
        clear hbit hmk
        go_wp2_with fail
        refine (rput B6 n6 c6 _ 0 0 _ o6.rb rfl (by omega) (by omega)).mono ?_
        rintro e w7 ⟨B7, n7, c7, l7, rfl, o7, g7⟩
        have hb7 := hb6.grew g7
        have y8 := hb7.cell 8
        simp only [List.getElem?_toArray, List.getElem?_cons_succ, List.getElem?_cons_zero] at y8
        clear y7
        go_wp2_with fail
        refine (rputI B7 n7 c7 _ m.e.tm _ o7.rb (by omega) hmw.tm.1 hmw.tm.2).mono ?_
        rintro e w8 ⟨B8, n8, c8, l8, rfl, o8, g8⟩
        have hs8 := (gr6.trans g7).size
        have o8' := Own.mono o8 hs8
        have hbi8 := (hbi6.grew g7).grew g8
        have gr8 := (gr6.trans g7).trans g8
        rw [← htk.out] at o8'
        clear y8 o8 o7 o6 hb7
        go_wp2
        go_roundw
        case rel => exact ⟨j + 1, B8, n8, c8, by omega, by go_num, rfl, by omega, o8', hbi8, gr8⟩
        case measure => simp [intOf]; omega
      · have hbit : bitN m.e.mkd = 1 := by rw [hmk]; rfl
        rw [hmk] at y7
        rw [hbit] at htk
        clear hbit hmk
        go_wp2_with fail
        refine (rput B6 n6 c6 _ 1 1 _ o6.rb rfl (by omega) (by omega)).mono ?_
        rintro e w7 ⟨B7, n7, c7, l7, rfl, o7, g7⟩
        have hb7 := hb6.grew g7
        have y8 := hb7.cell 8
        simp only [List.getElem?_toArray, List.getElem?_cons_succ, List.getElem?_cons_zero] at y8
        clear y7
        go_wp2_with fail
        refine (rputI B7 n7 c7 _ m.e.tm _ o7.rb (by omega) hmw.tm.1 hmw.tm.2).mono ?_
        rintro e w8 ⟨B8, n8, c8, l8, rfl, o8, g8⟩
        have hs8 := (gr6.trans g7).size
        have o8' := Own.mono o8 hs8
        have hbi8 := (hbi6.grew g7).grew g8
        have gr8 := (gr6.trans g7).trans g8
        rw [← htk.out] at o8'
        clear y8 o8 o7 o6 hb7
        go_wp2
        go_roundw
        case rel => exact ⟨j + 1, B8, n8, c8, by omega, by go_num, rfl, by omega, o8', hbi8, gr8⟩
        case measure => simp [intOf]; omega
    · obtain rfl : j = n := by omega
      rw [List.take_of_length_le (by have := hln.out; omega)] at ho
      have hbl := Own.blk_lt ho
      have hS := refSum_any B k c2 _ wr (OB.rb ho) (by omega)
      have hcl := crc_lt (b8 ++ es.flatMap entB)
      have hfin2 : Hid (R = (b8 ++ es.flatMap entB) ++ four (crc (b8 ++ es.flatMap entB))) := Lib.hid (by rw [hfin.out]; rfl)
      generalize b8 ++ es.flatMap entB = bb at *
      generalize crc bb = s at *
      have hs9 := hg.size
      go_wp2_with fail
      refine hS.mono ?_
      rintro e w5 ⟨rfl, rfl⟩
      go_wp2_with fail
      refine (four_any s _ hcl).mono ?_
      rintro e w6 ⟨D6, d6, rfl, hD6, g6⟩
      have ho6 := OB.grew ho g6
      have hs6 := g6.size
      clear hS m2
      go_wp2_with (at_builtin; go_loud (refine wpList_appB rfl _ _ rfl w.heap.size B k c2 bb rfl ho6 (by omega) D6 4 d6 (four s) rfl hD6.rb (by omega) ?_); intro A9 c9 w9 h9)
      have h9' := h9.ob
      rw [← hfin2.out] at h9'
      have hlen := OB.len h9'
      replace hlen := Lib.hid hlen
      have hch := h9.chg
      go_ret2
      refine ⟨A9, c9, by rw [hlen.out]; simp, by rw [hlen.out]; exact h9', (hg.trans g6).step hch fun i hi ⟨ad, e, he⟩ => by have := (hbl ad e).1; omega⟩
end Go.Proofs.YtjoaonppaokhhaaGreat

namespace Go.Proofs.YtjoaonppaokhhaaGreat
open Go.RowKit

theorem uv_cancel {a b : Nat} {x y : List UInt8} (ha : a < 18446744073709551616) (hb : b < 18446744073709551616) (h : uv a ++ x = uv b ++ y) : a = b ∧ x = y := by
  have h1 := uintR_at [] x a ha
  have h2 := uintR_at [] y b hb
  rw [List.nil_append] at h1 h2
  rw [h] at h1
  rw [h1] at h2
  injection h2 with h2 _
  subst h2
  exact ⟨rfl, List.append_cancel_left h⟩
theorem flat_cancel : ∀ {xs ys : List Nat} {x y : List UInt8}, xs.length = ys.length → (∀ a ∈ xs, a < 18446744073709551616) → (∀ b ∈ ys, b < 18446744073709551616) → xs.flatMap uv ++ x = ys.flatMap uv ++ y → xs = ys ∧ x = y
  | [], [], x, y, _, _, _, h => ⟨rfl, by simpa using h⟩
  | a :: xs, b :: ys, x, y, hl, ha, hb, h => by
    rw [List.flatMap_cons, List.flatMap_cons, List.append_assoc, List.append_assoc] at h
    obtain ⟨rfl, h2⟩ := uv_cancel (ha a List.mem_cons_self) (hb b List.mem_cons_self) h
    obtain ⟨rfl, h3⟩ := flat_cancel (by simpa using hl) (fun z hz => ha z (List.mem_cons_of_mem _ hz)) (fun z hz => hb z (List.mem_cons_of_mem _ hz)) h2
    exact ⟨rfl, h3⟩
  | [], _ :: _, _, _, hl, _, _, _ => by simp at hl
  | _ :: _, [], _, _, hl, _, _, _ => by simp at hl
theorem encM_inj {m m0 : Met} (h1 : metOk m = true) (w1 : MetW m) (h2 : metOk m0 = true) (w2 : MetW m0) (h : encM m = encM m0) : m = m0 := by
  rw [encM_nums, encM_nums] at h
  have h := List.append_cancel_left h
  have n1 := numsM_lt h1 w1
  have n2 := numsM_lt h2 w2
  unfold numsM at h n1 n2
  rw [List.flatMap_append, List.flatMap_append, List.append_assoc, List.append_assoc] at h
  obtain ⟨e1, e2⟩ := flat_cancel (xs := [m.id, m.lv.toNat, m.sr.toNat, m.pt.toNat, zz m.lo, zz m.hi, m.src.length]) (ys := [m0.id, m0.lv.toNat, m0.sr.toNat, m0.pt.toNat, zz m0.lo, zz m0.hi, m0.src.length]) rfl (fun z hz => n1 z (List.mem_append_left _ hz)) (fun z hz => n2 z (List.mem_append_left _ hz)) h
  simp only [List.cons.injEq, and_true] at e1
  obtain ⟨i0, i3, i5, i6, i1, i2, i4⟩ := e1
  obtain ⟨e3, _⟩ := flat_cancel i4 (fun z hz => n1 z (List.mem_append_right _ hz)) (fun z hz => n2 z (List.mem_append_right _ hz)) e2
  obtain ⟨o1, o2, o3, _⟩ := (metOk_iff m).1 h1
  obtain ⟨p1, p2, p3, _⟩ := (metOk_iff m0).1 h2
  have j1 : m.lo = m0.lo := by rw [← uz_zz m.lo, i1, uz_zz]
  have j2 : m.hi = m0.hi := by rw [← uz_zz m.hi, i2, uz_zz]
  cases m
  cases m0
  simp only at *
  subst i0 e3 j1 j2
  congr 1 <;> omega

/-- an index that may be, with its numbers -/
structure IxW (v : Nat) (fl : Int) (es : List Ent) : Prop where
  ok : IxOk fl es
  v : v < 18446744073709551616
  w : ∀ e ∈ es, EntW e

theorem ent_read {e0 : Ent} (hok : metOk e0.m = true) (hw : EntW e0) {l P r : List UInt8} (hl : l = P ++ (entB e0 ++ r)) :
    ∃ q1 q2, rdX l P.length false = (encM e0.m, q1, false) ∧ rdU l q1 false = (bitN e0.mkd, q2, false) ∧ rdU l q2 false = (zz e0.tm, (P ++ entB e0).length, false) := by
  have hml := encM_len hok hw.m
  obtain ⟨q, hq⟩ : ∃ q, encM e0.m = q := ⟨_, rfl⟩
  have hent : entB e0 = uv q.length ++ q ++ uv (bitN e0.mkd) ++ uv (zz e0.tm) := by unfold entB; rw [hq]
  rw [hq] at hml
  have t1 : textR l (P.length : Int) = (q, (P ++ uv q.length ++ q).length, 0) := by
    have := textR_at P q (uv (bitN e0.mkd) ++ uv (zz e0.tm) ++ r) q.length rfl (by omega)
    rw [← List.length_append, ← List.length_append] at this
    rw [hl, hent, ← this]
    simp only [List.append_assoc]
  have t2 : uintR l ((P ++ uv q.length ++ q).length : Int) = (bitN e0.mkd, (P ++ uv q.length ++ q ++ uv (bitN e0.mkd)).length, 0) := by
    have := uintR_at (P ++ uv q.length ++ q) (uv (zz e0.tm) ++ r) (bitN e0.mkd) (bitN_lt _)
    rw [← List.length_append] at this
    rw [hl, hent, ← this]
    simp only [List.append_assoc]
  have t3 : uintR l ((P ++ uv q.length ++ q ++ uv (bitN e0.mkd)).length : Int) = (zz e0.tm, (P ++ entB e0).length, 0) := by
    have := uintR_at (P ++ uv q.length ++ q ++ uv (bitN e0.mkd)) r (zz e0.tm) (zz_lt hw.tm.1 hw.tm.2)
    rw [← List.length_append] at this
    rw [hl, hent]
    simp only [List.append_assoc] at this ⊢
    exact this
  rw [hq]
  exact ⟨_, _, rdX_at t1, rdU_at t2, rdU_at t3⟩
theorem idx_read {v : Nat} {fl : Int} {es : List Ent} (h : IxW v fl es) {l : List UInt8} (hl : l = encI v fl es) :
    ∃ q1 q2, rdU l 0 false = (v, q1, false) ∧ rdU l q1 false = (zz fl, q2, false) ∧ rdU l q2 false = (es.length, (preI v fl es 0).length, false) := by
  obtain ⟨r, hr⟩ := encI_nums v fl es
  rw [hr] at hl
  have hf1 : -9223372036854775808 ≤ fl := by have := h.ok.lo; omega
  have hf2 : fl ≤ 9223372036854775807 := by have := h.ok.hi; omega
  have t1 : uintR l ((0 : Nat) : Int) = (v, (uv v).length, 0) := by
    have := uintR_at [] (uv (zz fl) ++ (uv es.length ++ r)) v h.v
    rw [List.nil_append, ← hl] at this
    simpa using this
  have t2 : uintR l ((uv v).length : Int) = (zz fl, (uv v ++ uv (zz fl)).length, 0) := by
    have := uintR_at (uv v) (uv es.length ++ r) (zz fl) (zz_lt hf1 hf2)
    rw [← List.length_append, ← hl] at this
    exact this
  have t3 : uintR l ((uv v ++ uv (zz fl)).length : Int) = (es.length, (preI v fl es 0).length, 0) := by
    have := uintR_at (uv v ++ uv (zz fl)) r es.length (by have := h.ok.len; omega)
    rw [← List.length_append, List.append_assoc, ← hl] at this
    rw [this]
    unfold preI
    simp
  exact ⟨_, _, rdU_at t1, rdU_at t2, rdU_at t3⟩
theorem rdX_go {l : List UInt8} {q : Nat} {bad : Bool} (h : (rdX l q bad).2.2 = false) : bad = false ∧ q < (rdX l q bad).2.1 ∧ (rdX l q bad).2.1 ≤ l.length := by
  unfold rdX at *
  cases bad
  · rw [if_neg (by simp)] at h ⊢
    have h0 : (textR l (q : Int)).2.2 = 0 := by simpa using h
    simp only
    unfold textR textOf at h0 ⊢
    by_cases h1 : (uintR l (q : Int)).2.2 ≠ 0
    · rw [if_pos h1] at h0
      exact absurd h0 h1
    · have h1' : (uintR l (q : Int)).2.2 = 0 := by simpa using h1
      obtain ⟨v, q2, e, _, h3, h4, _⟩ := uintR_part h1'
      rw [if_neg h1] at h0 ⊢
      rw [e] at h0 ⊢
      by_cases h2 : l.length - q2 < v
      · rw [if_pos h2] at h0
        cases h0
      · rw [if_neg h2]
        exact ⟨by first | rfl | trivial, by show q < q2 + v; omega, by show q2 + v ≤ l.length; omega⟩
  · rw [if_pos rfl] at h
    cases h
theorem rdX_len (l : List UInt8) (q : Nat) (bad : Bool) : (rdX l q bad).1.length ≤ l.length := by
  unfold rdX textR textOf
  split
  · simp
  · simp only
    split
    · simp
    · split
      · simp
      · simp only [List.length_take, List.length_drop]
        omega

/-- the document's reading of an index: its boxes -/
structure IrS (w W : World) (l : List UInt8) (gm gr : Nat) (B : Option Addr) (n c q : Nat) (bad : Bool) (v : Nat) (fl : Int) (A : Option Addr) (j d : Nat) (ms : List EnM) : Prop where
  rd : RrS W gr B n c l q bad
  bm : Blk W gm 25 #[.int .u64 (v : Int), .int .i64 fl, .slice A j d]
  b2 : Blk W w.heap.size 25 #[.int .u64 0, .int .i64 0, .slice none 0 0]
  bl : ∀ ad, B = some ad → 0 < n → ad.block < w.heap.size
  gw : Grew w W
  lo : w.heap.size < gm ∧ w.heap.size ≤ gr
  hx : NXo W w.heap.size A j d ms
theorem NXo.chgT {w W : World} {base : Nat} {A : Option Addr} {j d : Nat} {ms : List EnM} (h : NXo w base A j d ms) {g : Nat} {t : TypeId} {cs : Array Value} (hb : Blk w g t cs) (h1 : 51 ≠ t) (h2 : 22 ≠ t) (hc : Chg (fun k => k = g) w W) : NXo W base A j d ms :=
  ⟨h.row.chg hc fun ad e hk => Own.ne_blk h.row hb h1 ad e hk, fun m hm => OE.chg (h.el m hm) hc fun ad e hk => Own.ne_blk (h.el m hm) hb h2 ad e hk⟩
theorem IrS.to {w W W' : World} {l : List UInt8} {gm gr : Nat} {B : Option Addr} {n c q q2 : Nat} {bad b2 : Bool} {v : Nat} {fl : Int} {A : Option Addr} {j d : Nat} {ms : List EnM} (h : IrS w W l gm gr B n c q bad v fl A j d ms) (ht : RrT W W' gr B n c l q2 b2) : IrS w W' l gm gr B n c q2 b2 v fl A j d ms :=
  ⟨ht.rd, h.bm.chg ht.ch (fun e => Blk.neT h.bm h.rd.bk (by decide) e), h.b2.chg ht.ch (fun e => Blk.neT h.b2 h.rd.bk (by decide) e), h.bl, h.gw.step ht.ch fun i hi e => by have := h.lo; omega, h.lo, h.hx.chgT h.rd.bk (by decide) (by decide) ht.ch⟩
theorem IrS.grew {w W W' : World} {l : List UInt8} {gm gr : Nat} {B : Option Addr} {n c q : Nat} {bad : Bool} {v : Nat} {fl : Int} {A : Option Addr} {j d : Nat} {ms : List EnM} (h : IrS w W l gm gr B n c q bad v fl A j d ms) (hg : Grew W W') : IrS w W' l gm gr B n c q bad v fl A j d ms :=
  ⟨h.rd.grew hg, h.bm.grew hg, h.b2.grew hg, h.bl, h.gw.trans hg, h.lo, h.hx.grew hg⟩
theorem IrS.setB {w W : World} {l : List UInt8} {gm gr : Nat} {B : Option Addr} {n c q : Nat} {bad : Bool} {v : Nat} {fl : Int} {A : Option Addr} {j d : Nat} {ms : List EnM} (h : IrS w W l gm gr B n c q bad v fl A j d ms) (b : Bool) : IrS w (W.setCell ⟨gr, 2, none⟩ (.bool b)) l gm gr B n c q b v fl A j d ms :=
  ⟨h.rd.set b, h.bm.far (Blk.neT h.bm h.rd.bk (by decide)) _, h.b2.far (Blk.neT h.b2 h.rd.bk (by decide)) _, h.bl, h.gw.setCell (p := ⟨gr, 2, none⟩) (.inl (by show w.heap.size ≤ gr; have := h.lo; omega)) _, h.lo, h.hx.chgT h.rd.bk (by decide) (by decide) (Chg.cell1 W gr 2 _)⟩
theorem IrS.app {w W W' : World} {l : List UInt8} {gm gr : Nat} {B : Option Addr} {n c q : Nat} {bad : Bool} {v : Nat} {fl : Int} {A A' : Option Addr} {j d d' : Nat} {ms : List EnM} {m : EnM} (h : IrS w W l gm gr B n c q bad v fl A j d ms) (hm : NxE W w.heap.size m) (ha : ApE elEn W w.heap.size 51 A (j + 1) d (ms ++ [m]) A' d' W') :
    Blk W' gm 25 #[.int .u64 (v : Int), .int .i64 fl, .slice A j d] ∧ IrS w (W'.setCell ⟨gm, 2, none⟩ (.slice A' (j + 1) d')) l gm gr B n c q bad v fl A' (j + 1) d' (ms ++ [m]) := by
  have hb := ha.ne_blk h.hx.row h.bm (by decide)
  have hb2 := ha.ne_blk h.hx.row h.b2 (by decide)
  have hr := ha.ne_blk h.hx.row h.rd.bk (by decide)
  have hc := Chg.cell1 W' gm 2 (.slice A' (j + 1) d')
  have hb3 := hb.set 2 (.slice A' (j + 1) d')
  simp only [List.setIfInBounds_toArray, List.set_cons_succ, List.set_cons_zero] at hb3
  have g1 : Grew w W' := h.gw.step ha.chg fun i hi ⟨ad, e, hk⟩ => by have := (Own.blk_lt h.hx.row ad e).1; omega
  have rb' : RB W' B n l := h.rd.rb.far ha.chg fun ad e h0 ⟨bd, e2, hk⟩ => by have := h.bl ad e h0; have := (Own.blk_lt h.hx.row bd e2).1; omega
  refine ⟨hb, ⟨⟨hr.far (Blk.neT hr hb (by decide)) _, rb'.far hc (fun ad e h0 hk => by have := h.bl ad e h0; have := h.lo; omega), h.rd.ne⟩, hb3, hb2.far (by show w.heap.size ≠ gm; have := h.lo; omega) _, h.bl, g1.setCell (p := ⟨gm, 2, none⟩) (.inl (by show w.heap.size ≤ gm; have := h.lo; omega)) _, h.lo, (h.hx.app hm ha).chgT hb (by decide) (by decide) hc⟩⟩
/-- an index is read just of its own bytes -/
def IxD (w : World) (l : List UInt8) (e : Ending) (w' : World) : Prop := (∃ v fl es, IxW v fl es ∧ l = encI v fl es ∧ IxR w v fl es 0 e w') ∨ ((∀ v fl es, IxW v fl es → l ≠ encI v fl es) ∧ IxR w 0 0 [] 140 e w')
end Go.Proofs.YtjoaonppaokhhaaGreat

namespace Go.Proofs.YtjoaonppaokhhaaGreat
open Go.RowKit

theorem MdP.one {w : World} {X : List UInt8} {e : Ending} {w' : World} (h : MdP w X e w') : ∃ m z, MetW m ∧ (z = 0 ∨ z = 92) ∧ MtR w m z e w' ∧ ∀ m0, metOk m0 = true → MetW m0 → X = encM m0 → m = m0 ∧ z = 0 := by
  rcases h with ⟨m, h1, h2, h3, h4⟩ | ⟨h1, h2⟩
  · exact ⟨m, 0, h2, .inl rfl, h4, fun m0 k1 k2 k3 => ⟨encM_inj h1 h2 k1 k2 (h3.symm.trans k3), rfl⟩⟩
  · exact ⟨_, 92, ⟨by decide, by decide, by decide, fun x hx => by cases hx⟩, .inr rfl, h2, fun m0 k1 k2 k3 => absurd k3 (h1 m0 k1 k2)⟩
theorem bitN_one {b : Bool} : decide (bitN b = 1) = b := by cases b <;> rfl

set_option maxRecDepth 100000 in
set_option maxHeartbeats 16000000 in
theorem rdecodeI_any (w : World) (B : Option Addr) (n c : Nat) (l : List UInt8) (hr : RB w B n l) (hc : n ≤ c ∧ c ≤ 9223372036854775807) (hn : n ≤ 1500000000000) :
    Calls Tryz.prog 25 #[.slice B n c] w (IxD w l) := by
  have hll : l.length = n := hr.1
  have hcvB := fun W (hW : Grew w W) => run_conv_RB (P := Tryz.prog) (c := c) Tryz.underlying42 Tryz.underlying5 Tryz.underlying9 (hr.grew hW)
  replace hcvB := Lib.hid hcvB
  obtain ⟨W0, hW0⟩ : ∃ W, W = w.alloc (.cells #[.int .u64 0, .int .i64 0, .slice none 0 0] 25) := ⟨_, rfl⟩
  have g0 : Grew w W0 := by rw [hW0]; exact (Chg.refl _ w).alloc _
  have s0 : W0.heap.size = w.heap.size + 1 := by rw [hW0, World.size_alloc]
  have b20 : Blk W0 w.heap.size 25 #[.int .u64 0, .int .i64 0, .slice none 0 0] := by rw [hW0]; exact Blk.new w _ _
  obtain ⟨W1, hW1⟩ : ∃ W, W = W0.alloc (.cells #[.slice B n c, .int .i64 0, .bool false] 80) := ⟨_, rfl⟩
  have g1 : Grew W0 W1 := by rw [hW1]; exact (Chg.refl _ W0).alloc _
  have s1 : W1.heap.size = w.heap.size + 1 + 1 := by rw [hW1, World.size_alloc, s0]
  have hrd1 : RrS W1 (w.heap.size + 1) B n c l 0 false := ⟨by rw [hW1, ← s0]; exact Blk.new W0 _ _, (hr.grew g0).grew g1, fun ad e h0 => by have := hr.lt ad e h0; omega⟩
  have hBl : ∀ ad, B = some ad → 0 < n → ad.block < w.heap.size := fun ad e h0 => hr.lt ad e h0
  have hO0 : Hid (∀ v0 f0 es0, IxW v0 f0 es0 → l = encI v0 f0 es0 → ∃ q1 q2, rdU l 0 false = (v0, q1, false) ∧ rdU l q1 false = (zz f0, q2, false) ∧ rdU l q2 false = (es0.length, (preI v0 f0 es0 0).length, false)) := Lib.hid (fun v0 f0 es0 h1 h2 => idx_read h1 h2)
  replace hll := Lib.hid hll
  have s1' := Lib.hid s1
  clear s0 s1
  unfold IxD IxR
  go_enter Tryz.func25, Tryz.ntmps25
  go_wp2_with fail
  rw [← hW0, ← hW1]
  clear hW1 hW0
  refine (rrUint (w.heap.size + 1) B n c l 0 false W1 hrd1 (by omega)).mono ?_
  rintro e w2 ⟨rfl, hT⟩
  have hv := rdU_lt l 0 false
  have hO1 : Hid (∀ v0 f0 es0, IxW v0 f0 es0 → l = encI v0 f0 es0 → (rdU l 0 false).2.2 = false ∧ (rdU l 0 false).1 = v0 ∧ ∃ q2, rdU l (rdU l 0 false).2.1 false = (zz f0, q2, false) ∧ rdU l q2 false = (es0.length, (preI v0 f0 es0 0).length, false)) := Lib.hid (fun v0 f0 es0 h1 h2 => by
    obtain ⟨q1, q2, e1, e2, e3⟩ := hO0.out v0 f0 es0 h1 h2
    rw [e1]
    exact ⟨rfl, rfl, q2, e2, e3⟩)
  generalize (rdU l 0 false).1 = v at *
  generalize (rdU l 0 false).2.1 = q1 at *
  generalize (rdU l 0 false).2.2 = bad1 at *
  have g2 := (g0.trans g1).step hT.ch fun k hk e => by omega
  have b22 := (b20.grew g1).chg hT.ch (by omega)
  have rd2 := hT.rd
  have z2 := hT.ch.size
  rw [s1'.out] at z2
  clear hT hrd1 g0 g1 b20 hO0
  go_wp2_with fail
  refine (rrInt (w.heap.size + 1) B n c l q1 bad1 w2 rd2 (by omega)).mono ?_
  rintro e w3 ⟨rfl, hT⟩
  have hu := rdU_lt l q1 bad1
  have hO2 : Hid (∀ v0 f0 es0, IxW v0 f0 es0 → l = encI v0 f0 es0 → (rdU l q1 bad1).2.2 = false ∧ v = v0 ∧ uz (rdU l q1 bad1).1 = f0 ∧ rdU l (rdU l q1 bad1).2.1 false = (es0.length, (preI v0 f0 es0 0).length, false)) := Lib.hid (fun v0 f0 es0 h1 h2 => by
    obtain ⟨e1, e2, q2, e3, e4⟩ := hO1.out v0 f0 es0 h1 h2
    rw [e1, e3]
    exact ⟨rfl, e2, uz_zz f0, e4⟩)
  generalize (rdU l q1 bad1).1 = u at *
  generalize (rdU l q1 bad1).2.1 = q2 at *
  generalize (rdU l q1 bad1).2.2 = bad2 at *
  have g3 := g2.step hT.ch fun k hk e => by omega
  have b23 := b22.chg hT.ch (by omega)
  have rd3 := hT.rd
  have z3 := hT.ch.size
  clear hT rd2 g2 b22 hO1
  obtain ⟨gm, hgm⟩ : ∃ g, w3.heap.size = g := ⟨_, rfl⟩
  obtain ⟨W3, hW3⟩ : ∃ W, W = w3.alloc (.cells #[.int .u64 (v : Int), .int .i64 (uz u), .slice none 0 0] 25) := ⟨_, rfl⟩
  have k3 : Grew w3 W3 := by rw [hW3]; exact (Chg.refl _ w3).alloc _
  have hD : IrS w W3 l gm (w.heap.size + 1) B n c q2 bad2 v (uz u) none 0 0 [] := ⟨rd3.grew k3, by rw [hW3, ← hgm]; exact Blk.new w3 _ _, b23.grew k3, hBl, g3.trans k3, ⟨by rw [← hgm]; omega, by omega⟩, ⟨OE.nil _ _ _, fun m hm => by cases hm⟩⟩
  have hgm' := Lib.hid hgm
  clear rd3 g3 b23 k3 z2 z3 s1' hgm
  go_wp2_with fail
  rw [← hW3, hgm'.out]
  clear hW3 hgm'
  refine (rrUint (w.heap.size + 1) B n c l q2 bad2 W3 hD.rd (by omega)).mono ?_
  rintro e w4 ⟨rfl, hT⟩
  have hnn := rdU_lt l q2 bad2
  have hO3 : Hid (∀ v0 f0 es0, IxW v0 f0 es0 → l = encI v0 f0 es0 → (rdU l q2 bad2).2.2 = false ∧ v = v0 ∧ uz u = f0 ∧ (rdU l q2 bad2).1 = es0.length ∧ (rdU l q2 bad2).2.1 = (preI v0 f0 es0 0).length) := Lib.hid (fun v0 f0 es0 h1 h2 => by
    obtain ⟨e1, e2, e3, e4⟩ := hO2.out v0 f0 es0 h1 h2
    rw [e1, e4]
    exact ⟨rfl, e2, e3, rfl, rfl⟩)
  have hQ3 : Hid ((rdU l q2 bad2).2.2 = false → (rdU l q2 bad2).2.1 ≤ l.length) := Lib.hid (fun e => (rdU_go e).2.2)
  have hD4 := hD.to hT
  generalize (rdU l q2 bad2).1 = nn at *
  generalize (rdU l q2 bad2).2.1 = q3 at *
  generalize (rdU l q2 bad2).2.2 = bad3 at *
  clear hT hD hO2
  go_wp2
  go_loopw [6] (fun s wr => ∃ (k q j : Nat) (bad : Bool) (A : Option Addr) (d : Nat) (ms : List EnM), s = .int .u64 (k : Int) ∧ k < 18446744073709551616 ∧ j ≤ n + 1 ∧ IrS w wr l gm (w.heap.size + 1) B n c q bad v (uz u) A j d ms ∧ Hid (∀ m ∈ ms, EntW m.e) ∧ Hid (bad = false → j ≤ q ∧ q ≤ l.length) ∧ Hid (∀ v0 f0 es0, IxW v0 f0 es0 → l = encI v0 f0 es0 → bad = false ∧ q = (preI v0 f0 es0 j).length ∧ v = v0 ∧ uz u = f0 ∧ ms.map EnM.e = es0.take j ∧ k = es0.length - j ∧ j ≤ es0.length)) (fun s _ => (intOf s).toNat)
  case atStart => exact ⟨nn, q3, 0, bad3, none, 0, [], rfl, hnn, by omega, hD4, Lib.hid (fun x hx => by cases hx), Lib.hid (fun e => ⟨by omega, hQ3.out e⟩), Lib.hid (fun v0 f0 es0 h1 h2 => by
    obtain ⟨e1, e2, e3, e4, e5⟩ := hO3.out v0 f0 es0 h1 h2
    exact ⟨e1, e5, e2, e3, by simp, by omega, by omega⟩)⟩
  case round =>
    clear hD4 hO3 hQ3 hnn
    obtain ⟨k, q, j, bad, A, d, ms, rfl, hk, hj, hD, hX, hQ, hO⟩ := hrel
    have c2 := hD.rd.bk.cell 2
    simp only [List.getElem?_toArray, List.getElem?_cons_succ, List.getElem?_cons_zero] at c2
    cases bad
    · by_cases hk0 : 0 < k
      · obtain ⟨r, rfl⟩ : ∃ r, k = r + 1 := ⟨k - 1, by omega⟩
        have hwq : IntKind.u64.wrap (r : Int) = (r : Int) := by rw [IntKind.wrap_u64]; omega
        go_wp2_with fail
        refine (rrText (w.heap.size + 1) B n c l q false wr hD.rd (by omega) hc).mono ?_
        rintro e w5 ⟨rfl, hT⟩
        have hO1 : Hid (∀ v0 f0 es0, IxW v0 f0 es0 → l = encI v0 f0 es0 → ∃ e0 q2, es0[j]? = some e0 ∧ (rdX l q false).2.2 = false ∧ (rdX l q false).1 = encM e0.m ∧ rdU l (rdX l q false).2.1 false = (bitN e0.mkd, q2, false) ∧ rdU l q2 false = (zz e0.tm, (preI v0 f0 es0 (j + 1)).length, false) ∧ v = v0 ∧ uz u = f0 ∧ ms.map EnM.e = es0.take j ∧ r = es0.length - (j + 1) ∧ j + 1 ≤ es0.length) := Lib.hid (fun v0 f0 es0 h1 h2 => by
          obtain ⟨_, e2, e3, e4, e5, e6, e7⟩ := hO.out v0 f0 es0 h1 h2
          have hjl : j < es0.length := by omega
          have hxj : es0[j]? = some es0[j] := List.getElem?_eq_getElem hjl
          obtain ⟨r9, hr9, hp9⟩ := encI_at v0 f0 es0 hxj
          have hmem := List.mem_of_getElem? hxj
          obtain ⟨t1, t2, k1, k2, k3⟩ := ent_read (h1.ok.el _ hmem).1 (h1.w _ hmem) (h2.trans hr9)
          rw [← e2] at k1
          rw [k1]
          exact ⟨_, t2, hxj, rfl, rfl, k2, by rw [k3, hp9], e3, e4, e5, by omega, by omega⟩)
        have hQ1 : Hid ((rdX l q false).2.2 = false → q < (rdX l q false).2.1 ∧ (rdX l q false).2.1 ≤ l.length) := Lib.hid (fun e => (rdX_go e).2)
        have hXl := rdX_len l q false
        have hD1 := hD.to hT
        generalize (rdX l q false).1 = X at *
        generalize (rdX l q false).2.1 = q1 at *
        generalize (rdX l q false).2.2 = b1 at *
        have hj1 : j + 1 ≤ n + 1 := by
          have h1 := hQ.out (by trivial)
          have := hll.out
          omega
        have hjq := Lib.hid (hQ.out (by trivial)).1
        have hXn : X.length ≤ n := by have := hll.out; omega
        have hsz : (⟨X.toArray⟩ : ByteArray).size = X.length := by show X.toArray.size = _; rw [List.size_toArray]
        have hsd : (⟨X.toArray⟩ : ByteArray).data.toList = X := by simp
        generalize (⟨X.toArray⟩ : ByteArray) = sX at hsz hsd ⊢
        obtain ⟨c5, w6, hcv, hrb, hg6, hc5, hc6⟩ := conv_str w5 sX (by omega)
        rw [hsd] at hrb
        have hM := rdecodeMeta_any w6 _ sX.size c5 X hrb ⟨hc5, hc6⟩ (by omega)
        have hD2 := hD1.grew hg6
        replace hM := Lib.hid hM
        clear hT hD hO hQ hD1 hrb c2 hsz hsd
        go_wp2_with fail
        refine hM.out.mono ?_
        rintro e w7 hMd
        obtain ⟨m, z, hmw, hz, ⟨Am, dm, rfl, om, g7⟩, hm0⟩ := hMd.one
        have hmcap := om.cap
        obtain ⟨pm, hpm⟩ : ∃ p, m.src.length = p := ⟨_, rfl⟩
        rw [hpm] at om hmcap ⊢
        have hpm' := Lib.hid hpm
        have hm0' := Lib.hid hm0
        clear hMd hM hcv hpm hm0 hc5 hc6
        obtain ⟨gx, hgx⟩ : ∃ g, w7.heap.size = g := ⟨_, rfl⟩
        obtain ⟨W7, hW7⟩ : ∃ W, W = w7.alloc (.cells #[.int .u64 (m.id : Int), .int .i64 m.lo, .int .i64 m.hi, .int .i64 m.lv, .slice Am pm dm, .int .i64 m.sr, .int .i64 m.pt] 28) := ⟨_, rfl⟩
        have k7 : Grew w7 W7 := by rw [hW7]; exact (Chg.refl _ w7).alloc _
        have hbx : Blk W7 gx 28 #[.int .u64 (m.id : Int), .int .i64 m.lo, .int .i64 m.hi, .int .i64 m.lv, .slice Am pm dm, .int .i64 m.sr, .int .i64 m.pt] := by rw [hW7, ← hgx]; exact Blk.new w7 _ _
        have hD3 := (hD2.grew g7).grew k7
        have s6 := hD2.gw.size
        have om7 : OE elU W7 w.heap.size 22 Am pm dm m.src := (Own.mono om s6).grew k7
        have hgx' := Lib.hid hgx
        clear hD2 g7 k7 om hg6 hgx
        go_wp2_with fail
        rw [← hW7, hgx'.out]
        clear hW7 hgx'
        refine (rrUint (w.heap.size + 1) B n c l q1 b1 W7 hD3.rd (by omega)).mono ?_
        rintro e w8 ⟨rfl, hT⟩
        have hO2 : Hid (∀ v0 f0 es0, IxW v0 f0 es0 → l = encI v0 f0 es0 → ∃ e0, es0[j]? = some e0 ∧ (rdU l q1 b1).2.2 = false ∧ X = encM e0.m ∧ (rdU l q1 b1).1 = bitN e0.mkd ∧ rdU l (rdU l q1 b1).2.1 false = (zz e0.tm, (preI v0 f0 es0 (j + 1)).length, false) ∧ v = v0 ∧ uz u = f0 ∧ ms.map EnM.e = es0.take j ∧ r = es0.length - (j + 1) ∧ j + 1 ≤ es0.length) := Lib.hid (fun v0 f0 es0 h1 h2 => by
          obtain ⟨e0, q2, k1, k2, k3, k4, k5, k6⟩ := hO1.out v0 f0 es0 h1 h2
          rw [k2, k4]
          exact ⟨e0, k1, rfl, k3, rfl, k5, k6⟩)
        have hQ2 : Hid ((rdU l q1 b1).2.2 = false → q < (rdU l q1 b1).2.1 ∧ (rdU l q1 b1).2.1 ≤ l.length) := Lib.hid (fun e => by
          obtain ⟨e1, e2, e3⟩ := rdU_go e
          have := hQ1.out e1
          exact ⟨by omega, e3⟩)
        have hD4 := hD3.to hT
        have hbx4 := hbx.chg hT.ch (fun e => Blk.neT hbx hD3.rd.bk (by decide) e)
        have om8 := OE.chg om7 hT.ch fun ad e hk => Own.ne_blk om7 hD3.rd.bk (by decide) ad e hk
        generalize (rdU l q1 b1).1 = y at *
        generalize (rdU l q1 b1).2.1 = q2' at *
        generalize (rdU l q1 b1).2.2 = b2 at *
        clear hT hD3 hbx om7 hO1 hQ1
        have m2 := hD4.bm.cell 2
        have x0 := hbx4.cell 0
        have x1 := hbx4.cell 1
        have x2 := hbx4.cell 2
        have x3 := hbx4.cell 3
        have x4 := hbx4.cell 4
        have x5 := hbx4.cell 5
        have x6 := hbx4.cell 6
        simp only [List.getElem?_toArray, List.getElem?_cons_succ, List.getElem?_cons_zero] at m2 x0 x1 x2 x3 x4 x5 x6
        have hcs : CellsIn [gm, gx] w8 := cellsIn_blk hD4.bm (cellsIn_blk hbx4 (cellsIn_nil _))
        have hng : ∀ k', k' ∈ [gm, gx] → k' ≠ w.heap.size + 1 := fun k' hk' => by
          simp only [List.mem_cons, List.not_mem_nil, or_false] at hk'
          rcases hk' with rfl | rfl
          · exact Blk.neT hD4.bm hD4.rd.bk (by decide)
          · exact Blk.neT hbx4 hD4.rd.bk (by decide)
        by_cases hy : y = 1
        · skip
          subst hy
          go_wp2_with fail
          refine wp_region_textL [(22, 1)] [gm, gx] (by kernel_rfl) (by kernel_rfl) hcs ?_
          simp only [wpUL, tagOf, chk, look, Nat.reduceBEq, if_true, if_false, Nat.reduceEqDiff, List.cons_append, List.nil_append]
          intro K hK
          go_wp2_with fail
          refine OnlyN.normal (hK _ _ (fun _ => ⟨_, _, _, rfl, rfl, by simp⟩) ?_)
          clear hK K
          intro K hK
          go_wp2_with fail
          refine OnlyN.normal (hK _ _ (fun _ => ⟨_, _, _, rfl, rfl, by simp⟩) ?_)
          clear hK K
          intro K hK
          go_wp2_with fail
          refine (rrInt (w.heap.size + 1) B n c l q2' b2 _ (hD4.rd.grew (Chg.refl _ w8).drew) (by omega)).mono ?_
          rintro e W9 ⟨rfl, hT⟩
          have hu3 := rdU_lt l q2' b2
          have hO3 : Hid (∀ v0 f0 es0, IxW v0 f0 es0 → l = encI v0 f0 es0 → ∃ e0, es0[j]? = some e0 ∧ (rdU l q2' b2).2.2 = false ∧ X = encM e0.m ∧ 1 = bitN e0.mkd ∧ (rdU l q2' b2).1 = zz e0.tm ∧ (rdU l q2' b2).2.1 = (preI v0 f0 es0 (j + 1)).length ∧ v = v0 ∧ uz u = f0 ∧ ms.map EnM.e = es0.take j ∧ r = es0.length - (j + 1) ∧ j + 1 ≤ es0.length) := Lib.hid (fun v0 f0 es0 h1 h2 => by
            obtain ⟨e0, k1, k2, k3, k4, k5, k6⟩ := hO2.out v0 f0 es0 h1 h2
            rw [k2, k5]
            exact ⟨e0, k1, rfl, k3, k4, rfl, rfl, k6⟩)
          have hQ3 : Hid ((rdU l q2' b2).2.2 = false → j + 1 ≤ (rdU l q2' b2).2.1 ∧ (rdU l q2' b2).2.1 ≤ l.length) := Lib.hid (fun e => by
            obtain ⟨e1, e2, e3⟩ := rdU_go e
            have := hQ2.out e1
            have := hjq.out
            exact ⟨by omega, e3⟩)
          have h1 := (hD4.grew (Chg.refl _ w8).drew).to hT
          have hc1 : Chg (fun k => k = w.heap.size + 1) w8 W9 := (Chg.refl _ w8).drew.trans hT.ch
          have om9 := OE.chg om8 hc1 fun ad e hk => Own.ne_blk om8 hD4.rd.bk (by decide) ad e hk
          generalize (rdU l q2' b2).1 = u3 at *
          generalize (rdU l q2' b2).2.1 = q3' at *
          generalize (rdU l q2' b2).2.2 = b3 at *
          go_wp2_with fail
          refine OnlyN.normal (hK _ _ (sameIn_of hc1 hcs hng) ?_)
          clear hK K hT hO2 hQ2
          have hga : Grew W9 (W9.alloc (.cells #[.int .u64 (m.id : Int), .int .i64 m.lo, .int .i64 m.hi, .int .i64 m.lv, .slice Am pm dm, .int .i64 m.sr, .int .i64 m.pt, .bool true, .int .i64 (uz u3)] 51)) := (Chg.refl _ W9).alloc _
          have hsrc : RE elEn (W9.alloc (.cells #[.int .u64 (m.id : Int), .int .i64 m.lo, .int .i64 m.hi, .int .i64 m.lv, .slice Am pm dm, .int .i64 m.sr, .int .i64 m.pt, .bool true, .int .i64 (uz u3)] 51)) (some ⟨W9.heap.size, 0, none⟩) 1 [⟨⟨m, true, uz u3⟩, Am, pm, dm⟩] := RE.newAt rfl rfl rfl
          have h2 := h1.grew hga
          have om10 : NxE (W9.alloc (.cells #[.int .u64 (m.id : Int), .int .i64 m.lo, .int .i64 m.hi, .int .i64 m.lv, .slice Am pm dm, .int .i64 m.sr, .int .i64 m.pt, .bool true, .int .i64 (uz u3)] 51)) w.heap.size ⟨⟨m, true, uz u3⟩, Am, pm, dm⟩ := om9.grew hga
          have hsz1 := h1.gw.size
          have hrow := h2.hx.row
          intro K hK
          go_wp2_with fail
          refine OnlyN.normal (hK _ _ (sameIn_of (hc1.trans (Chg.of_grew hga)) hcs hng) ?_)
          clear hK K
          intro K hK
          go_wp2_with (at_builtin; go_loud (refine wpList_appE rfl _ _ 23 51 infoEn rfl Tryz.underlying23 rfl w.heap.size A j d ms rfl hrow (by simp; omega) _ 1 1 [⟨⟨m, true, uz u3⟩, Am, pm, dm⟩] rfl hsrc (by unfold maxLen; omega) (by omega) ?_); intro A3 d3 W3 h3)
          have hrowB := hrow
          have hng2 : ∀ k', k' ∈ [gm, gx] → ¬ (k' = w.heap.size + 1 ∨ ∃ ad, A = some ad ∧ k' = ad.block) := fun k' hk' => by
            rintro (e | ⟨ad, e, hk⟩)
            · exact hng k' hk' e
            · simp only [List.mem_cons, List.not_mem_nil, or_false] at hk'
              rcases hk' with rfl | rfl
              · exact Own.ne_blk hD4.hx.row hD4.bm (by decide) ad e hk.symm
              · exact Own.ne_blk hD4.hx.row hbx4 (by decide) ad e hk.symm
          refine OnlyN.normal (hK _ _ (sameIn_of (((hc1.mono fun k _ e => Or.inl e).trans (Chg.of_grew hga)).trans (h3.chg.mono fun k _ e => Or.inr e)) hcs hng2) ?_)
          clear hK K
          obtain ⟨hb4, h5⟩ := h2.app om10 h3
          have m4' := hb4.cell 2
          have mf' := hb4.frozen 2
          simp only [List.getElem?_toArray, List.getElem?_cons_succ, List.getElem?_cons_zero] at m4'
          have c5' := h5.rd.bk.cell 2
          have cf' := h5.rd.bk.frozen 2
          simp only [List.getElem?_toArray, List.getElem?_cons_succ, List.getElem?_cons_zero] at c5'
          have hX5 : Hid (∀ m' ∈ ms ++ [(⟨⟨m, true, uz u3⟩, Am, pm, dm⟩ : EnM)], EntW m'.e) := Lib.hid (fun m' hm' => by
            rcases List.mem_append.1 hm' with hm' | hm'
            · exact hX.out m' hm'
            · rcases List.mem_singleton.1 hm' with rfl
              exact ⟨hmw, uz_ge hu3⟩)
          have hO5 : Hid (∀ v0 f0 es0, IxW v0 f0 es0 → l = encI v0 f0 es0 → b3 = false ∧ z = 0 ∧ q3' = (preI v0 f0 es0 (j + 1)).length ∧ v = v0 ∧ uz u = f0 ∧ (ms ++ [(⟨⟨m, true, uz u3⟩, Am, pm, dm⟩ : EnM)]).map EnM.e = es0.take (j + 1) ∧ r = es0.length - (j + 1) ∧ j + 1 ≤ es0.length) := Lib.hid (fun v0 f0 es0 h1 h2 => by
            obtain ⟨e0, k1, k2, k3, k4, k5, k6, k7, k8, k9, k10, k11⟩ := hO3.out v0 f0 es0 h1 h2
            have hmem := List.mem_of_getElem? k1
            obtain ⟨n1, n2⟩ := hm0'.out e0.m (h1.ok.el _ hmem).1 (h1.w _ hmem).m k3
            refine ⟨k2, n2, k6, k7, k8, ?_, k10, k11⟩
            rw [List.map_append, k9, List.take_add_one, k1]
            have hb : e0.mkd = true := by rw [← bitN_one (b := e0.mkd), ← k4]; rfl
            simp only [List.map_cons, List.map_nil, Option.toList_some, n1, k5, uz_zz, ← hb])
          go_wp2_with fail
          refine OnlyN.normal ?_
          clear hsrc h3 h1 h2 hb4 m2 x0 x1 x2 x3 x4 x5 x6 hcs hX hO3 hD4 hbx4 om8 om9 om10 hrow hrowB hng hng2 hc1 hga
          cases b3
          · skip
            rcases hz with rfl | rfl
            · skip
              have h6 := h5.setB false
              go_wp2
              go_roundw
              case rel => exact ⟨r, q3', j + 1, false, A3, d3, _, by go_num, by omega, hj1, by first | exact h6 | simpa using h6, hX5, Lib.hid (fun _ => by first | exact hQ3.out | exact hQ3.out rfl | exact hQ3.out trivial), Lib.hid (fun v0 f0 es0 h1 h2 => by
                obtain ⟨e1, e2, e3⟩ := hO5.out v0 f0 es0 h1 h2
                exact ⟨rfl, e3⟩)⟩
              case measure => simp [intOf]
            · skip
              have h6 := h5.setB true
              go_wp2
              go_roundw
              case rel => exact ⟨r, q3', j + 1, true, A3, d3, _, by go_num, by omega, hj1, by first | exact h6 | simpa using h6, hX5, Lib.hid (fun e => by cases e), Lib.hid (fun v0 f0 es0 h1 h2 => by
                have e := (hO5.out v0 f0 es0 h1 h2).2.1
                cases e)⟩
              case measure => simp [intOf]
          · skip
            have h6 := h5.setB true
            go_wp2
            go_roundw
            case rel => exact ⟨r, q3', j + 1, true, A3, d3, _, by go_num, by omega, hj1, by first | exact h6 | simpa using h6, hX5, Lib.hid (fun e => by cases e), Lib.hid (fun v0 f0 es0 h1 h2 => by
              have e := (hO5.out v0 f0 es0 h1 h2).1
              cases e)⟩
            case measure => simp [intOf]
        · skip
          have hy2 : ¬ (y : Int) = 1 := by omega
          have hy3 : ((y : Int) == 1) = false := by simp; omega
          go_wp2_with fail
          refine wp_region_textL [(22, 1)] [gm, gx] (by kernel_rfl) (by kernel_rfl) hcs ?_
          simp only [wpUL, tagOf, chk, look, Nat.reduceBEq, if_true, if_false, Nat.reduceEqDiff, List.cons_append, List.nil_append]
          intro K hK
          go_wp2_with fail
          refine OnlyN.normal (hK _ _ (fun _ => ⟨_, _, _, rfl, rfl, by simp⟩) ?_)
          clear hK K
          intro K hK
          go_wp2_with fail
          refine OnlyN.normal (hK _ _ (fun _ => ⟨_, _, _, rfl, rfl, by simp⟩) ?_)
          clear hK K
          intro K hK
          go_wp2_with fail
          refine (rrInt (w.heap.size + 1) B n c l q2' b2 _ (hD4.rd.grew (Chg.refl _ w8).drew) (by omega)).mono ?_
          rintro e W9 ⟨rfl, hT⟩
          have hu3 := rdU_lt l q2' b2
          have hO3 : Hid (∀ v0 f0 es0, IxW v0 f0 es0 → l = encI v0 f0 es0 → ∃ e0, es0[j]? = some e0 ∧ (rdU l q2' b2).2.2 = false ∧ X = encM e0.m ∧ y = bitN e0.mkd ∧ (rdU l q2' b2).1 = zz e0.tm ∧ (rdU l q2' b2).2.1 = (preI v0 f0 es0 (j + 1)).length ∧ v = v0 ∧ uz u = f0 ∧ ms.map EnM.e = es0.take j ∧ r = es0.length - (j + 1) ∧ j + 1 ≤ es0.length) := Lib.hid (fun v0 f0 es0 h1 h2 => by
            obtain ⟨e0, k1, k2, k3, k4, k5, k6⟩ := hO2.out v0 f0 es0 h1 h2
            rw [k2, k5]
            exact ⟨e0, k1, rfl, k3, k4, rfl, rfl, k6⟩)
          have hQ3 : Hid ((rdU l q2' b2).2.2 = false → j + 1 ≤ (rdU l q2' b2).2.1 ∧ (rdU l q2' b2).2.1 ≤ l.length) := Lib.hid (fun e => by
            obtain ⟨e1, e2, e3⟩ := rdU_go e
            have := hQ2.out e1
            have := hjq.out
            exact ⟨by omega, e3⟩)
          have h1 := (hD4.grew (Chg.refl _ w8).drew).to hT
          have hc1 : Chg (fun k => k = w.heap.size + 1) w8 W9 := (Chg.refl _ w8).drew.trans hT.ch
          have om9 := OE.chg om8 hc1 fun ad e hk => Own.ne_blk om8 hD4.rd.bk (by decide) ad e hk
          generalize (rdU l q2' b2).1 = u3 at *
          generalize (rdU l q2' b2).2.1 = q3' at *
          generalize (rdU l q2' b2).2.2 = b3 at *
          go_wp2_with fail
          refine OnlyN.normal (hK _ _ (sameIn_of hc1 hcs hng) ?_)
          clear hK K hT hO2 hQ2
          have hga : Grew W9 (W9.alloc (.cells #[.int .u64 (m.id : Int), .int .i64 m.lo, .int .i64 m.hi, .int .i64 m.lv, .slice Am pm dm, .int .i64 m.sr, .int .i64 m.pt, .bool false, .int .i64 (uz u3)] 51)) := (Chg.refl _ W9).alloc _
          have hsrc : RE elEn (W9.alloc (.cells #[.int .u64 (m.id : Int), .int .i64 m.lo, .int .i64 m.hi, .int .i64 m.lv, .slice Am pm dm, .int .i64 m.sr, .int .i64 m.pt, .bool false, .int .i64 (uz u3)] 51)) (some ⟨W9.heap.size, 0, none⟩) 1 [⟨⟨m, false, uz u3⟩, Am, pm, dm⟩] := RE.newAt rfl rfl rfl
          have h2 := h1.grew hga
          have om10 : NxE (W9.alloc (.cells #[.int .u64 (m.id : Int), .int .i64 m.lo, .int .i64 m.hi, .int .i64 m.lv, .slice Am pm dm, .int .i64 m.sr, .int .i64 m.pt, .bool false, .int .i64 (uz u3)] 51)) w.heap.size ⟨⟨m, false, uz u3⟩, Am, pm, dm⟩ := om9.grew hga
          have hsz1 := h1.gw.size
          have hrow := h2.hx.row
          intro K hK
          go_wp2_with fail
          refine OnlyN.normal (hK _ _ (sameIn_of (hc1.trans (Chg.of_grew hga)) hcs hng) ?_)
          clear hK K
          intro K hK
          go_wp2_with (at_builtin; go_loud (refine wpList_appE rfl _ _ 23 51 infoEn rfl Tryz.underlying23 rfl w.heap.size A j d ms rfl hrow (by simp; omega) _ 1 1 [⟨⟨m, false, uz u3⟩, Am, pm, dm⟩] rfl hsrc (by unfold maxLen; omega) (by omega) ?_); intro A3 d3 W3 h3)
          have hrowB := hrow
          have hng2 : ∀ k', k' ∈ [gm, gx] → ¬ (k' = w.heap.size + 1 ∨ ∃ ad, A = some ad ∧ k' = ad.block) := fun k' hk' => by
            rintro (e | ⟨ad, e, hk⟩)
            · exact hng k' hk' e
            · simp only [List.mem_cons, List.not_mem_nil, or_false] at hk'
              rcases hk' with rfl | rfl
              · exact Own.ne_blk hD4.hx.row hD4.bm (by decide) ad e hk.symm
              · exact Own.ne_blk hD4.hx.row hbx4 (by decide) ad e hk.symm
          refine OnlyN.normal (hK _ _ (sameIn_of (((hc1.mono fun k _ e => Or.inl e).trans (Chg.of_grew hga)).trans (h3.chg.mono fun k _ e => Or.inr e)) hcs hng2) ?_)
          clear hK K
          obtain ⟨hb4, h5⟩ := h2.app om10 h3
          have m4' := hb4.cell 2
          have mf' := hb4.frozen 2
          simp only [List.getElem?_toArray, List.getElem?_cons_succ, List.getElem?_cons_zero] at m4'
          have c5' := h5.rd.bk.cell 2
          have cf' := h5.rd.bk.frozen 2
          simp only [List.getElem?_toArray, List.getElem?_cons_succ, List.getElem?_cons_zero] at c5'
          have hX5 : Hid (∀ m' ∈ ms ++ [(⟨⟨m, false, uz u3⟩, Am, pm, dm⟩ : EnM)], EntW m'.e) := Lib.hid (fun m' hm' => by
            rcases List.mem_append.1 hm' with hm' | hm'
            · exact hX.out m' hm'
            · rcases List.mem_singleton.1 hm' with rfl
              exact ⟨hmw, uz_ge hu3⟩)
          have hO5 : Hid (∀ v0 f0 es0, IxW v0 f0 es0 → l = encI v0 f0 es0 → b3 = false ∧ z = 0 ∧ q3' = (preI v0 f0 es0 (j + 1)).length ∧ v = v0 ∧ uz u = f0 ∧ (ms ++ [(⟨⟨m, false, uz u3⟩, Am, pm, dm⟩ : EnM)]).map EnM.e = es0.take (j + 1) ∧ r = es0.length - (j + 1) ∧ j + 1 ≤ es0.length) := Lib.hid (fun v0 f0 es0 h1 h2 => by
            obtain ⟨e0, k1, k2, k3, k4, k5, k6, k7, k8, k9, k10, k11⟩ := hO3.out v0 f0 es0 h1 h2
            have hmem := List.mem_of_getElem? k1
            obtain ⟨n1, n2⟩ := hm0'.out e0.m (h1.ok.el _ hmem).1 (h1.w _ hmem).m k3
            refine ⟨k2, n2, k6, k7, k8, ?_, k10, k11⟩
            rw [List.map_append, k9, List.take_add_one, k1]
            have hb : e0.mkd = false := by rw [← bitN_one (b := e0.mkd), ← k4]; exact decide_eq_false (by omega)
            simp only [List.map_cons, List.map_nil, Option.toList_some, n1, k5, uz_zz, ← hb])
          go_wp2_with fail
          refine OnlyN.normal ?_
          clear hsrc h3 h1 h2 hb4 m2 x0 x1 x2 x3 x4 x5 x6 hcs hX hO3 hD4 hbx4 om8 om9 om10 hrow hrowB hng hng2 hc1 hga
          cases b3
          · skip
            rcases hz with rfl | rfl
            · skip
              have h6 := h5.setB false
              go_wp2
              go_roundw
              case rel => exact ⟨r, q3', j + 1, false, A3, d3, _, by go_num, by omega, hj1, by first | exact h6 | simpa using h6, hX5, Lib.hid (fun _ => by first | exact hQ3.out | exact hQ3.out rfl | exact hQ3.out trivial), Lib.hid (fun v0 f0 es0 h1 h2 => by
                obtain ⟨e1, e2, e3⟩ := hO5.out v0 f0 es0 h1 h2
                exact ⟨rfl, e3⟩)⟩
              case measure => simp [intOf]
            · skip
              have h6 := h5.setB true
              go_wp2
              go_roundw
              case rel => exact ⟨r, q3', j + 1, true, A3, d3, _, by go_num, by omega, hj1, by first | exact h6 | simpa using h6, hX5, Lib.hid (fun e => by cases e), Lib.hid (fun v0 f0 es0 h1 h2 => by
                have e := (hO5.out v0 f0 es0 h1 h2).2.1
                cases e)⟩
              case measure => simp [intOf]
          · skip
            have h6 := h5.setB true
            go_wp2
            go_roundw
            case rel => exact ⟨r, q3', j + 1, true, A3, d3, _, by go_num, by omega, hj1, by first | exact h6 | simpa using h6, hX5, Lib.hid (fun e => by cases e), Lib.hid (fun v0 f0 es0 h1 h2 => by
              have e := (hO5.out v0 f0 es0 h1 h2).1
              cases e)⟩
            case measure => simp [intOf]
      · obtain rfl : k = 0 := by omega
        have hO9 : Hid (∀ v0 f0 es0, IxW v0 f0 es0 → l = encI v0 f0 es0 → false = false ∧ v = v0 ∧ uz u = f0 ∧ ms.map EnM.e = es0) := Lib.hid (fun v0 f0 es0 h1 h2 => by
          obtain ⟨_, _, e3, e4, e5, e6, e7⟩ := hO.out v0 f0 es0 h1 h2
          exact ⟨rfl, e3, e4, by rw [e5]; exact List.take_of_length_le (by omega)⟩)
        have hjx : Hid ((ms.map EnM.e).length = j) := Lib.hid (by rw [List.length_map]; exact hD.hx.row.len (by decide))
        have y0 := hD.bm.cell 0
        have y1 := hD.bm.cell 1
        have y2 := hD.bm.cell 2
        simp only [List.getElem?_toArray, List.getElem?_cons_succ, List.getElem?_cons_zero] at y0 y1 y2
        cases hck : chkI (uz u) (ms.map EnM.e)
        · skip
          have hNo : Hid (∀ v0 f0 es0, IxW v0 f0 es0 → l ≠ encI v0 f0 es0) := Lib.hid (fun v0 f0 es0 h1 h2 => by
            obtain ⟨_, _, e2, e3⟩ := hO9.out v0 f0 es0 h1 h2
            rw [e2, e3, (chkI_iff _ _).2 h1.ok] at hck
            cases hck)
          have hE := fun W (hW : Grew wr W) => rencode_no v (uz u) A j d (ms.map EnM.e) W (hD.hx.nx.rx.grew hW) (by omega) hck
          unfold EncP at hE
          replace hE := Lib.hid hE
          clear hck hO9
          go_wp2_with fail
          refine (hE.out _ (Chg.refl _ _)).mono ?_
          rintro e w8 ⟨C8, c8, rfl, o8, g8⟩
          have hD8 := hD.grew g8
          clear hE y0 y1 y2
          have z2 := hD8.rd.bk.cell 2
          simp only [List.getElem?_toArray, List.getElem?_cons_succ, List.getElem?_cons_zero] at z2
          have br := hD8.b2
          have r0 := br.cell 0
          have r1 := br.cell 1
          have r2 := br.cell 2
          have f0 := br.frozen 0
          have f1 := br.frozen 1
          have f2 := br.frozen 2
          simp only [List.getElem?_toArray, List.getElem?_cons_succ, List.getElem?_cons_zero] at r0 r1 r2
          have hq := br.put3 (.int .u64 0) (.int .i64 0) (.slice none 0 0)
          have hg9 := hD8.gw.far3 (g := w.heap.size) (Nat.le_refl _) (.int .u64 0) (.int .i64 0) (.slice none 0 0)
          clear hD
          go_wp2
          refine bodyPost_ret (v := .tuple #[.agg #[.int .u64 0, .int .i64 0, .slice none 0 0], .int .i64 140]) ?_ rfl (.inr ⟨hNo.out, none, 0, rfl, NX.nil _ _, hg9⟩)
          have q0 := hq.cell 0
          have q1 := hq.cell 1
          have q2 := hq.cell 2
          simp [results, Tryz.results25, go_sem, q0, q1, q2]
        · skip
          have hIW : IxW v (uz u) (ms.map EnM.e) := ⟨(chkI_iff _ _).1 hck, hv, fun e he => by
            obtain ⟨m, hm, rfl⟩ := List.mem_map.1 he
            exact hX.out m hm⟩
          have hE := fun W (hW : Grew wr W) => rencode_ok v (uz u) A j d (ms.map EnM.e) W (hD.hx.nx.rx.grew hW) hIW.ok hv hIW.w
          unfold EncP at hE
          obtain ⟨R, hR⟩ : ∃ R, encI v (uz u) (ms.map EnM.e) = R := ⟨_, rfl⟩
          rw [hR] at hE
          generalize hnR : R.length = nR at hE
          replace hE := Lib.hid hE
          clear hnR hck
          go_wp2_with fail
          refine (hE.out _ (Chg.refl _ _)).mono ?_
          rintro e w8 ⟨C8, c8, rfl, o8, g8⟩
          have hD8 := hD.grew g8
          clear hE y0 y1 y2
          have z2 := hD8.rd.bk.cell 2
          simp only [List.getElem?_toArray, List.getElem?_cons_succ, List.getElem?_cons_zero] at z2
          have hcv8 := run_conv_RB (P := Tryz.prog) (c := c8) Tryz.underlying42 Tryz.underlying5 Tryz.underlying9 o8.rb
          have hcvl := hcvB.out w8 hD8.gw
          by_cases hEq : R = l
          · skip
            rw [hEq] at hcv8
            generalize (⟨l.toArray⟩ : ByteArray) = xl at hcv8 hcvl
            rw [← hR] at hEq
            replace hR := Lib.hid hR
            have hD9 := hD8.bm
            have y0 := hD9.cell 0
            have y1 := hD9.cell 1
            have y2 := hD9.cell 2
            simp only [List.getElem?_toArray, List.getElem?_cons_succ, List.getElem?_cons_zero] at y0 y1 y2
            have hEq' := Lib.hid hEq
            clear hEq
            have br := hD8.b2
            have r0 := br.cell 0
            have r1 := br.cell 1
            have r2 := br.cell 2
            have f0 := br.frozen 0
            have f1 := br.frozen 1
            have f2 := br.frozen 2
            simp only [List.getElem?_toArray, List.getElem?_cons_succ, List.getElem?_cons_zero] at r0 r1 r2
            have hq := br.put3 (.int .u64 (v : Int)) (.int .i64 (uz u)) (.slice A j d)
            have hg9 := hD8.gw.far3 (g := w.heap.size) (Nat.le_refl _) (.int .u64 (v : Int)) (.int .i64 (uz u)) (.slice A j d)
            have hx9 := hD8.hx.nx.far3 br (by decide) (by decide) (.int .u64 (v : Int)) (.int .i64 (uz u)) (.slice A j d)
            clear hD
            go_wp2
            refine bodyPost_ret (v := .tuple #[.agg #[.int .u64 (v : Int), .int .i64 (uz u), .slice A j d], .int .i64 0]) ?_ rfl (.inl ⟨v, uz u, ms.map EnM.e, hIW, hEq'.out.symm, A, d, by rw [hjx.out], by rw [hjx.out]; exact hx9, hg9⟩)
            have q0 := hq.cell 0
            have q1 := hq.cell 1
            have q2 := hq.cell 2
            simp [results, Tryz.results25, go_sem, q0, q1, q2]
          · skip
            have hne : ((⟨R.toArray⟩ : ByteArray).toList == (⟨l.toArray⟩ : ByteArray).toList) = false := by
              rw [ByteArray.toList_eq, ByteArray.toList_eq]
              simpa using hEq
            generalize (⟨R.toArray⟩ : ByteArray) = x8 at hcv8 hne
            generalize (⟨l.toArray⟩ : ByteArray) = xl at hcvl hne
            have hNo : Hid (∀ v0 f0 es0, IxW v0 f0 es0 → l ≠ encI v0 f0 es0) := Lib.hid (fun v0 f0 es0 h1 h2 => by
              obtain ⟨_, e1, e2, e3⟩ := hO9.out v0 f0 es0 h1 h2
              exact hEq (by rw [← hR, e1, e2, e3, h2]))
            replace hR := Lib.hid hR
            replace hEq := Lib.hid hEq
            have br := hD8.b2
            have r0 := br.cell 0
            have r1 := br.cell 1
            have r2 := br.cell 2
            have f0 := br.frozen 0
            have f1 := br.frozen 1
            have f2 := br.frozen 2
            simp only [List.getElem?_toArray, List.getElem?_cons_succ, List.getElem?_cons_zero] at r0 r1 r2
            have hq := br.put3 (.int .u64 0) (.int .i64 0) (.slice none 0 0)
            have hg9 := hD8.gw.far3 (g := w.heap.size) (Nat.le_refl _) (.int .u64 0) (.int .i64 0) (.slice none 0 0)
            clear hD
            go_wp2
            refine bodyPost_ret (v := .tuple #[.agg #[.int .u64 0, .int .i64 0, .slice none 0 0], .int .i64 140]) ?_ rfl (.inr ⟨hNo.out, none, 0, rfl, NX.nil _ _, hg9⟩)
            have q0 := hq.cell 0
            have q1 := hq.cell 1
            have q2 := hq.cell 2
            simp [results, Tryz.results25, go_sem, q0, q1, q2]
    · have hO9 : Hid (∀ v0 f0 es0, IxW v0 f0 es0 → l = encI v0 f0 es0 → true = false ∧ v = v0 ∧ uz u = f0 ∧ ms.map EnM.e = es0) := Lib.hid (fun v0 f0 es0 h1 h2 => by
      obtain ⟨e1, _⟩ := hO.out v0 f0 es0 h1 h2
      cases e1)
      by_cases hk0 : 0 < k
      · skip
        have hjx : Hid ((ms.map EnM.e).length = j) := Lib.hid (by rw [List.length_map]; exact hD.hx.row.len (by decide))
        have y0 := hD.bm.cell 0
        have y1 := hD.bm.cell 1
        have y2 := hD.bm.cell 2
        simp only [List.getElem?_toArray, List.getElem?_cons_succ, List.getElem?_cons_zero] at y0 y1 y2
        cases hck : chkI (uz u) (ms.map EnM.e)
        · skip
          have hNo : Hid (∀ v0 f0 es0, IxW v0 f0 es0 → l ≠ encI v0 f0 es0) := Lib.hid (fun v0 f0 es0 h1 h2 => by
            obtain ⟨_, _, e2, e3⟩ := hO9.out v0 f0 es0 h1 h2
            rw [e2, e3, (chkI_iff _ _).2 h1.ok] at hck
            cases hck)
          have hE := fun W (hW : Grew wr W) => rencode_no v (uz u) A j d (ms.map EnM.e) W (hD.hx.nx.rx.grew hW) (by omega) hck
          unfold EncP at hE
          replace hE := Lib.hid hE
          clear hck hO9
          go_wp2_with fail
          refine (hE.out _ (Chg.refl _ _)).mono ?_
          rintro e w8 ⟨C8, c8, rfl, o8, g8⟩
          have hD8 := hD.grew g8
          clear hE y0 y1 y2
          have z2 := hD8.rd.bk.cell 2
          simp only [List.getElem?_toArray, List.getElem?_cons_succ, List.getElem?_cons_zero] at z2
          have br := hD8.b2
          have r0 := br.cell 0
          have r1 := br.cell 1
          have r2 := br.cell 2
          have f0 := br.frozen 0
          have f1 := br.frozen 1
          have f2 := br.frozen 2
          simp only [List.getElem?_toArray, List.getElem?_cons_succ, List.getElem?_cons_zero] at r0 r1 r2
          have hq := br.put3 (.int .u64 0) (.int .i64 0) (.slice none 0 0)
          have hg9 := hD8.gw.far3 (g := w.heap.size) (Nat.le_refl _) (.int .u64 0) (.int .i64 0) (.slice none 0 0)
          clear hD
          go_wp2
          refine bodyPost_ret (v := .tuple #[.agg #[.int .u64 0, .int .i64 0, .slice none 0 0], .int .i64 140]) ?_ rfl (.inr ⟨hNo.out, none, 0, rfl, NX.nil _ _, hg9⟩)
          have q0 := hq.cell 0
          have q1 := hq.cell 1
          have q2 := hq.cell 2
          simp [results, Tryz.results25, go_sem, q0, q1, q2]
        · skip
          have hIW : IxW v (uz u) (ms.map EnM.e) := ⟨(chkI_iff _ _).1 hck, hv, fun e he => by
            obtain ⟨m, hm, rfl⟩ := List.mem_map.1 he
            exact hX.out m hm⟩
          have hE := fun W (hW : Grew wr W) => rencode_ok v (uz u) A j d (ms.map EnM.e) W (hD.hx.nx.rx.grew hW) hIW.ok hv hIW.w
          unfold EncP at hE
          obtain ⟨R, hR⟩ : ∃ R, encI v (uz u) (ms.map EnM.e) = R := ⟨_, rfl⟩
          rw [hR] at hE
          generalize hnR : R.length = nR at hE
          replace hE := Lib.hid hE
          clear hnR hck
          go_wp2_with fail
          refine (hE.out _ (Chg.refl _ _)).mono ?_
          rintro e w8 ⟨C8, c8, rfl, o8, g8⟩
          have hD8 := hD.grew g8
          clear hE y0 y1 y2
          have z2 := hD8.rd.bk.cell 2
          simp only [List.getElem?_toArray, List.getElem?_cons_succ, List.getElem?_cons_zero] at z2
          have hNo : Hid (∀ v0 f0 es0, IxW v0 f0 es0 → l ≠ encI v0 f0 es0) := Lib.hid (fun v0 f0 es0 h1 h2 => by
            have e := (hO9.out v0 f0 es0 h1 h2).1
            cases e)
          replace hR := Lib.hid hR
          have br := hD8.b2
          have r0 := br.cell 0
          have r1 := br.cell 1
          have r2 := br.cell 2
          have f0 := br.frozen 0
          have f1 := br.frozen 1
          have f2 := br.frozen 2
          simp only [List.getElem?_toArray, List.getElem?_cons_succ, List.getElem?_cons_zero] at r0 r1 r2
          have hq := br.put3 (.int .u64 0) (.int .i64 0) (.slice none 0 0)
          have hg9 := hD8.gw.far3 (g := w.heap.size) (Nat.le_refl _) (.int .u64 0) (.int .i64 0) (.slice none 0 0)
          clear hD
          go_wp2
          refine bodyPost_ret (v := .tuple #[.agg #[.int .u64 0, .int .i64 0, .slice none 0 0], .int .i64 140]) ?_ rfl (.inr ⟨hNo.out, none, 0, rfl, NX.nil _ _, hg9⟩)
          have q0 := hq.cell 0
          have q1 := hq.cell 1
          have q2 := hq.cell 2
          simp [results, Tryz.results25, go_sem, q0, q1, q2]
      · obtain rfl : k = 0 := by omega
        have hjx : Hid ((ms.map EnM.e).length = j) := Lib.hid (by rw [List.length_map]; exact hD.hx.row.len (by decide))
        have y0 := hD.bm.cell 0
        have y1 := hD.bm.cell 1
        have y2 := hD.bm.cell 2
        simp only [List.getElem?_toArray, List.getElem?_cons_succ, List.getElem?_cons_zero] at y0 y1 y2
        cases hck : chkI (uz u) (ms.map EnM.e)
        · skip
          have hNo : Hid (∀ v0 f0 es0, IxW v0 f0 es0 → l ≠ encI v0 f0 es0) := Lib.hid (fun v0 f0 es0 h1 h2 => by
            obtain ⟨_, _, e2, e3⟩ := hO9.out v0 f0 es0 h1 h2
            rw [e2, e3, (chkI_iff _ _).2 h1.ok] at hck
            cases hck)
          have hE := fun W (hW : Grew wr W) => rencode_no v (uz u) A j d (ms.map EnM.e) W (hD.hx.nx.rx.grew hW) (by omega) hck
          unfold EncP at hE
          replace hE := Lib.hid hE
          clear hck hO9
          go_wp2_with fail
          refine (hE.out _ (Chg.refl _ _)).mono ?_
          rintro e w8 ⟨C8, c8, rfl, o8, g8⟩
          have hD8 := hD.grew g8
          clear hE y0 y1 y2
          have z2 := hD8.rd.bk.cell 2
          simp only [List.getElem?_toArray, List.getElem?_cons_succ, List.getElem?_cons_zero] at z2
          have br := hD8.b2
          have r0 := br.cell 0
          have r1 := br.cell 1
          have r2 := br.cell 2
          have f0 := br.frozen 0
          have f1 := br.frozen 1
          have f2 := br.frozen 2
          simp only [List.getElem?_toArray, List.getElem?_cons_succ, List.getElem?_cons_zero] at r0 r1 r2
          have hq := br.put3 (.int .u64 0) (.int .i64 0) (.slice none 0 0)
          have hg9 := hD8.gw.far3 (g := w.heap.size) (Nat.le_refl _) (.int .u64 0) (.int .i64 0) (.slice none 0 0)
          clear hD
          go_wp2
          refine bodyPost_ret (v := .tuple #[.agg #[.int .u64 0, .int .i64 0, .slice none 0 0], .int .i64 140]) ?_ rfl (.inr ⟨hNo.out, none, 0, rfl, NX.nil _ _, hg9⟩)
          have q0 := hq.cell 0
          have q1 := hq.cell 1
          have q2 := hq.cell 2
          simp [results, Tryz.results25, go_sem, q0, q1, q2]
        · skip
          have hIW : IxW v (uz u) (ms.map EnM.e) := ⟨(chkI_iff _ _).1 hck, hv, fun e he => by
            obtain ⟨m, hm, rfl⟩ := List.mem_map.1 he
            exact hX.out m hm⟩
          have hE := fun W (hW : Grew wr W) => rencode_ok v (uz u) A j d (ms.map EnM.e) W (hD.hx.nx.rx.grew hW) hIW.ok hv hIW.w
          unfold EncP at hE
          obtain ⟨R, hR⟩ : ∃ R, encI v (uz u) (ms.map EnM.e) = R := ⟨_, rfl⟩
          rw [hR] at hE
          generalize hnR : R.length = nR at hE
          replace hE := Lib.hid hE
          clear hnR hck
          go_wp2_with fail
          refine (hE.out _ (Chg.refl _ _)).mono ?_
          rintro e w8 ⟨C8, c8, rfl, o8, g8⟩
          have hD8 := hD.grew g8
          clear hE y0 y1 y2
          have z2 := hD8.rd.bk.cell 2
          simp only [List.getElem?_toArray, List.getElem?_cons_succ, List.getElem?_cons_zero] at z2
          have hNo : Hid (∀ v0 f0 es0, IxW v0 f0 es0 → l ≠ encI v0 f0 es0) := Lib.hid (fun v0 f0 es0 h1 h2 => by
            have e := (hO9.out v0 f0 es0 h1 h2).1
            cases e)
          replace hR := Lib.hid hR
          have br := hD8.b2
          have r0 := br.cell 0
          have r1 := br.cell 1
          have r2 := br.cell 2
          have f0 := br.frozen 0
          have f1 := br.frozen 1
          have f2 := br.frozen 2
          simp only [List.getElem?_toArray, List.getElem?_cons_succ, List.getElem?_cons_zero] at r0 r1 r2
          have hq := br.put3 (.int .u64 0) (.int .i64 0) (.slice none 0 0)
          have hg9 := hD8.gw.far3 (g := w.heap.size) (Nat.le_refl _) (.int .u64 0) (.int .i64 0) (.slice none 0 0)
          clear hD
          go_wp2
          refine bodyPost_ret (v := .tuple #[.agg #[.int .u64 0, .int .i64 0, .slice none 0 0], .int .i64 140]) ?_ rfl (.inr ⟨hNo.out, none, 0, rfl, NX.nil _ _, hg9⟩)
          have q0 := hq.cell 0
          have q1 := hq.cell 1
          have q2 := hq.cell 2
          simp [results, Tryz.results25, go_sem, q0, q1, q2]
end Go.Proofs.YtjoaonppaokhhaaGreat

namespace Go.Proofs.YtjoaonppaokhhaaGreat
open Go.RowKit

/-- an index' reader, whatever it holds for wrong -/
structure RiB (w : World) (g : Nat) (B : Option Addr) (n c : Nat) (l : List UInt8) (q : Nat) (b : Bool) : Prop where
  bk : Blk w g 88 #[.slice B n c, .int .i64 (q : Int), .bool b]
  rb : RB w B n l
  ne : ∀ ad, B = some ad → 0 < n → ad.block ≠ g
structure RiC (w w' : World) (g : Nat) (B : Option Addr) (n c : Nat) (l : List UInt8) (q : Nat) (b : Bool) : Prop where
  rd : RiB w' g B n c l q b
  ch : Chg (fun k => k = g) w w'
theorem RiB.grew {w W : World} {g : Nat} {B : Option Addr} {n c : Nat} {l : List UInt8} {q : Nat} {b : Bool} (h : RiB w g B n c l q b) (hW : Grew w W) : RiB W g B n c l q b := ⟨h.bk.grew hW, h.rb.grew hW, h.ne⟩
theorem RiC.trans {w w1 w2 : World} {g : Nat} {B : Option Addr} {n c : Nat} {l : List UInt8} {q q2 : Nat} {b b2 : Bool} (h : RiC w w1 g B n c l q b) (h2 : RiC w1 w2 g B n c l q2 b2) : RiC w w2 g B n c l q2 b2 := ⟨h2.rd, h.ch.trans h2.ch⟩
theorem RiC.grew {w w1 w2 : World} {g : Nat} {B : Option Addr} {n c : Nat} {l : List UInt8} {q : Nat} {b : Bool} (h : RiC w w1 g B n c l q b) (h2 : Grew w1 w2) : RiC w w2 g B n c l q b := ⟨h.rd.grew h2, h.ch.trans (Chg.of_grew h2)⟩
theorem RiC.ahead {w w1 w2 : World} {g : Nat} {B : Option Addr} {n c : Nat} {l : List UInt8} {q : Nat} {b : Bool} (h : Grew w w1) (h2 : RiC w1 w2 g B n c l q b) : RiC w w2 g B n c l q b := ⟨h2.rd, (Chg.of_grew h).trans h2.ch⟩
theorem RiB.bad {w : World} {g : Nat} {B : Option Addr} {n c : Nat} {l : List UInt8} {q : Nat} {b : Bool} (h : RiB w g B n c l q b) (b2 : Bool) : RiC w (w.setCell ⟨g, 2, none⟩ (.bool b2)) g B n c l q b2 := by
  have b3 := h.bk.set 2 (.bool b2)
  simp only [List.setIfInBounds_toArray, List.set_cons_succ, List.set_cons_zero] at b3
  exact ⟨⟨b3, h.rb.far (Chg.cell1 w g 2 _) (fun ad e h0 hk => h.ne ad e h0 hk), h.ne⟩, Chg.cell1 w g 2 _⟩
theorem RiB.to {w : World} {g : Nat} {B : Option Addr} {n c : Nat} {l : List UInt8} {q : Nat} {b : Bool} (h : RiB w g B n c l q b) (q2 : Nat) : RiC w (w.setCell ⟨g, 1, none⟩ (.int .i64 (q2 : Int))) g B n c l q2 b := by
  have b3 := h.bk.set 1 (.int .i64 (q2 : Int))
  simp only [List.setIfInBounds_toArray, List.set_cons_succ, List.set_cons_zero] at b3
  exact ⟨⟨b3, h.rb.far (Chg.cell1 w g 1 _) (fun ad e h0 hk => h.ne ad e h0 hk), h.ne⟩, Chg.cell1 w g 1 _⟩
def StB (w : World) (g : Nat) (B : Option Addr) (n c : Nat) (l : List UInt8) (v : Value) (e : Ending) (w' : World) : Prop := e = .returned v ∧ ∃ q b, RiC w w' g B n c l q b

set_option maxRecDepth 100000 in
set_option maxHeartbeats 8000000 in
theorem istep_any (g : Nat) (B : Option Addr) (n c : Nat) (l : List UInt8) (q q2 er : Nat) (b : Bool) (w : World) (h : RiB w g B n c l q b) :
    Calls Tryz.prog 99 #[.pointer (some ⟨g, 0, none⟩), .int .i64 (q2 : Int), .int .i64 (er : Int)] w (StB w g B n c l (.tuple #[])) := by
  have c2 := h.bk.cell 2
  have f2 := h.bk.frozen 2
  simp only [List.getElem?_toArray, List.getElem?_cons_succ, List.getElem?_cons_zero] at c2
  unfold StB
  cases b
  · by_cases h0 : er = 0
    · subst h0
      have hb := h.bad false
      have c1 := hb.rd.bk.cell 1
      have f1 := hb.rd.bk.frozen 1
      simp only [List.getElem?_toArray, List.getElem?_cons_succ, List.getElem?_cons_zero] at c1
      go_enter Tryz.func99, Tryz.ntmps99
      go_wp2
      first
        | go_end0
        | refine bodyPost_ret (results_none rfl _ _ _) rfl ?_
      exact ⟨rfl, _, _, hb.trans (hb.rd.to q2)⟩
    · have h1 : ¬ (er : Int) = 0 := by omega
      have h2 : ((er : Int) == 0) = false := by simpa using h1
      have h3 : ((er : Int) != 0) = true := by simp [bne, h2]
      have hb := h.bad true
      have c1 := hb.rd.bk.cell 1
      have f1 := hb.rd.bk.frozen 1
      simp only [List.getElem?_toArray, List.getElem?_cons_succ, List.getElem?_cons_zero] at c1
      go_enter Tryz.func99, Tryz.ntmps99
      go_wp2
      first
        | go_end0
        | refine bodyPost_ret (results_none rfl _ _ _) rfl ?_
      exact ⟨rfl, _, _, hb.trans (hb.rd.to q2)⟩
  · skip
    have hb := h.bad true
    have c1 := hb.rd.bk.cell 1
    have f1 := hb.rd.bk.frozen 1
    simp only [List.getElem?_toArray, List.getElem?_cons_succ, List.getElem?_cons_zero] at c1
    go_enter Tryz.func99, Tryz.ntmps99
    go_wp2
    first
      | go_end0
      | refine bodyPost_ret (results_none rfl _ _ _) rfl ?_
    exact ⟨rfl, _, _, hb.trans (hb.rd.to q2)⟩
set_option maxRecDepth 100000 in
set_option maxHeartbeats 8000000 in
theorem inumber_any (g : Nat) (B : Option Addr) (n c : Nat) (l : List UInt8) (q : Nat) (b : Bool) (w : World) (h : RiB w g B n c l q b) (hn : n ≤ 140737488355328) :
    Calls Tryz.prog 70 #[.pointer (some ⟨g, 0, none⟩)] w fun e w' => ∃ x : Nat, x < 18446744073709551616 ∧ StB w g B n c l (.int .u64 (x : Int)) e w' := by
  have hU := fun W (hW : Grew w W) => uint_any B n c l (q : Int) W (h.rb.grew hW) hn
  have hx := uintR_lt l (q : Int)
  generalize uintR l (q : Int) = r at hU hx
  unfold UintPost uintEnd at hU
  replace hU := Lib.hid hU
  have c0 := h.bk.cell 0
  have c1 := h.bk.cell 1
  simp only [List.getElem?_toArray, List.getElem?_cons_succ, List.getElem?_cons_zero] at c0 c1
  unfold StB
  go_enter Tryz.func70, Tryz.ntmps70
  go_wp2
  refine wp_region_text [] (by kernel_rfl) (by kernel_rfl) ?_
  simp only [instr, chk, List.nil_append]
  go_wp2_with fail
  refine (hU.out _ (Chg.refl _ w).drew).mono ?_
  rintro e w1 ⟨rfl, rfl⟩
  clear hU c0 c1
  go_wp2_with fail
  refine OnlyN.normal ?_
  go_wp2_with fail
  refine (istep_any g B n c l q r.2.1 r.2.2 b _ (h.grew (Chg.refl _ w).drew)).mono ?_
  rintro e w2 ⟨rfl, q2, b2, hT⟩
  go_wp2
  go_ret
  exact ⟨r.1, hx, rfl, q2, b2, RiC.ahead (Chg.refl _ w).drew hT⟩
set_option maxRecDepth 100000 in
set_option maxHeartbeats 8000000 in
theorem isigned_any (g : Nat) (B : Option Addr) (n c : Nat) (l : List UInt8) (q : Nat) (b : Bool) (w : World) (h : RiB w g B n c l q b) (hn : n ≤ 140737488355328) :
    Calls Tryz.prog 71 #[.pointer (some ⟨g, 0, none⟩)] w fun e w' => ∃ x : Int, (-9223372036854775808 ≤ x ∧ x ≤ 9223372036854775807) ∧ StB w g B n c l (.int .i64 x) e w' := by
  have hU := fun W (hW : Grew w W) => int_any B n c l (q : Int) W (h.rb.grew hW) hn
  have hx := uintR_lt l (q : Int)
  generalize uintR l (q : Int) = r at hU hx
  unfold IntPost at hU
  replace hU := Lib.hid hU
  have c0 := h.bk.cell 0
  have c1 := h.bk.cell 1
  simp only [List.getElem?_toArray, List.getElem?_cons_succ, List.getElem?_cons_zero] at c0 c1
  unfold StB
  go_enter Tryz.func71, Tryz.ntmps71
  go_wp2
  refine wp_region_text [] (by kernel_rfl) (by kernel_rfl) ?_
  simp only [instr, chk, List.nil_append]
  go_wp2_with fail
  refine (hU.out _ (Chg.refl _ w).drew).mono ?_
  rintro e w1 ⟨rfl, rfl⟩
  clear hU c0 c1
  go_wp2_with fail
  refine OnlyN.normal ?_
  go_wp2_with fail
  refine (istep_any g B n c l q r.2.1 r.2.2 b _ (h.grew (Chg.refl _ w).drew)).mono ?_
  rintro e w2 ⟨rfl, q2, b2, hT⟩
  go_wp2
  go_ret
  exact ⟨uz r.1, uz_ge hx, rfl, q2, b2, RiC.ahead (Chg.refl _ w).drew hT⟩
theorem dm_any (w : World) (B : Option Addr) (n c : Nat) (lb : List UInt8) (hr : RB w B n lb) (hc : n ≤ c ∧ c ≤ 9223372036854775807) (hn : n ≤ 140737488350000) :
    Calls Tryz.prog 102 #[.slice B n c] w fun e w' => ∃ (m : Met) (z : Nat), MetW m ∧ MtR w m (z : Int) e w' := by
  by_cases h : ∃ m, metOk m = true ∧ MetW m ∧ lb = encM m
  · obtain ⟨m, h1, h2, h3⟩ := h
    have hl : (encM m).length = (metB m).length + 4 := by unfold encM; exact sealB_len _
    have hl2 := hr.1
    rw [h3, hl] at hl2
    obtain ⟨k, hk⟩ : ∃ k, (metB m).length = k := ⟨_, rfl⟩
    rw [hk] at hl2
    subst hl2
    rw [h3] at hr
    exact (decodeMeta_ok m h1 h2 w B k c hr hc (by omega)).mono fun e w' hM => ⟨m, 0, h2, hM⟩
  · exact (decodeMeta_no w B n c lb hr hc hn fun m h1 h2 h3 => h ⟨m, h1, h2, h3⟩).mono fun e w' hM => ⟨_, 92, ⟨by decide, by decide, by decide, fun x hx => by cases hx⟩, hM⟩
theorem textR_len (l : List UInt8) (q : Int) : (textR l q).1.length ≤ l.length := by
  unfold textR textOf
  split
  · simp
  · split
    · simp
    · simp only [List.length_take, List.length_drop]
      omega
end Go.Proofs.YtjoaonppaokhhaaGreat
