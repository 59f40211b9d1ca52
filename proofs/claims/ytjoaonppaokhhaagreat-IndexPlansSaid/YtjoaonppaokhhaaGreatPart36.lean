/-
  Several texts in one:
  (index.Encode) walked, where the index may be. Conditions: numbers of 64 bits.
  An index' reader: its numbers and its entries read back. Conditions: lengths that memory bears; numbers of 64 bits.
-/
import Derived.Test.YtjoaonppaokhhaaGreatPart35
import Derived.Lib.ConvBytes

namespace Go.Proofs.YtjoaonppaokhhaaGreat
open Go.RowKit

/-- numbers of 64 bits -/
structure EntW (e : Ent) : Prop where
  m : MetW e.m
  tm : -9223372036854775808 ≤ e.tm ∧ e.tm ≤ 9223372036854775807
def bitN (b : Bool) : Nat := match b with
  | true => 1
  | false => 0
theorem bitN_lt (b : Bool) : bitN b < 18446744073709551616 := by cases b <;> decide
/-- an entry's bytes -/
def entB (e : Ent) : List UInt8 := uv (encM e.m).length ++ encM e.m ++ uv (bitN e.mkd) ++ uv (zz e.tm)
/-- an index' bytes but for their sum -/
def bodyI (v : Nat) (fl : Int) (es : List Ent) : List UInt8 := uv v ++ uv (zz fl) ++ uv es.length ++ es.flatMap entB
def encI (v : Nat) (fl : Int) (es : List Ent) : List UInt8 := sealB (bodyI v fl es)
theorem encM_len {m : Met} (hok : metOk m = true) (hw : MetW m) : (encM m).length ≤ 760 := by
  obtain ⟨o1, o2, o3, o4, o5, o6⟩ := (metOk_iff m).1 hok
  unfold encM
  rw [sealB_len, metB_nums, List.length_append]
  have h1 := flat_uv_len (numsM m) (numsM_lt hok hw)
  have h2 : (numsM m).length = 7 + m.src.length := by unfold numsM; simp; omega
  have h3 : headM.length = 4 := rfl
  omega
theorem entB_len {e : Ent} (hok : metOk e.m = true) (hw : EntW e) : (entB e).length ≤ 790 := by
  unfold entB
  have h1 := encM_len hok hw.m
  have h2 := uv_len10 (v := (encM e.m).length) (by omega)
  have h3 := uv_len10 (bitN_lt e.mkd)
  have h4 := uv_len10 (zz_lt hw.tm.1 hw.tm.2)
  simp only [List.length_append]
  omega

set_option maxRecDepth 100000 in
set_option maxHeartbeats 8000000 in
theorem encode_ok (v : Nat) (fl : Int) (A : Option Addr) (n c : Nat) (es : List Ent) (w : World) (h : RX w A n es) (hok : IxOk fl es) (hv : v < 18446744073709551616) (hw : ∀ e ∈ es, EntW e) :
    Calls Tryz.prog 27 #[.agg #[.int .u64 (v : Int), .int .i64 fl, .slice A n c]] w (EncP w (encI v fl es) 0) := by
  have hgb : Grew w (w.alloc (.cells #[.int .u64 (v : Int), .int .i64 fl, .slice A n c] 25)) := (Chg.refl _ w).alloc _
  have hbi := Blk.new w 25 #[.int .u64 (v : Int), .int .i64 fl, .slice A n c]
  obtain ⟨W, hW⟩ : ∃ W, W = w.alloc (.cells #[.int .u64 (v : Int), .int .i64 fl, .slice A n c] 25) := ⟨_, rfl⟩
  rw [← hW] at hgb hbi
  have hln : es.length = n := h.len
  have hn : n ≤ 256 := by rw [← hln]; exact hok.len
  have hC := check_any v fl A n c es W (h.grew hgb) (by omega)
  rw [(chkI_iff fl es).2 hok] at hC
  obtain ⟨R, hR⟩ : ∃ R, encI v fl es = R := ⟨_, rfl⟩
  rw [hR]
  replace hR := Lib.hid hR
  have hfl1 : -9223372036854775808 ≤ fl := by have := hok.lo; omega
  have hfl2 : fl ≤ 9223372036854775807 := by have := hok.hi; omega
  have lv1 := uv_len10 hv
  have lv2 := uv_len10 (zz_lt hfl1 hfl2)
  have lv3 := uv_len10 (v := n) (by omega)
  replace hln := Lib.hid hln
  unfold EncP
  go_enter Tryz.func27, Tryz.ntmps27
  go_wp2_with fail
  rw [← hW]
  refine hC.mono ?_
  rintro e w2 ⟨rfl, hg1⟩
  unfold errI
  have g2 := hgb.trans hg1
  have bi2 := hbi.grew hg1
  have i0 := bi2.cell 0
  simp only [List.getElem?_toArray, List.getElem?_cons_zero] at i0
  clear hC hW
  go_wp2_with fail
  have hcs : CellsIn [w.heap.size] w2 := cellsIn_one bi2
  have hsame : Hid (∀ W1, Grew w2 W1 → SameIn [w.heap.size] w2 W1) := fun W1 h1 => sameIn_of h1 hcs fun _ _ e => e
  refine wp_region_textS [(3, 1), (22, 1)] [w.heap.size] (by kernel_rfl) (by kernel_rfl) hcs ?_
  simp only [wpU, tagOf, chk, List.cons_append, List.nil_append]
  intro K hK
  go_wp2_with fail
  refine OnlyN.normal (hK _ _ (fun _ => ⟨_, _, _, rfl, rfl, by simp⟩) ?_)
  clear hK K
  intro K hK
  go_wp2_with fail
  refine (putUint_any none 0 0 [] v v _ ⟨rfl, Rd.nil _ _⟩ rfl (by omega) hv).mono ?_
  rintro e w3 ⟨A3, c3, rfl, ho3, hg3⟩
  simp only [Nat.zero_add, List.nil_append] at ho3
  have hg23 : Grew w2 w3 := (Chg.refl _ w2).drew.trans hg3
  have i1 := (bi2.grew hg23).cell 1
  simp only [List.getElem?_toArray, List.getElem?_cons_succ, List.getElem?_cons_zero] at i1
  go_wp2_with fail
  refine OnlyN.normal (hK _ _ (hsame.out _ hg23) ?_)
  clear hK K
  intro K hK
  go_wp2_with fail
  refine OnlyN.normal (hK _ _ (fun _ => ⟨_, _, _, rfl, rfl, by simp⟩) ?_)
  clear hK K
  intro K hK
  go_wp2_with fail
  refine (putInt_any A3 _ c3 _ fl w3 ho3.rb (by omega) hfl1 hfl2).mono ?_
  rintro e w4 ⟨A4, c4, rfl, ho4, hg4⟩
  have hg24 := hg23.trans hg4
  have i2 := (bi2.grew hg24).cell 2
  simp only [List.getElem?_toArray, List.getElem?_cons_succ, List.getElem?_cons_zero] at i2
  go_wp2_with fail
  refine OnlyN.normal (hK _ _ (hsame.out _ hg24) ?_)
  clear hK K
  intro K hK
  go_wp2_with fail
  refine OnlyN.normal (hK _ _ (fun _ => ⟨_, _, _, rfl, rfl, by simp⟩) ?_)
  clear hK K
  intro K hK
  go_wp2_with fail
  refine (putUint_any A4 _ c4 _ n n w4 ho4.rb rfl (by omega) (by omega)).mono ?_
  rintro e w5 ⟨A5, c5, rfl, ho5, hg5⟩
  have hg25 := hg24.trans hg5
  go_wp2_with fail
  refine OnlyN.normal (hK _ _ (hsame.out _ hg25) ?_)
  clear hK K
  go_wp2_with fail
  refine OnlyN.normal ?_
  obtain ⟨N5, hN5⟩ : ∃ N5, (uv v).length + (uv (zz fl)).length + (uv n).length = N5 := ⟨_, rfl⟩
  obtain ⟨r5, hr5⟩ : ∃ r5, uv v ++ uv (zz fl) ++ uv n = r5 := ⟨_, rfl⟩
  rw [hN5, hr5] at ho5
  rw [hN5]
  have hN5b : N5 ≤ 30 := by omega
  have hz0 : Hid (bodyI v fl es = r5 ++ (es.drop 0).flatMap entB) := Lib.hid (by
    unfold bodyI
    rw [hln.out, hr5]
    rfl)
  have hsz2 := g2.size
  have hsz25 := hg25.size
  have bi5 := bi2.grew hg25
  have g5 := g2.trans hg25
  have o5 : OB w5 w.heap.size 5 A5 N5 c5 r5 := Own.mono ho5 (by have := hg24.size; omega)
  have i2 := bi5.cell 2
  simp only [List.getElem?_toArray, List.getElem?_cons_succ, List.getElem?_cons_zero] at i2
  clear hN5 hr5 ho5 ho4 ho3 hg5 hg4 hg3 hg24 hg23 hg25 hsame hcs i0 i1 bi2 g2 hg1 lv1 lv2 lv3 hbi hgb
  go_wp2
  go_loopw [5, 30] (fun o i wr => ∃ (k M C : Nat) (B : Option Addr) (r : List UInt8), k ≤ n ∧ i = .int .i64 (k : Int) ∧ o = .slice B M C ∧ M ≤ 30 + 790 * k ∧ Hid (bodyI v fl es = r ++ (es.drop k).flatMap entB) ∧ OB wr w.heap.size 5 B M C r ∧ Grew w wr) (fun _ i _ => n - (intOf i).toNat)
  case atStart => exact ⟨0, N5, c5, A5, r5, by omega, rfl, rfl, by omega, hz0, o5, g5⟩
  case round =>
    obtain ⟨k, M, C, B, r, hk, rfl, rfl, hM, hz, ho, hg⟩ := hrel
    by_cases hlt : k < n
    · obtain ⟨ad, m, rfl, hx, hm, x0, x1, x2, x3, x4, x5, x6, x7, x8⟩ := (h.grew hg).at_ hlt
      have hokm := (hok.el m.e (List.mem_of_getElem? hx)).1
      have hwm := hw m.e (List.mem_of_getElem? hx)
      have hzz := hz.out
      rw [drop_at hx, List.flatMap_cons, ← List.append_assoc] at hzz
      replace hzz := Lib.hid hzz
      have hent : entB m.e = uv (encM m.e.m).length ++ encM m.e.m ++ uv (bitN m.e.mkd) ++ uv (zz m.e.tm) := rfl
      have hel := entB_len hokm hwm
      have hml := encM_len hokm hwm.m
      obtain ⟨W, hW⟩ : ∃ W, W = wr.alloc (.cells #[.int .u64 (m.e.m.id : Int), .int .i64 m.e.m.lo, .int .i64 m.e.m.hi, .int .i64 m.e.m.lv, .slice m.A m.n m.c, .int .i64 m.e.m.sr, .int .i64 m.e.m.pt, .bool m.e.mkd, .int .i64 m.e.tm] 51) := ⟨_, rfl⟩
      have hgW : Grew wr W := by rw [hW]; exact (Chg.refl _ wr).alloc _
      have hbW : Blk W wr.heap.size 51 #[.int .u64 (m.e.m.id : Int), .int .i64 m.e.m.lo, .int .i64 m.e.m.hi, .int .i64 m.e.m.lv, .slice m.A m.n m.c, .int .i64 m.e.m.sr, .int .i64 m.e.m.pt, .bool m.e.mkd, .int .i64 m.e.tm] := by rw [hW]; exact Blk.new wr _ _
      have hgg := hg.trans hgW
      have hE := encodeMeta_ok m.e.m m.A m.n m.c W (hm.row.grew hgW) hokm hwm.m
      have hsz := hg.size
      clear hz hx hm hokm
      go_wp2_with fail
      rw [← hW]
      clear hW
      refine hE.mono ?_
      rintro e w6 ⟨A6, c6, rfl, ho6, hg6⟩
      have hgx := hgg.trans hg6
      have bx6 := hbW.grew hg6
      have hcs : CellsIn [wr.heap.size] w6 := cellsIn_one bx6
      have hsame : Hid (∀ W1, Grew w6 W1 → SameIn [wr.heap.size] w6 W1) := fun W1 h1 => sameIn_of h1 hcs fun _ _ e => e
      have hcv := run_conv_RB (P := Tryz.prog) (w := w6.drew) (c := c6) Tryz.underlying42 Tryz.underlying5 Tryz.underlying9 (RB.grew ho6.rb (Chg.refl _ w6).drew)
      have o6 := (ho.grew hgW).grew hg6
      have x7' := bx6.cell 7
      simp only [List.getElem?_toArray, List.getElem?_cons_succ, List.getElem?_cons_zero] at x7'
      obtain ⟨T, hT⟩ : ∃ T : ByteArray, (⟨(encM m.e.m).toArray⟩ : ByteArray) = T := ⟨_, rfl⟩
      have hTs : T.size = (encM m.e.m).length := by rw [← hT]; rfl
      have hTd : T.data.toList = encM m.e.m := by rw [← hT]
      rw [hT] at hcv
      obtain ⟨L6, hL6⟩ : ∃ L6, (encM m.e.m).length = L6 := ⟨_, rfl⟩
      rw [hL6] at hcv hent hml hTs ⊢
      replace hTd := Lib.hid hTd
      replace hTs := Lib.hid hTs
      have lT := uv_len10 (v := L6) (by omega)
      have lz := uv_len10 (zz_lt hwm.tm.1 hwm.tm.2)
      have lb := uv_len10 (bitN_lt m.e.mkd)
      obtain ⟨q6, hq6⟩ : ∃ q6, encM m.e.m = q6 := ⟨_, rfl⟩
      rw [hq6] at hent hTd
      clear hE x0 x1 x2 x3 x4 x5 x6 x7 x8 hT hL6 hq6 ho6
      cases hmk : m.e.mkd
      · rw [hmk] at x7' hent lb
        clear hmk
        change entB m.e = uv L6 ++ q6 ++ uv 0 ++ _ at hent
        change (uv 0).length ≤ 10 at lb
        go_wp2_with fail
        refine wp_region_textS [(3, 1), (22, 1)] [wr.heap.size] (by kernel_rfl) (by kernel_rfl) hcs ?_
        simp only [wpU, tagOf, chk, List.cons_append, List.nil_append]
        intro K hK
        go_wp2_with fail
        refine OnlyN.normal (hK _ _ (hsame.out _ (Chg.refl _ w6).drew) ?_)
        clear hK K
        intro K hK
        go_wp2_with fail
        refine (putText_any B M C r T _ (RB.grew o6.rb (Chg.refl _ w6).drew) (by have := hTs.out; omega)).mono ?_
        rintro e w7 ⟨A7, c7, rfl, ho7, hg7⟩
        rw [hTs.out, hTd.out] at ho7
        rw [hTs.out]
        have hg67 : Grew w6 w7 := (Chg.refl _ w6).drew.trans hg7
        go_wp2_with fail
        refine OnlyN.normal (hK _ _ (hsame.out _ hg67) ?_)
        clear hK K
        intro K hK
        go_wp2_with fail
        refine (putUint_any A7 _ c7 _ 0 0 w7 ho7.rb rfl (by omega) (by omega)).mono ?_
        rintro e w8 ⟨A8, c8, rfl, ho8, hg8⟩
        have hg68 := hg67.trans hg8
        have t8 := (bx6.grew hg68).cell 8
        simp only [List.getElem?_toArray, List.getElem?_cons_succ, List.getElem?_cons_zero] at t8
        go_wp2_with fail
        refine OnlyN.normal (hK _ _ (hsame.out _ hg68) ?_)
        clear hK K
        intro K hK
        go_wp2_with fail
        refine OnlyN.normal (hK _ _ (fun _ => ⟨_, _, _, rfl, rfl, by simp⟩) ?_)
        clear hK K
        intro K hK
        go_wp2_with fail
        refine (putInt_any A8 _ c8 _ m.e.tm w8 ho8.rb (by omega) hwm.tm.1 hwm.tm.2).mono ?_
        rintro e w9 ⟨A9, c9, rfl, ho9, hg9⟩
        have hg69 := hg68.trans hg9
        go_wp2_with fail
        refine OnlyN.normal (hK _ _ (hsame.out _ hg69) ?_)
        clear hK K
        go_wp2_with fail
        refine OnlyN.normal ?_
        have hel2 : (uv L6).length + q6.length + (uv 0).length + (uv (zz m.e.tm)).length ≤ 790 := by
          rw [hent] at hel
          simp only [List.length_append] at hel
          omega
        have hq6l : q6.length = L6 := by rw [← hTd.out, ← hTs.out]; rfl
        have hs8 := (hgx.trans hg68).size
        have o9 : OB w9 w.heap.size 5 A9 _ c9 _ := Own.mono ho9 (by have := hg69.size; omega)
        have hzz2 : Hid (bodyI v fl es = r ++ uv L6 ++ q6 ++ uv 0 ++ uv (zz m.e.tm) ++ (es.drop (k + 1)).flatMap entB) := Lib.hid (by
          rw [hzz.out, hent]
          simp only [List.append_assoc])
        clear ho7 ho8 ho9 hcv t8 x7' o6 hg7 hg8 hg9 hsame hcs
        go_wp2
        go_roundw
        case rel => exact ⟨k + 1, _, c9, A9, _, by omega, by go_num, rfl, by omega, hzz2, o9, hgx.trans hg69⟩
        case measure => simp [intOf]; omega
      · rw [hmk] at x7' hent lb
        clear hmk
        change entB m.e = uv L6 ++ q6 ++ uv 1 ++ _ at hent
        change (uv 1).length ≤ 10 at lb
        go_wp2_with fail
        refine wp_region_textS [(3, 1), (22, 1)] [wr.heap.size] (by kernel_rfl) (by kernel_rfl) hcs ?_
        simp only [wpU, tagOf, chk, List.cons_append, List.nil_append]
        intro K hK
        go_wp2_with fail
        refine OnlyN.normal (hK _ _ (hsame.out _ (Chg.refl _ w6).drew) ?_)
        clear hK K
        intro K hK
        go_wp2_with fail
        refine (putText_any B M C r T _ (RB.grew o6.rb (Chg.refl _ w6).drew) (by have := hTs.out; omega)).mono ?_
        rintro e w7 ⟨A7, c7, rfl, ho7, hg7⟩
        rw [hTs.out, hTd.out] at ho7
        rw [hTs.out]
        have hg67 : Grew w6 w7 := (Chg.refl _ w6).drew.trans hg7
        go_wp2_with fail
        refine OnlyN.normal (hK _ _ (hsame.out _ hg67) ?_)
        clear hK K
        intro K hK
        go_wp2_with fail
        refine (putUint_any A7 _ c7 _ 1 1 w7 ho7.rb rfl (by omega) (by omega)).mono ?_
        rintro e w8 ⟨A8, c8, rfl, ho8, hg8⟩
        have hg68 := hg67.trans hg8
        have t8 := (bx6.grew hg68).cell 8
        simp only [List.getElem?_toArray, List.getElem?_cons_succ, List.getElem?_cons_zero] at t8
        go_wp2_with fail
        refine OnlyN.normal (hK _ _ (hsame.out _ hg68) ?_)
        clear hK K
        intro K hK
        go_wp2_with fail
        refine OnlyN.normal (hK _ _ (fun _ => ⟨_, _, _, rfl, rfl, by simp⟩) ?_)
        clear hK K
        intro K hK
        go_wp2_with fail
        refine (putInt_any A8 _ c8 _ m.e.tm w8 ho8.rb (by omega) hwm.tm.1 hwm.tm.2).mono ?_
        rintro e w9 ⟨A9, c9, rfl, ho9, hg9⟩
        have hg69 := hg68.trans hg9
        go_wp2_with fail
        refine OnlyN.normal (hK _ _ (hsame.out _ hg69) ?_)
        clear hK K
        go_wp2_with fail
        refine OnlyN.normal ?_
        have hel2 : (uv L6).length + q6.length + (uv 1).length + (uv (zz m.e.tm)).length ≤ 790 := by
          rw [hent] at hel
          simp only [List.length_append] at hel
          omega
        have hq6l : q6.length = L6 := by rw [← hTd.out, ← hTs.out]; rfl
        have hs8 := (hgx.trans hg68).size
        have o9 : OB w9 w.heap.size 5 A9 _ c9 _ := Own.mono ho9 (by have := hg69.size; omega)
        have hzz2 : Hid (bodyI v fl es = r ++ uv L6 ++ q6 ++ uv 1 ++ uv (zz m.e.tm) ++ (es.drop (k + 1)).flatMap entB) := Lib.hid (by
          rw [hzz.out, hent]
          simp only [List.append_assoc])
        clear ho7 ho8 ho9 hcv t8 x7' o6 hg7 hg8 hg9 hsame hcs
        go_wp2
        go_roundw
        case rel => exact ⟨k + 1, _, c9, A9, _, by omega, by go_num, rfl, by omega, hzz2, o9, hgx.trans hg69⟩
        case measure => simp [intOf]; omega
    · obtain rfl : k = n := by omega
      have hzz := hz.out
      rw [List.drop_of_length_le (by have := hln.out; omega), List.flatMap_nil, List.append_nil] at hzz
      have hB := isealed_any w.heap.size B M C r wr ho hg.size (by omega)
      have hRl : R.length = M + 4 := by
        rw [← hR.out]
        unfold encI
        rw [sealB_len, hzz, ho.len]
      have hRr : Hid (R = sealB r) := Lib.hid (by rw [← hR.out, ← hzz]; rfl)
      replace hRl := Lib.hid hRl
      clear hz hzz
      go_wp2_with fail
      refine hB.mono ?_
      rintro e w12 ⟨A12, c12, rfl, ho12, hc12⟩
      clear hB
      go_wp2
      go_ret2
      refine ⟨A12, c12, by rw [hRl.out]; rfl, ?_, ?_⟩
      · rw [hRl.out, hRr.out]
        exact ho12
      · exact hg.step hc12 fun j hj ⟨ad, e, hk⟩ => by have := (Own.blk_lt ho ad e).1; omega
end Go.Proofs.YtjoaonppaokhhaaGreat

namespace Go.Proofs.YtjoaonppaokhhaaGreat
open Go.RowKit

/-- a text made bytes: a new row -/
theorem conv_str (w : World) (s : ByteArray) (hs : s.size ≤ 140737488355328) : ∃ c' w', (convert 9 42 (.string s)).run Tryz.prog w = .ok (.slice (some ⟨w.heap.size, 0, none⟩) s.size c') w' ∧ RB w' (some ⟨w.heap.size, 0, none⟩) s.size s.data.toList ∧ Grew w w' ∧ s.size ≤ c' ∧ c' ≤ 9223372036854775807 := by
  refine ⟨_, _, Lib.run_convert_string_bytes w 9 42 5 s Tryz.underlying9 Tryz.underlying42 Tryz.underlying5, ⟨by rw [Array.length_toList]; rfl, fun j u hu => ⟨_, rfl, ?_⟩⟩, ⟨rfl, rfl, rfl, by rw [Lib.bytesWorld_size]; omega, fun k hk _ => Lib.bytesWorld_at_old w 5 s k hk⟩, ?_, ?_⟩
  · have hj : j < s.size := by
      have := (List.getElem?_eq_some_iff.1 hu).1
      rw [List.length_map, Array.length_toList] at this
      exact this
    rw [add_head, Lib.bytesWorld_cell w 5 s j hj]
    rw [List.getElem?_map] at hu
    cases hx : s.data.toList[j]? with
    | none => rw [hx] at hu; cases hu
    | some x =>
      rw [hx] at hu
      injection hu with hu
      rw [← hu, List.getD_eq_getElem?_getD, hx]
      rfl
  · exact grownCap_ge w _ _ _
  · have := grownCap_le_maxLen w s.size 0 5 (by unfold maxLen; omega)
    unfold maxLen at this
    exact this

/-- an index' reader, in which nothing is wrong -/
structure RiS (w : World) (g : Nat) (B : Option Addr) (n c : Nat) (l : List UInt8) (q : Nat) : Prop where
  bk : Blk w g 88 #[.slice B n c, .int .i64 (q : Int), .bool false]
  rb : RB w B n l
  ne : ∀ ad, B = some ad → 0 < n → ad.block ≠ g
structure RiT (w w' : World) (g : Nat) (B : Option Addr) (n c : Nat) (l : List UInt8) (q : Nat) : Prop where
  rd : RiS w' g B n c l q
  ch : Chg (fun k => k = g) w w'
theorem RiS.grew {w W : World} {g : Nat} {B : Option Addr} {n c : Nat} {l : List UInt8} {q : Nat} (h : RiS w g B n c l q) (hW : Grew w W) : RiS W g B n c l q := ⟨h.bk.grew hW, h.rb.grew hW, h.ne⟩
theorem RiT.trans {w w1 w2 : World} {g : Nat} {B : Option Addr} {n c : Nat} {l : List UInt8} {q q2 : Nat} (h : RiT w w1 g B n c l q) (h2 : RiT w1 w2 g B n c l q2) : RiT w w2 g B n c l q2 := ⟨h2.rd, h.ch.trans h2.ch⟩
theorem RiT.grew {w w1 w2 : World} {g : Nat} {B : Option Addr} {n c : Nat} {l : List UInt8} {q : Nat} (h : RiT w w1 g B n c l q) (h2 : Grew w1 w2) : RiT w w2 g B n c l q := ⟨h.rd.grew h2, h.ch.trans (Chg.of_grew h2)⟩
theorem RiT.ahead {w w1 w2 : World} {g : Nat} {B : Option Addr} {n c : Nat} {l : List UInt8} {q : Nat} (h : Grew w w1) (h2 : RiT w1 w2 g B n c l q) : RiT w w2 g B n c l q := ⟨h2.rd, (Chg.of_grew h).trans h2.ch⟩
theorem RiS.bad {w : World} {g : Nat} {B : Option Addr} {n c : Nat} {l : List UInt8} {q : Nat} (h : RiS w g B n c l q) : RiT w (w.setCell ⟨g, 2, none⟩ (.bool false)) g B n c l q := by
  have b3 := h.bk.set 2 (.bool false)
  simp only [List.setIfInBounds_toArray, List.set_cons_succ, List.set_cons_zero] at b3
  exact ⟨⟨b3, h.rb.far (Chg.cell1 w g 2 _) (fun ad e h0 hk => h.ne ad e h0 hk), h.ne⟩, Chg.cell1 w g 2 _⟩
theorem RiS.to {w : World} {g : Nat} {B : Option Addr} {n c : Nat} {l : List UInt8} {q : Nat} (h : RiS w g B n c l q) (q2 : Nat) : RiT w (w.setCell ⟨g, 1, none⟩ (.int .i64 (q2 : Int))) g B n c l q2 := by
  have b3 := h.bk.set 1 (.int .i64 (q2 : Int))
  simp only [List.setIfInBounds_toArray, List.set_cons_succ, List.set_cons_zero] at b3
  exact ⟨⟨b3, h.rb.far (Chg.cell1 w g 1 _) (fun ad e h0 hk => h.ne ad e h0 hk), h.ne⟩, Chg.cell1 w g 1 _⟩

set_option maxRecDepth 100000 in
set_option maxHeartbeats 4000000 in
theorem istep_ok (g : Nat) (B : Option Addr) (n c : Nat) (l : List UInt8) (q q2 : Nat) (w : World) (h : RiS w g B n c l q) :
    Calls Tryz.prog 99 #[.pointer (some ⟨g, 0, none⟩), .int .i64 (q2 : Int), .int .i64 0] w fun e w' => e = .returned (.tuple #[]) ∧ RiT w w' g B n c l q2 := by
  have c2 := h.bk.cell 2
  have f2 := h.bk.frozen 2
  have hb := h.bad
  have c1 := hb.rd.bk.cell 1
  have f1 := hb.rd.bk.frozen 1
  simp only [List.getElem?_toArray, List.getElem?_cons_succ, List.getElem?_cons_zero] at c2 c1
  go_enter Tryz.func99, Tryz.ntmps99
  go_wp2
  first
    | go_end0
    | refine bodyPost_ret (results_none rfl _ _ _) rfl ?_
  exact ⟨rfl, hb.trans (hb.rd.to q2)⟩

set_option maxRecDepth 100000 in
set_option maxHeartbeats 4000000 in
theorem inumber_ok (g : Nat) (B : Option Addr) (n c : Nat) (l : List UInt8) (q x q2 : Nat) (w : World) (h : RiS w g B n c l q) (hn : n ≤ 140737488355328) (hr : uintR l (q : Int) = (x, q2, 0)) :
    Calls Tryz.prog 70 #[.pointer (some ⟨g, 0, none⟩)] w fun e w' => e = .returned (.int .u64 (x : Int)) ∧ RiT w w' g B n c l q2 := by
  have hU := fun W (hW : Grew w W) => uint_any B n c l (q : Int) W (h.rb.grew hW) hn
  rw [hr] at hU
  unfold UintPost uintEnd at hU
  replace hU := Lib.hid hU
  have c0 := h.bk.cell 0
  have c1 := h.bk.cell 1
  simp only [List.getElem?_toArray, List.getElem?_cons_succ, List.getElem?_cons_zero] at c0 c1
  clear hr
  go_enter Tryz.func70, Tryz.ntmps70
  go_wp2
  refine wp_region_text [] (by kernel_rfl) (by kernel_rfl) ?_
  simp only [instr, chk, List.nil_append]
  go_wp2_with fail
  refine (hU.out _ (Chg.refl _ w).drew).mono ?_
  rintro e w1 ⟨rfl, rfl⟩
  clear hU c0 c1
  go_wp2_with fail
  refine OnlyN.normal ?_
  go_wp2_with fail
  refine (istep_ok g B n c l q q2 _ (h.grew (Chg.refl _ w).drew)).mono ?_
  rintro e w2 ⟨rfl, hT⟩
  go_wp2
  go_ret
  exact ⟨rfl, RiT.ahead (Chg.refl _ w).drew hT⟩
set_option maxRecDepth 100000 in
set_option maxHeartbeats 4000000 in
theorem isigned_ok (g : Nat) (B : Option Addr) (n c : Nat) (l : List UInt8) (q x q2 : Nat) (w : World) (h : RiS w g B n c l q) (hn : n ≤ 140737488355328) (hr : uintR l (q : Int) = (x, q2, 0)) :
    Calls Tryz.prog 71 #[.pointer (some ⟨g, 0, none⟩)] w fun e w' => e = .returned (.int .i64 (uz x)) ∧ RiT w w' g B n c l q2 := by
  have hU := fun W (hW : Grew w W) => int_any B n c l (q : Int) W (h.rb.grew hW) hn
  rw [hr] at hU
  unfold IntPost at hU
  replace hU := Lib.hid hU
  have c0 := h.bk.cell 0
  have c1 := h.bk.cell 1
  simp only [List.getElem?_toArray, List.getElem?_cons_succ, List.getElem?_cons_zero] at c0 c1
  clear hr
  go_enter Tryz.func71, Tryz.ntmps71
  go_wp2
  refine wp_region_text [] (by kernel_rfl) (by kernel_rfl) ?_
  simp only [instr, chk, List.nil_append]
  go_wp2_with fail
  refine (hU.out _ (Chg.refl _ w).drew).mono ?_
  rintro e w1 ⟨rfl, rfl⟩
  clear hU c0 c1
  go_wp2_with fail
  refine OnlyN.normal ?_
  go_wp2_with fail
  refine (istep_ok g B n c l q q2 _ (h.grew (Chg.refl _ w).drew)).mono ?_
  rintro e w2 ⟨rfl, hT⟩
  go_wp2
  go_ret
  exact ⟨rfl, RiT.ahead (Chg.refl _ w).drew hT⟩
end Go.Proofs.YtjoaonppaokhhaaGreat
