/-
  Several texts in one:
  (index.Decode) on an index' own bytes. Conditions: lengths that memory bears; numbers of 64 bits.
  Rising rows of IDs: (slices.Sort) and (slices.Compact) leave them as they are. Conditions: twelve IDs at most.
-/
import Derived.Test.YtjoaonppaokhhaaGreatPart37
import Derived.Test.YtjoaonppaokhhaaGreatShelf

namespace Go.Proofs.YtjoaonppaokhhaaGreat
open Go.RowKit

/-- an index that is being read -/
structure DcS (w W : World) (gr gx : Nat) (B : Option Addr) (n c : Nat) (l : List UInt8) (q : Nat) (v : Nat) (fl : Int) (P : Option Addr) (k d : Nat) (ms : List EnM) : Prop where
  rd : RiS W gr B n c l q
  bx : Blk W gx 25 #[.int .u64 (v : Int), .int .i64 fl, .slice P k d]
  br : Blk W w.heap.size 25 #[.int .u64 0, .int .i64 0, .slice none 0 0]
  xo : NXo W w.heap.size P k d ms
  gw : Grew w W
  lo : w.heap.size < gr ∧ w.heap.size < gx
  bl : ∀ ad, B = some ad → 0 < n → ad.block < w.heap.size
theorem DcS.grew {w W W' : World} {gr gx : Nat} {B : Option Addr} {n c : Nat} {l : List UInt8} {q v : Nat} {fl : Int} {P : Option Addr} {k d : Nat} {ms : List EnM} (h : DcS w W gr gx B n c l q v fl P k d ms) (hg : Grew W W') : DcS w W' gr gx B n c l q v fl P k d ms :=
  ⟨h.rd.grew hg, h.bx.grew hg, h.br.grew hg, h.xo.grew hg, h.gw.trans hg, h.lo, h.bl⟩
theorem DcS.to {w W W' : World} {gr gx : Nat} {B : Option Addr} {n c : Nat} {l : List UInt8} {q q2 v : Nat} {fl : Int} {P : Option Addr} {k d : Nat} {ms : List EnM} (h : DcS w W gr gx B n c l q v fl P k d ms) (ht : RiT W W' gr B n c l q2) : DcS w W' gr gx B n c l q2 v fl P k d ms :=
  ⟨ht.rd, h.bx.chg ht.ch (Blk.neT h.bx h.rd.bk (by decide)), h.br.chg ht.ch (Blk.neT h.br h.rd.bk (by decide)), ⟨h.xo.row.chg ht.ch (fun ad e hk => Own.ne_blk h.xo.row h.rd.bk (by decide) ad e hk), fun m hm => OE.chg (h.xo.el m hm) ht.ch (fun ad e hk => Own.ne_blk (h.xo.el m hm) h.rd.bk (by decide) ad e hk)⟩,
    h.gw.step ht.ch fun j hj e => by have := h.lo.1; omega, h.lo, h.bl⟩
theorem DcS.app {w W W' : World} {gr gx : Nat} {B : Option Addr} {n c : Nat} {l : List UInt8} {q v : Nat} {fl : Int} {P P' : Option Addr} {k d d' : Nat} {ms : List EnM} {m : EnM} (h : DcS w W gr gx B n c l q v fl P k d ms) (hm : NxE W w.heap.size m) (ha : ApE elEn W w.heap.size 51 P (k + 1) d (ms ++ [m]) P' d' W') :
    Blk W' gx 25 #[.int .u64 (v : Int), .int .i64 fl, .slice P k d] ∧ DcS w (W'.setCell ⟨gx, 2, none⟩ (.slice P' (k + 1) d')) gr gx B n c l q v fl P' (k + 1) d' (ms ++ [m]) := by
  have bx := ha.ne_blk h.xo.row h.bx (by decide)
  have br := ha.ne_blk h.xo.row h.br (by decide)
  have bk := ha.ne_blk h.xo.row h.rd.bk (by decide)
  have xo := h.xo.app hm ha
  have g2 : Grew w W' := ha.grew h.gw (fun ad e => (Own.blk_lt h.xo.row ad e).1)
  have b3 := bx.set 2 (.slice P' (k + 1) d')
  simp only [List.setIfInBounds_toArray, List.set_cons_succ, List.set_cons_zero] at b3
  have hrb := h.rd.rb.far ha.chg (fun ad e h0 ⟨bd, e2, hk⟩ => by have := h.bl ad e h0; have := (Own.blk_lt h.xo.row bd e2).1; omega)
  refine ⟨bx, ⟨bk.far (Blk.neT bk bx (by decide)) _, hrb.far (Chg.cell1 W' gx 2 _) (fun ad e h0 hk => by have := h.bl ad e h0; have := h.lo.2; omega), h.rd.ne⟩, b3, br.far (by have := h.lo.2; show w.heap.size ≠ gx; omega) _, xo.farBlk bx (by decide) (by decide) 2 _, g2.setCell (p := ⟨gx, 2, none⟩) (.inl (by have := h.lo.2; show w.heap.size ≤ gx; omega)) _, h.lo, h.bl⟩

/-- the bytes ahead of an entry -/
def preI (v : Nat) (fl : Int) (es : List Ent) (k : Nat) : List UInt8 := uv v ++ uv (zz fl) ++ uv es.length ++ (es.take k).flatMap entB
theorem encI_at (v : Nat) (fl : Int) (es : List Ent) {k : Nat} {e : Ent} (he : es[k]? = some e) : ∃ r, encI v fl es = preI v fl es k ++ (entB e ++ r) ∧ preI v fl es (k + 1) = preI v fl es k ++ entB e := by
  refine ⟨(es.drop (k + 1)).flatMap entB ++ four (crc (bodyI v fl es)), ?_, ?_⟩
  · have h1 : es.flatMap entB = (es.take k).flatMap entB ++ (entB e ++ (es.drop (k + 1)).flatMap entB) := by
      rw [← List.flatMap_cons, ← drop_at he, ← List.flatMap_append, List.take_append_drop]
    unfold encI sealB preI
    generalize four (crc (bodyI v fl es)) = z
    unfold bodyI
    rw [h1]
    simp only [List.append_assoc]
  · unfold preI
    rw [List.take_add_one, he, List.flatMap_append]
    simp
theorem encI_nums (v : Nat) (fl : Int) (es : List Ent) : ∃ r, encI v fl es = uv v ++ (uv (zz fl) ++ (uv es.length ++ r)) := by
  refine ⟨es.flatMap entB ++ four (crc (bodyI v fl es)), ?_⟩
  unfold encI sealB
  generalize four (crc (bodyI v fl es)) = z
  unfold bodyI
  simp only [List.append_assoc]

set_option maxRecDepth 100000 in
set_option maxHeartbeats 8000000 in
theorem decode_ok (v : Nat) (fl : Int) (es : List Ent) (B : Option Addr) (n c : Nat) (w : World) (hok : IxOk fl es) (hv : v < 18446744073709551616) (hw : ∀ e ∈ es, EntW e) (hr : RB w B n (encI v fl es)) (hn : n ≤ 140737488355328) (hc : n ≤ c ∧ c ≤ 9223372036854775807) :
    Calls Tryz.prog 28 #[.slice B n c] w (IxR w v fl es 0) := by
  have hfl1 : -9223372036854775808 ≤ fl := by have := hok.lo; omega
  have hfl2 : fl ≤ 9223372036854775807 := by have := hok.hi; omega
  obtain ⟨N, hN⟩ : ∃ N, es.length = N := ⟨_, rfl⟩
  have hN256 : N ≤ 256 := by rw [← hN]; exact hok.len
  obtain ⟨r0, hr0⟩ := encI_nums v fl es
  have hat := fun (k : Nat) (e : Ent) (he : es[k]? = some e) => encI_at v fl es he
  obtain ⟨l, hl⟩ : ∃ l, encI v fl es = l := ⟨_, rfl⟩
  have hl0 := hl
  rw [hl] at hr hr0 hat
  have t1 : uintR l ((0 : Nat) : Int) = (v, (uv v).length, 0) := by
    have := uintR_at [] (uv (zz fl) ++ (uv es.length ++ r0)) v hv
    rw [hr0]
    simpa using this
  have t2 : uintR l ((uv v).length : Int) = (zz fl, (uv v ++ uv (zz fl)).length, 0) := by
    have := uintR_at (uv v) (uv es.length ++ r0) (zz fl) (zz_lt hfl1 hfl2)
    rw [hr0, this, List.length_append]
  have t3 : uintR l ((uv v ++ uv (zz fl)).length : Int) = (N, (preI v fl es 0).length, 0) := by
    have := uintR_at (uv v ++ uv (zz fl)) r0 es.length (by omega)
    rw [hr0, ← List.append_assoc, this, hN]
    unfold preI
    simp [hN]
    omega
  replace t1 := Lib.hid t1
  replace t2 := Lib.hid t2
  replace t3 := Lib.hid t3
  replace hl0 := Lib.hid hl0
  replace hat := Lib.hid hat
  have hNl : Hid (es.length = N) := hN
  have hRx := IxR
  obtain ⟨W0, hW0⟩ : ∃ W0, W0 = (w.alloc (.cells #[.int .u64 0, .int .i64 0, .slice none 0 0] 25)).alloc (.cells #[.slice B n c, .int .i64 0, .bool false] 88) := ⟨_, rfl⟩
  have hg0 : Grew w W0 := by rw [hW0]; exact ((Chg.refl _ w).alloc _).alloc _
  have hbr : Blk W0 w.heap.size 25 #[.int .u64 0, .int .i64 0, .slice none 0 0] := by rw [hW0]; exact (Blk.new _ _ _).alloc _
  have hbk : Blk W0 (w.heap.size + 1) 88 #[.slice B n c, .int .i64 ((0 : Nat) : Int), .bool false] := by
    rw [hW0]
    have := Blk.new (w.alloc (.cells #[.int .u64 0, .int .i64 0, .slice none 0 0] 25)) 88 #[.slice B n c, .int .i64 0, .bool false]
    rwa [World.size_alloc] at this
  have hbl : ∀ ad, B = some ad → 0 < n → ad.block < w.heap.size := fun ad e h0 => hr.lt ad e h0
  have hR0 : RiS W0 (w.heap.size + 1) B n c l 0 := ⟨hbk, hr.grew hg0, fun ad e h0 => by have := hbl ad e h0; omega⟩
  clear hr0 hl hN hRx
  unfold IxR
  go_enter Tryz.func28, Tryz.ntmps28
  go_wp2_with fail
  rw [← hW0]
  clear hW0
  refine (inumber_ok (w.heap.size + 1) B n c l 0 v _ W0 hR0 hn t1.out).mono ?_
  rintro e w1 ⟨rfl, hT1⟩
  go_wp2_with fail
  refine (isigned_ok (w.heap.size + 1) B n c l _ (zz fl) _ w1 hT1.rd hn t2.out).mono ?_
  rintro e w2 ⟨rfl, hT2⟩
  rw [uz_zz]
  have hT12 := hT1.trans hT2
  have hbr2 := hbr.chg hT12.ch (by omega)
  have g2 : Grew w w2 := hg0.step hT12.ch fun k hk e => by omega
  obtain ⟨W2, hW2⟩ : ∃ W2, W2 = w2.alloc (.cells #[.int .u64 (v : Int), .int .i64 fl, .slice none 0 0] 25) := ⟨_, rfl⟩
  have hgW : Grew w2 W2 := by rw [hW2]; exact (Chg.refl _ w2).alloc _
  obtain ⟨gx, hgx⟩ : ∃ gx, w2.heap.size = gx := ⟨_, rfl⟩
  have hbx : Blk W2 gx 25 #[.int .u64 (v : Int), .int .i64 fl, .slice none 0 0] := by rw [hW2, ← hgx]; exact Blk.new _ _ _
  have hs2 := hbr2.lt
  have hS : DcS w W2 (w.heap.size + 1) gx B n c l _ v fl none 0 0 [] := ⟨hT12.rd.grew hgW, hbx, hbr2.grew hgW, ⟨OE.nil _ _ _, fun m hm => by simp at hm⟩, g2.trans hgW, ⟨by omega, by omega⟩, hbl⟩
  obtain ⟨gr, hgr⟩ : ∃ gr, w.heap.size + 1 = gr := ⟨_, rfl⟩
  rw [hgr] at hS ⊢
  replace hgx := Lib.hid hgx
  replace hgr := Lib.hid hgr
  clear hT1 hT2 hT12 hR0 hbk hbr hbr2 hbx hgW hg0 g2
  go_wp2_with fail
  rw [← hW2, hgx.out]
  clear hW2 hgx
  refine (inumber_ok gr B n c l _ N _ W2 hS.rd hn t3.out).mono ?_
  rintro e w3 ⟨rfl, hT3⟩
  have hS3 := hS.to hT3
  clear hS hT3 t1 t2 t3
  go_wp2
  go_loopw [6] (fun s wr => ∃ (k : Nat) (P : Option Addr) (d : Nat) (ms : List EnM), k ≤ N ∧ s = .int .u64 ((N - k : Nat) : Int) ∧ DcS w wr gr gx B n c l (preI v fl es k).length v fl P k d ms ∧ Hid (ms.map EnM.e = es.take k)) (fun s _ => (intOf s).toNat)
  case atStart => exact ⟨0, none, 0, [], by omega, rfl, hS3, rfl⟩
  case round =>
    clear hS3
    obtain ⟨k, P, d, ms, hk, rfl, hS, hmap⟩ := hrel
    have z2 := hS.rd.bk.cell 2
    have b2 := hS.bx.cell 2
    simp only [List.getElem?_toArray, List.getElem?_cons_succ, List.getElem?_cons_zero] at z2 b2
    have hcap := hS.xo.row.cap
    by_cases hlt : k < N
    · obtain ⟨e, he⟩ : ∃ e, es[k]? = some e := ⟨_, List.getElem?_eq_getElem (by have := hNl.out; omega)⟩
      obtain ⟨r, hl1, hl2⟩ := hat.out k e he
      have hE := fun W (hW : Grew wr W) => entry_ok e (hok.el e (List.mem_of_getElem? he)).1 (hw e (List.mem_of_getElem? he)) gr B n c (preI v fl es k) r W (by rw [← hl1]; exact hS.rd.grew hW) hn hc
      rw [← hl1, ← hl2] at hE
      replace hE := Lib.hid hE
      obtain ⟨q, hq⟩ : ∃ q, N - k = q + 1 := ⟨N - k - 1, by omega⟩
      rw [hq]
      have hq2 : N - (k + 1) = q := by omega
      have hwq : IntKind.u64.wrap (q : Int) = (q : Int) := by rw [IntKind.wrap_u64]; omega
      have hk256 : (k : Int) ≤ 256 := by omega
      replace hq2 := Lib.hid hq2
      have hmap2 : Hid (∀ A d, (ms ++ [(⟨e, A, e.m.src.length, d⟩ : EnM)]).map EnM.e = es.take (k + 1)) := Lib.hid fun A d => by rw [List.map_append, hmap.out, List.take_add_one, he]; rfl
      clear hq hl1 hl2 he
      go_wp2_with fail
      have hcs : CellsIn [gx] wr := cellsIn_one hS.bx
      have hng : ∀ k', k' ∈ [gx] → ¬ k' = gr := fun k' hk' => by
        simp only [List.mem_cons, List.not_mem_nil, or_false] at hk'
        subst hk'
        exact Blk.neT hS.bx hS.rd.bk (by decide)
      refine wp_region_textL [] [gx] (by kernel_rfl) (by kernel_rfl) hcs ?_
      simp only [wpUL, tagOf, chk, List.cons_append, List.nil_append]
      intro K hK
      go_wp2_with fail
      refine OnlyN.normal (hK _ _ (fun _ => ⟨_, _, _, rfl, rfl, by simp⟩) ?_)
      clear hK K
      intro K hK
      go_wp2_with fail
      refine (hE.out _ (Chg.refl _ wr).drew).mono ?_
      rintro e4 w4 ⟨A4, d4, rfl, hA4, hT4⟩
      have hT4' : RiT wr w4 gr B n c l (preI v fl es (k + 1)).length := RiT.ahead (Chg.refl _ wr).drew hT4
      have hS4 := hS.to hT4'
      have hsz4 := hS4.gw.size
      have hxE : NxE w4 w.heap.size ⟨e, A4, e.m.src.length, d4⟩ := Own.mono hA4 (by have := hS.gw.size; simpa using this)
      go_wp2_with fail
      refine OnlyN.normal (hK _ _ (sameIn_of hT4'.ch hcs hng) ?_)
      clear hK K hE
      obtain ⟨w5, hw5⟩ : ∃ w5, w5 = w4.alloc (.cells #[.int .u64 (e.m.id : Int), .int .i64 e.m.lo, .int .i64 e.m.hi, .int .i64 e.m.lv, .slice A4 e.m.src.length d4, .int .i64 e.m.sr, .int .i64 e.m.pt, .bool e.mkd, .int .i64 e.tm] 51) := ⟨_, rfl⟩
      have hg5 : Grew w4 w5 := by rw [hw5]; exact (Chg.refl _ w4).alloc _
      have hsrc : RE elEn w5 (some ⟨w4.heap.size, 0, none⟩) 1 [⟨e, A4, e.m.src.length, d4⟩] := by rw [hw5]; exact RE.newAt rfl rfl rfl
      have hS5 := hS4.grew hg5
      have hx5 : NxE w5 w.heap.size ⟨e, A4, e.m.src.length, d4⟩ := NxE.grew hxE hg5
      have hs5 := hS5.gw.size
      intro K hK
      go_wp2_with fail
      rw [← hw5]
      refine OnlyN.normal (hK _ _ (sameIn_of (hT4'.ch.trans (Chg.of_grew hg5)) hcs hng) ?_)
      clear hK K hw5
      intro K hK
      go_wp2_with (at_builtin; go_loud (refine wpList_appE rfl _ _ 23 51 infoEn rfl Tryz.underlying23 rfl w.heap.size P k d ms rfl hS5.xo.row hs5 _ 1 1 [⟨e, A4, e.m.src.length, d4⟩] rfl hsrc (by unfold maxLen; omega) (by omega) ?_); intro P6 d6 w6 h6)
      obtain ⟨bx6, hS6⟩ := hS5.app hx5 h6
      have hng2 : ∀ k', k' ∈ [gx] → ¬ (k' = gr ∨ ∃ ad, P = some ad ∧ k' = ad.block) := fun k' hk' => by
        rintro (e | ⟨ad, e, hk⟩)
        · exact hng k' hk' e
        · simp only [List.mem_cons, List.not_mem_nil, or_false] at hk'
          subst hk'
          exact Own.ne_blk hS.xo.row hS.bx (by decide) ad e hk.symm
      refine OnlyN.normal (hK _ _ (sameIn_of (((hT4'.ch.mono fun k _ e => Or.inl e).trans (Chg.of_grew hg5)).trans (h6.chg.mono fun k _ e => Or.inr e)) hcs hng2) ?_)
      clear hK K
      have k2 := bx6.cell 2
      have kf := bx6.frozen 2
      simp only [List.getElem?_toArray, List.getElem?_cons_succ, List.getElem?_cons_zero] at k2
      go_wp2_with fail
      refine OnlyN.normal ?_
      clear hcs hng hng2 h6 hsrc hS5 hS4 hT4 hT4' hS z2 b2 bx6 k2 kf hx5 hxE hA4
      go_wp2
      go_roundw
      case rel => exact ⟨k + 1, P6, d6, _, by omega, by rw [hq2.out], hS6, Lib.hid (hmap2.out A4 d4)⟩
      case measure => simp [intOf]
    · obtain rfl : N = k := by omega
      have hx : NX wr w.heap.size P N d es := ⟨ms, hS.xo, by rw [hmap.out, List.take_of_length_le (by have := hNl.out; omega)]⟩
      rw [Nat.sub_self]
      have b0 := hS.bx.cell 0
      have b1 := hS.bx.cell 1
      simp only [List.getElem?_toArray, List.getElem?_cons_succ, List.getElem?_cons_zero] at b0 b1
      go_wp2_with fail
      refine (encode_ok v fl P N d es wr hx.rx hok hv hw).mono ?_
      rintro e w5 ⟨A5, c5, rfl, ho5, hg5⟩
      have hS5 := hS.grew hg5
      have hx5 := hx.grew hg5
      rw [hl0.out] at ho5 ⊢
      have z2' := hS5.rd.bk.cell 2
      simp only [List.getElem?_toArray, List.getElem?_cons_succ, List.getElem?_cons_zero] at z2'
      clear z2 b2 b0 b1
      go_wp2_with fail
      refine (bytesEqual_any A5 B _ n c5 c l l w5 ho5.rb hS5.rd.rb).mono ?_
      rintro e w6 ⟨rfl, rfl⟩
      rw [beq_self_eq_true]
      have b0 := hS5.bx.cell 0
      have b1 := hS5.bx.cell 1
      have b2 := hS5.bx.cell 2
      have r0 := hS5.br.cell 0
      have r1 := hS5.br.cell 1
      have r2 := hS5.br.cell 2
      have f0 := hS5.br.frozen 0
      have f1 := hS5.br.frozen 1
      have f2 := hS5.br.frozen 2
      simp only [List.getElem?_toArray, List.getElem?_cons_succ, List.getElem?_cons_zero] at b0 b1 b2 r0 r1 r2
      clear z2'
      go_wp2
      refine bodyPost_ret (v := .tuple #[.agg #[.int .u64 (v : Int), .int .i64 fl, .slice P N d], .int .i64 0]) ?_ rfl ⟨P, d, by rw [hNl.out], ?_, hS5.gw.far3 (Nat.le_refl _) _ _ _⟩
      · have q := hS5.br.put3 (.int .u64 (v : Int)) (.int .i64 fl) (.slice P N d)
        have q0 := q.cell 0
        have q1 := q.cell 1
        have q2 := q.cell 2
        simp [results, Tryz.results28, go_sem, q0, q1, q2]
      · rw [hNl.out]
        exact hx5.far3 hS5.br (by decide) (by decide) _ _ _
end Go.Proofs.YtjoaonppaokhhaaGreat

namespace Go.Proofs.YtjoaonppaokhhaaGreat
open Go.RowKit

/-- rising -/
def Ris (l : List Nat) : Prop := l.Pairwise (· < ·)
theorem Ris.at_ {l : List Nat} (h : Ris l) {i x y : Nat} (hx : l[i]? = some x) (hy : l[i + 1]? = some y) : x < y := by
  unfold Ris at h
  rw [List.pairwise_iff_getElem] at h
  obtain ⟨h1, rfl⟩ := List.getElem?_eq_some_iff.1 hx
  obtain ⟨h2, rfl⟩ := List.getElem?_eq_some_iff.1 hy
  exact h i (i + 1) h1 h2 (by omega)

set_option maxRecDepth 100000 in
set_option maxHeartbeats 4000000 in
theorem less_no (a b : Nat) (w : World) (h : b ≤ a) : Calls Tryz.prog 151 #[.int .u64 (a : Int), .int .u64 (b : Int)] w fun e w' => e = .returned (.bool false) ∧ w' = w := by
  have hA := fun w => isNaNU_any a w
  have hB := fun w => isNaNU_any b w
  have hn : ¬ (a : Int) < (b : Int) := by omega
  go_enter Tryz.func151, Tryz.ntmps151
  go_wp2_with fail
  refine (hA _).mono ?_
  rintro e w1 ⟨rfl, rfl⟩
  go_wp2
  go_ret
  exact ⟨by simp [h], rfl⟩

set_option maxRecDepth 100000 in
set_option maxHeartbeats 4000000 in
theorem uinsert_rising (A : Option Addr) (n c : Nat) (l : List Nat) (w : World) (h : RE elU w A n l) (hl : Ris l) (hn : n ≤ 12) :
    Calls Tryz.prog 145 #[.slice A n c, .int .i64 0, .int .i64 (n : Int)] w fun e w' => e = .returned (.tuple #[]) ∧ Grew w w' := by
  have hln : l.length = n := h.1
  replace hln := Lib.hid hln
  replace hl := Lib.hid hl
  go_enter Tryz.func145, Tryz.ntmps145
  go_wp2
  go_loopw [6] (fun i wr => ∃ k : Nat, 1 ≤ k ∧ (k ≤ n ∨ k = 1) ∧ i = .int .i64 (k : Int) ∧ Grew w wr) (fun i _ => n - (intOf i).toNat)
  case atStart => exact ⟨1, by omega, .inr rfl, rfl, Chg.refl _ _⟩
  case round =>
    obtain ⟨k, hk1, hk, rfl, hg⟩ := hrel
    by_cases hlt : k < n
    · obtain ⟨j, rfl⟩ : ∃ j, k = j + 1 := ⟨k - 1, by omega⟩
      obtain ⟨ad, x, rfl, hx, x0⟩ := (h.grew hg).uat hlt
      obtain ⟨ad2, y, e2, hy, y0⟩ := (h.grew hg).uat (k := j) (by omega)
      injection e2 with e2
      subst e2
      have hxy := hl.out.at_ hy hx
      have hL := fun w => less_no x y w (by omega)
      replace x0 : wr.cell? ⟨ad.block, ad.off + (j + 1), none⟩ = some (.int .u64 (x : Int)) := by rw [← add_pos (by omega)]; exact x0
      clear hx hy hxy
      go_wp2
      refine wp_loop_rounds 1 ?_
      rw [rounds_succ]
      go_wp2_with fail
      refine wp_region_text [(3, 1), (22, 1)] (by kernel_rfl) (by kernel_rfl) ?_
      simp only [instr, chk, look, Nat.reduceBEq, Bool.false_eq_true, if_true, if_false, Nat.reduceEqDiff, List.cons_append, List.nil_append]
      go_wp2_with fail
      refine (hL _).mono ?_
      rintro e w1 ⟨rfl, rfl⟩
      go_wp2_with fail
      refine OnlyN.normal ?_
      go_wp2
      go_roundw
      case rel => exact ⟨j + 1 + 1, by omega, .inl (by omega), by go_num, hg.drew⟩
      case measure => simp [intOf]; omega
    · have hk2 : ¬ (k : Int) < (n : Int) := by omega
      go_wp2
      first
        | go_end0
        | refine bodyPost_ret (results_none rfl _ _ _) rfl ?_
      exact ⟨rfl, hg⟩

set_option maxRecDepth 100000 in
set_option maxHeartbeats 4000000 in
theorem updq_rising (A : Option Addr) (n c : Nat) (z : Int) (l : List Nat) (w : World) (h : RE elU w A n l) (hl : Ris l) (hn : n ≤ 12) :
    Calls Tryz.prog 132 #[.slice A n c, .int .i64 0, .int .i64 (n : Int), .int .i64 z] w fun e w' => e = .returned (.tuple #[]) ∧ Grew w w' := by
  have hI := uinsert_rising A n c l w h hl hn
  have hn2 : (n : Int) ≤ 12 := by omega
  go_enter Tryz.func132, Tryz.ntmps132
  go_wp2
  refine wp_loop_rounds 1 ?_
  rw [rounds_succ]
  go_wp2_with fail
  refine hI.mono ?_
  rintro e w1 ⟨rfl, hg⟩
  go_wp2
  first
    | go_end0
    | refine bodyPost_ret (results_none rfl _ _ _) rfl ?_
  exact ⟨rfl, hg⟩

set_option maxRecDepth 100000 in
set_option maxHeartbeats 4000000 in
theorem usort_rising (A : Option Addr) (n c : Nat) (l : List Nat) (w : World) (h : RE elU w A n l) (hl : Ris l) (hn : n ≤ 12) :
    Calls Tryz.prog 125 #[.slice A n c] w fun e w' => e = .returned (.tuple #[]) ∧ Grew w w' := by
  have hP := fun z => updq_rising A n c z l w h hl hn
  have hx : IntKind.u64.wrap (n : Int) = (n : Int) := by simp only [IntKind.wrap_u64]; omega
  have hB := Tryz.bits_Len (n : Int) w (by omega) (by omega)
  go_enter Tryz.func125, Tryz.ntmps125
  go_wp2_with fail
  refine hB.mono ?_
  rintro e w1 ⟨rfl, rfl⟩
  go_wp2_with fail
  refine (hP _).mono ?_
  rintro e w2 ⟨rfl, hg⟩
  go_wp2
  first
    | go_end0
    | refine bodyPost_ret (results_none rfl _ _ _) rfl ?_
  exact ⟨rfl, hg⟩

set_option maxRecDepth 100000 in
set_option maxHeartbeats 4000000 in
theorem ucompact_rising (A : Option Addr) (n c : Nat) (l : List Nat) (w : World) (h : RE elU w A n l) (hl : Ris l) (hn : n ≤ 9223372036854775807) :
    Calls Tryz.prog 126 #[.slice A n c] w fun e w' => e = .returned (.slice A n c) ∧ Grew w w' := by
  replace hl := Lib.hid hl
  by_cases h2 : n < 2
  · go_enter Tryz.func126, Tryz.ntmps126
    go_wp2
    go_ret
    exact ⟨rfl, Chg.refl _ _⟩
  go_enter Tryz.func126, Tryz.ntmps126
  go_wp2
  go_loopw [3] (fun i wr => ∃ k : Nat, 1 ≤ k ∧ k ≤ n ∧ i = .int .i64 (k : Int) ∧ Grew w wr) (fun i _ => n - (intOf i).toNat)
  case atStart => exact ⟨1, by omega, by omega, rfl, Chg.refl _ _⟩
  case round =>
    obtain ⟨k, hk1, hk, rfl, hg⟩ := hrel
    by_cases hlt : k < n
    · obtain ⟨j, rfl⟩ : ∃ j, k = j + 1 := ⟨k - 1, by omega⟩
      obtain ⟨ad, x, rfl, hx, x0⟩ := (h.grew hg).uat hlt
      obtain ⟨ad2, y, e2, hy, y0⟩ := (h.grew hg).uat (k := j) (by omega)
      injection e2 with e2
      subst e2
      have hxy := hl.out.at_ hy hx
      have hne : ¬ (x : Int) = (y : Int) := by omega
      replace x0 : wr.cell? ⟨ad.block, ad.off + (j + 1), none⟩ = some (.int .u64 (x : Int)) := by rw [← add_pos (by omega)]; exact x0
      clear hx hy hxy
      go_wp2_with fail
      refine wp_region_text [(3, 1), (22, 1)] (by kernel_rfl) (by kernel_rfl) ?_
      simp only [instr, chk, look, Nat.reduceBEq, Bool.false_eq_true, if_true, if_false, Nat.reduceEqDiff, List.cons_append, List.nil_append]
      go_wp2
      refine OnlyN.normal ?_
      go_wp2
      go_roundw
      case rel => exact ⟨j + 1 + 1, by omega, by omega, by go_num, hg.drew⟩
      case measure => simp [intOf]; omega
    · obtain rfl : k = n := by omega
      go_wp2
      go_ret
      exact ⟨rfl, hg⟩
end Go.Proofs.YtjoaonppaokhhaaGreat
