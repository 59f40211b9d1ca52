/-
  Several texts in one:
  (block.EncodeMeta) walked. Conditions: lengths that memory bears; numbers of 64 bits.
  A block's reader: (reader).number, (reader).signed, open, on the way that gives nothing up. Conditions: lengths that memory bears.
-/
import Derived.Test.YtjoaonppaokhhaaGreatPart32
import Derived.Lib.SlBytesConst

namespace Go.Proofs.YtjoaonppaokhhaaGreat
open Go.RowKit

theorem RB.newF {w : World} {B : Nat} {l : List UInt8} {n : Nat} {cs : Array Value} {t : TypeId} {fr : Nat × Nat} (hB : B = w.heap.size) (hn : l.length = n) (hc : cs = (l.map byt).toArray) : RB (w.alloc (.cells cs t fr)) (some ⟨B, 0, none⟩) n l := by
  subst hB; subst hc
  refine ⟨hn, fun k u hu => ⟨_, rfl, ?_⟩⟩
  rw [add_head]
  have : (w.alloc (.cells (l.map byt).toArray t fr)).heap[w.heap.size]? = some (.cells (l.map byt).toArray t fr) := heap_alloc_new w _
  rw [cell_of_row _ _ _ _ _ _ this]
  simpa using hu
theorem cellsIn_nil (w : World) : CellsIn [] w := fun k hk => by cases hk
theorem cellsIn_blk {k : Nat} {bs : List Nat} {W : World} {t : TypeId} {cs : Array Value} (h : Blk W k t cs) (h' : CellsIn bs W) : CellsIn (k :: bs) W := fun i hi => by
  rcases List.mem_cons.1 hi with rfl | hi
  · exact ⟨_, _, _, h⟩
  · exact h' i hi
/-- a meta's bytes while they are laid -/
structure EmS (w wr : World) (gw : Nat) (m : Met) (D : Option Addr) (p d : Nat) (A : Option Addr) (n c : Nat) (l : List UInt8) : Prop where
  bm : Blk wr w.heap.size 28 #[.int .u64 (m.id : Int), .int .i64 m.lo, .int .i64 m.hi, .int .i64 m.lv, .slice D p d, .int .i64 m.sr, .int .i64 m.pt]
  ws : WrS wr (w.heap.size + 1) gw A n c l
  src : RE elU wr D p m.src
  dlt : ∀ ad, D = some ad → 0 < p → ad.block < w.heap.size
  ch : Chg (Up (w.heap.size + 1)) w wr
theorem EmS.st0 {w w2 : World} {gw : Nat} {m : Met} {D : Option Addr} {p d : Nat} {A0 A : Option Addr} {n n0 c c0 : Nat} {l l0 : List UInt8} {W : World}
    (bm : Blk w2 w.heap.size 28 #[.int .u64 (m.id : Int), .int .i64 m.lo, .int .i64 m.hi, .int .i64 m.lv, .slice D p d, .int .i64 m.sr, .int .i64 m.pt]) (src : RE elU w2 D p m.src) (dlt : ∀ ad, D = some ad → 0 < p → ad.block < w.heap.size)
    (ch : Chg (Up (w.heap.size + 1)) w w2) (hx : WrX w2 (w.heap.size + 1) gw A0 n0 c0 l0) (ht : WrT w2 W (w.heap.size + 1) gw A0 A n c l) : EmS w W gw m D p d A n c l := by
  have hc := ht.upX hx
  exact ⟨bm.chg hc (by show ¬ w.heap.size + 1 ≤ w.heap.size; omega), ht.ws, src.far hc (fun ad e h0 => by have := dlt ad e h0; show ¬ w.heap.size + 1 ≤ ad.block; omega), dlt, ch.trans hc⟩
theorem EmS.step {w wr W : World} {gw : Nat} {m : Met} {D : Option Addr} {p d : Nat} {A A' : Option Addr} {n n' c c' : Nat} {l l' : List UInt8} (h : EmS w wr gw m D p d A n c l) (hc : Chg (Up (w.heap.size + 1)) wr W) (hw : WrS W (w.heap.size + 1) gw A' n' c' l') : EmS w W gw m D p d A' n' c' l' :=
  ⟨h.bm.chg hc (by show ¬ w.heap.size + 1 ≤ w.heap.size; omega), hw, h.src.far hc (fun ad e h0 => by have := h.dlt ad e h0; show ¬ w.heap.size + 1 ≤ ad.block; omega), h.dlt, h.ch.trans hc⟩
theorem EmS.tr {w wr W W' : World} {gw : Nat} {m : Met} {D : Option Addr} {p d : Nat} {A A' : Option Addr} {n n' c c' : Nat} {l l' : List UInt8} (h : EmS w wr gw m D p d A n c l) (hg : Grew wr W) (ht : WrT W W' (w.heap.size + 1) gw A A' n' c' l') : EmS w W' gw m D p d A' n' c' l' :=
  h.step ((Chg.of_grew hg).trans (ht.up (h.ws.grew hg))) ht.ws
/-- a meta's bytes, new, and an error's number -/
def EncP (w : World) (l : List UInt8) (z : Int) (e : Ending) (w' : World) : Prop := ∃ A c, e = .returned (.tuple #[.slice A l.length c, .int .i64 z]) ∧ OB w' w.heap.size 5 A l.length c l ∧ Grew w w'

set_option maxRecDepth 100000 in
set_option maxHeartbeats 4000000 in
theorem encodeMeta_no (m : Met) (D : Option Addr) (p d : Nat) (w : World) (h : RE elU w D p m.src) (hp : p ≤ 9223372036854775807) (hno : metOk m = false) :
    Calls Tryz.prog 67 #[.agg #[.int .u64 (m.id : Int), .int .i64 m.lo, .int .i64 m.hi, .int .i64 m.lv, .slice D p d, .int .i64 m.sr, .int .i64 m.pt]] w (EncP w [] 92) := by
  have hg0 : Grew w (w.alloc (.cells #[.int .u64 (m.id : Int), .int .i64 m.lo, .int .i64 m.hi, .int .i64 m.lv, .slice D p d, .int .i64 m.sr, .int .i64 m.pt] 28)) := (Chg.refl _ w).alloc _
  have hM := may_any m D p d _ (h.grew hg0) hp
  rw [hno] at hM
  unfold EncP
  go_enter Tryz.func67, Tryz.ntmps67
  go_wp2_with fail
  refine hM.mono ?_
  rintro e w1 ⟨rfl, hg1⟩
  clear hM
  go_wp2
  go_ret2
  exact ⟨none, 0, rfl, Own.nil _ _ _ _, hg0.trans hg1⟩

set_option maxRecDepth 100000 in
set_option maxHeartbeats 8000000 in
theorem encodeMeta_ok (m : Met) (D : Option Addr) (p d : Nat) (w : World) (h : RE elU w D p m.src) (hok : metOk m = true) (hw : MetW m) :
    Calls Tryz.prog 67 #[.agg #[.int .u64 (m.id : Int), .int .i64 m.lo, .int .i64 m.hi, .int .i64 m.lv, .slice D p d, .int .i64 m.sr, .int .i64 m.pt]] w (EncP w (encM m) 0) := by
  obtain ⟨o1, o2, o3, o4, o5, o6⟩ := (metOk_iff m).1 hok
  have hpl : m.src.length = p := h.1
  have hp : p ≤ 64 := by rw [← hpl]; exact o6
  have hg0 : Grew w (w.alloc (.cells #[.int .u64 (m.id : Int), .int .i64 m.lo, .int .i64 m.hi, .int .i64 m.lv, .slice D p d, .int .i64 m.sr, .int .i64 m.pt] 28)) := (Chg.refl _ w).alloc _
  have hb0 := Blk.new w 28 #[.int .u64 (m.id : Int), .int .i64 m.lo, .int .i64 m.hi, .int .i64 m.lv, .slice D p d, .int .i64 m.sr, .int .i64 m.pt]
  have hM := may_any m D p d _ (h.grew hg0) (by omega)
  have hs0 : w.heap.size + 1 = (w.alloc (.cells #[.int .u64 (m.id : Int), .int .i64 m.lo, .int .i64 m.hi, .int .i64 m.lv, .slice D p d, .int .i64 m.sr, .int .i64 m.pt] 28)).heap.size := by simp
  have hdl := h.lt (by decide)
  rw [hok] at hM
  obtain ⟨R, hR⟩ : ∃ R, encM m = R := ⟨_, rfl⟩
  rw [hR]
  replace hR := Lib.hid hR
  replace hpl := Lib.hid hpl
  unfold EncP
  go_enter Tryz.func67, Tryz.ntmps67
  go_wp2_with fail
  refine hM.mono ?_
  rintro e w1 ⟨rfl, hg1⟩
  have hb1 := hb0.grew hg1
  have hsz1 := hg1.size
  rw [← hs0] at hsz1
  have hcv := Lib.run_convert_bytes_const (P := Tryz.prog) w1 42 5 #[.int .u8 84, .int .u8 87, .int .u8 77, .int .u8 1] 4 4 Tryz.underlying42 Tryz.underlying5
  obtain ⟨wa, hwa⟩ : ∃ wa, wa = w1.alloc (.cells #[.int .u8 84, .int .u8 87, .int .u8 77, .int .u8 1] 5 (4, 5)) := ⟨_, rfl⟩
  have hra : RB wa (some ⟨w1.heap.size, 0, none⟩) 4 headM := by rw [hwa]; exact RB.newF rfl rfl rfl
  have ga : Grew w1 wa := by rw [hwa]; exact (Chg.refl _ w1).alloc _
  have hsa : wa.heap.size = w1.heap.size + 1 := by rw [hwa]; simp
  rw [show (#[.int .u8 84, .int .u8 87, .int .u8 77, .int .u8 1] : Array Value).size = 4 from rfl, ← hwa] at hcv
  obtain ⟨w2, hw2⟩ : ∃ w2, w2 = wa.alloc (.cells #[.slice (some ⟨w1.heap.size, 0, none⟩) 4 4] 115) := ⟨_, rfl⟩
  have g2 : Grew wa w2 := by rw [hw2]; exact (Chg.refl _ wa).alloc _
  have bm2 := (hb1.grew ga).grew g2
  have hX : WrX w2 (w.heap.size + 1) wa.heap.size (some ⟨w1.heap.size, 0, none⟩) 4 4 headM :=
    ⟨by rw [hw2]; exact Blk.new wa _ _, .inr ⟨hra.grew g2, rfl⟩, by omega, fun ad e => by injection e with e; subst e; exact ⟨hsz1, by show w1.heap.size ≠ wa.heap.size; omega⟩⟩
  have hsr2 := (((h.grew hg0).grew hg1).grew ga).grew g2
  have hch2 : Chg (Up (w.heap.size + 1)) w w2 := Chg.of_grew (((hg0.trans hg1).trans ga).trans g2)
  have hsz2 : w.heap.size + 1 ≤ w2.heap.size := by have := (ga.trans g2).size; omega
  have m0 := bm2.cell 0
  simp only [List.getElem?_toArray, List.getElem?_cons_zero] at m0
  rw [hw2] at m0
  clear hM hb1 hb0 hwa
  go_wp2_with fail
  rw [← hw2]
  clear hcv m0 hw2
  rw [hsa] at hX
  obtain ⟨gw, hgw⟩ : ∃ gw, w1.heap.size + 1 = gw := ⟨_, rfl⟩
  rw [hgw] at hX ⊢
  refine (wnumber_any gw (w.heap.size + 1) _ 4 4 headM m.id w2 hX hsz2 (by omega) hw.id).mono ?_
  rintro e w3 ⟨rfl, A3, c3, hT3⟩
  have hS := EmS.st0 bm2 hsr2 hdl hch2 hX hT3
  clear hT3 hX hgw hra ga hsa g2 bm2 hsr2 hch2
  have m3 := hS.bm.cell 3
  have m5 := hS.bm.cell 5
  have m6 := hS.bm.cell 6
  simp only [List.getElem?_toArray, List.getElem?_cons_succ, List.getElem?_cons_zero] at m3 m5 m6
  have hsz3 : w.heap.size + 1 ≤ w3.heap.size := by have := hS.ch.size; have := hS.bm.lt; omega
  obtain ⟨w4, hw4⟩ : ∃ w4, w4 = w3.alloc (.cells #[.int .i64 m.lv, .int .i64 m.sr, .int .i64 m.pt] 3) := ⟨_, rfl⟩
  have hg4 : Grew w3 w4 := by rw [hw4]; exact (Chg.refl _ w3).alloc _
  have hV : OE elI w4 w3.heap.size 3 (some ⟨w3.heap.size, 0, none⟩) 3 3 [m.lv, m.sr, m.pt] := by rw [hw4]; exact OE.lit w3 w3.heap.size 3 3 [m.lv, m.sr, m.pt] _ (Nat.le_refl _) (by unfold maxLen; omega) rfl rfl
  have l1 := uv_len10 hw.id
  have hvs : ∀ v ∈ [m.lv, m.sr, m.pt], 0 ≤ v ∧ v < 9223372036854775808 := by
    intro v hv
    simp only [List.mem_cons, List.not_mem_nil, or_false] at hv
    rcases hv with rfl | rfl | rfl <;> omega
  have l2 := uvs_len [m.lv, m.sr, m.pt] (fun v hv => (hvs v hv).2)
  simp only [List.length_cons, List.length_nil] at l2
  go_wp2_with fail
  rw [← hw4]
  refine (wnumbers_any gw (w.heap.size + 1) w3.heap.size A3 _ c3 _ _ 3 3 [m.lv, m.sr, m.pt] w4 (hS.ws.grew hg4) hV (Nat.le_trans hsz3 hg4.size) (by omega) (by omega) hvs).mono ?_
  rintro e w5 ⟨rfl, A5, c5, hT5⟩
  have hS5 := hS.tr hg4 hT5
  have hsz5 : w.heap.size + 1 ≤ w5.heap.size := by have := hS5.bm.lt; omega
  clear hT5 hV hS hw4 hg4 hsz3 m3 m5 m6
  go_wp2_with fail
  have lz1 := uv_len10 (zz_lt hw.lo.1 hw.lo.2)
  have lz2 := uv_len10 (zz_lt hw.hi.1 hw.hi.2)
  obtain ⟨n5, hn5⟩ : ∃ n5, 4 + (uv m.id).length + (uvs [m.lv, m.sr, m.pt]).length = n5 := ⟨_, rfl⟩
  obtain ⟨b5, hb5⟩ : ∃ b5, headM ++ uv m.id ++ uvs [m.lv, m.sr, m.pt] = b5 := ⟨_, rfl⟩
  rw [hn5, hb5] at hS5
  have hn5b : n5 ≤ 44 := by omega
  clear hn5 l1 l2
  have g0 := hS5.ws.bk.cell 0
  have m1 := hS5.bm.cell 1
  have m2 := hS5.bm.cell 2
  simp only [List.getElem?_toArray, List.getElem?_cons_succ, List.getElem?_cons_zero] at g0 m1 m2
  have hcs : CellsIn [w.heap.size, gw] w5 := cellsIn_blk hS5.bm (cellsIn_blk hS5.ws.bk (cellsIn_nil _))
  have hsame : Hid (∀ W1, Grew w5 W1 → SameIn [w.heap.size, gw] w5 W1) := fun W1 h1 => sameIn_of h1 hcs fun _ _ e => e
  refine wp_region_textL [] [w.heap.size, gw] (by kernel_rfl) (by kernel_rfl) hcs ?_
  simp only [wpUL, tagOf, chk, List.cons_append, List.nil_append]
  intro K hK
  go_wp2_with fail
  refine OnlyN.normal (hK _ _ (fun _ => ⟨_, _, _, rfl, rfl, by simp⟩) ?_)
  clear hK K
  intro K hK
  go_wp2_with fail
  refine OnlyN.normal (hK _ _ (fun _ => ⟨_, _, _, rfl, rfl, by simp⟩) ?_)
  clear hK K
  intro K hK
  go_wp2_with fail
  refine (putInt_any A5 n5 c5 b5 m.lo _ (RB.grew hS5.ws.ob.rb (Chg.refl _ w5).drew) (by omega) hw.lo.1 hw.lo.2).mono ?_
  rintro e w6 ⟨A6, c6, rfl, ho6, hg6⟩
  have hg56 : Grew w5 w6 := (Chg.refl _ w5).drew.trans hg6
  have m2' := (hS5.bm.grew hg56).cell 2
  simp only [List.getElem?_toArray, List.getElem?_cons_succ, List.getElem?_cons_zero] at m2'
  go_wp2_with fail
  refine OnlyN.normal (hK _ _ (hsame.out _ hg56) ?_)
  clear hK K
  intro K hK
  go_wp2_with fail
  refine OnlyN.normal (hK _ _ (fun _ => ⟨_, _, _, rfl, rfl, by simp⟩) ?_)
  clear hK K
  intro K hK
  go_wp2_with fail
  refine (putInt_any A6 _ c6 _ m.hi w6 ho6.rb (by omega) hw.hi.1 hw.hi.2).mono ?_
  rintro e w7 ⟨A7, c7, rfl, ho7, hg7⟩
  have hg57 := hg56.trans hg7
  go_wp2_with fail
  refine OnlyN.normal (hK _ _ (hsame.out _ hg57) ?_)
  clear hK K
  have b7 := hS5.ws.bk.grew hg57
  have g7 := b7.cell 0
  have f7 := b7.frozen 0
  simp only [List.getElem?_toArray, List.getElem?_cons_zero] at g7
  obtain ⟨n7, hn7⟩ : ∃ n7, n5 + (uv (zz m.lo)).length + (uv (zz m.hi)).length = n7 := ⟨_, rfl⟩
  obtain ⟨l7, hl7⟩ : ∃ l7, b5 ++ uv (zz m.lo) ++ uv (zz m.hi) = l7 := ⟨_, rfl⟩
  rw [hn7, hl7] at ho7
  rw [hn7]
  have hn7b : n7 ≤ 64 := by omega
  have hsz56 := hg56.size
  have b8 := b7.set 0 (.slice A7 n7 c7)
  simp only [List.setIfInBounds_toArray, List.set_cons_zero] at b8
  have hS8 : EmS w (w7.setCell ⟨gw, 0, none⟩ (.slice A7 n7 c7)) gw m D p d A7 n7 c7 l7 := by
    have o7 : OB w7 (w.heap.size + 1) 5 A7 n7 c7 l7 := Own.mono ho7 (by omega)
    refine hS5.step ((Chg.of_grew hg57).setCell (p := ⟨gw, 0, none⟩) (.inr hS5.ws.lo) _) ⟨b8, ?_, hS5.ws.lo⟩
    exact Own.chg o7 (Chg.cell1 w7 gw 0 _) fun ad e hk => Own.ne_blk o7 b7 (by decide) ad e hk
  have hsz7 := hg57.size
  clear hn7 b8 ho7 ho6 hg7 hg6 hsame hcs g0 m1 m2 m2' lz1 lz2
  go_wp2_with fail
  refine OnlyN.normal ?_
  have m4 := hS8.bm.cell 4
  simp only [List.getElem?_toArray, List.getElem?_cons_succ, List.getElem?_cons_zero] at m4
  obtain ⟨w8, hw8⟩ : ∃ w8, w8 = w7.setCell ⟨gw, 0, none⟩ (.slice A7 n7 c7) := ⟨_, rfl⟩
  rw [← hw8] at hS8 m4 ⊢
  have hsz8 : w.heap.size + 1 ≤ w8.heap.size := by have := hS8.bm.lt; omega
  clear hw8 g7 f7 b7 hg57 hg56 hS5
  obtain ⟨w9, hw9⟩ : ∃ w9, w9 = w8.alloc (.cells #[.int .i64 (p : Int)] 3) := ⟨_, rfl⟩
  have hg9 : Grew w8 w9 := by rw [hw9]; exact (Chg.refl _ w8).alloc _
  have hV : OE elI w9 w8.heap.size 3 (some ⟨w8.heap.size, 0, none⟩) 1 1 [(p : Int)] := by rw [hw9]; exact OE.lit w8 w8.heap.size 3 1 [(p : Int)] _ (Nat.le_refl _) (by unfold maxLen; omega) rfl rfl
  have hvp : ∀ v ∈ [(p : Int)], 0 ≤ v ∧ v < 9223372036854775808 := by
    intro v hv
    rcases List.mem_singleton.1 hv with rfl
    omega
  have l9 := uvs_len [(p : Int)] (fun v hv => (hvp v hv).2)
  simp only [List.length_cons, List.length_nil] at l9
  go_wp2_with fail
  rw [← hw9]
  refine (wnumbers_any gw (w.heap.size + 1) w8.heap.size A7 _ c7 _ _ 1 1 [(p : Int)] w9 (hS8.ws.grew hg9) hV (Nat.le_trans hsz8 hg9.size) (by omega) (by omega) hvp).mono ?_
  rintro e w10 ⟨rfl, A10, c10, hT10⟩
  have hS10 := hS8.tr hg9 hT10
  clear hT10 hV hS8 hw9 hg9 hsz8 m4
  obtain ⟨n10, hn10⟩ : ∃ n10, n7 + (uvs [(p : Int)]).length = n10 := ⟨_, rfl⟩
  obtain ⟨l10, hl10⟩ : ∃ l10, l7 ++ uvs [(p : Int)] = l10 := ⟨_, rfl⟩
  rw [hn10, hl10] at hS10
  have hn10b : n10 ≤ 74 := by omega
  have hRm : Hid (l10 ++ m.src.flatMap uv = metB m) := Lib.hid (by
    rw [← hl10, ← hl7, ← hb5, ← hpl.out]
    unfold metB
    simp [uvs])
  clear hn10 hl10 hl7 hb5 l9
  have m4 := hS10.bm.cell 4
  simp only [List.getElem?_toArray, List.getElem?_cons_succ, List.getElem?_cons_zero] at m4
  have hz0 : Hid (l10 ++ m.src.flatMap uv = l10 ++ (m.src.drop 0).flatMap uv) := Lib.hid rfl
  replace hn7b : True := trivial
  clear hn7b
  go_wp2
  go_loopw [49] (fun i wr => ∃ (k M C : Nat) (B : Option Addr) (r : List UInt8), k ≤ p ∧ i = .int .i64 (k : Int) ∧ M ≤ n10 + 10 * k ∧ Hid (l10 ++ m.src.flatMap uv = r ++ (m.src.drop k).flatMap uv) ∧ EmS w wr gw m D p d B M C r) (fun i _ => p - (intOf i).toNat)
  case atStart => exact ⟨0, n10, c10, A10, l10, by omega, rfl, by omega, hz0, hS10⟩
  case round =>
    obtain ⟨k, M, C, B, r, hk, rfl, hM, hz, hS⟩ := hrel
    have hsr : w.heap.size + 1 ≤ wr.heap.size := by have := hS.bm.lt; omega
    by_cases hlt : k < p
    · obtain ⟨ad, x, rfl, hx, x0⟩ := hS.src.uat hlt
      have hxw := hw.src x (List.mem_of_getElem? hx)
      have hzz := hz.out
      rw [drop_at hx, List.flatMap_cons] at hzz
      replace hzz := Lib.hid hzz
      have hl1 := uv_len10 hxw
      have hN := wnumber_any gw (w.heap.size + 1) B M C r x wr hS.ws.x hsr (by omega) hxw
      clear hz hx
      go_wp2_with fail
      refine hN.mono ?_
      rintro e w11 ⟨rfl, A11, c11, hT11⟩
      have hS11 := hS.tr (Chg.refl _ wr) hT11
      clear hN hT11
      go_wp2
      go_roundw
      case rel =>
        refine ⟨k + 1, M + (uv x).length, c11, A11, r ++ uv x, by omega, by go_num, by omega, Lib.hid ?_, hS11⟩
        rw [hzz.out, List.append_assoc]
      case measure => simp [intOf]; omega
    · obtain rfl : k = p := by omega
      have hzz := hz.out
      rw [List.drop_of_length_le (by have := hpl.out; omega), List.flatMap_nil, List.append_nil, hRm.out] at hzz
      subst hzz
      have g0 := hS.ws.bk.cell 0
      simp only [List.getElem?_toArray, List.getElem?_cons_zero] at g0
      have hB := bsealed_any (w.heap.size + 1) B M C (metB m) wr hS.ws.ob hsr (by omega)
      have hRl : R.length = M + 4 := by
        rw [← hR.out]
        unfold encM
        rw [sealB_len, hS.ws.len]
      replace hRl := Lib.hid hRl
      clear hz m4
      go_wp2_with fail
      refine hB.mono ?_
      rintro e w12 ⟨A12, c12, rfl, ho12, hc12⟩
      clear hB
      go_wp2
      go_ret2
      refine ⟨A12, c12, by rw [hRl.out]; rfl, ?_, ?_⟩
      · rw [hRl.out, ← hR.out]
        exact Own.mono ho12 (by omega)
      · refine ⟨hc12.os.trans hS.ch.os, hc12.tape.trans hS.ch.tape, hc12.output.trans hS.ch.output, Nat.le_trans hS.ch.size hc12.size, fun j hj _ => ?_⟩
        rw [hc12.block j (Nat.lt_of_lt_of_le hj hS.ch.size) (fun ⟨ad, e, hk⟩ => by have := (Own.blk_lt hS.ws.ob ad e).1; omega), hS.ch.block j hj (by show ¬ w.heap.size + 1 ≤ j; omega)]
end Go.Proofs.YtjoaonppaokhhaaGreat

namespace Go.Proofs.YtjoaonppaokhhaaGreat
open Go.RowKit

theorem uintR_at (p r : List UInt8) (v : Nat) (hv : v < 18446744073709551616) : uintR (p ++ (uv v ++ r)) (p.length : Int) = (v, p.length + (uv v).length, 0) := by
  have h := ur_uv r v 0 0 (Or.inl rfl) (by omega) (by omega)
  unfold uintR
  rw [if_pos ⟨by omega, by simp only [List.length_append]; omega⟩, Int.toNat_natCast, List.drop_left, h]
  simp
theorem textR_at (p t r : List UInt8) (n : Nat) (ht : t.length = n) (hn : n < 18446744073709551616) : textR (p ++ (uv n ++ (t ++ r))) (p.length : Int) = (t, p.length + (uv n).length + n, 0) := by
  unfold textR
  rw [uintR_at p (t ++ r) n hn]
  unfold textOf
  rw [if_neg (by simp), if_neg (by simp only [List.length_append]; omega)]
  have e : (p ++ (uv n ++ (t ++ r))).drop (p.length + (uv n).length) = t ++ r := by
    rw [← List.append_assoc, ← List.length_append, List.drop_left]
  simp only
  rw [e, List.take_left' ht]

set_option maxRecDepth 100000 in
set_option maxHeartbeats 4000000 in
theorem must_yes (w : World) : Calls Tryz.prog 119 #[.bool true] w fun e w' => e = .returned (.tuple #[]) ∧ w' = w := by
  go_enter Tryz.func119, Tryz.ntmps119
  go_wp2
  first
    | go_end0
    | refine bodyPost_ret (results_none rfl _ _ _) rfl ?_
  exact ⟨rfl, rfl⟩

/-- a block's reader: its bytes, and at which place it is -/
structure RdS (w : World) (g : Nat) (B : Option Addr) (n c : Nat) (l : List UInt8) (q : Nat) : Prop where
  bk : Blk w g 142 #[.slice B n c, .int .i64 (q : Int)]
  rb : RB w B n l
  ne : ∀ ad, B = some ad → 0 < n → ad.block ≠ g
theorem RdS.chg {w w' : World} {S : Nat → Prop} {g : Nat} {B : Option Addr} {n c : Nat} {l : List UInt8} {q : Nat} (h : RdS w g B n c l q) (hc : Chg S w w') (h1 : ¬ S g) (h2 : ∀ ad, B = some ad → 0 < n → ¬ S ad.block) : RdS w' g B n c l q :=
  ⟨h.bk.chg hc h1, h.rb.far hc h2, h.ne⟩
/-- what a reading leaves: the place behind -/
structure RdT (w w' : World) (g : Nat) (B : Option Addr) (n c : Nat) (l : List UInt8) (q : Nat) : Prop where
  rd : RdS w' g B n c l q
  ch : Chg (fun k => k = g) w w'
theorem RdS.to {w W : World} {g : Nat} {B : Option Addr} {n c : Nat} {l : List UInt8} {q : Nat} (h : RdS w g B n c l q) (hW : Grew w W) (q2 : Nat) : RdT w (W.setCell ⟨g, 1, none⟩ (.int .i64 (q2 : Int))) g B n c l q2 := by
  have b3 := (h.bk.grew hW).set 1 (.int .i64 (q2 : Int))
  simp only [List.setIfInBounds_toArray, List.set_cons_succ, List.set_cons_zero] at b3
  refine ⟨⟨b3, (h.rb.grew hW).far (Chg.cell1 W g 1 _) (fun ad e h0 hk => h.ne ad e h0 hk), h.ne⟩, (Chg.of_grew hW).trans (Chg.cell1 W g 1 _)⟩

set_option maxRecDepth 100000 in
set_option maxHeartbeats 4000000 in
theorem rnumber_ok (g : Nat) (B : Option Addr) (n c : Nat) (l : List UInt8) (q v q2 : Nat) (w : World) (h : RdS w g B n c l q) (hn : n ≤ 140737488355328) (hr : uintR l (q : Int) = (v, q2, 0)) :
    Calls Tryz.prog 118 #[.pointer (some ⟨g, 0, none⟩)] w fun e w' => e = .returned (.int .u64 (v : Int)) ∧ RdT w w' g B n c l q2 := by
  have hU := fun W (hW : Grew w W) => uint_any B n c l (q : Int) W (h.rb.grew hW) hn
  rw [hr] at hU
  unfold UintPost uintEnd at hU
  replace hU := Lib.hid hU
  have c0 := h.bk.cell 0
  have c1 := h.bk.cell 1
  simp only [List.getElem?_toArray, List.getElem?_cons_succ, List.getElem?_cons_zero] at c0 c1
  have hcs : CellsIn [g] w := cellsIn_one h.bk
  clear hr
  go_enter Tryz.func118, Tryz.ntmps118
  go_wp2
  refine wp_region_text [] (by kernel_rfl) (by kernel_rfl) ?_
  simp only [instr, chk, List.nil_append]
  go_wp2_with fail
  refine (hU.out _ (Chg.refl _ w).drew).mono ?_
  rintro e w1 ⟨rfl, rfl⟩
  go_wp2_with fail
  refine OnlyN.normal ?_
  go_wp2_with fail
  refine (must_yes _).mono ?_
  rintro e w2 ⟨rfl, rfl⟩
  clear hU
  have hto := h.to ((Chg.refl _ w).drew) q2
  have k1 := h.bk.cell 1
  have kf := h.bk.frozen 1
  simp only [List.getElem?_toArray, List.getElem?_cons_succ, List.getElem?_cons_zero] at k1
  go_wp2
  go_ret
  exact ⟨by simp, hto⟩
set_option maxRecDepth 100000 in
set_option maxHeartbeats 4000000 in
theorem rsigned_ok (g : Nat) (B : Option Addr) (n c : Nat) (l : List UInt8) (q v q2 : Nat) (w : World) (h : RdS w g B n c l q) (hn : n ≤ 140737488355328) (hr : uintR l (q : Int) = (v, q2, 0)) :
    Calls Tryz.prog 120 #[.pointer (some ⟨g, 0, none⟩)] w fun e w' => e = .returned (.int .i64 (uz v)) ∧ RdT w w' g B n c l q2 := by
  have hU := fun W (hW : Grew w W) => int_any B n c l (q : Int) W (h.rb.grew hW) hn
  rw [hr] at hU
  unfold IntPost at hU
  replace hU := Lib.hid hU
  have c0 := h.bk.cell 0
  have c1 := h.bk.cell 1
  simp only [List.getElem?_toArray, List.getElem?_cons_succ, List.getElem?_cons_zero] at c0 c1
  clear hr
  go_enter Tryz.func120, Tryz.ntmps120
  go_wp2
  refine wp_region_text [] (by kernel_rfl) (by kernel_rfl) ?_
  simp only [instr, chk, List.nil_append]
  go_wp2_with fail
  refine (hU.out _ (Chg.refl _ w).drew).mono ?_
  rintro e w1 ⟨rfl, rfl⟩
  go_wp2_with fail
  refine OnlyN.normal ?_
  go_wp2_with fail
  refine (must_yes _).mono ?_
  rintro e w2 ⟨rfl, rfl⟩
  clear hU
  have hto := h.to ((Chg.refl _ w).drew) q2
  have k1 := h.bk.cell 1
  have kf := h.bk.frozen 1
  simp only [List.getElem?_toArray, List.getElem?_cons_succ, List.getElem?_cons_zero] at k1
  go_wp2
  go_ret
  exact ⟨by simp, hto⟩
end Go.Proofs.YtjoaonppaokhhaaGreat
