/-
  Several texts in one:
  (block.Encode) walked. Conditions: numbers of 64 bits.
  A meta's bytes as a row of numbers; (block.open), the reading of sources. Conditions: lengths that memory bears; numbers of 64 bits.
-/
import Derived.Test.YtlcaaacbookopaaGreatDoorPart21
import Derived.Test.YtlcaaacbookopaaGreatDoorPart22
import Derived.Test.YtlcaaacbookopaaGreatDoorPart13

namespace Go.Proofs.YtlcaaacbookopaaGreatDoor
open Go.RowKit

set_option maxRecDepth 100000 in
set_option maxHeartbeats 4000000 in
theorem wnumbers1_any (g base bv : Nat) (A : Option Addr) (n c : Nat) (l : List UInt8) (v : Nat) (w : World) (h : WrX w base g A n c l) (hB : Blk w bv 3 #[.int .i64 (v : Int)]) (hb : base ≤ w.heap.size) (hn : n ≤ 140737488350000) (hv : v < 9223372036854775808) :
    Calls Tryz.prog 37 #[.pointer (some ⟨g, 0, none⟩), .slice (some ⟨bv, 0, none⟩) 1 1] w fun e w' => e = .returned (.tuple #[]) ∧ ∃ A' c', WrT w w' base g A A' (n + (uv v).length) c' (l ++ uv v) := by
  have x0 := hB.cell 0
  simp only [List.getElem?_toArray, List.getElem?_cons_zero] at x0
  have hN := wnumber_any g base A n c l v w h hb (by omega) (by omega)
  go_enter Tryz.func37, Tryz.ntmps37
  go_wp2
  refine wp_loop_rounds 2 ?_
  rw [rounds_succ]
  go_wp2_with fail
  refine hN.mono ?_
  rintro e w1 ⟨rfl, A1, c1, hT1⟩
  clear hN x0
  go_wp2
  rw [rounds_succ]
  go_wp2
  first
    | go_end0
    | refine bodyPost_ret (results_none rfl _ _ _) rfl ?_
  exact ⟨rfl, A1, c1, hT1⟩

theorem encK_no (A : Option Addr) (n c : Nat) (ss : List Ser) (w : World) (h : RS w A n ss) (hn : n ≤ 9223372036854775807) (hno : ¬ BkOk ss) :
    Calls Tryz.prog 18 #[.slice A n c] w (EncP w [] 90) := by
  have hC := bcheck_any A n c ss w h hn
  rw [errK_of hno] at hC
  clear hno
  unfold EncP
  go_enter Tryz.func18, Tryz.ntmps18
  go_wp2_with fail
  refine hC.mono ?_
  rintro e w1 ⟨rfl, g1⟩
  clear hC
  go_wp2
  go_ret2
  exact ⟨none, 0, rfl, Own.nil _ _ _ _, g1⟩

/-- a block's bytes while they are laid -/
structure EkS (w2 wr : World) (gw : Nat) (A : Option Addr) (n c : Nat) (l : List UInt8) : Prop where
  ws : WrS wr w2.heap.size gw A n c l
  gr : Grew w2 wr
theorem EkS.grew {w2 wr W : World} {gw : Nat} {A : Option Addr} {n c : Nat} {l : List UInt8} (h : EkS w2 wr gw A n c l) (hg : Grew wr W) : EkS w2 W gw A n c l := ⟨h.ws.grew hg, h.gr.trans hg⟩
theorem EkS.to {w2 wr W : World} {gw : Nat} {A A' : Option Addr} {n c n' c' : Nat} {l l' : List UInt8} (h : EkS w2 wr gw A n c l) (ht : WrT wr W w2.heap.size gw A A' n' c' l') : EkS w2 W gw A' n' c' l' :=
  ⟨ht.ws, h.gr.step (ht.up h.ws) fun k hk e => by
    have e : w2.heap.size ≤ k := e
    omega⟩
theorem EkS.sz {w2 wr : World} {gw : Nat} {A : Option Addr} {n c : Nat} {l : List UInt8} (h : EkS w2 wr gw A n c l) : w2.heap.size ≤ wr.heap.size := h.gr.size
theorem EkS.look {w2 wr : World} {gw : Nat} {A : Option Addr} {n c : Nat} {l : List UInt8} (h : EkS w2 wr gw A n c l) : wr.cell? ⟨gw, 0, none⟩ = some (.slice A n c) := h.ws.bk.cell 0
theorem labB_len {T : List ByteArray} {x : Lab} (hT : T.length ≤ 32768) (h1 : x.1 ∈ T) (h2 : x.2 ∈ T) : (labB T x).length ≤ 20 := by
  unfold labB
  have h3 := plc_lt h1
  have h4 := plc_lt h2
  have h5 := uv_len10 (v := plc T x.1) (by omega)
  have h6 := uv_len10 (v := plc T x.2) (by omega)
  rw [List.length_append]
  omega
theorem zeroI (w : World) : (zeroValue 3).run Tryz.prog w = .ok (.int .i64 0) w := by kernel_rfl

set_option maxRecDepth 100000 in
set_option maxHeartbeats 16000000 in
theorem encK_ok (A : Option Addr) (n c : Nat) (ss : List Ser) (w : World) (h : RS w A n ss) (hV : BkOk ss) (hv : ∀ s ∈ ss, Okv s.pts) :
    Calls Tryz.prog 18 #[.slice A n c] w (EncP w (blkB (tabT ss) ss) 0) := by
  have hln := h.len
  have hS := hV.bks hv
  have hn : n ≤ 1024 := by rw [← hln]; exact hS.n
  have hC := bcheck_any A n c ss w h (by omega)
  rw [errK_ok hV] at hC
  obtain ⟨R, hR⟩ : ∃ R, blkB (tabT ss) ss = R := ⟨_, rfl⟩
  rw [hR]
  have hTx : Hid (∀ t ∈ tabT ss, t.size ≤ 256) := Lib.hid fun t ht => by
    obtain ⟨s, hs, h1⟩ := List.mem_flatMap.1 (mem_uniT.1 ht)
    obtain ⟨l, hl, h2⟩ := List.mem_flatMap.1 h1
    have h3 := (hS.lb s hs).2 l hl
    simp only [List.mem_cons, List.not_mem_nil, or_false] at h2
    rcases h2 with rfl | rfl <;> omega
  have hTl := hS.tab
  have hnd := Lib.hid (uniT_nodup (allT ss))
  replace hR := Lib.hid hR
  replace hln := Lib.hid hln
  replace hS := Lib.hid hS
  replace hv := Lib.hid hv
  have hmt := Lib.hid fun s (hs : s ∈ ss) l (hl : l ∈ s.lbs) => mem_tabT hs hl
  clear hV
  unfold EncP
  go_enter Tryz.func18, Tryz.ntmps18
  go_wp2_with fail
  refine hC.mono ?_
  rintro e w1 ⟨rfl, g1⟩
  clear hC
  go_wp2_with fail
  refine (texts_any A n c ss w1 (h.grew g1) hn (fun s hs => (hS.out.lb s hs).1)).mono ?_
  rintro e w2 ⟨B, p, d, mb, es, ck, rfl, hp, hO, hM, hN⟩
  rw [← hp] at hTl
  obtain ⟨T, hT⟩ : ∃ T, tabT ss = T := ⟨_, rfl⟩
  have hnd : Hid T.Nodup := by rw [← hT]; exact hnd
  rw [hT] at hp hO hN hTx hmt
  have hg2 := g1.trans hM.gw
  have hRS := h.grew hg2
  have hMB := hM.mp
  have hTR : RE elNm w2 B p T := OE.re (by decide) hO
  have hz2 : w.heap.size ≤ w2.heap.size := hg2.size
  replace hp := Lib.hid hp
  replace hT := Lib.hid hT
  replace hN := Lib.hid hN
  clear h g1 hO hM
  have hcv := Lib.run_convert_bytes_const (P := Tryz.prog) w2 26 5 #[.int .u8 84, .int .u8 87, .int .u8 66, .int .u8 1] 4 4 Tryz.underlying26 Tryz.underlying5
  obtain ⟨wa, hwa⟩ : ∃ wa, wa = w2.alloc (.cells #[.int .u8 84, .int .u8 87, .int .u8 66, .int .u8 1] 5 (4, 5)) := ⟨_, rfl⟩
  have hra : RB wa (some ⟨w2.heap.size, 0, none⟩) 4 headK := by rw [hwa]; exact RB.newF rfl rfl rfl
  have ga : Grew w2 wa := by rw [hwa]; exact (Chg.refl _ w2).alloc _
  have hsa : wa.heap.size = w2.heap.size + 1 := by rw [hwa]; simp
  rw [show (#[.int .u8 84, .int .u8 87, .int .u8 66, .int .u8 1] : Array Value).size = 4 from rfl, ← hwa] at hcv
  obtain ⟨wb, hwb⟩ : ∃ wb, wb = wa.alloc (.cells #[.slice (some ⟨w2.heap.size, 0, none⟩) 4 4] 66) := ⟨_, rfl⟩
  have gb : Grew wa wb := by rw [hwb]; exact (Chg.refl _ wa).alloc _
  have hX : WrX wb w2.heap.size (w2.heap.size + 1) (some ⟨w2.heap.size, 0, none⟩) 4 4 headK :=
    ⟨by rw [hwb, ← hsa]; exact Blk.new wa _ _, .inr ⟨hra.grew gb, rfl⟩, by omega, fun ad e => by injection e with e; subst e; exact ⟨Nat.le_refl _, by show w2.heap.size ≠ w2.heap.size + 1; omega⟩⟩
  have hsb : wb.heap.size = w2.heap.size + 1 + 1 := by rw [hwb]; simp [hsa]
  obtain ⟨wc, hwc⟩ : ∃ wc, wc = wb.alloc (.cells #[.int .i64 (p : Int)] 3) := ⟨_, rfl⟩
  have gc : Grew wb wc := by rw [hwc]; exact (Chg.refl _ wb).alloc _
  have hbv : Blk wc wb.heap.size 3 #[.int .i64 (p : Int)] := by rw [hwc]; exact Blk.new wb _ _
  rw [hsb] at hbv
  have hXc := hX.grew gc
  have g2c := (ga.trans gb).trans gc
  clear hX hra hwa
  go_wp2_with fail
  rw [← hwb, ← hwc]
  clear hcv hwb hwc hsa hsb ga gb gc
  generalize w2.heap.size + 1 + 1 = gv at *
  generalize w2.heap.size + 1 = gw at *
  refine (wnumbers1_any gw w2.heap.size _ _ 4 4 headK p wc hXc hbv g2c.size (by omega) (by omega)).mono ?_
  rintro e w3 ⟨rfl, A3, c3, hT3⟩
  have hK3 : EkS w2 w3 gw A3 (4 + (uv p).length) c3 (headK ++ uv p) := ⟨hT3.ws, g2c.step (hT3.upX hXc) fun k hk e => by
    have e : w2.heap.size ≤ k := e
    omega⟩
  have l1 := uv_len10 (v := p) (by omega)
  clear hT3 hXc hbv g2c
  obtain ⟨N3, hN3⟩ : ∃ N3, 4 + (uv p).length = N3 := ⟨_, rfl⟩
  have hL3 : Hid (headK ++ uv p = headK ++ uv T.length ++ (T.take 0).flatMap (fun t => wrdB t.data.toList)) := Lib.hid (by rw [← hp.out]; simp)
  obtain ⟨L3, hL3e⟩ : ∃ L3, headK ++ uv p = L3 := ⟨_, rfl⟩
  rw [hN3, hL3e] at hK3
  rw [hL3e] at hL3
  have hN3b : N3 ≤ 14 := by omega
  clear l1 hN3 hL3e
  go_wp2
  go_loopw [39] (fun i wr => ∃ (j N C : Nat) (D : Option Addr) (L : List UInt8), j ≤ p ∧ i = .int .i64 (j : Int) ∧ EkS w2 wr gw D N C L ∧ Hid (L = headK ++ uv T.length ++ (T.take j).flatMap (fun t => wrdB t.data.toList)) ∧ N ≤ 14 + 300 * j) (fun i _ => p - (intOf i).toNat)
  case atStart => exact ⟨0, N3, c3, A3, L3, by omega, rfl, hK3, hL3, by omega⟩
  case round =>
    clear hK3 hL3 hN3b
    obtain ⟨j, N, C, D, L, hj, rfl, hK, hL, hNb⟩ := hrel
    by_cases hlt : j < p
    · obtain ⟨ad, x, rfl, hx, hc⟩ := (hTR.grew hK.gr).at_ hlt (by decide)
      have y0 : wr.cell? (ad.add j) = some (.string x) := by
        have h0 := hc 0 _ rfl
        rw [show j * elNm.sz = j from Nat.mul_one j] at h0
        exact h0
      have hxs := hTx.out x (List.mem_of_getElem? hx)
      have hL2 : Hid (L ++ wrdB x.data.toList = headK ++ uv T.length ++ (T.take (j + 1)).flatMap (fun t => wrdB t.data.toList)) := Lib.hid (by rw [hL.out, List.take_add_one, hx]; simp)
      have hwl : (wrdB x.data.toList).length ≤ 266 := by
        unfold wrdB
        have hxl : x.data.toList.length = x.size := Array.length_toList
        have := uv_len10 (v := x.data.toList.length) (by omega)
        rw [List.length_append]
        omega
      have hW := wtext_any gw w2.heap.size D N C L x wr hK.ws hK.sz (by omega)
      clear hc hx hL hxs
      go_wp2_with fail
      refine hW.mono ?_
      rintro e w5 ⟨rfl, A5, c5, hT5⟩
      have hK5 := hK.to hT5
      clear hW hT5 hK
      go_wp2
      go_roundw
      case rel => exact ⟨j + 1, _, c5, A5, _, by omega, by go_num, hK5, hL2, by omega⟩
      case measure => simp [intOf] <;> omega
    · obtain rfl : j = p := by omega
      have hL2 : Hid (L = headK ++ uv T.length ++ T.flatMap (fun t => wrdB t.data.toList)) := Lib.hid (by rw [hL.out, List.take_of_length_le (by have := hp.out; omega)])
      clear hL
      obtain ⟨wc, hwc⟩ : ∃ wc, wc = wr.alloc (.cells #[.int .i64 (n : Int)] 3) := ⟨_, rfl⟩
      have gc : Grew wr wc := by rw [hwc]; exact (Chg.refl _ wr).alloc _
      have hbv : Blk wc wr.heap.size 3 #[.int .i64 (n : Int)] := by rw [hwc]; exact Blk.new wr _ _
      have hKc := hK.grew gc
      clear hK gc
      go_wp2_with fail
      rw [← hwc]
      clear hwc
      refine (wnumbers1_any gw w2.heap.size _ _ N C L n wc hKc.ws.x hbv hKc.sz (by omega) (by omega)).mono ?_
      rintro e w4 ⟨rfl, A4, c4, hT4⟩
      have hK4 := hKc.to hT4
      have l4 := uv_len10 (v := n) (by omega)
      obtain ⟨N4, hN4⟩ : ∃ N4, N + (uv n).length = N4 := ⟨_, rfl⟩
      obtain ⟨L4, hL4⟩ : ∃ L4, L ++ uv n = L4 := ⟨_, rfl⟩
      obtain ⟨P4, hP4⟩ : ∃ P4, headK ++ uv T.length ++ T.flatMap (fun t => wrdB t.data.toList) ++ uv ss.length = P4 := ⟨_, rfl⟩
      have hL5 : Hid (L4 = P4 ++ ((ss.map Ser.lbs).take 0).flatMap (labsB T)) := Lib.hid (by rw [← hL4, hL2.out, ← hP4, hln.out]; simp)
      rw [hN4, hL4] at hK4
      have hN4b : N4 ≤ 20000000 := by omega
      replace hP4 := Lib.hid hP4
      clear hT4 hKc hbv hL2 hL4 hN4 l4 hNb
      go_wp2
      go_loopw [54] (fun i wr => ∃ (k N C : Nat) (D : Option Addr) (L : List UInt8), k ≤ n ∧ i = .int .i64 (k : Int) ∧ EkS w2 wr gw D N C L ∧ Hid (L = P4 ++ ((ss.map Ser.lbs).take k).flatMap (labsB T)) ∧ N ≤ 20000000 + 400 * k) (fun i _ => n - (intOf i).toNat)
      case atStart => exact ⟨0, N4, c4, A4, L4, by omega, rfl, hK4, hL5, by omega⟩
      case round =>
        clear hK4 hL5 hN4b
        obtain ⟨k, N, C, D, L, hk, rfl, hK, hL, hNb⟩ := hrel
        by_cases hltk : k < n
        · obtain ⟨ad, ⟨la, ln, lc, pa, pn, pc⟩, s, rfl, hs, hsi, x0, x1⟩ := hRS.at_ hltk
          dsimp only at x0 x1
          replace x0 := hK.gr.cell x0 (fun e => e)
          replace x1 := hK.gr.cell x1 (fun e => e)
          have hsm := List.mem_of_getElem? hs
          have hlc := hsi.lc
          dsimp only at hlc
          have hl16 := (hS.out.lb s hsm).1
          have hsl := hsi.lb.1
          dsimp only at hsl
          rw [hsl] at hl16
          replace hsl := Lib.hid hsl
          obtain ⟨W, hW⟩ : ∃ W, W = wr.alloc (.cells #[.slice la ln lc, .slice pa pn pc] 85) := ⟨_, rfl⟩
          have gW : Grew wr W := by rw [hW]; exact (Chg.refl _ wr).alloc _
          obtain ⟨gx, hgx⟩ : ∃ gx, wr.heap.size = gx := ⟨_, rfl⟩
          have hbx : Blk W gx 85 #[.slice la ln lc, .slice pa pn pc] := by rw [hW, ← hgx]; exact Blk.new wr _ _
          obtain ⟨V, hV⟩ : ∃ V, V = W.alloc (.cells #[.int .i64 (ln : Int)] 3) := ⟨_, rfl⟩
          have gV : Grew W V := by rw [hV]; exact (Chg.refl _ W).alloc _
          have hbv : Blk V W.heap.size 3 #[.int .i64 (ln : Int)] := by rw [hV]; exact Blk.new W _ _
          have hsW : W.heap.size = gx + 1 := by rw [hW, World.size_alloc, hgx]
          rw [hsW] at hbv
          clear hsW
          have hKV := hK.grew (gW.trans gV)
          have hmt2 := Lib.hid (hmt.out s hsm)
          have b0 := hbx.cell 0
          simp only [List.getElem?_toArray, List.getElem?_cons_zero] at b0
          have hlb : Hid (∀ W1, Grew w2 W1 → RE elLb W1 la ln s.lbs) := Lib.hid fun W1 g => hsi.lb.grew g
          have hbxV := hbx.grew gV
          have hxn : gx ≠ gw := by have := hK.ws.bk.lt; omega
          have hxd : ∀ ad', D = some ad' → gx ≠ ad'.block := fun ad' e => by have := (Own.blk_lt hK.ws.ob ad' e).2; omega
          have l5 := uv_len10 (v := ln) (by omega)
          have hst : Hid (∀ M, M = L ++ uv ln ++ s.lbs.flatMap (labB T) → M = P4 ++ ((ss.map Ser.lbs).take (k + 1)).flatMap (labsB T)) := Lib.hid fun M e => by
            rw [e, hL.out, List.take_add_one, List.getElem?_map, hs]
            simp [labsB, hsl.out]
          clear hsi hK hbx gW gV hs hsm hL
          go_wp2_with fail
          rw [← hW, ← hV]
          clear hV hW x0 x1 b0 hgx
          refine (wnumbers1_any gw w2.heap.size _ _ N C L ln V hKV.ws.x hbv hKV.sz (by omega) (by omega)).mono ?_
          rintro e w5 ⟨rfl, A5, c5, hT5⟩
          have hK5 := hKV.to hT5
          have hbx5 := hbxV.chg hT5.ch (fun e => by
            rcases e with e | ⟨ad', e1, e2⟩
            · exact hxn e
            · exact hxd ad' e1 e2)
          have b5 := hbx5.cell 0
          simp only [List.getElem?_toArray, List.getElem?_cons_zero] at b5
          obtain ⟨N5, hN5⟩ : ∃ N5, N + (uv ln).length = N5 := ⟨_, rfl⟩
          obtain ⟨L5, hL5⟩ : ∃ L5, L ++ uv ln = L5 := ⟨_, rfl⟩
          rw [hN5, hL5] at hK5
          rw [hL5] at hst
          have hN5b : N5 ≤ 20000000 + 400 * k + 10 := by omega
          clear hT5 hKV hbv hxd hxn hbxV l5 hN5 hL5 hbx5
          have hj0 : Hid (L5 = L5 ++ (s.lbs.take 0).flatMap (labB T)) := Lib.hid (by simp)
          go_wp2
          clear b5
          go_loopw [67] (fun i wr => ∃ (j N C : Nat) (D : Option Addr) (L : List UInt8), j ≤ ln ∧ i = .int .i64 (j : Int) ∧ EkS w2 wr gw D N C L ∧ Hid (L = L5 ++ (s.lbs.take j).flatMap (labB T)) ∧ N ≤ 20000000 + 400 * k + 10 + 20 * j) (fun i _ => ln - (intOf i).toNat)
          case atStart => exact ⟨0, N5, c5, A5, L5, by omega, rfl, hK5, hj0, by omega⟩
          case round =>
            clear hK5 hj0 hN5b hNb
            obtain ⟨j, N, C, D, L, hj, rfl, hK, hL, hNb⟩ := hrel
            by_cases hltj : j < ln
            · obtain ⟨al, x, rfl, hx, y0, y1⟩ := (hlb.out _ hK.gr).lb hltj
              have hxm := hmt2.out x (List.mem_of_getElem? hx)
              obtain ⟨W, hW⟩ : ∃ W, W = wr.alloc (.cells #[.string x.1, .string x.2] 79) := ⟨_, rfl⟩
              have gW : Grew wr W := by rw [hW]; exact (Chg.refl _ wr).alloc _
              have hbx : Blk W wr.heap.size 79 #[.string x.1, .string x.2] := by rw [hW]; exact Blk.new wr _ _
              have b0 := hbx.cell 0
              have b1 := hbx.cell 1
              simp only [List.getElem?_toArray, List.getElem?_cons_succ, List.getElem?_cons_zero] at b0 b1
              have hMW := hMB.grew (hK.gr.trans gW)
              have k1 := run_look (P := Tryz.prog) (t := 87) Tryz.underlying87 Tryz.underlying9 (zeroI W) hMW (hN.out.find hnd.out hxm.1)
              have k2 := run_look (P := Tryz.prog) (t := 87) Tryz.underlying87 Tryz.underlying9 (zeroI W) hMW (hN.out.find hnd.out hxm.2)
              simp only at k1 k2
              rw [hW] at k1 k2
              have p1 := plc_lt hxm.1
              have p2 := plc_lt hxm.2
              have hpl := hp.out
              have hTl2 : T.length ≤ 32768 := by omega
              have hll := labB_len hTl2 hxm.1 hxm.2
              have hL2 : Hid (∀ M, M = L ++ labB T x → M = L5 ++ (s.lbs.take (j + 1)).flatMap (labB T)) := Lib.hid fun M e => by
                rw [e, hL.out, List.take_add_one, hx]
                simp
              unfold labB at hll hL2
              rw [List.length_append] at hll
              generalize plc T x.1 = a1 at *
              generalize plc T x.2 = a2 at *
              have hV := OE.lit W W.heap.size 3 2 [(a1 : Int), (a2 : Int)] #[.int .i64 (a1 : Int), .int .i64 (a2 : Int)] (E := elI) (Nat.le_refl _) (by unfold maxLen; omega) rfl rfl
              obtain ⟨V, hVe⟩ : ∃ V, V = W.alloc (.cells #[.int .i64 (a1 : Int), .int .i64 (a2 : Int)] 3) := ⟨_, rfl⟩
              have gV : Grew W V := by rw [hVe]; exact (Chg.refl _ W).alloc _
              rw [← hVe] at hV
              have hsW : W.heap.size = wr.heap.size + 1 := by rw [hW, World.size_alloc]
              rw [hsW] at hV
              have hKV := hK.grew (gW.trans gV)
              have hvs : ∀ v ∈ [(a1 : Int), (a2 : Int)], 0 ≤ v ∧ v < 9223372036854775808 := by
                intro v hv
                simp only [List.mem_cons, List.not_mem_nil, or_false] at hv
                rcases hv with rfl | rfl <;> omega
              have hWn := wnumbers_any gw w2.heap.size (wr.heap.size + 1) D N C L (some ⟨wr.heap.size + 1, 0, none⟩) 2 2 [(a1 : Int), (a2 : Int)] V hKV.ws hV hKV.sz (by omega) (by omega) hvs
              have hu : uvs [(a1 : Int), (a2 : Int)] = uv a1 ++ uv a2 := by simp [uvs]
              rw [hu, List.length_append] at hWn
              replace hL2 := Lib.hid (hL2.out _ rfl)
              replace hll : N + ((uv a1).length + (uv a2).length) ≤ 20000000 + 400 * k + 10 + 20 * (j + 1) := by omega
              clear hx hL hxm hK hMW gW gV hV p1 p2 hpl hTl2 hvs hu hbx hsW
              go_wp2_with fail
              rw [← hW, ← hVe]
              clear hW hVe k1 k2 b0 b1 y0 y1
              refine hWn.mono ?_
              rintro e w5 ⟨rfl, A6, c6, hT6⟩
              have hK6 := hKV.to hT6
              clear hWn hT6 hKV
              go_wp2
              go_roundw
              case rel => exact ⟨j + 1, _, c6, A6, _, by omega, by go_num, hK6, hL2, hll⟩
              case measure => simp [intOf] <;> omega
            · obtain rfl : j = ln := by omega
              have hL2 : Hid (L = P4 ++ ((ss.map Ser.lbs).take (k + 1)).flatMap (labsB T)) := Lib.hid (hst.out _ (by rw [hL.out, List.take_of_length_le (by have := hsl.out; omega)]))
              clear hL
              go_wp2
              go_roundw
              case rel => exact ⟨k + 1, N, C, D, L, by omega, by go_num, hK, hL2, by omega⟩
              case measure => simp [intOf] <;> omega
        · obtain rfl : k = n := by omega
          obtain ⟨P5, hP5⟩ : ∃ P5, P4 ++ (ss.map Ser.lbs).flatMap (labsB T) = P5 := ⟨_, rfl⟩
          have hL2 : Hid (L = P5 ++ ((ss.map Ser.pts).take 0).flatMap pntsB) := Lib.hid (by rw [hL.out, List.take_of_length_le (by have := hln.out; simp; omega), hP5]; simp)
          replace hP5 := Lib.hid hP5
          have hNb2 : N ≤ 30000000 := by omega
          clear hL hNb
          go_wp2
          go_loopw [86] (fun i wr => ∃ (k2 N C : Nat) (D : Option Addr) (L : List UInt8), k2 ≤ k ∧ i = .int .i64 (k2 : Int) ∧ EkS w2 wr gw D N C L ∧ Hid (L = P5 ++ ((ss.map Ser.pts).take k2).flatMap pntsB) ∧ N ≤ 30000000 + 200000 * k2) (fun i _ => k - (intOf i).toNat)
          case atStart => exact ⟨0, N, C, D, L, by omega, rfl, hK, hL2, by omega⟩
          case round =>
            clear hK hL2 hNb2
            obtain ⟨k2, N, C, D, L, hk2, rfl, hK, hL, hNb⟩ := hrel
            by_cases hltk : k2 < k
            · obtain ⟨ad, ⟨la, ln, lc, pa, pn, pc⟩, s, rfl, hs, hsi, x0, x1⟩ := hRS.at_ hltk
              dsimp only at x0 x1
              replace x0 := hK.gr.cell x0 (fun e => e)
              replace x1 := hK.gr.cell x1 (fun e => e)
              have hsm := List.mem_of_getElem? hs
              have hpc := hsi.pc
              dsimp only at hpc
              obtain ⟨hp1, hp2, hp3⟩ := hS.out.pt s hsm
              have hp4 := hS.out.en s hsm
              have hpl := hsi.pt.1
              dsimp only at hpl
              rw [hpl] at hp1
              obtain ⟨W, hW⟩ : ∃ W, W = wr.alloc (.cells #[.slice la ln lc, .slice pa pn pc] 85) := ⟨_, rfl⟩
              have gW : Grew wr W := by rw [hW]; exact (Chg.refl _ wr).alloc _
              have hbx : Blk W wr.heap.size 85 #[.slice la ln lc, .slice pa pn pc] := by rw [hW]; exact Blk.new wr _ _
              have b1 := hbx.cell 1
              simp only [List.getElem?_toArray, List.getElem?_cons_succ, List.getElem?_cons_zero] at b1
              have hE := encode_any pa pn pc s.pts W ((hsi.pt.grew hK.gr).grew gW) (by omega) hp3
              have hpk : (pack (encB s.pts)).length ≤ 150000 := by
                rw [length_pack]
                rw [hpl] at hp4
                omega
              have hei : Hid (EncIs s.pts (pack (encB s.pts)) 0) := Lib.hid (.inr (.inr ⟨by rw [hpl]; exact hp1, hp2, rfl, rfl⟩))
              have hst : Hid (∀ M, M = L ++ wrdB (pack (encB s.pts)) → M = P5 ++ ((ss.map Ser.pts).take (k2 + 1)).flatMap pntsB) := Lib.hid fun M e => by
                rw [e, hL.out, List.take_add_one, List.getElem?_map, hs]
                simp [pntsB]
              generalize pack (encB s.pts) = pk at *
              have hKW := hK.grew gW
              clear hsi hs hsm hp2 hp3 hp4 hpl hK gW hL hbx
              go_wp2_with fail
              rw [← hW]
              clear hW x0 x1 b1
              refine hE.mono ?_
              rintro e w5 ⟨B5, m5, d5, l5, er5, h5, rfl, o5, g5⟩
              obtain ⟨rfl, rfl⟩ := h5.uniq hei.out
              have hm5 : l5.length = m5 := o5.len
              have hcv := run_conv_RB (P := Tryz.prog) (c := d5) Tryz.underlying26 Tryz.underlying5 Tryz.underlying9 o5.rb
              have hK5 := hKW.grew g5
              obtain ⟨X, hX⟩ : ∃ X : ByteArray, X = ⟨l5.toArray⟩ := ⟨_, rfl⟩
              have hXs : X.size = l5.length := by rw [hX]; simp [ByteArray.size]
              have hXd : X.data.toList = l5 := by rw [hX]
              rw [← hX] at hcv
              have hW5 := wtext_any gw w2.heap.size D N C L X w5 hK5.ws hK5.sz (by omega)
              rw [hXd] at hW5
              have hL6 := Lib.hid (hst.out _ rfl)
              have hwl : (wrdB l5).length ≤ 150010 := by
                unfold wrdB
                have := uv_len10 (v := l5.length) (by omega)
                rw [List.length_append]
                omega
              clear hE hst hei hKW o5 g5 h5 hX hXs hXd hm5
              go_wp2_with fail
              refine hW5.mono ?_
              rintro e w6 ⟨rfl, A6, c6, hT6⟩
              have hK6 := hK5.to hT6
              clear hW5 hT6 hK5 hcv
              go_wp2
              go_roundw
              case rel => exact ⟨k2 + 1, _, c6, A6, _, by omega, by go_num, hK6, hL6, by omega⟩
              case measure => simp [intOf] <;> omega
            · obtain rfl : k2 = k := by omega
              have hLR : Hid (sealB L = R) := Lib.hid (by
                rw [hL.out, List.take_of_length_le (by have := hln.out; simp; omega), ← hP5.out, ← hP4.out, ← hR.out, ← hT.out]
                rfl)
              have hll := hK.ws.len
              have hz := hK.look
              have hSl := bsealed_any w2.heap.size D N C L wr hK.ws.ob hK.sz (by omega)
              have hob := hK.ws.ob
              have hgr := hK.gr
              clear hL hK
              go_wp2_with fail
              refine hSl.mono ?_
              rintro e w7 ⟨A7, c7, rfl, o7, ch7⟩
              rw [hLR.out] at o7
              have hRl : R.length = N + 4 := o7.len
              clear hSl hz
              go_wp2
              refine bodyPost_ret (v := .tuple #[.slice A7 (N + 4) c7, .int .i64 0]) ?_ rfl ⟨A7, c7, by rw [hRl], by rw [hRl]; exact Own.mono o7 hz2, hg2.trans (hgr.step ch7 fun q hq ⟨ad, e, he⟩ => by have := (Own.blk_lt hob ad e).1; omega)⟩
              simp [results, Tryz.results18, go_sem]
end Go.Proofs.YtlcaaacbookopaaGreatDoor

namespace Go.Proofs.YtlcaaacbookopaaGreatDoor
open Go.RowKit

/-- append onto a row of bytes of the call's own, where the operation has a guard that holds -/
theorem wpList_appBw {ops : Array Oper} {rest : List Oper} {o : Oper} {a : Act} {w : World} {Q : Exit → Act → World → Prop} (hw : Region.wanted o (yielded ops a.tmps) = true) (s x : Operand)
    (ho : o.op = .call { callee := .builtin .append, args := #[s, x], argTypes := #[26, 26] })
    (base : Nat) (A : Option Addr) (n c : Nat) (l : List UInt8) (hs : a.eval s = .slice A n c) (hown : OB w base 5 A n c l) (hbase : base ≤ w.heap.size)
    (B : Option Addr) (m d : Nat) (r : List UInt8) (hx : a.eval x = .slice B m d) (hr : RB w B m r) (hbytes : n + m ≤ 140737488355328)
    (h : ∀ A' c' w', ApB w base A (n + m) c (l ++ r) A' c' w' → wpList Tryz.prog ops Q rest (a.put o.dst (.slice A' (n + m) c')) w') : wpList Tryz.prog ops Q (o :: rest) a w := by
  obtain ⟨i0, hi, hz0, hz1, hz2⟩ := info_parts infoU8
  refine wpList_step fun K hK => ?_
  rw [if_pos hw]
  refine wp_app w s x 26 5 ho i0 (.int .u8 0) 1 1 Tryz.underlying26 hi hz0 hz1 hz2 rfl base A n c _ hs hown hbase B m d _ hx (by simpa using hr.1) hr.2 (byt_one r) (by unfold maxLen; omega) (by omega) ?_
  intro A' c' w' h1
  exact hK _ _ (h A' c' w' (by unfold ApB; rw [List.map_append]; exact h1))

/-- a meta's numbers, in order -/
def numsM (m : Met) : List Nat := [m.id, m.lv.toNat, m.sr.toNat, m.pt.toNat, zz m.lo, zz m.hi, m.src.length] ++ m.src
theorem metB_nums (m : Met) : metB m = headM ++ (numsM m).flatMap uv := by
  unfold metB numsM uvs
  simp
def posM (m : Met) (k : Nat) : Nat := 4 + (((numsM m).take k).flatMap uv).length
theorem numsM_lt {m : Met} (hok : metOk m = true) (hw : MetW m) : ∀ x ∈ numsM m, x < 18446744073709551616 := by
  obtain ⟨o1, o2, o3, o4, o5, o6⟩ := (metOk_iff m).1 hok
  intro x hx
  unfold numsM at hx
  simp only [List.mem_append, List.mem_cons, List.not_mem_nil, or_false] at hx
  rcases hx with (rfl | rfl | rfl | rfl | rfl | rfl | rfl) | hx
  · exact hw.id
  · omega
  · omega
  · omega
  · exact zz_lt hw.lo.1 hw.lo.2
  · exact zz_lt hw.hi.1 hw.hi.2
  · omega
  · exact hw.src x hx
theorem readM {m : Met} (hok : metOk m = true) (hw : MetW m) {k x : Nat} (hx : (numsM m)[k]? = some x) : uintR (metB m) (posM m k : Int) = (x, posM m (k + 1), 0) := by
  have hlt := numsM_lt hok hw x (List.mem_of_getElem? hx)
  have h1 : metB m = (headM ++ ((numsM m).take k).flatMap uv) ++ (uv x ++ ((numsM m).drop (k + 1)).flatMap uv) := by
    rw [metB_nums, List.append_assoc, ← List.flatMap_cons, ← drop_at hx, ← List.flatMap_append, List.take_append_drop]
  have h2 : posM m k = (headM ++ ((numsM m).take k).flatMap uv).length := by rw [List.length_append]; rfl
  rw [h1, h2, uintR_at _ _ x hlt]
  have h3 : posM m (k + 1) = (headM ++ ((numsM m).take k).flatMap uv).length + (uv x).length := by
    unfold posM
    rw [List.take_add_one, hx, List.flatMap_append, List.length_append, List.length_append]
    simp only [Option.toList, List.flatMap_cons, List.flatMap_nil, List.append_nil]
    show 4 + _ = 4 + _ + _
    omega
  rw [h3]
theorem posM_end (m : Met) {k : Nat} (hk : (numsM m).length ≤ k) : posM m k = (metB m).length := by
  unfold posM
  rw [List.take_of_length_le hk, metB_nums, List.length_append]
  rfl
theorem numsM_src (m : Met) {j x : Nat} (hx : m.src[j]? = some x) : (numsM m)[7 + j]? = some x := by
  unfold numsM
  rw [List.getElem?_append_right (by simp)]
  simpa using hx
theorem metB_head (m : Met) : ∃ r, metB m = headM ++ r := ⟨_, metB_nums m⟩

set_option maxRecDepth 100000 in
set_option maxHeartbeats 4000000 in
theorem open_ok (B : Option Addr) (n c : Nat) (l r : List UInt8) (w : World) (h : RB w B (n + 4) (sealB l)) (hl : l = headM ++ r) (hn : n ≤ 140737488350000) (hc : n + 4 ≤ c ∧ c ≤ 9223372036854775807) :
    Calls Tryz.prog 42 #[.slice B (n + 4) c, .string ⟨#[84, 87, 77, 1]⟩] w fun e w' => ∃ g, e = .returned (.pointer (some ⟨g, 0, none⟩)) ∧ w.heap.size ≤ g ∧ RdS w' g B n c l 4 ∧ Grew w w' := by
  have hll : l.length = n := by have := h.1; rw [sealB_len] at this; omega
  have h4n : 4 ≤ n := by rw [← hll, hl, List.length_append]; show 4 ≤ 4 + _; omega
  have hbl : ∀ ad, B = some ad → ad.block < w.heap.size := fun ad e => h.lt ad e (by omega)
  have hr4 : RB w B 4 headM := by
    refine ⟨rfl, ?_⟩
    have := h.2.take 4
    rwa [← List.map_take, show (sealB l).take 4 = headM by rw [hl]; rfl] at this
  have hrn : RB w B n l := by
    refine ⟨hll, ?_⟩
    have := h.2.take n
    rwa [← List.map_take, show (sealB l).take n = l by unfold sealB; exact List.take_left' hll] at this
  have hcv := run_conv_RB (P := Tryz.prog) (c := c) Tryz.underlying26 Tryz.underlying5 Tryz.underlying9 hr4
  have oL : OB (w.alloc (.cells #[] 5)) w.heap.size 5 (some ⟨w.heap.size, 0, none⟩) 0 0 [] := Own.made w w.heap.size 5 1 (Nat.le_refl _)
  have rL := hrn.grew ((Chg.refl _ w).alloc (.cells #[] 5))
  have h4i : (4 : Int) ≤ (n : Int) := by omega
  replace hll := Lib.hid hll
  replace hl := Lib.hid hl
  unfold headM at hcv
  clear hr4
  go_enter Tryz.func42, Tryz.ntmps42
  go_wp2_with (at_builtin; go_loud (refine wpList_appBw rfl _ _ rfl w.heap.size (some ⟨w.heap.size, 0, none⟩) 0 0 [] rfl oL (by simp) B n c l rfl rL (by omega) ?_); intro A2 c2 w2 h2)
  have ho2 : OB w2 w.heap.size 5 A2 n c2 l := by
    have := h2.ob
    rwa [Nat.zero_add, List.nil_append] at this
  have g2 : Grew w w2 := h2.grew ((Chg.refl _ w).alloc _) (head_le0 (Nat.le_refl _))
  clear h2 oL rL hcv
  refine (bsealed_any w.heap.size A2 n c2 l w2 ho2 g2.size (by omega)).mono ?_
  rintro e w3 ⟨A3, c3, rfl, ho3, hc3⟩
  have g3 : Grew w w3 := g2.step hc3 fun k hk ⟨ad, e, he⟩ => by have := (Own.blk_lt ho2 ad e).1; omega
  go_wp2_with fail
  refine (bytesEqual_any A3 B (n + 4) (n + 4) c3 c _ _ w3 ho3.rb (h.grew g3)).mono ?_
  rintro e w4 ⟨rfl, rfl⟩
  rw [beq_self_eq_true]
  go_wp2_with fail
  refine (must_yes _).mono ?_
  rintro e w5 ⟨rfl, rfl⟩
  go_wp2
  go_ret
  have hg3 := g3.size
  refine ⟨_, by simp, hg3, ⟨by simpa using Blk.new _ _ _, (hrn.grew g3).grew ((Chg.refl _ _).alloc _), fun ad e h0 => ?_⟩, g3.alloc _⟩
  have := hbl ad e
  omega
end Go.Proofs.YtlcaaacbookopaaGreatDoor
