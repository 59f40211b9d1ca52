/-
  Several texts in one:
  (*Head).Cut. Conditions: none.
-/
import Derived.Test.YtailooldnelecaaGreatDoorPart26
import Derived.Test.YtailooldnelecaaGreatDoorPart27

namespace Go.Proofs.YtailooldnelecaaGreatDoor
open Go.RowKit

theorem pt_form {w : World} {t : TypeId} {A : Option Addr} {n c : Nat} {l : List Ptn} {bd : Addr} (h : OT elPt w t A n c l) (hA : A = some bd) : ∃ g o, bd = ⟨g, o, none⟩ := by
  rcases h.2 with ⟨e1, _⟩ | ⟨g, o, cur, e1, _⟩
  · rw [e1] at hA
    cases hA
  · rw [e1] at hA
    injection hA with hA
    exact ⟨g, o, hA.symm⟩
theorem hd_le {a b : Nat} (h : a ≤ b) : ∀ ad, some (⟨b, 0, none⟩ : Addr) = some ad → a ≤ ad.block := fun ad e => by
  injection e with e
  subst e
  exact h
theorem NsE.lower {w : World} {base base' : Nat} {m : SerM} {s : Ser} (h : NsE w base m s) (hb : base' ≤ base) : NsE w base' m s := ⟨Own.mono h.lb hb, Own.mono h.pt hb⟩
theorem ApE.first {α : Type} {E : El α} {w w' : World} {base : Nat} {t : TypeId} {A A' : Option Addr} {n c c' : Nat} {l : List α} (h : ApE E w base t A (0 + n) c ([] ++ l) A' c' w') : OE E w' base t A' n c' l := by
  have := h.oe
  simpa using this
theorem copy_lp {W w1 w2 w3 w4 : World} {m : SerM} {s : Ser} {A2 A4 X Y : Option Addr} {c2 c4 : Nat} (h2 : ApE elLb w1 W.heap.size 72 X (0 + m.ln) 0 ([] ++ s.lbs) A2 c2 w2) (g1 : Grew W w1) (hX : ∀ ad, X = some ad → W.heap.size ≤ ad.block) (g23 : Grew w2 w3)
    (hY : OE elPt w3 W.heap.size 69 Y 0 0 []) (h4 : ApE elPt w3 W.heap.size 69 Y (0 + m.pn) 0 ([] ++ s.pts) A4 c4 w4) : NsE w4 W.heap.size ⟨A2, m.ln, c2, A4, m.pn, c4⟩ s ∧ Grew W w4 ∧ W.heap.size ≤ w4.heap.size := by
  have g2 : Grew W w2 := h2.grew g1 hX
  have g3 := g2.trans g23
  have g4 : Grew W w4 := h4.grew g3 (fun ad e => (Own.blk_lt hY ad e).1)
  exact ⟨⟨(h2.first.grew g23).apart hY (by decide) h4.chg, h4.first⟩, g4, g4.size⟩

def cutV (t : Int) (V : List HEnt) : List Ser := V.filterMap fun e => cutOff t e.s
theorem cutV_snoc (t : Int) (V : List HEnt) (e : HEnt) : cutV t (V ++ [e]) = cutV t V ++ (cutOff t e.s).toList := by
  unfold cutV
  rw [List.filterMap_append]
  cases h : cutOff t e.s <;> simp [h]

set_option maxRecDepth 100000 in
set_option maxHeartbeats 8000000 in
theorem cut_any {S : Nat → Prop} {h b p cb cp lim : Nat} {L : List HEnt} {PL : List PEnt} (t : Int) (w : World) (hH : HS S w h b p L cb PL cp lim) (hx : MaxL w) :
    Calls Tryz.prog 20 #[.pointer (some ⟨h, 0, none⟩), .int .i64 t] w fun e w' => ∃ B m d, e = .returned (.slice B m d) ∧ ∃ ss, NS w' w.heap.size B m d ss ∧ ss.Perm ((L.map HEnt.s).filterMap (cutOff t)) ∧ (ss.Pairwise fun a b => 0 ≤ cmpLs b.lbs a.lbs) ∧ Chg S w w' ∧ ∃ L' PL', HS S w' h b p L' cb PL' cp lim ∧ L'.map HEnt.s = (L.map HEnt.s).filterMap (cutLeft t) := by
  have hml := hH.ml
  have hlen := hH.len
  have hN := asked_any none 0 0 [] w hH ⟨rfl, Rd.nil _ _⟩ (by omega) (fun x hx => by cases hx) hx
  have hSl := hH.tb.lt
  have hHw := fun w' (g : Grew w w') => hH.grew g
  replace hHw := Lib.hid hHw
  clear hH hx
  go_enter Tryz.func20, Tryz.ntmps20
  go_wp2_with fail
  refine hN.mono ?_
  rintro e w1 ⟨V, B, d, hp, rfl, hrow, g1⟩
  rw [kO_nil, List.length_map] at *
  have hVl : V.length ≤ 1024 := by rw [hp.length_eq]; omega
  have hH1 := hHw.out w1 g1
  clear hN hHw
  have hV : ∀ e ∈ V, e ∈ L := fun e he => hp.mem_iff.1 he
  have hap0 := Lib.hid hH1.tb.ap
  have hkey0 : Hid (∀ x ∈ L, x.key = encK x.s.lbs) := fun x hx => (hH1.tb.ok x hx).key
  have hndV0 : Hid V.Nodup := hp.nodup_iff.2 (nodupL hH1.tb.ap)
  replace hp := Lib.hid hp
  replace hV := Lib.hid hV
  have hre := fun w' (g : Chg S w1 w') => RE.chg ((hrow.re (by decide)) : RE elTx w1 B V.length (V.map HEnt.key)) g (fun ad e1 e2 => by
    have h1 := (Own.blk_lt hrow ad e1).1
    have h2 := hSl _ e2
    omega)
  replace hre := Lib.hid hre
  clear hrow
  go_wp2
  go_loopw [5, 15] (fun o i wr => ∃ (k m d : Nat) (D : Option Addr), k ≤ V.length ∧ i = .int .i64 (k : Int) ∧ o = .slice D m d ∧ NS wr w1.heap.size D m d (cutV t (V.take k)) ∧ Chg S w1 wr ∧ ∃ L' PL', HS S wr h b p L' cb PL' cp lim ∧ (∀ e ∈ V.drop k, e ∈ L') ∧ L'.map HEnt.s = cutSS t ((V.take k).map fun e => e.s.lbs) (L.map HEnt.s)) (fun _ i _ => V.length - (intOf i).toNat)
  case atStart => exact ⟨0, 0, 0, none, by omega, rfl, rfl, NS.nil _ _, Chg.refl _ _, L, PL, hH1, fun e he => hV.out e (List.mem_of_mem_drop he), by rw [List.take_zero, List.map_nil, cutSS_nil]⟩
  case round =>
    clear hH1
    obtain ⟨k, m, q, D, hk, rfl, rfl, hNS, hg, L', PL', hH', hrem, hms⟩ := hrel
    by_cases hlt : k < V.length
    · obtain ⟨ad, s, rfl, hs, x0⟩ := (hre.out wr hg).tx hlt
      obtain ⟨e, he, rfl⟩ : ∃ e, V[k]? = some e ∧ e.key = s := by
        rw [List.getElem?_map] at hs
        cases hv : V[k]? with
        | none => rw [hv] at hs; cases hs
        | some e => rw [hv] at hs; injection hs with hs; exact ⟨e, rfl, hs⟩
      have hdr : V.drop k = e :: V.drop (k + 1) := by
        obtain ⟨h1, h2⟩ := List.getElem?_eq_some_iff.1 he
        rw [List.drop_eq_getElem_cons h1, h2]
      rw [hdr] at hrem
      have heL := hrem e List.mem_cons_self
      have htk := take_sn he
      have hoe := hH'.tb.ok e heL
      have h0 := hH'.hd.cell 0
      have hl1 := hH'.tb.askS heL
      have y1 := hoe.blk.cell 1
      have hpn := hoe.pn
      have hpts := fun w' (g : Grew wr w') => (hoe.pt.grew g).re (by decide)
      have hblk := fun w' (g : Grew wr w') => hoe.blk.grew g
      have hpl := hoe.pt.len (by decide)
      have hpc := OwT.cap hoe.pt
      replace hpts := Lib.hid hpts
      replace hblk := Lib.hid hblk
      replace hpl := Lib.hid hpl
      replace hNS := Lib.hid hNS
      replace hH' := Lib.hid hH'
      replace hrem := Lib.hid hrem
      replace hms := Lib.hid hms
      replace hoe := Lib.hid hoe
      replace hg := Lib.hid hg
      have hsn : Hid (cutV t (V.take (k + 1)) = cutV t (V.take k) ++ (cutOff t e.s).toList) := by
        show _ = _
        rw [htk]
        exact cutV_snoc t _ e
      have hss : Hid (cutSS t ((V.take (k + 1)).map fun e => e.s.lbs) (L.map HEnt.s) = (L'.map HEnt.s).filterMap fun s => if s.lbs = e.s.lbs then cutLeft t s else some s) := by
        show _ = _
        rw [hms.out, htk, List.map_append]
        refine cutSS_snoc t _ e.s.lbs _ fun h1 => ?_
        obtain ⟨x, hx, h2⟩ := List.mem_map.1 h1
        have hxe : x ≠ e := fun e1 => by
          have h3 := hndV0.out
          rw [← List.take_append_drop k V, hdr] at h3
          exact (List.nodup_append.1 h3).2.2 x hx e List.mem_cons_self e1
        have hxL := hV.out x (List.mem_of_mem_take hx)
        have heL0 := hV.out e (List.mem_of_getElem? he)
        have := (hap_of hap0.out hxL heL0 hxe).key
        rw [hkey0.out x hxL, hkey0.out e heL0, h2] at this
        exact this rfl
      have hndV : Hid (∀ x ∈ V.drop (k + 1), x ≠ e) := fun x hx e1 => by
        have h3 := hndV0.out
        rw [← List.take_append_drop k V, hdr] at h3
        have h4 := (List.nodup_append.1 h3).2.1
        rw [e1] at hx
        exact (List.nodup_cons.1 h4).1 hx
      clear hs hdr htk hms he
      go_wp2
      generalize wr = wo at *
      go_loopw [9] (fun o wr => ∃ (j : Nat), j ≤ cutN t e.s.pts ∧ o = .int .i64 (j : Int) ∧ Grew wo wr) (fun o _ => e.m.pn - (intOf o).toNat)
      case atStart => exact ⟨0, Nat.zero_le _, rfl, Chg.refl _ _⟩
      case round =>
        clear hl1 y1 h0 x0
        obtain ⟨j, hj, rfl, hgq⟩ := hrel
        have hcl := cutN_le t e.s.pts
        rw [hpl.out] at hcl
        have y1 := (hblk.out _ hgq).cell 1
        by_cases hlt2 : j < e.m.pn
        · have e1 : decide ((j : Int) < (e.m.pn : Int)) = true := decide_eq_true (by omega)
          obtain ⟨bd, x, hpa, hxx, p0, p1⟩ := (hpts.out _ hgq).pt hlt2
          rw [hpa] at y1
          by_cases hxt : x.1 < t
          · have e2 : decide (x.1 < t) = true := decide_eq_true hxt
            have hj2 := cutN_go hj hxx hxt
            clear hpa hxx hxt
            go_wp2
            go_roundw
            case rel => exact ⟨j + 1, hj2, by go_num, hgq⟩
            case measure => simp [intOf] <;> omega
          · have e2 : decide (x.1 < t) = false := decide_eq_false hxt
            have hcn : cutN t e.s.pts = j := cutN_at hj fun p hp => by
              rw [hxx] at hp
              injection hp with hp
              exact hp ▸ hxt
            have hcap := hpc
            by_cases hj0 : j = 0
            · have e3 : ((j : Int) == 0) = true := by simp [hj0]
              rw [hj0] at hcn
              have hs1 : cutV t (V.take (k + 1)) = cutV t (V.take k) := by
                rw [hsn.out]
                unfold cutOff
                rw [if_pos hcn]
                simp
              have hs2 : cutSS t ((V.take (k + 1)).map fun e => e.s.lbs) (L.map HEnt.s) = L'.map HEnt.s := by
                rw [hss.out]
                refine fm_some fun s hs => ?_
                obtain ⟨x, hx, rfl⟩ := List.mem_map.1 hs
                split
                · rename_i h1
                  have hxe : x = e := Classical.byContradiction fun hne => by
                    have := (hap_of hH'.out.tb.ap hx heL hne).key
                    rw [(hH'.out.tb.ok x hx).key, (hH'.out.tb.ok e heL).key, h1] at this
                    exact this rfl
                  rw [hxe]
                  unfold cutLeft
                  have hpn0 : 0 < e.m.pn := by
                    rw [← hpl.out]
                    exact List.length_pos_iff.2 hoe.out.non
                  rw [if_neg (by rw [hcn, hpl.out]; omega), hcn]
                  rfl
                · rfl
              have hN2 := hNS.out.grew hgq
              rw [← hs1] at hN2
              have hH2 := hH'.out.grew hgq
              have hg2 := hg.out.grow hgq
              have hrem2 := hrem.out
              clear hcn hsn hss hs1 hj0
              go_wp2
              go_roundw
              case rel => exact ⟨k + 1, m, q, D, by omega, by go_num, rfl, hN2, hg2, L', PL', hH2, fun x hx => hrem2 x (List.mem_cons_of_mem _ hx), hs2.symm⟩
              case measure => simp [intOf] <;> omega
            · have e3 : ((j : Int) == 0) = false := by simp [hj0]
              obtain ⟨bg, bo, rfl⟩ := pt_form hoe.out.pt hpa
              rw [Addr.add_lit] at p0
              clear p1
              have hpa2 := hpa
              have hoe1 := hoe.out.chg hgq (fun e => e) (fun _ _ e => e) (fun _ _ e => e) (Nat.le_refl _)
              have hbx := hoe1.blk
              rw [hpa2] at hbx
              have hcs := cellsIn_one hbx
              have hsame : Hid (∀ W1, Grew wr W1 → SameIn [e.g] wr W1) := fun W1 h1 => sameIn_of h1 hcs fun _ _ e => e
              have hgl := hbx.lt
              have y0 := hbx.cell 0
              have y1 := hbx.cell 1
              have hrL := Lib.hid fun w' (g : Grew wr w') => (hoe1.lb.grew g).re (by decide)
              have hrP0 : Hid (∀ w', Grew wr w' → RE elPt w' e.m.pa j (e.s.pts.take j)) := fun w' g => ((hoe1.pt.grew g).re (by decide)).take (by omega)
              have hrP : Hid (∀ w', Grew wr w' → RE elPt w' (some ⟨bg, bo, none⟩) j (e.s.pts.take j)) := fun w' g => by have := hrP0.out w' g; rwa [hpa2] at this
              have hll := hoe1.lb.len (by decide)
              have hl16 := (chkL_sizes hoe1.chk).1
              rw [hll] at hl16
              have hlc := OwT.cap hoe1.lb
              have hog := hSl _ hoe1.og
              obtain ⟨ms, ho4⟩ := (hNS.out.grew hgq).op
              have hmk := hNS.out.len
              have hmk2 : (cutV t (V.take k)).length ≤ k := by
                have := List.length_filterMap_le (fun e : HEnt => cutOff t e.s) (V.take k)
                rw [List.length_take] at this
                show (List.filterMap _ _).length ≤ _
                omega
              have hz1 := g1.size
              have hz2 := hg.out.size
              have hz3 := hgq.size
              have hsn2 : Hid (cutV t (V.take (k + 1)) = cutV t (V.take k) ++ [⟨e.s.lbs, e.s.pts.take j⟩]) := by
                show _ = _
                rw [hsn.out]
                unfold cutOff
                rw [if_neg (by omega), hcn]
                rfl
              have hDn : Hid (¬ ∃ ad, D = some ad ∧ e.g = ad.block) := fun ⟨ad, e1, e2⟩ => by have := (hNS.out.blk ad e1).1; omega
              have hHc : Hid (∀ W, Chg (fun k => ∃ ad, D = some ad ∧ k = ad.block) wr W → HS S W h b p L' cb PL' cp lim) := fun W hc => (hH'.out.grew hgq).chg hc fun k hk ⟨ad, e1, e2⟩ => by
                have h1 := hSl k hk
                have h2 := (hNS.out.blk ad e1).1
                omega
              have hgc : Hid (∀ W, Chg (fun k => ∃ ad, D = some ad ∧ k = ad.block) wr W → Chg S w1 W) := fun W hc => (hg.out.grow hgq).step hc fun k hk ⟨ad, e1, e2⟩ => by
                have h2 := (hNS.out.blk ad e1).1
                omega
              obtain ⟨i, hi⟩ := List.getElem?_of_mem heL
              have hrem2 : Hid (∀ x ∈ V.drop (k + 1), x ∈ L' ∧ x ≠ e) := fun x hx => ⟨hrem.out x (List.mem_cons_of_mem _ hx), hndV.out x hx⟩
              have hmk3 : m ≤ k := by omega
              clear hoe1 hoe hNS hpts hblk hrem hmk hmk2
              go_wp2_with fail
              refine wp_region_textsD [] [e.g] [[0, 1, 2, 3, 4, 5, 6, 7, 8, 9, 10, 11, 12, 13, 14, 15, 16, 17, 18], [0, 1, 7, 2, 3, 4, 5, 6, 8, 9, 10, 11, 12, 13, 14, 15, 16, 17, 18], [0, 7, 1, 2, 3, 4, 5, 6, 8, 9, 10, 11, 12, 13, 14, 15, 16, 17, 18]] (by kernel_rfl) (by kernel_rfl) hcs ?_
              intro o ho
              simp only [List.mem_cons, List.not_mem_nil, or_false] at ho
              rcases ho with rfl | rfl | rfl
              all_goals
                simp only [opsOf, List.filterMap_cons, List.filterMap_nil, List.getElem?_toArray, List.getElem?_cons_zero, List.getElem?_cons_succ]
                simp only [wpU, tagOf, chk, List.cons_append, List.nil_append]
              · have gX : Grew wr (wr.drew.alloc (.cells #[] 72)) := (Chg.refl _ wr).drew.alloc _
                have oL : OE elLb (wr.drew.alloc (.cells #[] 72)) wr.heap.size 72 (some ⟨wr.heap.size, 0, none⟩) 0 0 [] := OE.made wr.drew wr.heap.size 72 (Nat.le_refl _)
                have rL := hrL.out _ gX
                have hX : wr.heap.size ≤ wr.heap.size := Nat.le_refl _
                intro K hK
                go_wp2_with fail
                refine OnlyN.normal (hK _ _ (hsame.out _ gX) ?_)
                clear hK K
                intro K hK
                go_wp2_with fail
                refine OnlyN.normal (hK _ _ (fun _ => ⟨_, _, _, rfl, rfl, by simp⟩) ?_)
                clear hK K
                intro K hK
                go_wp2_with (at_builtin; refine wpList_appE rfl _ _ 28 72 infoLab rfl Tryz.underlying28 rfl wr.heap.size (some ⟨wr.heap.size, 0, none⟩) 0 0 [] rfl oL (gX.size) e.m.la e.m.ln e.m.lc e.s.lbs rfl rL (by unfold maxLen; omega) (by omega) ?_; intro A2 c2 w2 h2)
                have g2 : Grew wr w2 := h2.grew gX (hd_le hX)
                have hz2 := g2.size
                refine OnlyN.normal (hK _ _ (hsame.out _ g2) ?_)
                clear hK K
                have g23 : Grew w2 (w2.alloc (.cells #[] 69)) := (Chg.refl _ w2).alloc _
                have oP : OE elPt (w2.alloc (.cells #[] 69)) wr.heap.size 69 (some ⟨w2.heap.size, 0, none⟩) 0 0 [] := OE.made w2 wr.heap.size 69 g2.size
                have rP := hrP.out _ (g2.trans g23)
                have gz : wr.heap.size ≤ (w2.alloc (.cells #[] 69)).heap.size := (g2.trans g23).size
                have c21 := (hbx.grew g2).cell 1
                intro K hK
                go_wp2_with fail
                refine OnlyN.normal (hK _ _ (hsame.out _ (g2.trans g23)) ?_)
                clear hK K
                have c22 : (w2.alloc (.cells #[] 69)).cell? ⟨e.g, 1, none⟩ = some (.slice (some ⟨bg, bo, none⟩) e.m.pn e.m.pc) := (hbx.grew (g2.trans g23)).cell 1
                intro K hK
                go_wp2_with fail
                refine OnlyN.normal (hK _ _ (fun _ => ⟨_, _, _, rfl, rfl, by simp⟩) ?_)
                clear hK K
                intro K hK
                go_wp2_with (at_builtin; refine wpList_appE rfl _ _ 59 69 infoPt rfl Tryz.underlying59 rfl wr.heap.size (some ⟨w2.heap.size, 0, none⟩) 0 0 [] rfl oP gz _ j _ (e.s.pts.take j) rfl rP (by unfold maxLen; omega) (by omega) ?_; intro A4 c4 w4 h4)
                obtain ⟨hN, g4, gz4⟩ := copy_lp (m := ⟨e.m.la, e.m.ln, e.m.lc, some ⟨bg, bo, none⟩, j, e.m.pc⟩) (s := ⟨e.s.lbs, e.s.pts.take j⟩) h2 gX (hd_le hX) g23 oP h4
                refine OnlyN.normal (hK _ _ (hsame.out _ g4) ?_)
                clear hK K
                have gW : Grew w4 (w4.alloc (.cells #[.slice A2 e.m.ln c2, .slice A4 j c4] 61)) := (Chg.refl _ w4).alloc _
                have hE5 : OE elSr (w4.alloc (.cells #[.slice A2 e.m.ln c2, .slice A4 j c4] 61)) w1.heap.size 61 D m q ms := ho4.row.grew (g4.trans gW)
                have hsrc : RE elSr (w4.alloc (.cells #[.slice A2 e.m.ln c2, .slice A4 j c4] 61)) (some ⟨w4.heap.size, 0, none⟩) 1 [⟨A2, e.m.ln, c2, A4, j, c4⟩] := RE.newAt rfl rfl rfl
                intro K hK
                go_wp2_with fail
                refine OnlyN.normal (hK _ _ (hsame.out _ (g4.trans gW)) ?_)
                clear hK K
                intro K hK
                go_wp2_with (at_builtin; refine wpList_appE rfl _ _ 36 61 infoSr rfl Tryz.underlying36 rfl w1.heap.size D m q ms rfl hE5 (by simp; omega) _ 1 1 [⟨A2, e.m.ln, c2, A4, j, c4⟩] rfl hsrc (by unfold maxLen; omega) (by omega) ?_; intro D2 e2 w5 h5)
                have hc5 : Chg (fun k => ∃ ad, D = some ad ∧ k = ad.block) wr w5 := Chg.step (S := fun k => ∃ ad, D = some ad ∧ k = ad.block) (Chg.of_grew (g4.trans gW)) h5.chg fun _ _ e => e
                have hNE : NsE w4 w1.heap.size ⟨A2, e.m.ln, c2, A4, j, c4⟩ ⟨e.s.lbs, e.s.pts.take j⟩ := NsE.lower hN (by omega)
                have hNS3 := (ho4.grew (g4.trans gW)).app (hNE.grew gW) h5
                rw [← hsn2.out] at hNS3
                refine OnlyN.normal (hK _ _ (sameIn_of hc5 hcs (fun k' hk' => by
                  obtain rfl := List.mem_singleton.1 hk'
                  exact hDn.out)) ?_)
                clear hK K
                go_wp2_with fail
                refine OnlyN.normal ?_
                have hH5 := hHc.out _ hc5
                have hg5 := hgc.out _ hc5
                clear h2 h4 oL oP rL rP gX g23 hN g4 gz4 gW hE5 hsrc h5 hc5 hNE g2 c21
                have hoe5 := hH5.tb.ok e heL
                have hb5 := hoe5.blk
                rw [hpa2] at hb5
                have k1 := hb5.cell 1
                have hfz := hb5.frozen 1
                have hc6 : Chg (fun k => k = e.g) w5 (w5.setCell ⟨e.g, 1, none⟩ (.slice (some ⟨bg, bo + j * 2, none⟩) (e.m.pn - j) (e.m.pc - j))) := Chg.one _ _ _ _
                have hb6 : Blk (w5.setCell ⟨e.g, 1, none⟩ (.slice (some ⟨bg, bo + j * 2, none⟩) (e.m.pn - j) (e.m.pc - j))) e.g 67 #[.slice e.m.la e.m.ln e.m.lc, .slice (some ⟨bg, bo + j * 2, none⟩) (e.m.pn - j) (e.m.pc - j)] := by simpa using hb5.set 1 (.slice (some ⟨bg, bo + j * 2, none⟩) (e.m.pn - j) (e.m.pc - j))
                have hH6 := hH5.cutE hi hpa2 hlt2 hc6 (by simp) hb6
                have hg6 := hg5.step hc6 fun k _ e1 => by rw [e1]; exact hoe5.og
                have hNS6 := hNS3.chg hc6 fun k hk e1 => by omega
                have hfs : cutSS t ((V.take (k + 1)).map fun e => e.s.lbs) (L.map HEnt.s) = (L'.set i (e.cut ⟨bg, bo, none⟩ j)).map HEnt.s := by
                  rw [hss.out]
                  refine fm_set hi ?_ fun i2 x hne hx => if_neg (hH5.lbs_ne hi hx hne)
                  rw [if_pos rfl]
                  unfold cutLeft
                  rw [if_neg (by rw [hcn, hpl.out]; omega), hcn]
                  rfl
                have k6 := hb6.cell 1
                have hrem6 : Hid (∀ x ∈ V.drop (k + 1), x ∈ L'.set i (e.cut ⟨bg, bo, none⟩ j)) := fun x hx => mem_set_ne hi (hrem2.out x hx).1 (hrem2.out x hx).2
                have hlen6 : e.m.pn - j ≠ 0 := by omega
                clear hoe5 hb5 hH5 hg5 hNS3 hss hsn hsn2 hcn hrem2 hDn hHc hgc hsame hcs hbx y0 y1 hrL hrP hrP0 ho4
                go_wp2
                go_roundw
                case rel => exact ⟨k + 1, m + 1, e2, D2, by omega, by go_num, rfl, hNS6, hg6, L'.set i (e.cut ⟨bg, bo, none⟩ j), PL', hH6, hrem6.out, hfs.symm⟩
                case measure => simp [intOf] <;> omega
              · have gX : Grew wr ((wr.drew.alloc (.cells #[] 72)).alloc (.cells #[] 69)) := ((Chg.refl _ wr).drew.alloc _).alloc _
                have oL : OE elLb ((wr.drew.alloc (.cells #[] 72)).alloc (.cells #[] 69)) wr.heap.size 72 (some ⟨wr.heap.size, 0, none⟩) 0 0 [] := (OE.made wr.drew wr.heap.size 72 (Nat.le_refl _)).alloc _
                have oP0 : OE elPt ((wr.drew.alloc (.cells #[] 72)).alloc (.cells #[] 69)) wr.heap.size 69 (some ⟨wr.heap.size + 1, 0, none⟩) 0 0 [] := by
                  have := OE.made (E := elPt) (wr.drew.alloc (.cells #[] 72)) wr.heap.size 69 (by simp)
                  rwa [World.size_alloc] at this
                have rL := hrL.out _ gX
                have hX : wr.heap.size ≤ wr.heap.size := Nat.le_refl _
                intro K hK
                go_wp2_with fail
                refine OnlyN.normal (hK _ _ (hsame.out _ ((Chg.refl _ wr).drew.alloc _)) ?_)
                clear hK K
                intro K hK
                go_wp2_with fail
                refine OnlyN.normal (hK _ _ (hsame.out _ gX) ?_)
                clear hK K
                have c20 : ((wr.drew.alloc (.cells #[] 72)).alloc (.cells #[] 69)).cell? ⟨e.g, 0, none⟩ = some (.slice e.m.la e.m.ln e.m.lc) := (hbx.grew gX).cell 0
                intro K hK
                go_wp2_with fail
                refine OnlyN.normal (hK _ _ (fun _ => ⟨_, _, _, rfl, rfl, by simp⟩) ?_)
                clear hK K
                intro K hK
                go_wp2_with (at_builtin; refine wpList_appE rfl _ _ 28 72 infoLab rfl Tryz.underlying28 rfl wr.heap.size (some ⟨wr.heap.size, 0, none⟩) 0 0 [] rfl oL (gX.size) e.m.la e.m.ln e.m.lc e.s.lbs rfl rL (by unfold maxLen; omega) (by omega) ?_; intro A2 c2 w2 h2)
                have g2 : Grew wr w2 := h2.grew gX (hd_le hX)
                have hz2 := g2.size
                refine OnlyN.normal (hK _ _ (hsame.out _ g2) ?_)
                clear hK K
                have g23 : Grew w2 w2 := Chg.refl _ _
                have oP : OE elPt w2 wr.heap.size 69 (some ⟨wr.heap.size + 1, 0, none⟩) 0 0 [] := oP0.apart oL (by decide) h2.chg
                have rP := hrP.out _ g2
                have gz : wr.heap.size ≤ w2.heap.size := g2.size
                have c21 := (hbx.grew g2).cell 1
                intro K hK
                go_wp2_with fail
                refine OnlyN.normal (hK _ _ (fun _ => ⟨_, _, _, rfl, rfl, by simp⟩) ?_)
                clear hK K
                intro K hK
                go_wp2_with (at_builtin; refine wpList_appE rfl _ _ 59 69 infoPt rfl Tryz.underlying59 rfl wr.heap.size (some ⟨wr.heap.size + 1, 0, none⟩) 0 0 [] rfl oP gz _ j _ (e.s.pts.take j) rfl rP (by unfold maxLen; omega) (by omega) ?_; intro A4 c4 w4 h4)
                obtain ⟨hN, g4, gz4⟩ := copy_lp (m := ⟨e.m.la, e.m.ln, e.m.lc, some ⟨bg, bo, none⟩, j, e.m.pc⟩) (s := ⟨e.s.lbs, e.s.pts.take j⟩) h2 gX (hd_le hX) g23 oP h4
                refine OnlyN.normal (hK _ _ (hsame.out _ g4) ?_)
                clear hK K
                have gW : Grew w4 (w4.alloc (.cells #[.slice A2 e.m.ln c2, .slice A4 j c4] 61)) := (Chg.refl _ w4).alloc _
                have hE5 : OE elSr (w4.alloc (.cells #[.slice A2 e.m.ln c2, .slice A4 j c4] 61)) w1.heap.size 61 D m q ms := ho4.row.grew (g4.trans gW)
                have hsrc : RE elSr (w4.alloc (.cells #[.slice A2 e.m.ln c2, .slice A4 j c4] 61)) (some ⟨w4.heap.size, 0, none⟩) 1 [⟨A2, e.m.ln, c2, A4, j, c4⟩] := RE.newAt rfl rfl rfl
                intro K hK
                go_wp2_with fail
                refine OnlyN.normal (hK _ _ (hsame.out _ (g4.trans gW)) ?_)
                clear hK K
                intro K hK
                go_wp2_with (at_builtin; refine wpList_appE rfl _ _ 36 61 infoSr rfl Tryz.underlying36 rfl w1.heap.size D m q ms rfl hE5 (by simp; omega) _ 1 1 [⟨A2, e.m.ln, c2, A4, j, c4⟩] rfl hsrc (by unfold maxLen; omega) (by omega) ?_; intro D2 e2 w5 h5)
                have hc5 : Chg (fun k => ∃ ad, D = some ad ∧ k = ad.block) wr w5 := Chg.step (S := fun k => ∃ ad, D = some ad ∧ k = ad.block) (Chg.of_grew (g4.trans gW)) h5.chg fun _ _ e => e
                have hNE : NsE w4 w1.heap.size ⟨A2, e.m.ln, c2, A4, j, c4⟩ ⟨e.s.lbs, e.s.pts.take j⟩ := NsE.lower hN (by omega)
                have hNS3 := (ho4.grew (g4.trans gW)).app (hNE.grew gW) h5
                rw [← hsn2.out] at hNS3
                refine OnlyN.normal (hK _ _ (sameIn_of hc5 hcs (fun k' hk' => by
                  obtain rfl := List.mem_singleton.1 hk'
                  exact hDn.out)) ?_)
                clear hK K
                go_wp2_with fail
                refine OnlyN.normal ?_
                have hH5 := hHc.out _ hc5
                have hg5 := hgc.out _ hc5
                clear h2 h4 oL oP rL rP gX g23 hN g4 gz4 gW hE5 hsrc h5 hc5 hNE g2 c21
                have hoe5 := hH5.tb.ok e heL
                have hb5 := hoe5.blk
                rw [hpa2] at hb5
                have k1 := hb5.cell 1
                have hfz := hb5.frozen 1
                have hc6 : Chg (fun k => k = e.g) w5 (w5.setCell ⟨e.g, 1, none⟩ (.slice (some ⟨bg, bo + j * 2, none⟩) (e.m.pn - j) (e.m.pc - j))) := Chg.one _ _ _ _
                have hb6 : Blk (w5.setCell ⟨e.g, 1, none⟩ (.slice (some ⟨bg, bo + j * 2, none⟩) (e.m.pn - j) (e.m.pc - j))) e.g 67 #[.slice e.m.la e.m.ln e.m.lc, .slice (some ⟨bg, bo + j * 2, none⟩) (e.m.pn - j) (e.m.pc - j)] := by simpa using hb5.set 1 (.slice (some ⟨bg, bo + j * 2, none⟩) (e.m.pn - j) (e.m.pc - j))
                have hH6 := hH5.cutE hi hpa2 hlt2 hc6 (by simp) hb6
                have hg6 := hg5.step hc6 fun k _ e1 => by rw [e1]; exact hoe5.og
                have hNS6 := hNS3.chg hc6 fun k hk e1 => by omega
                have hfs : cutSS t ((V.take (k + 1)).map fun e => e.s.lbs) (L.map HEnt.s) = (L'.set i (e.cut ⟨bg, bo, none⟩ j)).map HEnt.s := by
                  rw [hss.out]
                  refine fm_set hi ?_ fun i2 x hne hx => if_neg (hH5.lbs_ne hi hx hne)
                  rw [if_pos rfl]
                  unfold cutLeft
                  rw [if_neg (by rw [hcn, hpl.out]; omega), hcn]
                  rfl
                have k6 := hb6.cell 1
                have hrem6 : Hid (∀ x ∈ V.drop (k + 1), x ∈ L'.set i (e.cut ⟨bg, bo, none⟩ j)) := fun x hx => mem_set_ne hi (hrem2.out x hx).1 (hrem2.out x hx).2
                have hlen6 : e.m.pn - j ≠ 0 := by omega
                clear hoe5 hb5 hH5 hg5 hNS3 hss hsn hsn2 hcn hrem2 hDn hHc hgc hsame hcs hbx y0 y1 hrL hrP hrP0 ho4
                go_wp2
                go_roundw
                case rel => exact ⟨k + 1, m + 1, e2, D2, by omega, by go_num, rfl, hNS6, hg6, L'.set i (e.cut ⟨bg, bo, none⟩ j), PL', hH6, hrem6.out, hfs.symm⟩
                case measure => simp [intOf] <;> omega
              · have gX : Grew wr ((wr.drew.alloc (.cells #[] 69)).alloc (.cells #[] 72)) := ((Chg.refl _ wr).drew.alloc _).alloc _
                have oP0 : OE elPt ((wr.drew.alloc (.cells #[] 69)).alloc (.cells #[] 72)) wr.heap.size 69 (some ⟨wr.heap.size, 0, none⟩) 0 0 [] := (OE.made wr.drew wr.heap.size 69 (Nat.le_refl _)).alloc _
                have oL : OE elLb ((wr.drew.alloc (.cells #[] 69)).alloc (.cells #[] 72)) wr.heap.size 72 (some ⟨wr.heap.size + 1, 0, none⟩) 0 0 [] := by
                  have := OE.made (E := elLb) (wr.drew.alloc (.cells #[] 69)) wr.heap.size 72 (by simp)
                  rwa [World.size_alloc] at this
                have rL := hrL.out _ gX
                have hX : wr.heap.size ≤ wr.heap.size + 1 := by omega
                intro K hK
                go_wp2_with fail
                refine OnlyN.normal (hK _ _ (hsame.out _ ((Chg.refl _ wr).drew.alloc _)) ?_)
                clear hK K
                intro K hK
                go_wp2_with fail
                refine OnlyN.normal (hK _ _ (hsame.out _ gX) ?_)
                clear hK K
                have c20 : ((wr.drew.alloc (.cells #[] 69)).alloc (.cells #[] 72)).cell? ⟨e.g, 0, none⟩ = some (.slice e.m.la e.m.ln e.m.lc) := (hbx.grew gX).cell 0
                intro K hK
                go_wp2_with fail
                refine OnlyN.normal (hK _ _ (fun _ => ⟨_, _, _, rfl, rfl, by simp⟩) ?_)
                clear hK K
                intro K hK
                go_wp2_with (at_builtin; refine wpList_appE rfl _ _ 28 72 infoLab rfl Tryz.underlying28 rfl wr.heap.size (some ⟨wr.heap.size + 1, 0, none⟩) 0 0 [] rfl oL (gX.size) e.m.la e.m.ln e.m.lc e.s.lbs rfl rL (by unfold maxLen; omega) (by omega) ?_; intro A2 c2 w2 h2)
                have g2 : Grew wr w2 := h2.grew gX (hd_le hX)
                have hz2 := g2.size
                refine OnlyN.normal (hK _ _ (hsame.out _ g2) ?_)
                clear hK K
                have g23 : Grew w2 w2 := Chg.refl _ _
                have oP : OE elPt w2 wr.heap.size 69 (some ⟨wr.heap.size, 0, none⟩) 0 0 [] := oP0.apart oL (by decide) h2.chg
                have rP := hrP.out _ g2
                have gz : wr.heap.size ≤ w2.heap.size := g2.size
                have c21 := (hbx.grew g2).cell 1
                intro K hK
                go_wp2_with fail
                refine OnlyN.normal (hK _ _ (fun _ => ⟨_, _, _, rfl, rfl, by simp⟩) ?_)
                clear hK K
                intro K hK
                go_wp2_with (at_builtin; refine wpList_appE rfl _ _ 59 69 infoPt rfl Tryz.underlying59 rfl wr.heap.size (some ⟨wr.heap.size, 0, none⟩) 0 0 [] rfl oP gz _ j _ (e.s.pts.take j) rfl rP (by unfold maxLen; omega) (by omega) ?_; intro A4 c4 w4 h4)
                obtain ⟨hN, g4, gz4⟩ := copy_lp (m := ⟨e.m.la, e.m.ln, e.m.lc, some ⟨bg, bo, none⟩, j, e.m.pc⟩) (s := ⟨e.s.lbs, e.s.pts.take j⟩) h2 gX (hd_le hX) g23 oP h4
                refine OnlyN.normal (hK _ _ (hsame.out _ g4) ?_)
                clear hK K
                have gW : Grew w4 (w4.alloc (.cells #[.slice A2 e.m.ln c2, .slice A4 j c4] 61)) := (Chg.refl _ w4).alloc _
                have hE5 : OE elSr (w4.alloc (.cells #[.slice A2 e.m.ln c2, .slice A4 j c4] 61)) w1.heap.size 61 D m q ms := ho4.row.grew (g4.trans gW)
                have hsrc : RE elSr (w4.alloc (.cells #[.slice A2 e.m.ln c2, .slice A4 j c4] 61)) (some ⟨w4.heap.size, 0, none⟩) 1 [⟨A2, e.m.ln, c2, A4, j, c4⟩] := RE.newAt rfl rfl rfl
                intro K hK
                go_wp2_with fail
                refine OnlyN.normal (hK _ _ (hsame.out _ (g4.trans gW)) ?_)
                clear hK K
                intro K hK
                go_wp2_with (at_builtin; refine wpList_appE rfl _ _ 36 61 infoSr rfl Tryz.underlying36 rfl w1.heap.size D m q ms rfl hE5 (by simp; omega) _ 1 1 [⟨A2, e.m.ln, c2, A4, j, c4⟩] rfl hsrc (by unfold maxLen; omega) (by omega) ?_; intro D2 e2 w5 h5)
                have hc5 : Chg (fun k => ∃ ad, D = some ad ∧ k = ad.block) wr w5 := Chg.step (S := fun k => ∃ ad, D = some ad ∧ k = ad.block) (Chg.of_grew (g4.trans gW)) h5.chg fun _ _ e => e
                have hNE : NsE w4 w1.heap.size ⟨A2, e.m.ln, c2, A4, j, c4⟩ ⟨e.s.lbs, e.s.pts.take j⟩ := NsE.lower hN (by omega)
                have hNS3 := (ho4.grew (g4.trans gW)).app (hNE.grew gW) h5
                rw [← hsn2.out] at hNS3
                refine OnlyN.normal (hK _ _ (sameIn_of hc5 hcs (fun k' hk' => by
                  obtain rfl := List.mem_singleton.1 hk'
                  exact hDn.out)) ?_)
                clear hK K
                go_wp2_with fail
                refine OnlyN.normal ?_
                have hH5 := hHc.out _ hc5
                have hg5 := hgc.out _ hc5
                clear h2 h4 oL oP rL rP gX g23 hN g4 gz4 gW hE5 hsrc h5 hc5 hNE g2 c21
                have hoe5 := hH5.tb.ok e heL
                have hb5 := hoe5.blk
                rw [hpa2] at hb5
                have k1 := hb5.cell 1
                have hfz := hb5.frozen 1
                have hc6 : Chg (fun k => k = e.g) w5 (w5.setCell ⟨e.g, 1, none⟩ (.slice (some ⟨bg, bo + j * 2, none⟩) (e.m.pn - j) (e.m.pc - j))) := Chg.one _ _ _ _
                have hb6 : Blk (w5.setCell ⟨e.g, 1, none⟩ (.slice (some ⟨bg, bo + j * 2, none⟩) (e.m.pn - j) (e.m.pc - j))) e.g 67 #[.slice e.m.la e.m.ln e.m.lc, .slice (some ⟨bg, bo + j * 2, none⟩) (e.m.pn - j) (e.m.pc - j)] := by simpa using hb5.set 1 (.slice (some ⟨bg, bo + j * 2, none⟩) (e.m.pn - j) (e.m.pc - j))
                have hH6 := hH5.cutE hi hpa2 hlt2 hc6 (by simp) hb6
                have hg6 := hg5.step hc6 fun k _ e1 => by rw [e1]; exact hoe5.og
                have hNS6 := hNS3.chg hc6 fun k hk e1 => by omega
                have hfs : cutSS t ((V.take (k + 1)).map fun e => e.s.lbs) (L.map HEnt.s) = (L'.set i (e.cut ⟨bg, bo, none⟩ j)).map HEnt.s := by
                  rw [hss.out]
                  refine fm_set hi ?_ fun i2 x hne hx => if_neg (hH5.lbs_ne hi hx hne)
                  rw [if_pos rfl]
                  unfold cutLeft
                  rw [if_neg (by rw [hcn, hpl.out]; omega), hcn]
                  rfl
                have k6 := hb6.cell 1
                have hrem6 : Hid (∀ x ∈ V.drop (k + 1), x ∈ L'.set i (e.cut ⟨bg, bo, none⟩ j)) := fun x hx => mem_set_ne hi (hrem2.out x hx).1 (hrem2.out x hx).2
                have hlen6 : e.m.pn - j ≠ 0 := by omega
                clear hoe5 hb5 hH5 hg5 hNS3 hss hsn hsn2 hcn hrem2 hDn hHc hgc hsame hcs hbx y0 y1 hrL hrP hrP0 ho4
                go_wp2
                go_roundw
                case rel => exact ⟨k + 1, m + 1, e2, D2, by omega, by go_num, rfl, hNS6, hg6, L'.set i (e.cut ⟨bg, bo, none⟩ j), PL', hH6, hrem6.out, hfs.symm⟩
                case measure => simp [intOf] <;> omega
        · have hcn : cutN t e.s.pts = j := by omega
          have hjp : j = e.m.pn := by omega
          have hcap := hpc
          by_cases hj0 : j = 0
          · have e3 : ((j : Int) == 0) = true := by simp [hj0]
            rw [hj0] at hcn
            have hs1 : cutV t (V.take (k + 1)) = cutV t (V.take k) := by
              rw [hsn.out]
              unfold cutOff
              rw [if_pos hcn]
              simp
            have hs2 : cutSS t ((V.take (k + 1)).map fun e => e.s.lbs) (L.map HEnt.s) = L'.map HEnt.s := by
              rw [hss.out]
              refine fm_some fun s hs => ?_
              obtain ⟨x, hx, rfl⟩ := List.mem_map.1 hs
              split
              · rename_i h1
                have hxe : x = e := Classical.byContradiction fun hne => by
                  have := (hap_of hH'.out.tb.ap hx heL hne).key
                  rw [(hH'.out.tb.ok x hx).key, (hH'.out.tb.ok e heL).key, h1] at this
                  exact this rfl
                rw [hxe]
                unfold cutLeft
                have hpn0 : 0 < e.m.pn := by
                  rw [← hpl.out]
                  exact List.length_pos_iff.2 hoe.out.non
                rw [if_neg (by rw [hcn, hpl.out]; omega), hcn]
                rfl
              · rfl
            have hN2 := hNS.out.grew hgq
            rw [← hs1] at hN2
            have hH2 := hH'.out.grew hgq
            have hg2 := hg.out.grow hgq
            have hrem2 := hrem.out
            clear hcn hsn hss hs1 hj0
            go_wp2
            go_roundw
            case rel => exact ⟨k + 1, m, q, D, by omega, by go_num, rfl, hN2, hg2, L', PL', hH2, fun x hx => hrem2 x (List.mem_cons_of_mem _ hx), hs2.symm⟩
            case measure => simp [intOf] <;> omega
          · have e3 : ((j : Int) == 0) = false := by simp [hj0]
            obtain ⟨bd, x, hpa2, _, _, _⟩ := (hpts.out _ hgq).pt (k := 0) (by omega)
            obtain ⟨bg, bo, rfl⟩ := pt_form hoe.out.pt hpa2
            have hjle : j ≤ e.m.pn := by omega
            replace hjp := Lib.hid hjp
            replace hlt2 := Lib.hid hlt2
            have hoe1 := hoe.out.chg hgq (fun e => e) (fun _ _ e => e) (fun _ _ e => e) (Nat.le_refl _)
            have hbx := hoe1.blk
            rw [hpa2] at hbx
            have hcs := cellsIn_one hbx
            have hsame : Hid (∀ W1, Grew wr W1 → SameIn [e.g] wr W1) := fun W1 h1 => sameIn_of h1 hcs fun _ _ e => e
            have hgl := hbx.lt
            have y0 := hbx.cell 0
            have y1 := hbx.cell 1
            have hrL := Lib.hid fun w' (g : Grew wr w') => (hoe1.lb.grew g).re (by decide)
            have hrP0 : Hid (∀ w', Grew wr w' → RE elPt w' e.m.pa j (e.s.pts.take j)) := fun w' g => ((hoe1.pt.grew g).re (by decide)).take (by omega)
            have hrP : Hid (∀ w', Grew wr w' → RE elPt w' (some ⟨bg, bo, none⟩) j (e.s.pts.take j)) := fun w' g => by have := hrP0.out w' g; rwa [hpa2] at this
            have hll := hoe1.lb.len (by decide)
            have hl16 := (chkL_sizes hoe1.chk).1
            rw [hll] at hl16
            have hlc := OwT.cap hoe1.lb
            have hog := hSl _ hoe1.og
            obtain ⟨ms, ho4⟩ := (hNS.out.grew hgq).op
            have hmk := hNS.out.len
            have hmk2 : (cutV t (V.take k)).length ≤ k := by
              have := List.length_filterMap_le (fun e : HEnt => cutOff t e.s) (V.take k)
              rw [List.length_take] at this
              show (List.filterMap _ _).length ≤ _
              omega
            have hz1 := g1.size
            have hz2 := hg.out.size
            have hz3 := hgq.size
            have hsn2 : Hid (cutV t (V.take (k + 1)) = cutV t (V.take k) ++ [⟨e.s.lbs, e.s.pts.take j⟩]) := by
              show _ = _
              rw [hsn.out]
              unfold cutOff
              rw [if_neg (by omega), hcn]
              rfl
            have hDn : Hid (¬ ∃ ad, D = some ad ∧ e.g = ad.block) := fun ⟨ad, e1, e2⟩ => by have := (hNS.out.blk ad e1).1; omega
            have hHc : Hid (∀ W, Chg (fun k => ∃ ad, D = some ad ∧ k = ad.block) wr W → HS S W h b p L' cb PL' cp lim) := fun W hc => (hH'.out.grew hgq).chg hc fun k hk ⟨ad, e1, e2⟩ => by
              have h1 := hSl k hk
              have h2 := (hNS.out.blk ad e1).1
              omega
            have hgc : Hid (∀ W, Chg (fun k => ∃ ad, D = some ad ∧ k = ad.block) wr W → Chg S w1 W) := fun W hc => (hg.out.grow hgq).step hc fun k hk ⟨ad, e1, e2⟩ => by
              have h2 := (hNS.out.blk ad e1).1
              omega
            obtain ⟨i, hi⟩ := List.getElem?_of_mem heL
            have hrem2 : Hid (∀ x ∈ V.drop (k + 1), x ∈ L' ∧ x ≠ e) := fun x hx => ⟨hrem.out x (List.mem_cons_of_mem _ hx), hndV.out x hx⟩
            have hmk3 : m ≤ k := by omega
            clear hoe1 hoe hNS hpts hblk hrem hmk hmk2
            go_wp2_with fail
            refine wp_region_textsD [] [e.g] [[0, 1, 2, 3, 4, 5, 6, 7, 8, 9, 10, 11, 12, 13, 14, 15, 16, 17, 18], [0, 1, 7, 2, 3, 4, 5, 6, 8, 9, 10, 11, 12, 13, 14, 15, 16, 17, 18], [0, 7, 1, 2, 3, 4, 5, 6, 8, 9, 10, 11, 12, 13, 14, 15, 16, 17, 18]] (by kernel_rfl) (by kernel_rfl) hcs ?_
            intro o ho
            simp only [List.mem_cons, List.not_mem_nil, or_false] at ho
            rcases ho with rfl | rfl | rfl
            all_goals
              simp only [opsOf, List.filterMap_cons, List.filterMap_nil, List.getElem?_toArray, List.getElem?_cons_zero, List.getElem?_cons_succ]
              simp only [wpU, tagOf, chk, List.cons_append, List.nil_append]
            · have gX : Grew wr (wr.drew.alloc (.cells #[] 72)) := (Chg.refl _ wr).drew.alloc _
              have oL : OE elLb (wr.drew.alloc (.cells #[] 72)) wr.heap.size 72 (some ⟨wr.heap.size, 0, none⟩) 0 0 [] := OE.made wr.drew wr.heap.size 72 (Nat.le_refl _)
              have rL := hrL.out _ gX
              have hX : wr.heap.size ≤ wr.heap.size := Nat.le_refl _
              intro K hK
              go_wp2_with fail
              refine OnlyN.normal (hK _ _ (hsame.out _ gX) ?_)
              clear hK K
              intro K hK
              go_wp2_with fail
              refine OnlyN.normal (hK _ _ (fun _ => ⟨_, _, _, rfl, rfl, by simp⟩) ?_)
              clear hK K
              intro K hK
              go_wp2_with (at_builtin; refine wpList_appE rfl _ _ 28 72 infoLab rfl Tryz.underlying28 rfl wr.heap.size (some ⟨wr.heap.size, 0, none⟩) 0 0 [] rfl oL (gX.size) e.m.la e.m.ln e.m.lc e.s.lbs rfl rL (by unfold maxLen; omega) (by omega) ?_; intro A2 c2 w2 h2)
              have g2 : Grew wr w2 := h2.grew gX (hd_le hX)
              have hz2 := g2.size
              refine OnlyN.normal (hK _ _ (hsame.out _ g2) ?_)
              clear hK K
              have g23 : Grew w2 (w2.alloc (.cells #[] 69)) := (Chg.refl _ w2).alloc _
              have oP : OE elPt (w2.alloc (.cells #[] 69)) wr.heap.size 69 (some ⟨w2.heap.size, 0, none⟩) 0 0 [] := OE.made w2 wr.heap.size 69 g2.size
              have rP := hrP.out _ (g2.trans g23)
              have gz : wr.heap.size ≤ (w2.alloc (.cells #[] 69)).heap.size := (g2.trans g23).size
              have c21 := (hbx.grew g2).cell 1
              intro K hK
              go_wp2_with fail
              refine OnlyN.normal (hK _ _ (hsame.out _ (g2.trans g23)) ?_)
              clear hK K
              have c22 : (w2.alloc (.cells #[] 69)).cell? ⟨e.g, 1, none⟩ = some (.slice (some ⟨bg, bo, none⟩) e.m.pn e.m.pc) := (hbx.grew (g2.trans g23)).cell 1
              intro K hK
              go_wp2_with fail
              refine OnlyN.normal (hK _ _ (fun _ => ⟨_, _, _, rfl, rfl, by simp⟩) ?_)
              clear hK K
              intro K hK
              go_wp2_with (at_builtin; refine wpList_appE rfl _ _ 59 69 infoPt rfl Tryz.underlying59 rfl wr.heap.size (some ⟨w2.heap.size, 0, none⟩) 0 0 [] rfl oP gz _ j _ (e.s.pts.take j) rfl rP (by unfold maxLen; omega) (by omega) ?_; intro A4 c4 w4 h4)
              obtain ⟨hN, g4, gz4⟩ := copy_lp (m := ⟨e.m.la, e.m.ln, e.m.lc, some ⟨bg, bo, none⟩, j, e.m.pc⟩) (s := ⟨e.s.lbs, e.s.pts.take j⟩) h2 gX (hd_le hX) g23 oP h4
              refine OnlyN.normal (hK _ _ (hsame.out _ g4) ?_)
              clear hK K
              have gW : Grew w4 (w4.alloc (.cells #[.slice A2 e.m.ln c2, .slice A4 j c4] 61)) := (Chg.refl _ w4).alloc _
              have hE5 : OE elSr (w4.alloc (.cells #[.slice A2 e.m.ln c2, .slice A4 j c4] 61)) w1.heap.size 61 D m q ms := ho4.row.grew (g4.trans gW)
              have hsrc : RE elSr (w4.alloc (.cells #[.slice A2 e.m.ln c2, .slice A4 j c4] 61)) (some ⟨w4.heap.size, 0, none⟩) 1 [⟨A2, e.m.ln, c2, A4, j, c4⟩] := RE.newAt rfl rfl rfl
              intro K hK
              go_wp2_with fail
              refine OnlyN.normal (hK _ _ (hsame.out _ (g4.trans gW)) ?_)
              clear hK K
              intro K hK
              go_wp2_with (at_builtin; refine wpList_appE rfl _ _ 36 61 infoSr rfl Tryz.underlying36 rfl w1.heap.size D m q ms rfl hE5 (by simp; omega) _ 1 1 [⟨A2, e.m.ln, c2, A4, j, c4⟩] rfl hsrc (by unfold maxLen; omega) (by omega) ?_; intro D2 e2 w5 h5)
              have hc5 : Chg (fun k => ∃ ad, D = some ad ∧ k = ad.block) wr w5 := Chg.step (S := fun k => ∃ ad, D = some ad ∧ k = ad.block) (Chg.of_grew (g4.trans gW)) h5.chg fun _ _ e => e
              have hNE : NsE w4 w1.heap.size ⟨A2, e.m.ln, c2, A4, j, c4⟩ ⟨e.s.lbs, e.s.pts.take j⟩ := NsE.lower hN (by omega)
              have hNS3 := (ho4.grew (g4.trans gW)).app (hNE.grew gW) h5
              rw [← hsn2.out] at hNS3
              refine OnlyN.normal (hK _ _ (sameIn_of hc5 hcs (fun k' hk' => by
                obtain rfl := List.mem_singleton.1 hk'
                exact hDn.out)) ?_)
              clear hK K
              go_wp2_with fail
              refine OnlyN.normal ?_
              have hH5 := hHc.out _ hc5
              have hg5 := hgc.out _ hc5
              clear h2 h4 oL oP rL rP gX g23 hN g4 gz4 gW hE5 hsrc h5 hc5 hNE g2 c21
              have hoe5 := hH5.tb.ok e heL
              have hb5 := hoe5.blk
              rw [hpa2] at hb5
              have k1 := hb5.cell 1
              have hfz := hb5.frozen 1
              have hfs : cutSS t ((V.take (k + 1)).map fun e => e.s.lbs) (L.map HEnt.s) = (L'.eraseIdx i).map HEnt.s := by
                rw [hss.out]
                refine fm_era hi ?_ fun i2 x hne hx => if_neg (hH5.lbs_ne hi hx hne)
                rw [if_pos rfl]
                unfold cutLeft
                rw [if_pos (by rw [hcn, hpl.out]; exact hjp.out)]
              have hrem6 : Hid (∀ x ∈ V.drop (k + 1), x ∈ L'.eraseIdx i) := fun x hx => mem_era_ne hi (hrem2.out x hx).1 (hrem2.out x hx).2
              have hdrp : Hid (∀ u n' c', Calls Tryz.prog 43 #[.pointer (some ⟨h, 0, none⟩), .string e.key] (w5.setCell ⟨e.g, 1, none⟩ (.slice u n' c')) fun x w' => x = .returned (.tuple #[]) ∧ (∃ PL'', HS S w' h b p (L'.eraseIdx i) cb PL'' cp lim) ∧ Chg S w1 w' ∧ NS w' w1.heap.size D2 (m + 1) e2 (cutV t (V.take (k + 1)))) := fun u n' c' => by
                have hc6 : Chg (fun k => k = e.g) w5 (w5.setCell ⟨e.g, 1, none⟩ (.slice u n' c')) := Chg.one _ _ _ _
                have hb6 : Blk (w5.setCell ⟨e.g, 1, none⟩ (.slice u n' c')) e.g 67 #[.slice e.m.la e.m.ln e.m.lc, .slice u n' c'] := by simpa using hb5.set 1 (.slice u n' c')
                refine (hH5.drop hi hc6 hb6).mono ?_
                rintro x w7 ⟨h1, PL'', h2, h3⟩
                refine ⟨h1, ⟨PL'', h2⟩, (hg5.step hc6 fun k _ e1 => by rw [e1]; exact hoe5.og).trans h3, (hNS3.chg hc6 fun k hk e1 => by omega).chg h3 fun k hk e1 => ?_⟩
                have := hSl k e1
                omega
              have k6 : Hid (∀ u n' c', (w5.setCell ⟨e.g, 1, none⟩ (.slice u n' c')).cell? ⟨e.g, 1, none⟩ = some (.slice u n' c')) := fun u n' c' => (by simpa using hb5.set 1 (.slice u n' c') : Blk (w5.setCell ⟨e.g, 1, none⟩ (.slice u n' c')) e.g 67 #[.slice e.m.la e.m.ln e.m.lc, .slice u n' c']).cell 1
              clear hoe5 hb5 hH5 hg5 hNS3 hss hsn hsn2 hcn hrem2 hDn hHc hgc hsame hcs hbx y0 y1 hrL hrP hrP0 ho4
              have e4 : (((e.m.pn - j : Nat) : Int) == 0) = true := by
                have := hjp.out
                simp
                omega
              by_cases hcc : j < e.m.pc
              · have k7 := k6.out (some ⟨bg, bo + j * 2, none⟩) (e.m.pn - j) (e.m.pc - j)
                have hd7 := hdrp.out (some ⟨bg, bo + j * 2, none⟩) (e.m.pn - j) (e.m.pc - j)
                clear k6 hdrp
                go_wp2_with fail
                refine hd7.mono ?_
                rintro x w7 ⟨rfl, ⟨PL'', hH7⟩, hg7, hNS7⟩
                clear k7 hd7 hfz k1
                go_wp2
                go_roundw
                case rel => exact ⟨k + 1, m + 1, e2, D2, by omega, by go_num, rfl, hNS7, hg7, L'.eraseIdx i, PL'', hH7, hrem6.out, hfs.symm⟩
                case measure => simp [intOf] <;> omega
              · have k7 := k6.out (some ⟨bg, bo, none⟩) (e.m.pn - j) (e.m.pc - j)
                have k8 := k6.out (some ⟨bg, bo, none⟩) (e.m.pn - j) 0
                clear k6
                go_wp2_with fail
                refine (hdrp.out _ _ _).mono ?_
                rintro x w7 ⟨rfl, ⟨PL'', hH7⟩, hg7, hNS7⟩
                clear k7 k8 hdrp hfz k1
                go_wp2
                go_roundw
                case rel => exact ⟨k + 1, m + 1, e2, D2, by omega, by go_num, rfl, hNS7, hg7, L'.eraseIdx i, PL'', hH7, hrem6.out, hfs.symm⟩
                case measure => simp [intOf] <;> omega
            · have gX : Grew wr ((wr.drew.alloc (.cells #[] 72)).alloc (.cells #[] 69)) := ((Chg.refl _ wr).drew.alloc _).alloc _
              have oL : OE elLb ((wr.drew.alloc (.cells #[] 72)).alloc (.cells #[] 69)) wr.heap.size 72 (some ⟨wr.heap.size, 0, none⟩) 0 0 [] := (OE.made wr.drew wr.heap.size 72 (Nat.le_refl _)).alloc _
              have oP0 : OE elPt ((wr.drew.alloc (.cells #[] 72)).alloc (.cells #[] 69)) wr.heap.size 69 (some ⟨wr.heap.size + 1, 0, none⟩) 0 0 [] := by
                have := OE.made (E := elPt) (wr.drew.alloc (.cells #[] 72)) wr.heap.size 69 (by simp)
                rwa [World.size_alloc] at this
              have rL := hrL.out _ gX
              have hX : wr.heap.size ≤ wr.heap.size := Nat.le_refl _
              intro K hK
              go_wp2_with fail
              refine OnlyN.normal (hK _ _ (hsame.out _ ((Chg.refl _ wr).drew.alloc _)) ?_)
              clear hK K
              intro K hK
              go_wp2_with fail
              refine OnlyN.normal (hK _ _ (hsame.out _ gX) ?_)
              clear hK K
              have c20 : ((wr.drew.alloc (.cells #[] 72)).alloc (.cells #[] 69)).cell? ⟨e.g, 0, none⟩ = some (.slice e.m.la e.m.ln e.m.lc) := (hbx.grew gX).cell 0
              intro K hK
              go_wp2_with fail
              refine OnlyN.normal (hK _ _ (fun _ => ⟨_, _, _, rfl, rfl, by simp⟩) ?_)
              clear hK K
              intro K hK
              go_wp2_with (at_builtin; refine wpList_appE rfl _ _ 28 72 infoLab rfl Tryz.underlying28 rfl wr.heap.size (some ⟨wr.heap.size, 0, none⟩) 0 0 [] rfl oL (gX.size) e.m.la e.m.ln e.m.lc e.s.lbs rfl rL (by unfold maxLen; omega) (by omega) ?_; intro A2 c2 w2 h2)
              have g2 : Grew wr w2 := h2.grew gX (hd_le hX)
              have hz2 := g2.size
              refine OnlyN.normal (hK _ _ (hsame.out _ g2) ?_)
              clear hK K
              have g23 : Grew w2 w2 := Chg.refl _ _
              have oP : OE elPt w2 wr.heap.size 69 (some ⟨wr.heap.size + 1, 0, none⟩) 0 0 [] := oP0.apart oL (by decide) h2.chg
              have rP := hrP.out _ g2
              have gz : wr.heap.size ≤ w2.heap.size := g2.size
              have c21 := (hbx.grew g2).cell 1
              intro K hK
              go_wp2_with fail
              refine OnlyN.normal (hK _ _ (fun _ => ⟨_, _, _, rfl, rfl, by simp⟩) ?_)
              clear hK K
              intro K hK
              go_wp2_with (at_builtin; refine wpList_appE rfl _ _ 59 69 infoPt rfl Tryz.underlying59 rfl wr.heap.size (some ⟨wr.heap.size + 1, 0, none⟩) 0 0 [] rfl oP gz _ j _ (e.s.pts.take j) rfl rP (by unfold maxLen; omega) (by omega) ?_; intro A4 c4 w4 h4)
              obtain ⟨hN, g4, gz4⟩ := copy_lp (m := ⟨e.m.la, e.m.ln, e.m.lc, some ⟨bg, bo, none⟩, j, e.m.pc⟩) (s := ⟨e.s.lbs, e.s.pts.take j⟩) h2 gX (hd_le hX) g23 oP h4
              refine OnlyN.normal (hK _ _ (hsame.out _ g4) ?_)
              clear hK K
              have gW : Grew w4 (w4.alloc (.cells #[.slice A2 e.m.ln c2, .slice A4 j c4] 61)) := (Chg.refl _ w4).alloc _
              have hE5 : OE elSr (w4.alloc (.cells #[.slice A2 e.m.ln c2, .slice A4 j c4] 61)) w1.heap.size 61 D m q ms := ho4.row.grew (g4.trans gW)
              have hsrc : RE elSr (w4.alloc (.cells #[.slice A2 e.m.ln c2, .slice A4 j c4] 61)) (some ⟨w4.heap.size, 0, none⟩) 1 [⟨A2, e.m.ln, c2, A4, j, c4⟩] := RE.newAt rfl rfl rfl
              intro K hK
              go_wp2_with fail
              refine OnlyN.normal (hK _ _ (hsame.out _ (g4.trans gW)) ?_)
              clear hK K
              intro K hK
              go_wp2_with (at_builtin; refine wpList_appE rfl _ _ 36 61 infoSr rfl Tryz.underlying36 rfl w1.heap.size D m q ms rfl hE5 (by simp; omega) _ 1 1 [⟨A2, e.m.ln, c2, A4, j, c4⟩] rfl hsrc (by unfold maxLen; omega) (by omega) ?_; intro D2 e2 w5 h5)
              have hc5 : Chg (fun k => ∃ ad, D = some ad ∧ k = ad.block) wr w5 := Chg.step (S := fun k => ∃ ad, D = some ad ∧ k = ad.block) (Chg.of_grew (g4.trans gW)) h5.chg fun _ _ e => e
              have hNE : NsE w4 w1.heap.size ⟨A2, e.m.ln, c2, A4, j, c4⟩ ⟨e.s.lbs, e.s.pts.take j⟩ := NsE.lower hN (by omega)
              have hNS3 := (ho4.grew (g4.trans gW)).app (hNE.grew gW) h5
              rw [← hsn2.out] at hNS3
              refine OnlyN.normal (hK _ _ (sameIn_of hc5 hcs (fun k' hk' => by
                obtain rfl := List.mem_singleton.1 hk'
                exact hDn.out)) ?_)
              clear hK K
              go_wp2_with fail
              refine OnlyN.normal ?_
              have hH5 := hHc.out _ hc5
              have hg5 := hgc.out _ hc5
              clear h2 h4 oL oP rL rP gX g23 hN g4 gz4 gW hE5 hsrc h5 hc5 hNE g2 c21
              have hoe5 := hH5.tb.ok e heL
              have hb5 := hoe5.blk
              rw [hpa2] at hb5
              have k1 := hb5.cell 1
              have hfz := hb5.frozen 1
              have hfs : cutSS t ((V.take (k + 1)).map fun e => e.s.lbs) (L.map HEnt.s) = (L'.eraseIdx i).map HEnt.s := by
                rw [hss.out]
                refine fm_era hi ?_ fun i2 x hne hx => if_neg (hH5.lbs_ne hi hx hne)
                rw [if_pos rfl]
                unfold cutLeft
                rw [if_pos (by rw [hcn, hpl.out]; exact hjp.out)]
              have hrem6 : Hid (∀ x ∈ V.drop (k + 1), x ∈ L'.eraseIdx i) := fun x hx => mem_era_ne hi (hrem2.out x hx).1 (hrem2.out x hx).2
              have hdrp : Hid (∀ u n' c', Calls Tryz.prog 43 #[.pointer (some ⟨h, 0, none⟩), .string e.key] (w5.setCell ⟨e.g, 1, none⟩ (.slice u n' c')) fun x w' => x = .returned (.tuple #[]) ∧ (∃ PL'', HS S w' h b p (L'.eraseIdx i) cb PL'' cp lim) ∧ Chg S w1 w' ∧ NS w' w1.heap.size D2 (m + 1) e2 (cutV t (V.take (k + 1)))) := fun u n' c' => by
                have hc6 : Chg (fun k => k = e.g) w5 (w5.setCell ⟨e.g, 1, none⟩ (.slice u n' c')) := Chg.one _ _ _ _
                have hb6 : Blk (w5.setCell ⟨e.g, 1, none⟩ (.slice u n' c')) e.g 67 #[.slice e.m.la e.m.ln e.m.lc, .slice u n' c'] := by simpa using hb5.set 1 (.slice u n' c')
                refine (hH5.drop hi hc6 hb6).mono ?_
                rintro x w7 ⟨h1, PL'', h2, h3⟩
                refine ⟨h1, ⟨PL'', h2⟩, (hg5.step hc6 fun k _ e1 => by rw [e1]; exact hoe5.og).trans h3, (hNS3.chg hc6 fun k hk e1 => by omega).chg h3 fun k hk e1 => ?_⟩
                have := hSl k e1
                omega
              have k6 : Hid (∀ u n' c', (w5.setCell ⟨e.g, 1, none⟩ (.slice u n' c')).cell? ⟨e.g, 1, none⟩ = some (.slice u n' c')) := fun u n' c' => (by simpa using hb5.set 1 (.slice u n' c') : Blk (w5.setCell ⟨e.g, 1, none⟩ (.slice u n' c')) e.g 67 #[.slice e.m.la e.m.ln e.m.lc, .slice u n' c']).cell 1
              clear hoe5 hb5 hH5 hg5 hNS3 hss hsn hsn2 hcn hrem2 hDn hHc hgc hsame hcs hbx y0 y1 hrL hrP hrP0 ho4
              have e4 : (((e.m.pn - j : Nat) : Int) == 0) = true := by
                have := hjp.out
                simp
                omega
              by_cases hcc : j < e.m.pc
              · have k7 := k6.out (some ⟨bg, bo + j * 2, none⟩) (e.m.pn - j) (e.m.pc - j)
                have hd7 := hdrp.out (some ⟨bg, bo + j * 2, none⟩) (e.m.pn - j) (e.m.pc - j)
                clear k6 hdrp
                go_wp2_with fail
                refine hd7.mono ?_
                rintro x w7 ⟨rfl, ⟨PL'', hH7⟩, hg7, hNS7⟩
                clear k7 hd7 hfz k1
                go_wp2
                go_roundw
                case rel => exact ⟨k + 1, m + 1, e2, D2, by omega, by go_num, rfl, hNS7, hg7, L'.eraseIdx i, PL'', hH7, hrem6.out, hfs.symm⟩
                case measure => simp [intOf] <;> omega
              · have k7 := k6.out (some ⟨bg, bo, none⟩) (e.m.pn - j) (e.m.pc - j)
                have k8 := k6.out (some ⟨bg, bo, none⟩) (e.m.pn - j) 0
                clear k6
                go_wp2_with fail
                refine (hdrp.out _ _ _).mono ?_
                rintro x w7 ⟨rfl, ⟨PL'', hH7⟩, hg7, hNS7⟩
                clear k7 k8 hdrp hfz k1
                go_wp2
                go_roundw
                case rel => exact ⟨k + 1, m + 1, e2, D2, by omega, by go_num, rfl, hNS7, hg7, L'.eraseIdx i, PL'', hH7, hrem6.out, hfs.symm⟩
                case measure => simp [intOf] <;> omega
            · have gX : Grew wr ((wr.drew.alloc (.cells #[] 69)).alloc (.cells #[] 72)) := ((Chg.refl _ wr).drew.alloc _).alloc _
              have oP0 : OE elPt ((wr.drew.alloc (.cells #[] 69)).alloc (.cells #[] 72)) wr.heap.size 69 (some ⟨wr.heap.size, 0, none⟩) 0 0 [] := (OE.made wr.drew wr.heap.size 69 (Nat.le_refl _)).alloc _
              have oL : OE elLb ((wr.drew.alloc (.cells #[] 69)).alloc (.cells #[] 72)) wr.heap.size 72 (some ⟨wr.heap.size + 1, 0, none⟩) 0 0 [] := by
                have := OE.made (E := elLb) (wr.drew.alloc (.cells #[] 69)) wr.heap.size 72 (by simp)
                rwa [World.size_alloc] at this
              have rL := hrL.out _ gX
              have hX : wr.heap.size ≤ wr.heap.size + 1 := by omega
              intro K hK
              go_wp2_with fail
              refine OnlyN.normal (hK _ _ (hsame.out _ ((Chg.refl _ wr).drew.alloc _)) ?_)
              clear hK K
              intro K hK
              go_wp2_with fail
              refine OnlyN.normal (hK _ _ (hsame.out _ gX) ?_)
              clear hK K
              have c20 : ((wr.drew.alloc (.cells #[] 69)).alloc (.cells #[] 72)).cell? ⟨e.g, 0, none⟩ = some (.slice e.m.la e.m.ln e.m.lc) := (hbx.grew gX).cell 0
              intro K hK
              go_wp2_with fail
              refine OnlyN.normal (hK _ _ (fun _ => ⟨_, _, _, rfl, rfl, by simp⟩) ?_)
              clear hK K
              intro K hK
              go_wp2_with (at_builtin; refine wpList_appE rfl _ _ 28 72 infoLab rfl Tryz.underlying28 rfl wr.heap.size (some ⟨wr.heap.size + 1, 0, none⟩) 0 0 [] rfl oL (gX.size) e.m.la e.m.ln e.m.lc e.s.lbs rfl rL (by unfold maxLen; omega) (by omega) ?_; intro A2 c2 w2 h2)
              have g2 : Grew wr w2 := h2.grew gX (hd_le hX)
              have hz2 := g2.size
              refine OnlyN.normal (hK _ _ (hsame.out _ g2) ?_)
              clear hK K
              have g23 : Grew w2 w2 := Chg.refl _ _
              have oP : OE elPt w2 wr.heap.size 69 (some ⟨wr.heap.size, 0, none⟩) 0 0 [] := oP0.apart oL (by decide) h2.chg
              have rP := hrP.out _ g2
              have gz : wr.heap.size ≤ w2.heap.size := g2.size
              have c21 := (hbx.grew g2).cell 1
              intro K hK
              go_wp2_with fail
              refine OnlyN.normal (hK _ _ (fun _ => ⟨_, _, _, rfl, rfl, by simp⟩) ?_)
              clear hK K
              intro K hK
              go_wp2_with (at_builtin; refine wpList_appE rfl _ _ 59 69 infoPt rfl Tryz.underlying59 rfl wr.heap.size (some ⟨wr.heap.size, 0, none⟩) 0 0 [] rfl oP gz _ j _ (e.s.pts.take j) rfl rP (by unfold maxLen; omega) (by omega) ?_; intro A4 c4 w4 h4)
              obtain ⟨hN, g4, gz4⟩ := copy_lp (m := ⟨e.m.la, e.m.ln, e.m.lc, some ⟨bg, bo, none⟩, j, e.m.pc⟩) (s := ⟨e.s.lbs, e.s.pts.take j⟩) h2 gX (hd_le hX) g23 oP h4
              refine OnlyN.normal (hK _ _ (hsame.out _ g4) ?_)
              clear hK K
              have gW : Grew w4 (w4.alloc (.cells #[.slice A2 e.m.ln c2, .slice A4 j c4] 61)) := (Chg.refl _ w4).alloc _
              have hE5 : OE elSr (w4.alloc (.cells #[.slice A2 e.m.ln c2, .slice A4 j c4] 61)) w1.heap.size 61 D m q ms := ho4.row.grew (g4.trans gW)
              have hsrc : RE elSr (w4.alloc (.cells #[.slice A2 e.m.ln c2, .slice A4 j c4] 61)) (some ⟨w4.heap.size, 0, none⟩) 1 [⟨A2, e.m.ln, c2, A4, j, c4⟩] := RE.newAt rfl rfl rfl
              intro K hK
              go_wp2_with fail
              refine OnlyN.normal (hK _ _ (hsame.out _ (g4.trans gW)) ?_)
              clear hK K
              intro K hK
              go_wp2_with (at_builtin; refine wpList_appE rfl _ _ 36 61 infoSr rfl Tryz.underlying36 rfl w1.heap.size D m q ms rfl hE5 (by simp; omega) _ 1 1 [⟨A2, e.m.ln, c2, A4, j, c4⟩] rfl hsrc (by unfold maxLen; omega) (by omega) ?_; intro D2 e2 w5 h5)
              have hc5 : Chg (fun k => ∃ ad, D = some ad ∧ k = ad.block) wr w5 := Chg.step (S := fun k => ∃ ad, D = some ad ∧ k = ad.block) (Chg.of_grew (g4.trans gW)) h5.chg fun _ _ e => e
              have hNE : NsE w4 w1.heap.size ⟨A2, e.m.ln, c2, A4, j, c4⟩ ⟨e.s.lbs, e.s.pts.take j⟩ := NsE.lower hN (by omega)
              have hNS3 := (ho4.grew (g4.trans gW)).app (hNE.grew gW) h5
              rw [← hsn2.out] at hNS3
              refine OnlyN.normal (hK _ _ (sameIn_of hc5 hcs (fun k' hk' => by
                obtain rfl := List.mem_singleton.1 hk'
                exact hDn.out)) ?_)
              clear hK K
              go_wp2_with fail
              refine OnlyN.normal ?_
              have hH5 := hHc.out _ hc5
              have hg5 := hgc.out _ hc5
              clear h2 h4 oL oP rL rP gX g23 hN g4 gz4 gW hE5 hsrc h5 hc5 hNE g2 c21
              have hoe5 := hH5.tb.ok e heL
              have hb5 := hoe5.blk
              rw [hpa2] at hb5
              have k1 := hb5.cell 1
              have hfz := hb5.frozen 1
              have hfs : cutSS t ((V.take (k + 1)).map fun e => e.s.lbs) (L.map HEnt.s) = (L'.eraseIdx i).map HEnt.s := by
                rw [hss.out]
                refine fm_era hi ?_ fun i2 x hne hx => if_neg (hH5.lbs_ne hi hx hne)
                rw [if_pos rfl]
                unfold cutLeft
                rw [if_pos (by rw [hcn, hpl.out]; exact hjp.out)]
              have hrem6 : Hid (∀ x ∈ V.drop (k + 1), x ∈ L'.eraseIdx i) := fun x hx => mem_era_ne hi (hrem2.out x hx).1 (hrem2.out x hx).2
              have hdrp : Hid (∀ u n' c', Calls Tryz.prog 43 #[.pointer (some ⟨h, 0, none⟩), .string e.key] (w5.setCell ⟨e.g, 1, none⟩ (.slice u n' c')) fun x w' => x = .returned (.tuple #[]) ∧ (∃ PL'', HS S w' h b p (L'.eraseIdx i) cb PL'' cp lim) ∧ Chg S w1 w' ∧ NS w' w1.heap.size D2 (m + 1) e2 (cutV t (V.take (k + 1)))) := fun u n' c' => by
                have hc6 : Chg (fun k => k = e.g) w5 (w5.setCell ⟨e.g, 1, none⟩ (.slice u n' c')) := Chg.one _ _ _ _
                have hb6 : Blk (w5.setCell ⟨e.g, 1, none⟩ (.slice u n' c')) e.g 67 #[.slice e.m.la e.m.ln e.m.lc, .slice u n' c'] := by simpa using hb5.set 1 (.slice u n' c')
                refine (hH5.drop hi hc6 hb6).mono ?_
                rintro x w7 ⟨h1, PL'', h2, h3⟩
                refine ⟨h1, ⟨PL'', h2⟩, (hg5.step hc6 fun k _ e1 => by rw [e1]; exact hoe5.og).trans h3, (hNS3.chg hc6 fun k hk e1 => by omega).chg h3 fun k hk e1 => ?_⟩
                have := hSl k e1
                omega
              have k6 : Hid (∀ u n' c', (w5.setCell ⟨e.g, 1, none⟩ (.slice u n' c')).cell? ⟨e.g, 1, none⟩ = some (.slice u n' c')) := fun u n' c' => (by simpa using hb5.set 1 (.slice u n' c') : Blk (w5.setCell ⟨e.g, 1, none⟩ (.slice u n' c')) e.g 67 #[.slice e.m.la e.m.ln e.m.lc, .slice u n' c']).cell 1
              clear hoe5 hb5 hH5 hg5 hNS3 hss hsn hsn2 hcn hrem2 hDn hHc hgc hsame hcs hbx y0 y1 hrL hrP hrP0 ho4
              have e4 : (((e.m.pn - j : Nat) : Int) == 0) = true := by
                have := hjp.out
                simp
                omega
              by_cases hcc : j < e.m.pc
              · have k7 := k6.out (some ⟨bg, bo + j * 2, none⟩) (e.m.pn - j) (e.m.pc - j)
                have hd7 := hdrp.out (some ⟨bg, bo + j * 2, none⟩) (e.m.pn - j) (e.m.pc - j)
                clear k6 hdrp
                go_wp2_with fail
                refine hd7.mono ?_
                rintro x w7 ⟨rfl, ⟨PL'', hH7⟩, hg7, hNS7⟩
                clear k7 hd7 hfz k1
                go_wp2
                go_roundw
                case rel => exact ⟨k + 1, m + 1, e2, D2, by omega, by go_num, rfl, hNS7, hg7, L'.eraseIdx i, PL'', hH7, hrem6.out, hfs.symm⟩
                case measure => simp [intOf] <;> omega
              · have k7 := k6.out (some ⟨bg, bo, none⟩) (e.m.pn - j) (e.m.pc - j)
                have k8 := k6.out (some ⟨bg, bo, none⟩) (e.m.pn - j) 0
                clear k6
                go_wp2_with fail
                refine (hdrp.out _ _ _).mono ?_
                rintro x w7 ⟨rfl, ⟨PL'', hH7⟩, hg7, hNS7⟩
                clear k7 k8 hdrp hfz k1
                go_wp2
                go_roundw
                case rel => exact ⟨k + 1, m + 1, e2, D2, by omega, by go_num, rfl, hNS7, hg7, L'.eraseIdx i, PL'', hH7, hrem6.out, hfs.symm⟩
                case measure => simp [intOf] <;> omega
    · obtain rfl : k = V.length := by omega
      rw [List.take_length] at hNS hms
      have hall : cutSS t (V.map fun e => e.s.lbs) (L.map HEnt.s) = (L.map HEnt.s).filterMap (cutLeft t) := by
        unfold cutSS
        refine fm_same fun s hs => ?_
        obtain ⟨e, he, rfl⟩ := List.mem_map.1 hs
        rw [if_pos (List.any_eq_true.2 ⟨e.s.lbs, List.mem_map.2 ⟨e, hp.out.mem_iff.2 he, rfl⟩, by simp⟩)]
      rw [hall] at hms
      have hln := hNS.len
      have hlv : (cutV t V).length ≤ V.length := List.length_filterMap_le _ _
      have hpp : (cutV t V).Perm ((L.map HEnt.s).filterMap (cutOff t)) := by
        have : cutV t V = (V.map HEnt.s).filterMap (cutOff t) := by
          unfold cutV
          rw [List.filterMap_map]
          rfl
        rw [this]
        exact (hp.out.map _).filterMap _
      go_wp2_with fail
      refine (sorted_ns hNS (by omega)).mono ?_
      rintro e w3 ⟨rfl, ss, hpm, hs, hN2, hc⟩
      have hz1 := g1.size
      have hz2 := hg.size
      go_wp2
      go_ret
      refine ⟨D, m, q, by simp, ss, hN2.mono g1.size, hpm.trans hpp, hs, ((Chg.of_grew g1).trans hg).step hc fun k hk e => ?_, L', PL', hH'.chg hc fun k hk e => ?_, hms⟩
      · omega
      · have := hSl k hk
        omega
end Go.Proofs.YtailooldnelecaaGreatDoor
