/-
  Several texts in one:
  Lists of series copied. Conditions: lengths that memory bears.
-/
import Derived.Test.YtjgbdkokcgcpjaaDoorPart17
import Derived.Test.YtjgbdkokcgcpjaaDoorPart18
import Derived.Test.YtjgbdkokcgcpjaaDoorPart22

namespace Go.Proofs.YtjgbdkokcgcpjaaDoor
open Go.RowKit

theorem infoSer : (Tryd.prog.info? 46).map (fun i => (i.zero, i.size, i.bytes)) = some (some (.agg #[.slice none 0 0, .slice none 0 0]), 2, 48) := by kernel_rfl
theorem NsE.mono {w : World} {base base' : Nat} {m : SerM} {s : Ser} (h : NsE w base m s) (hb : base' ≤ base) : NsE w base' m s := ⟨Own.mono h.lb hb, Own.mono h.pt hb⟩
/-- lengths that memory bears -/
structure Small (ss : List Ser) : Prop where
  n : ss.length ≤ 1073741824
  el : ∀ s ∈ ss, s.lbs.length ≤ 1048576 ∧ s.pts.length ≤ 1099511627776
/-- new series: their labels and points lie in rows of the call's own -/
def NewS (w : World) (ss : List Ser) (e : Ending) (w' : World) : Prop := ∃ A c, e = .returned (.slice A ss.length c) ∧ NS w' w.heap.size A ss.length c ss ∧ Grew w w'
theorem ApE.at0 {α : Type} {E : El α} {w w' : World} {base : Nat} {t : TypeId} {A A' : Option Addr} {n c c' : Nat} {l : List α} (h : ApE E w base t A (0 + n) c ([] ++ l) A' c' w') : OE E w' base t A' n c' l := by
  have := h.oe
  rwa [Nat.zero_add, List.nil_append] at this
/-- both halves copied: labels, then points -/
theorem copy_ab {W w1 w2 w3 w4 : World} {m : SerM} {s : Ser} {A2 A4 X Y : Option Addr} {c2 c4 : Nat} (h2 : ApE elLb w1 W.heap.size 67 X (0 + m.ln) 0 ([] ++ s.lbs) A2 c2 w2) (g1 : Grew W w1) (hX : ∀ ad, X = some ad → W.heap.size ≤ ad.block) (g23 : Grew w2 w3)
    (hY : OE elPt w3 W.heap.size 49 Y 0 0 []) (h4 : ApE elPt w3 W.heap.size 49 Y (0 + m.pn) 0 ([] ++ s.pts) A4 c4 w4) : NsE w4 W.heap.size ⟨A2, m.ln, c2, A4, m.pn, c4⟩ s ∧ Grew W w4 ∧ W.heap.size ≤ w4.heap.size := by
  have g2 : Grew W w2 := h2.grew g1 hX
  have g3 := g2.trans g23
  have g4 : Grew W w4 := h4.grew g3 (fun ad e => (Own.blk_lt hY ad e).1)
  refine ⟨⟨(h2.at0.grew g23).apart hY (by decide) h4.chg, h4.at0⟩, g4, g4.size⟩
theorem head_le {a b : Nat} (h : a ≤ b) : ∀ ad, some (⟨b, 0, none⟩ : Addr) = some ad → a ≤ ad.block := fun ad e => by
  injection e with e
  subst e
  exact h

set_option maxRecDepth 100000 in
set_option maxHeartbeats 4000000 in
theorem copyS_any (A : Option Addr) (n c : Nat) (ss : List Ser) (w : World) (h : RS w A n ss) (hs : Small ss) :
    Calls Tryd.prog 33 #[.slice A n c] w (NewS w ss) := by
  have hln := h.len
  have hn : n ≤ 1073741824 := by rw [← hln]; exact hs.n
  replace hln := Lib.hid hln
  replace hs := Lib.hid hs
  go_enter Tryd.func33, Tryd.ntmps33
  go_wp2
  go_loopw [3, 8] (fun o i wr => ∃ (k : Nat) (B : Option Addr) (C : Nat), k ≤ n ∧ i = .int .i64 (k : Int) ∧ o = .slice B k C ∧ NS wr w.heap.size B k C (ss.take k) ∧ Grew w wr) (fun o i _ => n - (intOf i).toNat)
  case atStart => exact ⟨0, none, 0, by omega, rfl, rfl, NS.nil _ _, Chg.refl _ _⟩
  case round =>
    obtain ⟨k, B, C, hk, rfl, rfl, ho, hg⟩ := hrel
    by_cases hlt : k < n
    · obtain ⟨ad, m, s, rfl, hx, hsi, x0, x1⟩ := (h.grew hg).at_ hlt
      obtain ⟨W, hW⟩ : ∃ W, W = wr.alloc (.cells #[.slice m.la m.ln m.lc, .slice m.pa m.pn m.pc] 46) := ⟨_, rfl⟩
      have hgW : Grew wr W := by rw [hW]; exact (Chg.refl _ wr).alloc _
      have hbx : Blk W wr.heap.size 46 #[.slice m.la m.ln m.lc, .slice m.pa m.pn m.pc] := by rw [hW]; exact Blk.new wr _ _
      have b0 := hbx.cell 0
      have b1 := hbx.cell 1
      have hsW := hsi.grew hgW
      have hoW := ho.grew hgW
      have hg0 := hg.trans hgW
      have hsz0 := hg0.size
      have hel := hs.out.el s (List.mem_of_getElem? hx)
      have hl1 : m.ln ≤ 1048576 := by rw [← hsi.lb.1]; exact hel.1
      have hp1 : m.pn ≤ 1099511627776 := by rw [← hsi.pt.1]; exact hel.2
      have htk := Lib.hid (take_snoc hx)
      have hcs := cellsIn_one hbx
      have hb0 := hbx.lt
      have hne : ∀ ad', B = some ad' → ad'.block ≠ wr.heap.size := fun ad' e => by have := (ho.blk ad' e).2; omega
      replace hne := Lib.hid hne
      have hsame : Hid (∀ W1, Grew W W1 → SameIn [wr.heap.size] W W1) := fun W1 h1 => sameIn_of h1 hcs fun _ _ e => e
      clear hx hel ho hg hgW hsi
      go_wp2_with fail
      rw [← hW]
      clear hW x0 x1
      refine wp_region_textsD [(3, 1)] [wr.heap.size] [[0, 1, 2, 3, 4, 5, 6, 7, 8, 9, 10, 11, 12], [0, 1, 2, 3, 5, 4, 6, 7, 8, 9, 10, 11, 12], [0, 5, 1, 2, 3, 4, 6, 7, 8, 9, 10, 11, 12]] (by kernel_rfl) (by kernel_rfl) hcs ?_
      intro t ht
      simp only [List.mem_cons, List.not_mem_nil, or_false] at ht
      rcases ht with rfl | rfl | rfl
      all_goals
        simp only [opsOf, List.filterMap_cons, List.filterMap_nil, List.getElem?_toArray, List.getElem?_cons_zero, List.getElem?_cons_succ]
        simp only [wpU, tagOf, chk, List.cons_append, List.nil_append]
      · -- labels' empty slice, labels, points' empty slice, points
        have gX : Grew W (W.drew.alloc (.cells #[] 67)) := (Chg.refl _ W).drew.alloc _
        have oL : OE elLb (W.drew.alloc (.cells #[] 67)) W.heap.size 67 (some ⟨W.heap.size, 0, none⟩) 0 0 [] := OE.made W.drew W.heap.size 67 (Nat.le_refl _)
        have rL := hsW.lb.grew gX
        have hX : W.heap.size ≤ W.heap.size := Nat.le_refl _
        intro K hK
        go_wp2_with fail
        refine OnlyN.normal (hK _ _ (hsame.out _ gX) ?_)
        clear hK K
        intro K hK
        go_wp2_with fail
        refine OnlyN.normal (hK _ _ (fun _ => ⟨_, _, _, rfl, rfl, by simp⟩) ?_)
        clear hK K
        intro K hK
        go_wp2_with (at_builtin; refine wpList_appE rfl _ _ 43 67 infoLab rfl Tryd.underlying43 rfl W.heap.size (some ⟨W.heap.size, 0, none⟩) 0 0 [] rfl oL (gX.size) m.la m.ln m.lc s.lbs rfl rL (by unfold maxLen; omega) (by omega) ?_; intro A2 c2 w2 h2)
        have g2 : Grew W w2 := h2.grew gX (head_le hX)
        have hz2 := g2.size
        refine OnlyN.normal (hK _ _ (hsame.out _ g2) ?_)
        clear hK K
        have g23 : Grew w2 (w2.alloc (.cells #[] 49)) := (Chg.refl _ w2).alloc _
        have oP : OE elPt (w2.alloc (.cells #[] 49)) W.heap.size 49 (some ⟨w2.heap.size, 0, none⟩) 0 0 [] := OE.made w2 W.heap.size 49 g2.size
        have rP := hsW.pt.grew (g2.trans g23)
        have gz : W.heap.size ≤ (w2.alloc (.cells #[] 49)).heap.size := (g2.trans g23).size
        have c21 := (hbx.grew g2).cell 1
        intro K hK
        go_wp2_with fail
        refine OnlyN.normal (hK _ _ (hsame.out _ (g2.trans g23)) ?_)
        clear hK K
        have c22 : (w2.alloc (.cells #[] 49)).cell? ⟨wr.heap.size, 1, none⟩ = some (.slice m.pa m.pn m.pc) := (hbx.grew (g2.trans g23)).cell 1
        intro K hK
        go_wp2_with fail
        refine OnlyN.normal (hK _ _ (fun _ => ⟨_, _, _, rfl, rfl, by simp⟩) ?_)
        clear hK K
        intro K hK
        go_wp2_with (at_builtin; refine wpList_appE rfl _ _ 44 49 infoPt rfl Tryd.underlying44 rfl W.heap.size (some ⟨w2.heap.size, 0, none⟩) 0 0 [] rfl oP gz m.pa m.pn m.pc s.pts rfl rP (by unfold maxLen; omega) (by omega) ?_; intro A4 c4 w4 h4)
        obtain ⟨hN, g4, gz4⟩ := copy_ab h2 gX (head_le hX) g23 oP h4
        have hsz4 := g4.size
        obtain ⟨ms, ho4⟩ := (hoW.grew g4).op
        have hc4 := ho4.row.cap
        refine OnlyN.normal (hK _ _ (hsame.out _ g4) ?_)
        clear hK K
        intro K hK
        go_wp2_with fail
        refine OnlyN.normal (hK _ _ (hsame.out _ (g4.alloc _)) ?_)
        clear hK K
        have hE5 : OE elSr (w4.alloc (.cells #[.slice A2 m.ln c2, .slice A4 m.pn c4] 46)) w.heap.size 46 B k C ms := ho4.row.grew ((Chg.refl _ w4).alloc _)
        have hsrc : RE elSr (w4.alloc (.cells #[.slice A2 m.ln c2, .slice A4 m.pn c4] 46)) (some ⟨w4.heap.size, 0, none⟩) 1 [⟨A2, m.ln, c2, A4, m.pn, c4⟩] := RE.newAt rfl rfl rfl
        intro K hK
        go_wp2_with (at_builtin; refine wpList_appE rfl _ _ 22 46 infoSer rfl Tryd.underlying22 rfl w.heap.size B k C ms rfl hE5 (by simp; omega) _ 1 1 [⟨A2, m.ln, c2, A4, m.pn, c4⟩] rfl hsrc (by unfold maxLen; omega) (by omega) ?_; intro B2 C2 w5 h5)
        have hNS := (ho4.grew ((Chg.refl _ w4).alloc (.cells #[.slice A2 m.ln c2, .slice A4 m.pn c4] 46))).app ((NsE.mono hN hsz0).grew ((Chg.refl _ w4).alloc _)) h5
        have hg5 : Grew w w5 := h5.grew ((hg0.trans g4).alloc _) (fun ad e => (Own.blk_lt ho4.row ad e).1)
        refine OnlyN.normal (hK _ _ (sameIn_of ((Chg.of_grew (g4.alloc _)).trans h5.chg) hcs (fun k' hk' ⟨ad', e5, e6⟩ => by
          simp only [List.mem_cons, List.not_mem_nil, or_false] at hk'
          rw [hk'] at e6
          exact hne.out ad' e5 e6.symm)) ?_)
        clear hK K
        go_wp2_with fail
        refine OnlyN.normal ?_
        rw [← htk.out] at hNS
        clear hoW ho4 hE5 hsrc h5 h4 h2 oL rL rP oP gX g23 hN g4 hb0 hbx hsW b0 b1
        go_wp2
        go_roundw
        case rel => exact ⟨k + 1, B2, C2, by omega, by go_num, rfl, hNS, hg5⟩
        case measure => simp [intOf] <;> omega
      · -- both empty slices, labels, points
        have gX : Grew W ((W.drew.alloc (.cells #[] 67)).alloc (.cells #[] 49)) := ((Chg.refl _ W).drew.alloc _).alloc _
        have oL : OE elLb ((W.drew.alloc (.cells #[] 67)).alloc (.cells #[] 49)) W.heap.size 67 (some ⟨W.heap.size, 0, none⟩) 0 0 [] := (OE.made W.drew W.heap.size 67 (Nat.le_refl _)).alloc _
        have oP0 : OE elPt ((W.drew.alloc (.cells #[] 67)).alloc (.cells #[] 49)) W.heap.size 49 (some ⟨W.heap.size + 1, 0, none⟩) 0 0 [] := by
          have := OE.made (E := elPt) (W.drew.alloc (.cells #[] 67)) W.heap.size 49 (by simp)
          rwa [World.size_alloc] at this
        have rL := hsW.lb.grew gX
        have hX : W.heap.size ≤ W.heap.size := Nat.le_refl _
        intro K hK
        go_wp2_with fail
        refine OnlyN.normal (hK _ _ (hsame.out _ ((Chg.refl _ W).drew.alloc _)) ?_)
        clear hK K
        intro K hK
        go_wp2_with fail
        refine OnlyN.normal (hK _ _ (fun _ => ⟨_, _, _, rfl, rfl, by simp⟩) ?_)
        clear hK K
        intro K hK
        go_wp2_with fail
        refine OnlyN.normal (hK _ _ (hsame.out _ gX) ?_)
        clear hK K
        intro K hK
        go_wp2_with (at_builtin; refine wpList_appE rfl _ _ 43 67 infoLab rfl Tryd.underlying43 rfl W.heap.size (some ⟨W.heap.size, 0, none⟩) 0 0 [] rfl oL (gX.size) m.la m.ln m.lc s.lbs rfl rL (by unfold maxLen; omega) (by omega) ?_; intro A2 c2 w2 h2)
        have g2 : Grew W w2 := h2.grew gX (head_le hX)
        have hz2 := g2.size
        refine OnlyN.normal (hK _ _ (hsame.out _ g2) ?_)
        clear hK K
        have g23 : Grew w2 w2 := Chg.refl _ _
        have oP : OE elPt w2 W.heap.size 49 (some ⟨W.heap.size + 1, 0, none⟩) 0 0 [] := oP0.apart oL (by decide) h2.chg
        have rP := hsW.pt.grew g2
        have gz : W.heap.size ≤ w2.heap.size := g2.size
        have c21 := (hbx.grew g2).cell 1
        intro K hK
        go_wp2_with fail
        refine OnlyN.normal (hK _ _ (fun _ => ⟨_, _, _, rfl, rfl, by simp⟩) ?_)
        clear hK K
        intro K hK
        go_wp2_with (at_builtin; refine wpList_appE rfl _ _ 44 49 infoPt rfl Tryd.underlying44 rfl W.heap.size (some ⟨W.heap.size + 1, 0, none⟩) 0 0 [] rfl oP gz m.pa m.pn m.pc s.pts rfl rP (by unfold maxLen; omega) (by omega) ?_; intro A4 c4 w4 h4)
        obtain ⟨hN, g4, gz4⟩ := copy_ab h2 gX (head_le hX) g23 oP h4
        have hsz4 := g4.size
        obtain ⟨ms, ho4⟩ := (hoW.grew g4).op
        have hc4 := ho4.row.cap
        refine OnlyN.normal (hK _ _ (hsame.out _ g4) ?_)
        clear hK K
        intro K hK
        go_wp2_with fail
        refine OnlyN.normal (hK _ _ (hsame.out _ (g4.alloc _)) ?_)
        clear hK K
        have hE5 : OE elSr (w4.alloc (.cells #[.slice A2 m.ln c2, .slice A4 m.pn c4] 46)) w.heap.size 46 B k C ms := ho4.row.grew ((Chg.refl _ w4).alloc _)
        have hsrc : RE elSr (w4.alloc (.cells #[.slice A2 m.ln c2, .slice A4 m.pn c4] 46)) (some ⟨w4.heap.size, 0, none⟩) 1 [⟨A2, m.ln, c2, A4, m.pn, c4⟩] := RE.newAt rfl rfl rfl
        intro K hK
        go_wp2_with (at_builtin; refine wpList_appE rfl _ _ 22 46 infoSer rfl Tryd.underlying22 rfl w.heap.size B k C ms rfl hE5 (by simp; omega) _ 1 1 [⟨A2, m.ln, c2, A4, m.pn, c4⟩] rfl hsrc (by unfold maxLen; omega) (by omega) ?_; intro B2 C2 w5 h5)
        have hNS := (ho4.grew ((Chg.refl _ w4).alloc (.cells #[.slice A2 m.ln c2, .slice A4 m.pn c4] 46))).app ((NsE.mono hN hsz0).grew ((Chg.refl _ w4).alloc _)) h5
        have hg5 : Grew w w5 := h5.grew ((hg0.trans g4).alloc _) (fun ad e => (Own.blk_lt ho4.row ad e).1)
        refine OnlyN.normal (hK _ _ (sameIn_of ((Chg.of_grew (g4.alloc _)).trans h5.chg) hcs (fun k' hk' ⟨ad', e5, e6⟩ => by
          simp only [List.mem_cons, List.not_mem_nil, or_false] at hk'
          rw [hk'] at e6
          exact hne.out ad' e5 e6.symm)) ?_)
        clear hK K
        go_wp2_with fail
        refine OnlyN.normal ?_
        rw [← htk.out] at hNS
        clear hoW ho4 hE5 hsrc h5 h4 h2 oL rL rP oP gX g23 hN g4 hb0 hbx hsW b0 b1
        go_wp2
        go_roundw
        case rel => exact ⟨k + 1, B2, C2, by omega, by go_num, rfl, hNS, hg5⟩
        case measure => simp [intOf] <;> omega
      · -- points' empty slice, labels' one, labels, points
        have gX : Grew W ((W.drew.alloc (.cells #[] 49)).alloc (.cells #[] 67)) := ((Chg.refl _ W).drew.alloc _).alloc _
        have oP0 : OE elPt ((W.drew.alloc (.cells #[] 49)).alloc (.cells #[] 67)) W.heap.size 49 (some ⟨W.heap.size, 0, none⟩) 0 0 [] := (OE.made W.drew W.heap.size 49 (Nat.le_refl _)).alloc _
        have oL : OE elLb ((W.drew.alloc (.cells #[] 49)).alloc (.cells #[] 67)) W.heap.size 67 (some ⟨W.heap.size + 1, 0, none⟩) 0 0 [] := by
          have := OE.made (E := elLb) (W.drew.alloc (.cells #[] 49)) W.heap.size 67 (by simp)
          rwa [World.size_alloc] at this
        have rL := hsW.lb.grew gX
        have hX : W.heap.size ≤ W.heap.size + 1 := by omega
        intro K hK
        go_wp2_with fail
        refine OnlyN.normal (hK _ _ (hsame.out _ ((Chg.refl _ W).drew.alloc _)) ?_)
        clear hK K
        intro K hK
        go_wp2_with fail
        refine OnlyN.normal (hK _ _ (hsame.out _ gX) ?_)
        clear hK K
        intro K hK
        go_wp2_with fail
        refine OnlyN.normal (hK _ _ (fun _ => ⟨_, _, _, rfl, rfl, by simp⟩) ?_)
        clear hK K
        intro K hK
        go_wp2_with (at_builtin; refine wpList_appE rfl _ _ 43 67 infoLab rfl Tryd.underlying43 rfl W.heap.size (some ⟨W.heap.size + 1, 0, none⟩) 0 0 [] rfl oL (gX.size) m.la m.ln m.lc s.lbs rfl rL (by unfold maxLen; omega) (by omega) ?_; intro A2 c2 w2 h2)
        have g2 : Grew W w2 := h2.grew gX (head_le hX)
        have hz2 := g2.size
        refine OnlyN.normal (hK _ _ (hsame.out _ g2) ?_)
        clear hK K
        have g23 : Grew w2 w2 := Chg.refl _ _
        have oP : OE elPt w2 W.heap.size 49 (some ⟨W.heap.size, 0, none⟩) 0 0 [] := oP0.apart oL (by decide) h2.chg
        have rP := hsW.pt.grew g2
        have gz : W.heap.size ≤ w2.heap.size := g2.size
        have c21 := (hbx.grew g2).cell 1
        intro K hK
        go_wp2_with fail
        refine OnlyN.normal (hK _ _ (fun _ => ⟨_, _, _, rfl, rfl, by simp⟩) ?_)
        clear hK K
        intro K hK
        go_wp2_with (at_builtin; refine wpList_appE rfl _ _ 44 49 infoPt rfl Tryd.underlying44 rfl W.heap.size (some ⟨W.heap.size, 0, none⟩) 0 0 [] rfl oP gz m.pa m.pn m.pc s.pts rfl rP (by unfold maxLen; omega) (by omega) ?_; intro A4 c4 w4 h4)
        obtain ⟨hN, g4, gz4⟩ := copy_ab h2 gX (head_le hX) g23 oP h4
        have hsz4 := g4.size
        obtain ⟨ms, ho4⟩ := (hoW.grew g4).op
        have hc4 := ho4.row.cap
        refine OnlyN.normal (hK _ _ (hsame.out _ g4) ?_)
        clear hK K
        intro K hK
        go_wp2_with fail
        refine OnlyN.normal (hK _ _ (hsame.out _ (g4.alloc _)) ?_)
        clear hK K
        have hE5 : OE elSr (w4.alloc (.cells #[.slice A2 m.ln c2, .slice A4 m.pn c4] 46)) w.heap.size 46 B k C ms := ho4.row.grew ((Chg.refl _ w4).alloc _)
        have hsrc : RE elSr (w4.alloc (.cells #[.slice A2 m.ln c2, .slice A4 m.pn c4] 46)) (some ⟨w4.heap.size, 0, none⟩) 1 [⟨A2, m.ln, c2, A4, m.pn, c4⟩] := RE.newAt rfl rfl rfl
        intro K hK
        go_wp2_with (at_builtin; refine wpList_appE rfl _ _ 22 46 infoSer rfl Tryd.underlying22 rfl w.heap.size B k C ms rfl hE5 (by simp; omega) _ 1 1 [⟨A2, m.ln, c2, A4, m.pn, c4⟩] rfl hsrc (by unfold maxLen; omega) (by omega) ?_; intro B2 C2 w5 h5)
        have hNS := (ho4.grew ((Chg.refl _ w4).alloc (.cells #[.slice A2 m.ln c2, .slice A4 m.pn c4] 46))).app ((NsE.mono hN hsz0).grew ((Chg.refl _ w4).alloc _)) h5
        have hg5 : Grew w w5 := h5.grew ((hg0.trans g4).alloc _) (fun ad e => (Own.blk_lt ho4.row ad e).1)
        refine OnlyN.normal (hK _ _ (sameIn_of ((Chg.of_grew (g4.alloc _)).trans h5.chg) hcs (fun k' hk' ⟨ad', e5, e6⟩ => by
          simp only [List.mem_cons, List.not_mem_nil, or_false] at hk'
          rw [hk'] at e6
          exact hne.out ad' e5 e6.symm)) ?_)
        clear hK K
        go_wp2_with fail
        refine OnlyN.normal ?_
        rw [← htk.out] at hNS
        clear hoW ho4 hE5 hsrc h5 h4 h2 oL rL rP oP gX g23 hN g4 hb0 hbx hsW b0 b1
        go_wp2
        go_roundw
        case rel => exact ⟨k + 1, B2, C2, by omega, by go_num, rfl, hNS, hg5⟩
        case measure => simp [intOf] <;> omega
    · obtain rfl : k = n := by omega
      rw [List.take_of_length_le (by have := hln.out; omega)] at ho
      go_wp2
      go_ret
      have := hln.out
      subst this
      exact ⟨B, C, by simp, ho, hg⟩
end Go.Proofs.YtjgbdkokcgcpjaaDoor
