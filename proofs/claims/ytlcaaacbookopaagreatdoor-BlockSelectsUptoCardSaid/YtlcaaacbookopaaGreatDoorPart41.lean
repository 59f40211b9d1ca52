/-
  Several texts in one:
  The document's copy of a series, and its two lists of series as one. Conditions: lengths that memory bears.
-/
import Derived.Test.YtlcaaacbookopaaGreatDoorPart38
import Derived.Test.YtlcaaacbookopaaGreatDoorPart40

namespace Go.Proofs.YtlcaaacbookopaaGreatDoor
open Go.RowKit
theorem ApE.at0 {α : Type} {E : El α} {w w' : World} {base : Nat} {t : TypeId} {A A' : Option Addr} {n c c' : Nat} {l : List α} (h : ApE E w base t A (0 + n) c ([] ++ l) A' c' w') : OE E w' base t A' n c' l := by
  have := h.oe
  rwa [Nat.zero_add, List.nil_append] at this
/-- both halves copied: labels, then points -/
theorem copy_ab {W w1 w2 w3 w4 : World} {m : SerM} {s : Ser} {A2 A4 X Y : Option Addr} {c2 c4 : Nat} (h2 : ApE elLb w1 W.heap.size 79 X (0 + m.ln) 0 ([] ++ s.lbs) A2 c2 w2) (g1 : Grew W w1) (hX : ∀ ad, X = some ad → W.heap.size ≤ ad.block) (g23 : Grew w2 w3)
    (hY : OE elPt w3 W.heap.size 82 Y 0 0 []) (h4 : ApE elPt w3 W.heap.size 82 Y (0 + m.pn) 0 ([] ++ s.pts) A4 c4 w4) : NsE w4 W.heap.size ⟨A2, m.ln, c2, A4, m.pn, c4⟩ s ∧ Grew W w4 ∧ W.heap.size ≤ w4.heap.size := by
  have g2 : Grew W w2 := h2.grew g1 hX
  have g3 := g2.trans g23
  have g4 : Grew W w4 := h4.grew g3 (fun ad e => (Own.blk_lt hY ad e).1)
  refine ⟨⟨(h2.at0.grew g23).apart hY (by decide) h4.chg, h4.at0⟩, g4, g4.size⟩
theorem head_le {a b : Nat} (h : a ≤ b) : ∀ ad, some (⟨b, 0, none⟩ : Addr) = some ad → a ≤ ad.block := fun ad e => by
  injection e with e
  subst e
  exact h

set_option maxRecDepth 100000 in
set_option maxHeartbeats 4000000 in
theorem copied10_any (la : Option Addr) (ln lc : Nat) (pa : Option Addr) (pn pc : Nat) (s : Ser) (w : World) (hi : SrIs w ⟨la, ln, lc, pa, pn, pc⟩ s) (hl1 : ln ≤ 1048576) (hp1 : pn ≤ 1099511627776) :
    Calls Tryz.prog 99 #[.agg #[.slice la ln lc, .slice pa pn pc]] w fun e w' => ∃ A2 c2 A4 c4, e = .returned (.agg #[.slice A2 ln c2, .slice A4 pn c4]) ∧ NsE w' w.heap.size ⟨A2, ln, c2, A4, pn, c4⟩ s ∧ Grew w w' := by
  obtain ⟨W, hW⟩ : ∃ W, W = (w.alloc (.cells #[.slice la ln lc, .slice pa pn pc] 85)).alloc (.cells #[.slice none 0 0, .slice none 0 0] 85) := ⟨_, rfl⟩
  have hgW : Grew w W := by rw [hW]; exact ((Chg.refl _ w).alloc _).alloc _
  have hbx : Blk W w.heap.size 85 #[.slice la ln lc, .slice pa pn pc] := by rw [hW]; exact (Blk.new w _ _).alloc _
  have hbz : Blk W (w.heap.size + 1) 85 #[.slice none 0 0, .slice none 0 0] := by
    rw [hW]
    have := Blk.new (w.alloc (.cells #[.slice la ln lc, .slice pa pn pc] 85)) 85 #[.slice none 0 0, .slice none 0 0]
    rwa [World.size_alloc] at this
  have b0 := hbx.cell 0
  have b1 := hbx.cell 1
  have hsW := hi.grew hgW
  have hszW := hgW.size
  have hb0 := hbx.lt
  have hcs := cellsIn_one hbx
  have hsame : Hid (∀ W1, Grew W W1 → SameIn [w.heap.size] W W1) := fun W1 h1 => qsameIn_of h1 hcs fun _ _ e => e
  clear hi
  go_enter Tryz.func99, Tryz.ntmps99
  go_wp2_with fail
  rw [← hW]
  clear hW
  refine wp_region_textsD [] [w.heap.size] [[0, 1, 2, 3, 4, 5, 6, 7, 8, 9], [0, 1, 2, 4, 3, 5, 6, 7, 8, 9], [4, 0, 1, 2, 3, 5, 6, 7, 8, 9]] (by kernel_rfl) (by kernel_rfl) hcs ?_
  intro t ht
  simp only [List.mem_cons, List.not_mem_nil, or_false] at ht
  rcases ht with rfl | rfl | rfl
  all_goals
    simp only [opsOf, List.filterMap_cons, List.filterMap_nil, List.getElem?_toArray, List.getElem?_cons_zero, List.getElem?_cons_succ]
    simp only [wpU, tagOf, chk, List.cons_append, List.nil_append]
  · -- labels' empty slice, labels, points' empty slice, points
        have gX : Grew W (W.drew.alloc (.cells #[] 79)) := (Chg.refl _ W).drew.alloc _
        have oL : OE elLb (W.drew.alloc (.cells #[] 79)) W.heap.size 79 (some ⟨W.heap.size, 0, none⟩) 0 0 [] := OE.made W.drew W.heap.size 79 (Nat.le_refl _)
        have rL := hsW.lb.grew gX
        have hX : W.heap.size ≤ W.heap.size := Nat.le_refl _
        intro K hK
        go_wp2_with fail
        refine OnlyN.normal (hK _ _ (hsame.out _ gX) ?_)
        clear hK K
        intro K hK
        go_wp2_with fail
        refine OnlyN.normal (hK _ _ (fun _ => ⟨_, _, _, rfl, rfl, by simp⟩) ?_)
        clear hK K
        intro K hK
        go_wp2_with (at_builtin; refine wpList_appE rfl _ _ 80 79 infoLab rfl Tryz.underlying80 rfl W.heap.size (some ⟨W.heap.size, 0, none⟩) 0 0 [] rfl oL (gX.size) la ln lc s.lbs rfl rL (by unfold maxLen; omega) (by omega) ?_; intro A2 c2 w2 h2)
        have g2 : Grew W w2 := h2.grew gX (head_le hX)
        have hz2 := g2.size
        refine OnlyN.normal (hK _ _ (hsame.out _ g2) ?_)
        clear hK K
        have g23 : Grew w2 (w2.alloc (.cells #[] 82)) := (Chg.refl _ w2).alloc _
        have oP : OE elPt (w2.alloc (.cells #[] 82)) W.heap.size 82 (some ⟨w2.heap.size, 0, none⟩) 0 0 [] := OE.made w2 W.heap.size 82 g2.size
        have rP := hsW.pt.grew (g2.trans g23)
        have gz : W.heap.size ≤ (w2.alloc (.cells #[] 82)).heap.size := (g2.trans g23).size
        have c21 := (hbx.grew g2).cell 1
        intro K hK
        go_wp2_with fail
        refine OnlyN.normal (hK _ _ (hsame.out _ (g2.trans g23)) ?_)
        clear hK K
        have c22 : (w2.alloc (.cells #[] 82)).cell? ⟨w.heap.size, 1, none⟩ = some (.slice pa pn pc) := (hbx.grew (g2.trans g23)).cell 1
        intro K hK
        go_wp2_with fail
        refine OnlyN.normal (hK _ _ (fun _ => ⟨_, _, _, rfl, rfl, by simp⟩) ?_)
        clear hK K
        intro K hK
        go_wp2_with (at_builtin; refine wpList_appE rfl _ _ 83 82 infoPt rfl Tryz.underlying83 rfl W.heap.size (some ⟨w2.heap.size, 0, none⟩) 0 0 [] rfl oP gz pa pn pc s.pts rfl rP (by unfold maxLen; omega) (by omega) ?_; intro A4 c4 w4 h4)
        obtain ⟨hN, g4, gz4⟩ := copy_ab (m := ⟨la, ln, lc, pa, pn, pc⟩) h2 gX (head_le hX) g23 oP h4
        refine OnlyN.normal (hK _ _ (hsame.out _ g4) ?_)
        clear hK K
        have hb4 := hbz.grew g4
        have z0 : w4.cell? ⟨w.heap.size + 1, 0, none⟩ = some (.slice none 0 0) := by rw [hb4.cell]; rfl
        have z1 : w4.cell? ⟨w.heap.size + 1, 1, none⟩ = some (.slice none 0 0) := by rw [hb4.cell]; rfl
        have f0 := hb4.frozen 0
        have f1 := hb4.frozen 1
        have hch : Chg (fun x => x = w.heap.size + 1) w4 ((w4.setCell ⟨w.heap.size + 1, 0, none⟩ (.slice A2 ln c2)).setCell ⟨w.heap.size + 1, 1, none⟩ (.slice A4 pn c4)) := (Chg.one _ _ _ _).setCell (p := ⟨w.heap.size + 1, 1, none⟩) (.inr rfl) _
        have hb5 : Blk ((w4.setCell ⟨w.heap.size + 1, 0, none⟩ (.slice A2 ln c2)).setCell ⟨w.heap.size + 1, 1, none⟩ (.slice A4 pn c4)) (w.heap.size + 1) 85 #[.slice A2 ln c2, .slice A4 pn c4] := by simpa using (hb4.set 0 (.slice A2 ln c2)).set 1 (.slice A4 pn c4)
        have r0 := hb5.cell 0
        have r1 := hb5.cell 1
        have hg5 : Grew w ((w4.setCell ⟨w.heap.size + 1, 0, none⟩ (.slice A2 ln c2)).setCell ⟨w.heap.size + 1, 1, none⟩ (.slice A4 pn c4)) := ((hgW.trans g4).setCell (p := ⟨w.heap.size + 1, 0, none⟩) (.inl (by simp)) _).setCell (p := ⟨w.heap.size + 1, 1, none⟩) (.inl (by simp)) _
        have hN5 : NsE ((w4.setCell ⟨w.heap.size + 1, 0, none⟩ (.slice A2 ln c2)).setCell ⟨w.heap.size + 1, 1, none⟩ (.slice A4 pn c4)) w.heap.size ⟨A2, ln, c2, A4, pn, c4⟩ s := NsE.mono ⟨hN.lb.chg hch (fun ad e => Own.ne_blk hN.lb hb4 (by decide) ad e), hN.pt.chg hch (fun ad e => Own.ne_blk hN.pt hb4 (by decide) ad e)⟩ hszW
        intro K hK
        go_wp2_with fail
        refine OnlyN.normal (hK _ _ (qsameIn_of ((Chg.of_grew g4).trans hch) hcs (fun k' hk' e5 => by
          simp only [List.mem_cons, List.not_mem_nil, or_false] at hk'
          omega)) ?_)
        clear hK K
        go_wp2_with fail
        refine OnlyN.normal ?_
        generalize (w4.setCell ⟨w.heap.size + 1, 0, none⟩ (.slice A2 ln c2)).setCell ⟨w.heap.size + 1, 1, none⟩ (.slice A4 pn c4) = w5 at *
        clear hch hb4 z0 z1 f0 f1 g4 hN h4 h2 oL rL rP oP gX g23
        go_wp2
        exact bodyPost_ret (v := .agg #[.slice A2 ln c2, .slice A4 pn c4]) (by simp [results, Tryz.results99, go_sem, r0, r1]) rfl ⟨A2, c2, A4, c4, rfl, hN5, hg5⟩
  · -- both empty slices, labels, points
        have gX : Grew W ((W.drew.alloc (.cells #[] 79)).alloc (.cells #[] 82)) := ((Chg.refl _ W).drew.alloc _).alloc _
        have oL : OE elLb ((W.drew.alloc (.cells #[] 79)).alloc (.cells #[] 82)) W.heap.size 79 (some ⟨W.heap.size, 0, none⟩) 0 0 [] := (OE.made W.drew W.heap.size 79 (Nat.le_refl _)).alloc _
        have oP0 : OE elPt ((W.drew.alloc (.cells #[] 79)).alloc (.cells #[] 82)) W.heap.size 82 (some ⟨W.heap.size + 1, 0, none⟩) 0 0 [] := by
          have := OE.made (E := elPt) (W.drew.alloc (.cells #[] 79)) W.heap.size 82 (by simp)
          rwa [World.size_alloc] at this
        have rL := hsW.lb.grew gX
        have hX : W.heap.size ≤ W.heap.size := Nat.le_refl _
        intro K hK
        go_wp2_with fail
        refine OnlyN.normal (hK _ _ (hsame.out _ ((Chg.refl _ W).drew.alloc _)) ?_)
        clear hK K
        intro K hK
        go_wp2_with fail
        refine OnlyN.normal (hK _ _ (fun _ => ⟨_, _, _, rfl, rfl, by simp⟩) ?_)
        clear hK K
        intro K hK
        go_wp2_with fail
        refine OnlyN.normal (hK _ _ (hsame.out _ gX) ?_)
        clear hK K
        intro K hK
        go_wp2_with (at_builtin; refine wpList_appE rfl _ _ 80 79 infoLab rfl Tryz.underlying80 rfl W.heap.size (some ⟨W.heap.size, 0, none⟩) 0 0 [] rfl oL (gX.size) la ln lc s.lbs rfl rL (by unfold maxLen; omega) (by omega) ?_; intro A2 c2 w2 h2)
        have g2 : Grew W w2 := h2.grew gX (head_le hX)
        have hz2 := g2.size
        refine OnlyN.normal (hK _ _ (hsame.out _ g2) ?_)
        clear hK K
        have g23 : Grew w2 w2 := Chg.refl _ _
        have oP : OE elPt w2 W.heap.size 82 (some ⟨W.heap.size + 1, 0, none⟩) 0 0 [] := oP0.apart oL (by decide) h2.chg
        have rP := hsW.pt.grew g2
        have gz : W.heap.size ≤ w2.heap.size := g2.size
        have c21 := (hbx.grew g2).cell 1
        intro K hK
        go_wp2_with fail
        refine OnlyN.normal (hK _ _ (fun _ => ⟨_, _, _, rfl, rfl, by simp⟩) ?_)
        clear hK K
        intro K hK
        go_wp2_with (at_builtin; refine wpList_appE rfl _ _ 83 82 infoPt rfl Tryz.underlying83 rfl W.heap.size (some ⟨W.heap.size + 1, 0, none⟩) 0 0 [] rfl oP gz pa pn pc s.pts rfl rP (by unfold maxLen; omega) (by omega) ?_; intro A4 c4 w4 h4)
        obtain ⟨hN, g4, gz4⟩ := copy_ab (m := ⟨la, ln, lc, pa, pn, pc⟩) h2 gX (head_le hX) g23 oP h4
        refine OnlyN.normal (hK _ _ (hsame.out _ g4) ?_)
        clear hK K
        have hb4 := hbz.grew g4
        have z0 : w4.cell? ⟨w.heap.size + 1, 0, none⟩ = some (.slice none 0 0) := by rw [hb4.cell]; rfl
        have z1 : w4.cell? ⟨w.heap.size + 1, 1, none⟩ = some (.slice none 0 0) := by rw [hb4.cell]; rfl
        have f0 := hb4.frozen 0
        have f1 := hb4.frozen 1
        have hch : Chg (fun x => x = w.heap.size + 1) w4 ((w4.setCell ⟨w.heap.size + 1, 0, none⟩ (.slice A2 ln c2)).setCell ⟨w.heap.size + 1, 1, none⟩ (.slice A4 pn c4)) := (Chg.one _ _ _ _).setCell (p := ⟨w.heap.size + 1, 1, none⟩) (.inr rfl) _
        have hb5 : Blk ((w4.setCell ⟨w.heap.size + 1, 0, none⟩ (.slice A2 ln c2)).setCell ⟨w.heap.size + 1, 1, none⟩ (.slice A4 pn c4)) (w.heap.size + 1) 85 #[.slice A2 ln c2, .slice A4 pn c4] := by simpa using (hb4.set 0 (.slice A2 ln c2)).set 1 (.slice A4 pn c4)
        have r0 := hb5.cell 0
        have r1 := hb5.cell 1
        have hg5 : Grew w ((w4.setCell ⟨w.heap.size + 1, 0, none⟩ (.slice A2 ln c2)).setCell ⟨w.heap.size + 1, 1, none⟩ (.slice A4 pn c4)) := ((hgW.trans g4).setCell (p := ⟨w.heap.size + 1, 0, none⟩) (.inl (by simp)) _).setCell (p := ⟨w.heap.size + 1, 1, none⟩) (.inl (by simp)) _
        have hN5 : NsE ((w4.setCell ⟨w.heap.size + 1, 0, none⟩ (.slice A2 ln c2)).setCell ⟨w.heap.size + 1, 1, none⟩ (.slice A4 pn c4)) w.heap.size ⟨A2, ln, c2, A4, pn, c4⟩ s := NsE.mono ⟨hN.lb.chg hch (fun ad e => Own.ne_blk hN.lb hb4 (by decide) ad e), hN.pt.chg hch (fun ad e => Own.ne_blk hN.pt hb4 (by decide) ad e)⟩ hszW
        intro K hK
        go_wp2_with fail
        refine OnlyN.normal (hK _ _ (qsameIn_of ((Chg.of_grew g4).trans hch) hcs (fun k' hk' e5 => by
          simp only [List.mem_cons, List.not_mem_nil, or_false] at hk'
          omega)) ?_)
        clear hK K
        go_wp2_with fail
        refine OnlyN.normal ?_
        generalize (w4.setCell ⟨w.heap.size + 1, 0, none⟩ (.slice A2 ln c2)).setCell ⟨w.heap.size + 1, 1, none⟩ (.slice A4 pn c4) = w5 at *
        clear hch hb4 z0 z1 f0 f1 g4 hN h4 h2 oL rL rP oP gX g23
        go_wp2
        exact bodyPost_ret (v := .agg #[.slice A2 ln c2, .slice A4 pn c4]) (by simp [results, Tryz.results99, go_sem, r0, r1]) rfl ⟨A2, c2, A4, c4, rfl, hN5, hg5⟩
  · -- points' empty slice, labels' one, labels, points
        have gX : Grew W ((W.drew.alloc (.cells #[] 82)).alloc (.cells #[] 79)) := ((Chg.refl _ W).drew.alloc _).alloc _
        have oP0 : OE elPt ((W.drew.alloc (.cells #[] 82)).alloc (.cells #[] 79)) W.heap.size 82 (some ⟨W.heap.size, 0, none⟩) 0 0 [] := (OE.made W.drew W.heap.size 82 (Nat.le_refl _)).alloc _
        have oL : OE elLb ((W.drew.alloc (.cells #[] 82)).alloc (.cells #[] 79)) W.heap.size 79 (some ⟨W.heap.size + 1, 0, none⟩) 0 0 [] := by
          have := OE.made (E := elLb) (W.drew.alloc (.cells #[] 82)) W.heap.size 79 (by simp)
          rwa [World.size_alloc] at this
        have rL := hsW.lb.grew gX
        have hX : W.heap.size ≤ W.heap.size + 1 := by omega
        intro K hK
        go_wp2_with fail
        refine OnlyN.normal (hK _ _ (hsame.out _ ((Chg.refl _ W).drew.alloc _)) ?_)
        clear hK K
        intro K hK
        go_wp2_with fail
        refine OnlyN.normal (hK _ _ (hsame.out _ gX) ?_)
        clear hK K
        intro K hK
        go_wp2_with fail
        refine OnlyN.normal (hK _ _ (fun _ => ⟨_, _, _, rfl, rfl, by simp⟩) ?_)
        clear hK K
        intro K hK
        go_wp2_with (at_builtin; refine wpList_appE rfl _ _ 80 79 infoLab rfl Tryz.underlying80 rfl W.heap.size (some ⟨W.heap.size + 1, 0, none⟩) 0 0 [] rfl oL (gX.size) la ln lc s.lbs rfl rL (by unfold maxLen; omega) (by omega) ?_; intro A2 c2 w2 h2)
        have g2 : Grew W w2 := h2.grew gX (head_le hX)
        have hz2 := g2.size
        refine OnlyN.normal (hK _ _ (hsame.out _ g2) ?_)
        clear hK K
        have g23 : Grew w2 w2 := Chg.refl _ _
        have oP : OE elPt w2 W.heap.size 82 (some ⟨W.heap.size, 0, none⟩) 0 0 [] := oP0.apart oL (by decide) h2.chg
        have rP := hsW.pt.grew g2
        have gz : W.heap.size ≤ w2.heap.size := g2.size
        have c21 := (hbx.grew g2).cell 1
        intro K hK
        go_wp2_with fail
        refine OnlyN.normal (hK _ _ (fun _ => ⟨_, _, _, rfl, rfl, by simp⟩) ?_)
        clear hK K
        intro K hK
        go_wp2_with (at_builtin; refine wpList_appE rfl _ _ 83 82 infoPt rfl Tryz.underlying83 rfl W.heap.size (some ⟨W.heap.size, 0, none⟩) 0 0 [] rfl oP gz pa pn pc s.pts rfl rP (by unfold maxLen; omega) (by omega) ?_; intro A4 c4 w4 h4)
        obtain ⟨hN, g4, gz4⟩ := copy_ab (m := ⟨la, ln, lc, pa, pn, pc⟩) h2 gX (head_le hX) g23 oP h4
        refine OnlyN.normal (hK _ _ (hsame.out _ g4) ?_)
        clear hK K
        have hb4 := hbz.grew g4
        have z0 : w4.cell? ⟨w.heap.size + 1, 0, none⟩ = some (.slice none 0 0) := by rw [hb4.cell]; rfl
        have z1 : w4.cell? ⟨w.heap.size + 1, 1, none⟩ = some (.slice none 0 0) := by rw [hb4.cell]; rfl
        have f0 := hb4.frozen 0
        have f1 := hb4.frozen 1
        have hch : Chg (fun x => x = w.heap.size + 1) w4 ((w4.setCell ⟨w.heap.size + 1, 0, none⟩ (.slice A2 ln c2)).setCell ⟨w.heap.size + 1, 1, none⟩ (.slice A4 pn c4)) := (Chg.one _ _ _ _).setCell (p := ⟨w.heap.size + 1, 1, none⟩) (.inr rfl) _
        have hb5 : Blk ((w4.setCell ⟨w.heap.size + 1, 0, none⟩ (.slice A2 ln c2)).setCell ⟨w.heap.size + 1, 1, none⟩ (.slice A4 pn c4)) (w.heap.size + 1) 85 #[.slice A2 ln c2, .slice A4 pn c4] := by simpa using (hb4.set 0 (.slice A2 ln c2)).set 1 (.slice A4 pn c4)
        have r0 := hb5.cell 0
        have r1 := hb5.cell 1
        have hg5 : Grew w ((w4.setCell ⟨w.heap.size + 1, 0, none⟩ (.slice A2 ln c2)).setCell ⟨w.heap.size + 1, 1, none⟩ (.slice A4 pn c4)) := ((hgW.trans g4).setCell (p := ⟨w.heap.size + 1, 0, none⟩) (.inl (by simp)) _).setCell (p := ⟨w.heap.size + 1, 1, none⟩) (.inl (by simp)) _
        have hN5 : NsE ((w4.setCell ⟨w.heap.size + 1, 0, none⟩ (.slice A2 ln c2)).setCell ⟨w.heap.size + 1, 1, none⟩ (.slice A4 pn c4)) w.heap.size ⟨A2, ln, c2, A4, pn, c4⟩ s := NsE.mono ⟨hN.lb.chg hch (fun ad e => Own.ne_blk hN.lb hb4 (by decide) ad e), hN.pt.chg hch (fun ad e => Own.ne_blk hN.pt hb4 (by decide) ad e)⟩ hszW
        intro K hK
        go_wp2_with fail
        refine OnlyN.normal (hK _ _ (qsameIn_of ((Chg.of_grew g4).trans hch) hcs (fun k' hk' e5 => by
          simp only [List.mem_cons, List.not_mem_nil, or_false] at hk'
          omega)) ?_)
        clear hK K
        go_wp2_with fail
        refine OnlyN.normal ?_
        generalize (w4.setCell ⟨w.heap.size + 1, 0, none⟩ (.slice A2 ln c2)).setCell ⟨w.heap.size + 1, 1, none⟩ (.slice A4 pn c4) = w5 at *
        clear hch hb4 z0 z1 f0 f1 g4 hN h4 h2 oL rL rP oP gX g23
        go_wp2
        exact bodyPost_ret (v := .agg #[.slice A2 ln c2, .slice A4 pn c4]) (by simp [results, Tryz.results99, go_sem, r0, r1]) rfl ⟨A2, c2, A4, c4, rfl, hN5, hg5⟩
end Go.Proofs.YtlcaaacbookopaaGreatDoor
