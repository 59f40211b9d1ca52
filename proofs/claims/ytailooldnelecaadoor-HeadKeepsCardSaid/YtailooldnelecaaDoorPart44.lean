/-
  Several texts in one:
  Select with matchers; the law HeadSelects, walked. Conditions: texts that memory bears; the longest text that the library takes is as it is set.
-/
import Derived.Test.YtailooldnelecaaDoorPart41
import Derived.Test.YtailooldnelecaaDoorPart42
import Derived.Test.YtailooldnelecaaDoorPart43

namespace Go.Proofs.YtailooldnelecaaDoor
open Go.RowKit

def pickH (ms : List Mat) (ss : List Ser) : List Ser := ss.filter fun s => saysB ms s.lbs
theorem HV.pick {lim : Nat} {ss : List Ser} (h : HV lim ss) (ms : List Mat) : HV lim (pickH ms ss) :=
  ⟨fun s hs => h.chk s (List.mem_filter.1 hs).1, fun s hs => h.ris s (List.mem_filter.1 hs).1, fun s hs => h.non s (List.mem_filter.1 hs).1, fun s hs => h.bnd s (List.mem_filter.1 hs).1, h.dis.filter _, Nat.le_trans (List.length_filter_le _ _) h.len⟩
theorem HV.pts_len {lim : Nat} {ss : List Ser} (h : HV lim ss) {s : Ser} (hs : s ∈ ss) : s.pts.length ≤ 2199023255553 := by
  rcases rise_len (h.ris s hs) (h.bnd s hs) with h1 | h1
  · omega
  · exact absurd h1 (h.non s hs)
/-- matchers of a size -/
def MatOk (ms : List Mat) : Prop := ∀ x ∈ ms, x.2.1.size ≤ 1048576 ∧ x.2.2.size ≤ 1048576
theorem narrow_any {S : Nat → Prop} {h b p cb cp lim : Nat} {L : List HEnt} {PL : List PEnt} (A : Option Addr) (n c : Nat) (ms : List Mat) (w : World) (hH : HS S w h b p L cb PL cp lim) (hR : RE elMa w A n ms) (hn : n ≤ 9223372036854775807) (hms : MatOk ms) (hx : MaxL w) :
    Calls Tryd.prog 24 #[.pointer (some ⟨h, 0, none⟩), .slice A n c] w (NarQ w L ms) := by
  have hm1 : ∀ x ∈ ms, x.2.2.size ≤ 16777216 := fun x hx => by have := hms x hx; omega
  have hl := hR.1
  rcases Nat.eq_zero_or_pos n with h0 | h0
  · exact narrow_all A n c ms w hH hR hn hm1 hx (.inl h0)
  · obtain ⟨⟨k, nm, v⟩, h1⟩ : ∃ x, ms[0]? = some x := ⟨_, List.getElem?_eq_getElem (by omega)⟩
    by_cases hk : k = 1 ∧ v ≠ ⟨#[]⟩
    · obtain ⟨rfl, hv⟩ := hk
      have := hms _ (List.mem_of_getElem? h1)
      exact narrow_lab A n c ms nm v w hH hR hn hm1 hx h1 hv (by unfold maxLen; dsimp only at this; omega)
    · refine narrow_all A n c ms w hH hR hn hm1 hx (.inr ⟨_, h1, ?_⟩)
      by_cases hk1 : k = 1
      · exact .inr (Classical.byContradiction fun h => hk ⟨hk1, h⟩)
      · exact .inl hk1
section
variable {S : Nat → Prop} {w : World} {h lim : Nat} {ss : List Ser}
theorem sel_ms (A : Option Addr) (n c : Nat) (ms : List Mat) (u0 u1 : Int) (hD : HD S w h lim ss) (hR : RE elMa w A n ms) (hn : n ≤ 9223372036854775807) (hms : MatOk ms) (hx : MaxL w) :
    Calls Tryd.prog 10 #[.pointer (some ⟨h, 0, none⟩), .slice A n c, .int .i64 u0, .int .i64 u1] w fun e w' => ∃ B d, e = .returned (.slice B (srtS (selS u0 u1 (pickH ms ss))).length d) ∧ NS w' w.heap.size B (srtS (selS u0 u1 (pickH ms ss))).length d (srtS (selS u0 u1 (pickH ms ss))) ∧ Grew w w' := by
  obtain ⟨b, p, L, cb, PL, cp, hH, rfl⟩ := hD
  have hlen := hH.len
  have hml := hH.ml
  refine (select_any (fun V => V.Perm (L.filter fun e => saysB ms e.s.lbs)) A n c u0 u1 w hH ((narrow_any A n c ms w hH hR hn hms hx).mono ?_)).mono ?_
  · rintro e w' ⟨V, B, d, hp, rfl, ho, hg⟩
    have := List.length_filter_le (fun e : HEnt => saysB ms e.s.lbs) L
    exact ⟨V, B, d, hp, fun e he => (List.mem_filter.1 (hp.mem_iff.1 he)).1, by rw [hp.length_eq]; omega, rfl, ho, hg⟩
  · rintro e w' ⟨B, m, d, he, V, out, hp, hN, hs, hw, hg⟩
    have hv := (hH.hv.pick ms).sel u0 u1
    have hpp : out.Perm (selS u0 u1 (pickH ms (L.map HEnt.s))) := by
      refine hs.trans ?_
      rw [selV_eq]
      have h1 : (V.map HEnt.s).Perm (pickH ms (L.map HEnt.s)) := by
        refine (hp.map HEnt.s).trans ?_
        unfold pickH
        rw [List.filter_map]
        exact List.Perm.refl _
      exact h1.filterMap _
    have h1 : out = srtS (selS u0 u1 (pickH ms (L.map HEnt.s))) := srt_of hpp hv.dis hw (srtS_sort hv.dis) (srtS_perm _)
    have h2 := hN.len
    subst h2
    rw [h1] at he hN
    exact ⟨B, d, he, hN, hg⟩
end

/-! ### What two selects gather of a series -/
def gath (l : List Lab) (ss : List Ser) : List Ptn := (ss.filter fun s => decide (s.lbs = l)).flatMap Ser.pts
theorem gath_yes {l : List Lab} {ss : List Ser} {k : Nat} {s : Ser} (h : ss[k]? = some s) (hs : s.lbs = l) : gath l (ss.take (k + 1)) = gath l (ss.take k) ++ s.pts := by
  unfold gath
  rw [take_sn h, List.filter_append, List.flatMap_append]
  simp [hs]
theorem gath_no {l : List Lab} {ss : List Ser} {k : Nat} {s : Ser} (h : ss[k]? = some s) (hs : s.lbs ≠ l) : gath l (ss.take (k + 1)) = gath l (ss.take k) := by
  unfold gath
  rw [take_sn h, List.filter_append, List.flatMap_append]
  simp [hs]
theorem gath_le (l : List Lab) (ss : List Ser) (k : Nat) : (gath l (ss.take k)).length ≤ (gath l ss).length := by
  unfold gath
  conv => rhs; rw [← List.take_append_drop k ss]
  rw [List.filter_append, List.flatMap_append, List.length_append]
  omega
theorem filter_one {l : List Lab} : ∀ {P : List Ser}, (P.Pairwise fun a b => a.lbs ≠ b.lbs) → ∀ {s : Ser}, s ∈ P → s.lbs = l → (P.filter fun s => decide (s.lbs = l)) = [s]
  | [], _, s, h, _ => by cases h
  | x :: r, hd, s, h, hs => by
    rw [List.pairwise_cons] at hd
    rcases List.mem_cons.1 h with rfl | h
    · rw [List.filter_cons, if_pos (by simpa using hs), List.filter_eq_nil_iff.2 fun y hy => ?_]
      have := hd.1 y hy
      simp only [decide_eq_true_eq]
      exact fun e => this (hs.trans e.symm)
    · have := hd.1 s h
      rw [List.filter_cons, if_neg (by simp only [decide_eq_true_eq]; exact fun e => this (e.trans hs.symm))]
      exact filter_one hd.2 h hs
theorem filter_sel (a b : Int) (l : List Lab) : ∀ P : List Ser, ((selS a b P).filter fun s => decide (s.lbs = l)) = selS a b (P.filter fun s => decide (s.lbs = l))
  | [] => rfl
  | s :: r => by
    have ih := filter_sel a b l r
    rw [selS_fm, selS_fm] at ih ⊢
    rw [List.filterMap_cons, List.filter_cons]
    by_cases hs : s.lbs = l
    · rw [if_pos (by simpa using hs), List.filterMap_cons]
      cases h : selF a b s with
      | none => exact ih
      | some s' =>
        have := selF_lbs h
        simp only
        rw [List.filter_cons, if_pos (by simp [this, hs]), ih]
    · rw [if_neg (by simpa using hs)]
      cases h : selF a b s with
      | none => exact ih
      | some s' =>
        have := selF_lbs h
        simp only
        rw [List.filter_cons, if_neg (by simp [this, hs]), ih]
theorem gath_sel {lim : Nat} {P : List Ser} (h : HV lim P) (a b : Int) {s : Ser} (hs : s ∈ P) : gath s.lbs (srtS (selS a b P)) = s.pts.filter (inR a b) := by
  have h1 : ((srtS (selS a b P)).filter fun x => decide (x.lbs = s.lbs)).Perm (selS a b [s]) := by
    have := (srtS_perm (selS a b P)).filter fun x => decide (x.lbs = s.lbs)
    rwa [filter_sel, filter_one h.dis hs rfl] at this
  unfold gath
  have h2 : selS a b [s] = if (s.pts.filter (inR a b)).length = 0 then [] else [⟨s.lbs, s.pts.filter (inR a b)⟩] := by
    unfold selS
    rw [List.filterMap_cons, List.filterMap_nil]
    by_cases h3 : (s.pts.filter (inR a b)).length = 0
    · rw [if_pos h3, if_pos h3]
    · rw [if_neg h3, if_neg h3]
  rw [h2] at h1
  by_cases h3 : (s.pts.filter (inR a b)).length = 0
  · rw [if_pos h3] at h1
    rw [List.perm_nil.1 h1, List.eq_nil_of_length_eq_zero h3]
    rfl
  · rw [if_neg h3] at h1
    rw [List.perm_singleton.1 h1]
    simp
/-- of each series of one select, what two selects have of it -/
structure TwoF (a b c : List Ser) (N : Nat) : Prop where
  all : ∀ s ∈ c, gath s.lbs a ++ gath s.lbs b = s.pts ∧ s.pts.length ≤ 2199023255553
  sum : tot a + tot b = tot c
  top : tot c ≤ N
theorem tot_two {x m y : Int} (h1 : x ≤ m) (h2 : m ≤ y) : ∀ P : List Ser, tot (selS x m P) + tot (selS (m + 1) y P) = tot (selS x y P)
  | [] => rfl
  | s :: r => by
    have ih := tot_two h1 h2 r
    have hs := selF_tot h1 h2 s.pts
    have key : ∀ u v : Int, tot (selS u v (s :: r)) = (s.pts.filter (inR u v)).length + tot (selS u v r) := fun u v => by
      rw [selS_fm, selS_fm, List.filterMap_cons]
      have h3 : selF u v s = if (s.pts.filter (inR u v)).length = 0 then none else some ⟨s.lbs, s.pts.filter (inR u v)⟩ := rfl
      rw [h3]
      by_cases h4 : (s.pts.filter (inR u v)).length = 0
      · rw [if_pos h4]
        simp only
        omega
      · rw [if_neg h4]
        simp only [tot_cons1]
    rw [key, key, key]
    omega
theorem tot_sel_le (a b : Int) : ∀ P : List Ser, tot (selS a b P) ≤ tot P
  | [] => Nat.le_refl _
  | s :: r => by
    have ih := tot_sel_le a b r
    rw [selS_fm, List.filterMap_cons, tot_cons1]
    have h3 : selF a b s = if (s.pts.filter (inR a b)).length = 0 then none else some ⟨s.lbs, s.pts.filter (inR a b)⟩ := rfl
    have h5 := List.length_filter_le (inR a b) s.pts
    rw [h3]
    by_cases h4 : (s.pts.filter (inR a b)).length = 0
    · rw [if_pos h4]
      simp only
      rw [← selS_fm]
      omega
    · rw [if_neg h4]
      simp only [tot_cons1]
      rw [← selS_fm]
      omega
theorem two_of {lim N : Nat} {P : List Ser} (h : HV lim P) (ht : tot P ≤ N) {x m y : Int} (h1 : x ≤ m) (h2 : m ≤ y) : TwoF (srtS (selS x m P)) (srtS (selS (m + 1) y P)) (srtS (selS x y P)) N := by
  refine ⟨fun s hs => ?_, by rw [tot_srt, tot_srt, tot_srt, tot_two h1 h2], by rw [tot_srt]; exact Nat.le_trans (tot_sel_le _ _ _) ht⟩
  have hs := (srtS_perm _).mem_iff.1 hs
  have hl := (h.sel x y).pts_len hs
  refine ⟨?_, hl⟩
  obtain ⟨s0, hs0, h3⟩ := List.mem_filterMap.1 hs
  split at h3
  · cases h3
  · injection h3 with h3
    rw [← h3]
    simp only
    rw [gath_sel h x m hs0, gath_sel h (m + 1) y hs0, rise_split h1 h2 (h.ris s0 hs0)]
theorem tot_pick (ms : List Mat) : ∀ P : List Ser, tot (pickH ms P) ≤ tot P
  | [] => Nat.le_refl _
  | s :: r => by
    have ih := tot_pick ms r
    unfold pickH at *
    rw [List.filter_cons, tot_cons1]
    split
    · rw [tot_cons1]
      omega
    · omega
theorem cmp_zero {a b : List Lab} : ((cmpLs a b == 0) = true) ↔ a = b := by
  rw [beq_iff_eq]
  exact cmpLs_ok.zero a b

set_option maxRecDepth 100000 in
set_option maxHeartbeats 16000000 in
theorem walk_headSelects (A : Option Addr) (n c : Nat) (xs : List Smp) (M : Option Addr) (mn mc : Nat) (mt : List Mat) (u0 um u1 : Int) (w : World) (hA : RSa w A n xs) (hn : n ≤ c ∧ c ≤ 9223372036854775807) (hM : RE elMa w M mn mt) (hmn : mn ≤ 9223372036854775807) (hmt : MatOk mt)
    (hb0 : (Lit.int .i64 u0).wf = true) (hbm : (Lit.int .i64 um).wf = true) (hb1 : (Lit.int .i64 u1).wf = true) (hm : MaxL w) :
    Calls Tryd.prog 5 #[.slice A n c, .slice M mn mc, .int .i64 u0, .int .i64 um, .int .i64 u1] w fun e w' => e = .returned (.bool true) ∧ Grew w w' := by
  have b0 := Go.bounds_i64 hb0
  have bm := Go.bounds_i64 hbm
  have b1 := Go.bounds_i64 hb1
  clear hb0 hbm hb1
  have hN := new_hd 1024 w (by decide)
  rw [show (min (max 1024 0) 1024 : Int).toNat = 1024 from rfl] at hN
  by_cases hc : u0 ≤ um ∧ um ≤ u1 ∧ um < 1099511627776
  · obtain ⟨hc0, hc1, hc2⟩ := hc
    have e0 : decide (um < u0) = false := decide_eq_false (by omega)
    have e1 : decide (u1 < um) = false := decide_eq_false (by omega)
    have e2 : decide ((1099511627776 : Int) ≤ um) = false := decide_eq_false (by omega)
    go_enter Tryd.func5, Tryd.ntmps5
    go_wp2_with fail
    refine hN.mono ?_
    rintro e w1 ⟨h, S1, rfl, hD1, g1, hs1⟩
    clear hN
    go_wp2
    clear e0 e1 e2
    go_loopw [12] (fun i wr => ∃ (k : Nat) (S : Nat → Prop) (ss : List Ser), k ≤ n ∧ i = .int .i64 (k : Int) ∧ HD S wr h 1024 ss ∧ (∀ k, S k → w.heap.size ≤ k) ∧ Grew w wr) (fun i _ => n - (intOf i).toNat)
    case atStart => exact ⟨0, S1, [], by omega, rfl, hD1, hs1, g1⟩
    case round =>
      clear hD1 hs1 g1 w1 S1
      obtain ⟨k, S, ss, hk, rfl, hD, hs, hg⟩ := hrel
      by_cases hlt : k < n
      · obtain ⟨ad, la, ln, lc, s, rfl, hx, hlb, hlc, _, _, x0, x1, x2⟩ := (hA.grew hg).at_ hlt
        have hAd := add_hd la ln lc s.lbs s.t s.v hD hlb hlc
        generalize fateS 1024 ss s.lbs s.t s.v = f at *
        generalize addT 1024 ss s.lbs s.t s.v = tt at *
        replace hs := Lib.hid hs
        replace hg := Lib.hid hg
        clear hx hlb hlc hD
        go_wp2_with fail
        refine hAd.mono ?_
        rintro e w2 ⟨rfl, S2, hD2, hs12, hs21, hc2⟩
        have hz := hg.out.size
        have g2 : Grew w w2 := Chg.new hg.out hc2 hs.out
        have hs2 : ∀ k, S2 k → w.heap.size ≤ k := fun k hk => by
          rcases hs21 k hk with h | h
          · exact hs.out k h
          · omega
        clear hAd hs12 hs21 hc2 x0 x1 x2 hg hs
        go_wp2
        go_roundw
        case rel => exact ⟨k + 1, S2, tt, by omega, by go_num, hD2, hs2, g2⟩
        case measure => simp [intOf] <;> omega
      · have hS1 := sel_ms M mn mc mt u0 um hD (hM.grew hg) hmn hmt (hm.grew hg)
        have hTF := Lib.hid (two_of (hD.hv.pick mt) (Nat.le_trans (tot_pick mt ss) hD.tot) hc0 hc1)
        obtain ⟨P, hP⟩ : ∃ P, Hid (P = pickH mt ss) := ⟨_, rfl⟩
        rw [← hP.out] at hS1 hTF
        clear hs
        go_wp2_with fail
        refine hS1.mono ?_
        rintro e w2 ⟨A1, c1, rfl, hN1, g2⟩
        have hD2 := hD.grew g2
        have g02 := hg.trans g2
        have hS2 := sel_ms M mn mc mt (um + 1) u1 hD2 (hM.grew g02) hmn hmt (hm.grew g02)
        rw [← hP.out] at hS2
        clear hS1 hD hg
        go_wp2_with fail
        refine hS2.mono ?_
        rintro e w3 ⟨A2, c2, rfl, hN2, g3⟩
        have hD3 := hD2.grew g3
        have g03 := g02.trans g3
        have hN1b := hN1.grew g3
        have hS3 := sel_ms M mn mc mt u0 u1 hD3 (hM.grew g03) hmn hmt (hm.grew g03)
        rw [← hP.out] at hS3
        clear hS2 hD2 g02 hN1
        go_wp2_with fail
        refine hS3.mono ?_
        rintro e w4 ⟨A3, c3, rfl, hN3, g4⟩
        have g04 := g03.trans g4
        have hR1 := (hN1b.grew g4).rs
        have hR2 := (hN2.grew g4).rs
        have hR3 := hN3.rs
        have q1 := (hN1b.grew g4).cap
        have q2 := (hN2.grew g4).cap
        have q3 := hN3.cap
        clear hS3 hD3 g03 hN1b hN2 hN3 g2 g3 g4 hP hc0 hc1 hc2 hM hA
        generalize srtS (selS u0 um P) = a at *
        generalize srtS (selS (um + 1) u1 P) = b at *
        generalize srtS (selS u0 u1 P) = cc at *
        have htop := hTF.out.top
        have hsum := Lib.hid hTF.out.sum
        have htop2 : tot a ≤ 2251799813686272 ∧ tot b ≤ 2251799813686272 := by have := hsum.out; omega
        go_wp2
        generalize w4 = wo at *
        go_loopw [16, 17] (fun o i wr => ∃ k : Nat, k ≤ cc.length ∧ i = .int .i64 (k : Int) ∧ o = .int .i64 (tot (cc.take k) : Int) ∧ Grew wo wr) (fun _ i _ => cc.length - (intOf i).toNat)
        case atStart => exact ⟨0, by omega, rfl, rfl, Chg.refl _ _⟩
        case round =>
          obtain ⟨i, hi, rfl, rfl, hg⟩ := hrel
          by_cases hlt : i < cc.length
          · obtain ⟨cd, ⟨la, ln, lc, pa, pn, pc⟩, s, rfl, hx, hsi, z0, z1⟩ := hR3.at_ hlt
            dsimp only at z0 z1
            have hall := Lib.hid (hTF.out.all s (List.mem_of_getElem? hx))
            have hst := Lib.hid (tot_snoc hx)
            have hle := tot_take cc (i + 1)
            have hlc := hsi.lc
            have hpc := hsi.pc
            have hsl := hsi.lb
            have hsp := hsi.pt
            dsimp only at hlc hpc hsl hsp
            have hspl := Lib.hid hsp.1
            have hq : tot (cc.take i) + pn ≤ 2251799813686272 := by have := hst.out; have := hspl.out; omega
            generalize tot (cc.take i) = tq at *
            obtain ⟨W, hW⟩ : ∃ W, W = wr.alloc (.cells #[.slice la ln lc, .slice none 0 0] 37) := ⟨_, rfl⟩
            have gW : Grew wr W := by rw [hW]; exact (Chg.refl _ wr).alloc _
            have hbx : Blk W wr.heap.size 37 #[.slice la ln lc, .slice none 0 0] := by rw [hW]; exact Blk.new wr _ _
            have hzW : W.heap.size = wr.heap.size + 1 := by rw [hW]; simp
            have hzo := hg.size
            have hsl2 := fun w' (g : Grew wo w') => hsl.grew g
            have hsp2 := fun w' (g : Grew wo w') => hsp.grew g
            have y0 := fun w' (g : Grew wo w') => Chg.cell g z0 (fun e => e)
            have y1 := fun w' (g : Grew wo w') => Chg.cell g z1 (fun e => e)
            have x0 := y0 wr hg
            replace hsl2 := Lib.hid hsl2
            replace hsp2 := Lib.hid hsp2
            replace y0 := Lib.hid y0
            replace y1 := Lib.hid y1
            have hgo := hg.trans gW
            have hba : Hid (∀ k, (([] : List Ptn) ++ gath s.lbs (a.take k)).length ≤ 2199023255553) := fun k => by
              have h1 := gath_le s.lbs a k
              have h2 := congrArg List.length hall.out.1
              have h3 := hall.out.2
              rw [List.length_append] at h2
              rw [List.nil_append]
              omega
            have hbb : Hid (∀ k, (gath s.lbs a ++ gath s.lbs (b.take k)).length ≤ 2199023255553) := fun k => by
              have h1 := gath_le s.lbs b k
              have h2 := congrArg List.length hall.out.1
              have h3 := hall.out.2
              rw [List.length_append] at h2 ⊢
              omega
            clear hx hsi hle hsl hsp z0 z1
            go_wp2_with fail
            rw [← hW]
            clear hW x0 gW hg
            generalize wr.heap.size = xb at *
            go_loopw [19] (fun i' w' => ∃ (k r z : Nat) (X : Option Addr), k ≤ a.length ∧ i' = .int .i64 (k : Int) ∧ Blk w' xb 37 #[.slice la ln lc, .slice X r z] ∧ OE elPt w' (xb + 1) 39 X r z (([] : List Ptn) ++ gath s.lbs (a.take k)) ∧ Grew wo w') (fun i' _ => a.length - (intOf i').toNat)
            case atStart => exact ⟨0, 0, 0, none, by omega, rfl, hbx, OE.nil _ _ _, hgo⟩
            case round =>
              clear hbx hgo hzW
              obtain ⟨k, r, z, X, hk, rfl, hbx, hox, hgo⟩ := hrel
              by_cases hlt2 : k < a.length
              · obtain ⟨ad, ⟨qa, qn, qc, ra, rn, rc⟩, sa, rfl, hx, hsi, z0, z1⟩ := (hR1.grew hgo).at_ hlt2
                dsimp only at z0 z1
                have v0 := y0.out _ hgo
                have hqc := hsi.lc
                have hrc := hsi.pc
                have gdr : Grew wr wr.drew := (Chg.refl _ wr).drew
                have hC := compare3_any qa la qn qc ln lc sa.lbs s.lbs wr.drew (hsi.lb.grew gdr) (hsl2.out _ (hgo.trans gdr)) (by have := hqc; dsimp only at this; omega) (by omega)
                have hrp := fun w' (g : Grew wr w') => hsi.pt.grew g
                have hrl := hsi.pt.1
                dsimp only at hqc hrc hC hrp hrl
                have hyes := fun hh => gath_yes (l := s.lbs) hx hh
                have hno := fun hh => gath_no (l := s.lbs) hx hh
                have hol := hox.len (by decide)
                replace hrp := Lib.hid hrp
                replace hyes := Lib.hid hyes
                replace hno := Lib.hid hno
                replace hrl := Lib.hid hrl
                clear hx hsi
                go_wp2_with fail
                refine wp_region_text [(3, 1)] (by kernel_rfl) (by kernel_rfl) ?_
                simp only [instr, chk, look, Nat.reduceBEq, if_true, if_false, Nat.reduceEqDiff, List.cons_append, List.nil_append]
                go_wp2_with fail
                refine hC.mono ?_
                rintro e w2 ⟨rfl, g2⟩
                have gd : Grew wr w2 := gdr.trans g2
                go_wp2_with fail
                refine OnlyN.normal ?_
                have hbx2 := hbx.grew gd
                have hox2 := hox.grew gd
                have hgo2 := hgo.trans gd
                have z1b := gd.cell z1 (fun e => e)
                have hbl2 : Hid (∀ ad, X = some ad → xb + 1 ≤ ad.block) := fun ad e => (Own.blk_lt hox ad e).1
                clear hC z0 z1 v0 hbx hox hgo g2
                by_cases hse : sa.lbs = s.lbs
                · have e3 : (cmpLs sa.lbs s.lbs == 0) = true := cmp_zero.2 hse
                  have hl9 := hba.out (k + 1)
                  rw [hyes.out hse, ← List.append_assoc, List.length_append, hol, hrl.out] at hl9
                  have hyy := Lib.hid (hyes.out hse)
                  clear hyes hno hse hol
                  have x1 := hbx2.cell 1
                  have gdr2 : Grew w2 w2.drew := (Chg.refl _ w2).drew
                  have hox3 := hox2.grew gdr2
                  have hbx3 := hbx2.grew gdr2
                  have hsz : xb + 1 ≤ w2.drew.heap.size := by have := hbx3.lt; omega
                  go_wp2_with fail
                  refine wp_region_text [(3, 1)] (by kernel_rfl) (by kernel_rfl) ?_
                  simp only [instr, chk, List.nil_append]
                  go_wp2_with (at_builtin; refine wpList_appE rfl _ _ 35 39 infoPt rfl Tryd.underlying35 rfl (xb + 1) X r z (([] : List Ptn) ++ gath s.lbs (a.take k)) rfl hox3 hsz ra rn rc sa.pts rfl (hrp.out _ (gd.trans gdr2)) (by unfold maxLen; omega) (by omega) ?_; intro X2 z2 w5 h5; have hbx5 := hbx3.chg h5.chg fun ⟨ad, e1, e2⟩ => Own.ne_blk hox3 hbx3 (by decide) ad e1 e2.symm; have k1 := hbx5.cell 1; have f1 := hbx5.frozen 1)
                  have hg5 : Grew wo w5 := h5.grew (hgo2.trans gdr2) (fun ad e => by have := hbl2.out ad e; omega)
                  have hc6 : Chg (fun j => j = xb) w5 (w5.setCell ⟨xb, 1, none⟩ (.slice X2 (r + rn) z2)) := Chg.one _ _ _ _
                  have hbx6 : Blk (w5.setCell ⟨xb, 1, none⟩ (.slice X2 (r + rn) z2)) xb 37 #[.slice la ln lc, .slice X2 (r + rn) z2] := by simpa using hbx5.set 1 (.slice X2 (r + rn) z2)
                  have hox6 := h5.oe.chg hc6 (fun ad e1 e2 => Own.ne_blk h5.oe hbx5 (by decide) ad e1 e2)
                  have hg6 : Grew wo (w5.setCell ⟨xb, 1, none⟩ (.slice X2 (r + rn) z2)) := hg5.step hc6 fun j hj e => by omega
                  rw [List.append_assoc, ← hyy.out] at hox6
                  clear h5 hc6 hbx5 hg5 hox3 hbx3 hox2 hbx2 hyy x1 z1b hsz
                  refine OnlyN.normal ?_
                  clear k1 f1
                  go_wp2
                  go_roundw
                  case rel => exact ⟨k + 1, r + rn, z2, X2, by omega, by go_num, hbx6, hox6, hg6⟩
                  case measure => simp [intOf] <;> omega
                · have e3 : (cmpLs sa.lbs s.lbs == 0) = false := Bool.eq_false_iff.2 fun h => hse (cmp_zero.1 h)
                  have hyy := Lib.hid (hno.out hse)
                  have hox6 := hox2
                  rw [← hyy.out] at hox6
                  clear hyes hno hse hol hyy hox2 z1b
                  go_wp2
                  go_roundw
                  case rel => exact ⟨k + 1, r, z, X, by omega, by go_num, hbx2, hox6, hgo2⟩
                  case measure => simp [intOf] <;> omega
              · obtain rfl : k = a.length := by omega
                rw [List.take_length] at hox
                go_wp2
                generalize wr = w7 at *
                go_loopw [20] (fun i' w' => ∃ (k r z : Nat) (X : Option Addr), k ≤ b.length ∧ i' = .int .i64 (k : Int) ∧ Blk w' xb 37 #[.slice la ln lc, .slice X r z] ∧ OE elPt w' (xb + 1) 39 X r z (gath s.lbs a ++ gath s.lbs (b.take k)) ∧ Grew wo w') (fun i' _ => b.length - (intOf i').toNat)
                case atStart => exact ⟨0, r, z, X, by omega, rfl, hbx, by simpa [gath] using hox, hgo⟩
                case round =>
                  clear hbx hox hgo
                  obtain ⟨k, r, z, X, hk, rfl, hbx, hox, hgo⟩ := hrel
                  by_cases hlt2 : k < b.length
                  · obtain ⟨ad, ⟨qa, qn, qc, ra, rn, rc⟩, sa, rfl, hx, hsi, z0, z1⟩ := (hR2.grew hgo).at_ hlt2
                    dsimp only at z0 z1
                    have v0 := y0.out _ hgo
                    have hqc := hsi.lc
                    have hrc := hsi.pc
                    have gdr : Grew wr wr.drew := (Chg.refl _ wr).drew
                    have hC := compare3_any qa la qn qc ln lc sa.lbs s.lbs wr.drew (hsi.lb.grew gdr) (hsl2.out _ (hgo.trans gdr)) (by have := hqc; dsimp only at this; omega) (by omega)
                    have hrp := fun w' (g : Grew wr w') => hsi.pt.grew g
                    have hrl := hsi.pt.1
                    dsimp only at hqc hrc hC hrp hrl
                    have hyes := fun hh => gath_yes (l := s.lbs) hx hh
                    have hno := fun hh => gath_no (l := s.lbs) hx hh
                    have hol := hox.len (by decide)
                    replace hrp := Lib.hid hrp
                    replace hyes := Lib.hid hyes
                    replace hno := Lib.hid hno
                    replace hrl := Lib.hid hrl
                    clear hx hsi
                    go_wp2_with fail
                    refine wp_region_text [(3, 1)] (by kernel_rfl) (by kernel_rfl) ?_
                    simp only [instr, chk, look, Nat.reduceBEq, if_true, if_false, Nat.reduceEqDiff, List.cons_append, List.nil_append]
                    go_wp2_with fail
                    refine hC.mono ?_
                    rintro e w2 ⟨rfl, g2⟩
                    have gd : Grew wr w2 := gdr.trans g2
                    go_wp2_with fail
                    refine OnlyN.normal ?_
                    have hbx2 := hbx.grew gd
                    have hox2 := hox.grew gd
                    have hgo2 := hgo.trans gd
                    have z1b := gd.cell z1 (fun e => e)
                    have hbl2 : Hid (∀ ad, X = some ad → xb + 1 ≤ ad.block) := fun ad e => (Own.blk_lt hox ad e).1
                    clear hC z0 z1 v0 hbx hox hgo g2
                    by_cases hse : sa.lbs = s.lbs
                    · have e3 : (cmpLs sa.lbs s.lbs == 0) = true := cmp_zero.2 hse
                      have hl9 := hbb.out (k + 1)
                      rw [hyes.out hse, ← List.append_assoc, List.length_append, hol, hrl.out] at hl9
                      have hyy := Lib.hid (hyes.out hse)
                      clear hyes hno hse hol
                      have x1 := hbx2.cell 1
                      have gdr2 : Grew w2 w2.drew := (Chg.refl _ w2).drew
                      have hox3 := hox2.grew gdr2
                      have hbx3 := hbx2.grew gdr2
                      have hsz : xb + 1 ≤ w2.drew.heap.size := by have := hbx3.lt; omega
                      go_wp2_with fail
                      refine wp_region_text [(3, 1)] (by kernel_rfl) (by kernel_rfl) ?_
                      simp only [instr, chk, List.nil_append]
                      go_wp2_with (at_builtin; refine wpList_appE rfl _ _ 35 39 infoPt rfl Tryd.underlying35 rfl (xb + 1) X r z (gath s.lbs a ++ gath s.lbs (b.take k)) rfl hox3 hsz ra rn rc sa.pts rfl (hrp.out _ (gd.trans gdr2)) (by unfold maxLen; omega) (by omega) ?_; intro X2 z2 w5 h5; have hbx5 := hbx3.chg h5.chg fun ⟨ad, e1, e2⟩ => Own.ne_blk hox3 hbx3 (by decide) ad e1 e2.symm; have k1 := hbx5.cell 1; have f1 := hbx5.frozen 1)
                      have hg5 : Grew wo w5 := h5.grew (hgo2.trans gdr2) (fun ad e => by have := hbl2.out ad e; omega)
                      have hc6 : Chg (fun j => j = xb) w5 (w5.setCell ⟨xb, 1, none⟩ (.slice X2 (r + rn) z2)) := Chg.one _ _ _ _
                      have hbx6 : Blk (w5.setCell ⟨xb, 1, none⟩ (.slice X2 (r + rn) z2)) xb 37 #[.slice la ln lc, .slice X2 (r + rn) z2] := by simpa using hbx5.set 1 (.slice X2 (r + rn) z2)
                      have hox6 := h5.oe.chg hc6 (fun ad e1 e2 => Own.ne_blk h5.oe hbx5 (by decide) ad e1 e2)
                      have hg6 : Grew wo (w5.setCell ⟨xb, 1, none⟩ (.slice X2 (r + rn) z2)) := hg5.step hc6 fun j hj e => by omega
                      rw [List.append_assoc, ← hyy.out] at hox6
                      clear h5 hc6 hbx5 hg5 hox3 hbx3 hox2 hbx2 hyy x1 z1b hsz
                      refine OnlyN.normal ?_
                      clear k1 f1
                      go_wp2
                      go_roundw
                      case rel => exact ⟨k + 1, r + rn, z2, X2, by omega, by go_num, hbx6, hox6, hg6⟩
                      case measure => simp [intOf] <;> omega
                    · have e3 : (cmpLs sa.lbs s.lbs == 0) = false := Bool.eq_false_iff.2 fun h => hse (cmp_zero.1 h)
                      have hyy := Lib.hid (hno.out hse)
                      have hox6 := hox2
                      rw [← hyy.out] at hox6
                      clear hyes hno hse hol hyy hox2 z1b
                      go_wp2
                      go_roundw
                      case rel => exact ⟨k + 1, r, z, X, by omega, by go_num, hbx2, hox6, hgo2⟩
                      case measure => simp [intOf] <;> omega
                  · obtain rfl : k = b.length := by omega
                    rw [List.take_length] at hox
                    rw [hall.out.1] at hox
                    have hrr := hox.len (by decide)
                    have hrn : r = pn := by have := hspl.out; omega
                    subst hrn
                    have x1 := hbx.cell 1
                    have v1 := y1.out _ hgo
                    have gdr : Grew wr wr.drew := (Chg.refl _ wr).drew
                    have hSP := samePoints_any X pa r r z pc s.pts s.pts wr.drew ((hox.re (by decide)).grew gdr) (hsp2.out _ (hgo.trans gdr)) (by omega) (by omega)
                    rw [decide_eq_true rfl] at hSP
                    have hbg := fun w' (g : Grew wr w') => (hbx.grew g).cell 1
                    replace hbg := Lib.hid hbg
                    have hst2 : Hid (tot (cc.take (i + 1)) = tq + r) := by show _ = _; rw [hst.out]; exact congrArg _ hrr
                    clear hox hbx hrr hst
                    go_wp2_with fail
                    refine wp_region_text [(3, 1)] (by kernel_rfl) (by kernel_rfl) ?_
                    simp only [instr, chk, List.nil_append]
                    go_wp2_with fail
                    refine hSP.mono ?_
                    rintro e w2 ⟨rfl, j2, rfl⟩
                    have gd : Grew wr (wr.drew.drewN j2) := gdr.drewN j2
                    have hgo2 := hgo.trans gd
                    have x2 := hbg.out _ gd
                    generalize wr.drew.drewN j2 = w2 at *
                    clear hSP x1 v1 hbg
                    go_wp2_with fail
                    refine OnlyN.normal ?_
                    go_wp2
                    go_roundw
                    case rel => exact ⟨i + 1, by omega, by go_num, by rw [hst2.out]; go_num, hgo2⟩
                    case measure => simp [intOf] <;> omega
          · obtain rfl : i = cc.length := by omega
            rw [List.take_length]
            have hsm := hsum.out
            have gA := g04.trans hg
            have hP1 := points8_any A1 a.length c1 a wr (hR1.grew hg) (by omega) (by omega)
            have e2 : (((tot cc : Nat) : Int) == ((tot a : Nat) : Int) + ((tot b : Nat) : Int)) = true := by simp only [beq_iff_eq]; omega
            clear hsm hTF
            go_wp2_with fail
            refine hP1.mono ?_
            rintro e w5 ⟨rfl, g5⟩
            have hP2 := points8_any A2 b.length c2 b w5 ((hR2.grew hg).grew g5) (by omega) (by omega)
            clear hP1
            go_wp2_with fail
            refine hP2.mono ?_
            rintro e w6 ⟨rfl, g6⟩
            have g06 := gA.trans (g5.trans g6)
            clear hP2
            go_wp2_with fail
            refine (awake8_any w6 (hm.grew g06)).mono ?_
            rintro e w7 ⟨rfl, g7⟩
            go_wp2
            go_ret
            exact ⟨by simp, g06.trans g7⟩
  · have fin : Calls Tryd.prog 5 #[.slice A n c, .slice M mn mc, .int .i64 u0, .int .i64 um, .int .i64 u1] w fun e w' => e = .returned (.bool true) ∧ Grew w w' := by
      by_cases h0 : um < u0
      · have e0 : decide (um < u0) = true := decide_eq_true h0
        clear hc
        go_enter Tryd.func5, Tryd.ntmps5
        go_wp2_with fail
        refine hN.mono ?_
        rintro e w1 ⟨h, S1, rfl, hD1, g1, hs1⟩
        go_wp2_with fail
        refine (awake8_any w1 (hm.grew g1)).mono ?_
        rintro e w7 ⟨rfl, g7⟩
        go_wp2
        go_ret
        exact ⟨by simp, g1.trans g7⟩
      · have e0 : decide (um < u0) = false := decide_eq_false h0
        by_cases h1 : u1 < um
        · have e1 : decide (u1 < um) = true := decide_eq_true h1
          clear hc
          go_enter Tryd.func5, Tryd.ntmps5
          go_wp2_with fail
          refine hN.mono ?_
          rintro e w1 ⟨h, S1, rfl, hD1, g1, hs1⟩
          go_wp2_with fail
          refine (awake8_any w1 (hm.grew g1)).mono ?_
          rintro e w7 ⟨rfl, g7⟩
          go_wp2
          go_ret
          exact ⟨by simp, g1.trans g7⟩
        · have e1 : decide (u1 < um) = false := decide_eq_false h1
          have e2 : decide ((1099511627776 : Int) ≤ um) = true := decide_eq_true (by omega)
          clear hc
          go_enter Tryd.func5, Tryd.ntmps5
          go_wp2_with fail
          refine hN.mono ?_
          rintro e w1 ⟨h, S1, rfl, hD1, g1, hs1⟩
          go_wp2_with fail
          refine (awake8_any w1 (hm.grew g1)).mono ?_
          rintro e w7 ⟨rfl, g7⟩
          go_wp2
          go_ret
          exact ⟨by simp, g1.trans g7⟩
    exact fin
end Go.Proofs.YtailooldnelecaaDoor
