/-
  Several texts in one:
  The law HeadCuts, walked. Conditions: the longest text that the library takes is as it is set.
-/
import Derived.Test.YtailooldnelecaaDoorPart39
import Derived.OpenShut

namespace Go.Proofs.YtailooldnelecaaDoor
open Go.RowKit

set_option maxRecDepth 100000 in
set_option maxHeartbeats 2000000 in
theorem points8_any (A : Option Addr) (n c : Nat) (ss : List Ser) (w : World) (h : RS w A n ss) (hn : n ≤ 9223372036854775807) (ht : tot ss ≤ 9223372036854775807) :
    Calls Tryd.prog 16 #[.slice A n c] w fun e w' => e = .returned (.int .i64 (tot ss : Int)) ∧ Grew w w' := by
  have hln := h.len
  go_enter Tryd.func16, Tryd.ntmps16
  go_wp2
  go_loopw [3, 4] (fun o i wr => ∃ (k : Nat), k ≤ n ∧ i = .int .i64 (k : Int) ∧ o = .int .i64 (tot (ss.take k) : Int) ∧ Grew w wr) (fun _ i _ => n - (intOf i).toNat)
  case atStart => exact ⟨0, by omega, rfl, rfl, Chg.refl _ _⟩
  case round =>
    obtain ⟨k, hk, rfl, rfl, hg⟩ := hrel
    by_cases hlt : k < n
    · obtain ⟨ad, m, s, rfl, hx, hsi, _, z1⟩ := (h.grew hg).at_ hlt
      have hst := tot_snoc hx
      have hle := tot_take ss (k + 1)
      have hpc := hsi.pc
      have hpl := hsi.pt.1
      replace hst := Lib.hid hst
      generalize htk : tot (ss.take k) = q at *
      have hq : q + m.pn ≤ 9223372036854775807 := by have := hst.out; omega
      clear hx hsi hle
      go_wp2
      go_roundw
      case rel => exact ⟨k + 1, by omega, by go_num, by rw [hst.out, ← hpl]; go_num, hg⟩
      case measure => simp [intOf] <;> omega
    · obtain rfl : k = n := by omega
      rw [List.take_of_length_le (by omega)]
      go_wp2
      go_ret
      exact ⟨by simp, hg⟩

theorem tot_parts (t : Int) : ∀ ss : List Ser, tot (ss.filterMap (cutOff t)) + tot (ss.filterMap (cutLeft t)) = tot ss
  | [] => rfl
  | s :: r => by
    have ih := tot_parts t r
    have h1 := cutN_le t s.pts
    rw [List.filterMap_cons, List.filterMap_cons, tot_cons1]
    have h2 : cutOff t s = if cutN t s.pts = 0 then none else some ⟨s.lbs, s.pts.take (cutN t s.pts)⟩ := rfl
    have h3 : cutLeft t s = if cutN t s.pts = s.pts.length then none else some ⟨s.lbs, s.pts.drop (cutN t s.pts)⟩ := rfl
    rw [h2, h3]
    by_cases h4 : cutN t s.pts = 0
    · by_cases h5 : cutN t s.pts = s.pts.length
      · rw [if_pos h4, if_pos h5]
        simp only
        omega
      · rw [if_pos h4, if_neg h5]
        simp only [tot_cons1, List.length_drop]
        omega
    · by_cases h5 : cutN t s.pts = s.pts.length
      · rw [if_neg h4, if_pos h5]
        simp only [tot_cons1, List.length_take]
        omega
      · rw [if_neg h4, if_neg h5]
        simp only [tot_cons1, List.length_take, List.length_drop]
        omega
theorem tot_srt (ss : List Ser) : tot (srtS ss) = tot ss := tot_perm1 (srtS_perm ss)
theorem sel_sel_none (a b c d : Int) (h : c < b) (ss : List Ser) : selS a c (selS b d ss) = [] := fm_none fun s' hs' => by
  obtain ⟨s, _, h1⟩ := List.mem_filterMap.1 hs'
  refine selF_none fun p hp => ?_
  split at h1
  · cases h1
  · injection h1 with h1
    subst h1
    have := (List.mem_filter.1 hp).2
    unfold inR at this
    simp only [Bool.and_eq_true, decide_eq_true_eq] at this
    omega
/-- what the selects about a cut tell -/
structure CutF (t : Int) (ss all cut left : List Ser) : Prop where
  all : all = srtS ss
  cut : cut = srtS (selS (-1099511627776) (t - 1) ss)
  left : left = srtS (selS t 1099511627776 ss)
theorem CutF.sum {lim : Nat} {t : Int} {ss all cut left : List Ser} (h : CutF t ss all cut left) (hv : HV lim ss) : tot cut + tot left = tot all := by
  rw [h.all, h.cut, h.left, tot_srt, tot_srt, tot_srt, ← hv.cutOff, ← hv.cutLeft, tot_parts]
theorem CutF.early {lim : Nat} {t : Int} {ss all cut left : List Ser} (h : CutF t ss all cut left) (hv : HV lim ss) (ht : t ≤ -1099511627776) : cut = [] ∧ left = all := by
  rw [h.all, h.cut, h.left, hv.sel_none (.inl (by omega)), hv.sel_all ht (by omega)]
  exact ⟨srtS_nil, rfl⟩

set_option maxRecDepth 100000 in
set_option maxHeartbeats 8000000 in
theorem walk_headCuts (A : Option Addr) (n c : Nat) (xs : List Smp) (t : Int) (w : World) (hA : RSa w A n xs) (hn : n ≤ c ∧ c ≤ 9223372036854775807) (ht : (Lit.int .i64 t).wf = true) (hm : MaxL w) :
    Calls Tryd.prog 4 #[.slice A n c, .int .i64 t] w fun e w' => e = .returned (.bool true) ∧ Grew w w' := by
  have hb := Go.bounds_i64 ht
  clear ht
  go_enter Tryd.func4, Tryd.ntmps4
  have hN := new_hd 1024 w (by decide)
  rw [show (min (max 1024 0) 1024 : Int).toNat = 1024 from rfl] at hN
  go_wp2_with fail
  refine hN.mono ?_
  rintro e w1 ⟨h, S1, rfl, hD1, g1, hs1⟩
  clear hN
  go_wp2
  go_loopw [6] (fun i wr => ∃ (k : Nat) (S : Nat → Prop) (ss : List Ser), k ≤ n ∧ i = .int .i64 (k : Int) ∧ HD S wr h 1024 ss ∧ (∀ k, S k → w.heap.size ≤ k) ∧ Grew w wr) (fun i _ => n - (intOf i).toNat)
  case atStart => exact ⟨0, S1, [], by omega, rfl, hD1, hs1, g1⟩
  case round =>
    clear hD1 hs1 g1 w1 S1
    obtain ⟨k, S, ss, hk, rfl, hD, hs, hg⟩ := hrel
    by_cases hlt : k < n
    · obtain ⟨ad, la, ln, lc, s, rfl, hx, hlb, hlc, _, _, x0, x1, x2⟩ := (hA.grew hg).at_ hlt
      have hAd := add_hd la ln lc s.lbs s.t s.v hD hlb hlc
      generalize fateS 1024 ss s.lbs s.t s.v = f at *
      generalize addT 1024 ss s.lbs s.t s.v = tt at *
      replace hs := Lib.hid hs
      replace hg := Lib.hid hg
      clear hx hlb hlc hD
      go_wp2_with fail
      refine hAd.mono ?_
      rintro e w2 ⟨rfl, S2, hD2, hs12, hs21, hc2⟩
      have hz := hg.out.size
      have g2 : Grew w w2 := Chg.new hg.out hc2 hs.out
      have hs2 : ∀ k, S2 k → w.heap.size ≤ k := fun k hk => by
        rcases hs21 k hk with h | h
        · exact hs.out k h
        · omega
      clear hAd hs12 hs21 hc2 x0 x1 x2 hg hs
      go_wp2
      go_roundw
      case rel => exact ⟨k + 1, S2, tt, by omega, by go_num, hD2, hs2, g2⟩
      case measure => simp [intOf] <;> omega
    · obtain rfl : k = n := by omega
      have hSa := sel_hd (-1099511627776) 1099511627776 hD (hm.grew hg)
      rw [hD.hv.sel_all (Int.le_refl _) (Int.le_refl _)] at hSa
      replace hs := Lib.hid hs
      obtain ⟨all, hall⟩ : ∃ all, Hid (all = srtS ss) := ⟨_, rfl⟩
      rw [← hall.out] at hSa
      clear hA
      go_wp2_with fail
      refine hSa.mono ?_
      rintro e w2 ⟨A1, c1, rfl, hN1, g2⟩
      have hD2 := hD.grew g2
      have g02 := hg.trans g2
      have hlt0 := Lib.hid hD.lt
      have hz2 := g2.size
      clear hSa hD hg g2
      by_cases hbe : t ≤ -1099511627776
      · have e1 : decide (t ≤ -1099511627776) = true := decide_eq_true hbe
        go_wp2_with fail
        refine (sel_hd (-1099511627776) _ hD2 (hm.grew g02)).mono ?_
        rintro e w3 ⟨A2, c2, rfl, hN2, g3⟩
        have hD3 := hD2.grew g3
        have g03 := g02.trans g3
        have hN1b := hN1.grew g3
        have hlt2 := Lib.hid hD2.lt
        have hz3 := g3.size
        clear hD2 hN1 g02 g3
        go_wp2_with fail
        refine (sel_hd t 1099511627776 hD3 (hm.grew g03)).mono ?_
        rintro e w4 ⟨A3, c3, rfl, hN3, g4⟩
        have hD4 := hD3.grew g4
        have g04 := g03.trans g4
        have hN1c := hN1b.grew g4
        have hN2b := hN2.grew g4
        have hlt3 := Lib.hid hD3.lt
        have hz4 := g4.size
        obtain ⟨left, hleft⟩ : ∃ left, Hid (left = srtS (selS t 1099511627776 ss)) := ⟨_, rfl⟩
        rw [← hleft.out] at hN3 ⊢
        clear hD3 hN1b hN2 g03 g4
        obtain ⟨cut, hcut⟩ : ∃ cut, Hid (cut = srtS (selS (-1099511627776) (t - 1) ss)) := ⟨_, rfl⟩
        have hF : Hid (CutF t ss all cut left) := ⟨hall.out, hcut.out, hleft.out⟩
        have hsum := Lib.hid (hF.out.sum hD4.hv)
        have hearly := Lib.hid (hF.out.early hD4.hv hbe)
        have htl := hD4.tot
        have hta : tot all ≤ 2251799813686272 := by rw [hall.out, tot_srt]; exact htl
        have htb : tot cut ≤ 2251799813686272 ∧ tot left ≤ 2251799813686272 := by have := hsum.out; omega
        clear htl
        have hC := cut_hd t hD4 (hm.grew g04)
        rw [← hcut.out] at hC
        clear hall hcut hleft
        go_wp2_with fail
        refine hC.mono ?_
        rintro e w5 ⟨A4, c4, rfl, hN4, hc5, hD5⟩
        have g05 := Chg.new g04 hc5 hs.out
        have hN1d := hN1c.chg hc5 fun k hk e => by have := hlt0.out k e; omega
        have hN3b := hN3.chg hc5 fun k hk e => by have := hlt3.out k e; omega
        clear hC hc5 hN1c hN2b hN3 hD4 g04
        have hv5 := hD5.hv
        have hSl := sel_hd (-1099511627776) 1099511627776 hD5 (hm.grew g05)
        rw [hv5.sel_all (Int.le_refl _) (Int.le_refl _)] at hSl
        have hleft : left = srtS (selS t 1099511627776 ss) := hF.out.left
        rw [← hleft] at hSl
        clear hleft
        go_wp2_with fail
        refine hSl.mono ?_
        rintro e w6 ⟨A5, c5, rfl, hN5, g6⟩
        have hD6 := hD5.grew g6
        have g06 := g05.trans g6
        have hN1e := hN1d.grew g6
        have hN3c := hN3b.grew g6
        have hN4b := hN4.grew g6
        have hcn := hN4b.cap
        have hln := hN5.cap
        have han := hN1e.cap
        clear hSl hD5 hN1d hN3b hN4 g6 g05
        obtain ⟨rfl, rfl⟩ := hearly.out
        have hE1 := sameS_any A4 none 0 0 c4 0 [] [] w6 hN4b.rs (RS.nil _ _) (by decide) (by decide)
        rw [eqB_true rfl] at hE1
        rw [show ([] : List Ser).length = 0 from rfl] at *
        go_wp2_with fail
        refine hE1.mono ?_
        rintro e w7 ⟨rfl, g7⟩
        have hD7 := hD6.grew g7
        have g07 := g06.trans g7
        have hE2 := sameS_any A5 A1 left.length left.length c5 c1 left left w7 (hN5.grew g7).rs (hN1e.grew g7).rs (by omega) (by omega)
        rw [eqB_true rfl] at hE2
        clear hE1
        go_wp2_with fail
        refine hE2.mono ?_
        rintro e w8 ⟨rfl, g8⟩
        have hD8 := hD7.grew g8
        have g08 := g07.trans g8
        have g68 := g7.trans g8
        clear hE2 hD7 hD6
        have hP1 := points8_any A4 0 c4 [] w8 (hN4b.grew g68).rs (by omega) (by omega)
        go_wp2_with fail
        refine hP1.mono ?_
        rintro e w9 ⟨rfl, g9⟩
        have hD9 := hD8.grew g9
        have g69 := g68.trans g9
        have g09 := g08.trans g9
        clear hP1 hD8
        have hP2 := points8_any A5 left.length c5 left w9 (hN5.grew g69).rs (by omega) (by omega)
        go_wp2_with fail
        refine hP2.mono ?_
        rintro e w10 ⟨rfl, g10⟩
        have hD10 := hD9.grew g10
        have g610 := g69.trans g10
        have g010 := g09.trans g10
        clear hP2 hD9
        have hP3 := points8_any A1 left.length c1 left w10 (hN1e.grew g610).rs (by omega) (by omega)
        go_wp2_with fail
        refine hP3.mono ?_
        rintro e w11 ⟨rfl, g11⟩
        have hD11 := hD10.grew g11
        have g011 := g010.trans g11
        clear hP3 hD10
        have hC2 := cut_hd t hD11 (hm.grew g011)
        rw [sel_sel_none (-1099511627776) t (t - 1) 1099511627776 (by omega), srtS_nil, show ([] : List Ser).length = 0 from rfl] at hC2
        have e2 : (((tot [] : Nat) : Int) + ((tot left : Nat) : Int) == ((tot left : Nat) : Int)) = true := by have := hsum.out; simp only [beq_iff_eq]; omega
        go_wp2_with fail
        refine hC2.mono ?_
        rintro e w12 ⟨A6, c6, rfl, _, hc12, _⟩
        have g012 := Chg.new g011 hc12 hs.out
        clear hC2 hc12
        go_wp2_with fail
        refine (awake8_any w12 (hm.grew g012)).mono ?_
        rintro e w13 ⟨rfl, g13⟩
        go_wp2
        go_ret
        exact ⟨by simp, g012.trans g13⟩
      · have e1 : decide (t ≤ -1099511627776) = false := decide_eq_false hbe
        go_wp2_with fail
        refine (sel_hd (-1099511627776) (t - 1) hD2 (hm.grew g02)).mono ?_
        rintro e w3 ⟨A2, c2, rfl, hN2, g3⟩
        have hD3 := hD2.grew g3
        have g03 := g02.trans g3
        have hN1b := hN1.grew g3
        have hlt2 := Lib.hid hD2.lt
        have hz3 := g3.size
        clear hD2 hN1 g02 g3
        obtain ⟨cut, hcut⟩ : ∃ cut, Hid (cut = srtS (selS (-1099511627776) (t - 1) ss)) := ⟨_, rfl⟩
        rw [← hcut.out] at hN2 ⊢
        go_wp2_with fail
        refine (sel_hd t 1099511627776 hD3 (hm.grew g03)).mono ?_
        rintro e w4 ⟨A3, c3, rfl, hN3, g4⟩
        have hD4 := hD3.grew g4
        have g04 := g03.trans g4
        have hN1c := hN1b.grew g4
        have hN2b := hN2.grew g4
        have hlt3 := Lib.hid hD3.lt
        have hz4 := g4.size
        obtain ⟨left, hleft⟩ : ∃ left, Hid (left = srtS (selS t 1099511627776 ss)) := ⟨_, rfl⟩
        rw [← hleft.out] at hN3 ⊢
        clear hD3 hN1b hN2 g03 g4
        have hF : Hid (CutF t ss all cut left) := ⟨hall.out, hcut.out, hleft.out⟩
        have hsum := Lib.hid (hF.out.sum hD4.hv)
        have htl := hD4.tot
        have hta : tot all ≤ 2251799813686272 := by rw [hall.out, tot_srt]; exact htl
        have htb : tot cut ≤ 2251799813686272 ∧ tot left ≤ 2251799813686272 := by have := hsum.out; omega
        clear htl
        have hC := cut_hd t hD4 (hm.grew g04)
        rw [← hcut.out] at hC
        clear hall hcut hleft
        go_wp2_with fail
        refine hC.mono ?_
        rintro e w5 ⟨A4, c4, rfl, hN4, hc5, hD5⟩
        have g05 := Chg.new g04 hc5 hs.out
        have hN1d := hN1c.chg hc5 fun k hk e => by have := hlt0.out k e; omega
        have hN3b := hN3.chg hc5 fun k hk e => by have := hlt3.out k e; omega
        have hN2c := hN2b.chg hc5 fun k hk e => by have := hlt2.out k e; omega
        clear hC hc5 hN1c hN2b hN3 hD4 g04
        have hv5 := hD5.hv
        have hSl := sel_hd (-1099511627776) 1099511627776 hD5 (hm.grew g05)
        rw [hv5.sel_all (Int.le_refl _) (Int.le_refl _)] at hSl
        have hleft : left = srtS (selS t 1099511627776 ss) := hF.out.left
        rw [← hleft] at hSl
        clear hleft
        go_wp2_with fail
        refine hSl.mono ?_
        rintro e w6 ⟨A5, c5, rfl, hN5, g6⟩
        have hD6 := hD5.grew g6
        have g06 := g05.trans g6
        have hN1e := hN1d.grew g6
        have hN3c := hN3b.grew g6
        have hN4b := hN4.grew g6
        have hN2d := hN2c.grew g6
        have hcn := hN4b.cap
        have hln := hN5.cap
        have han := hN1e.cap
        clear hSl hD5 hN1d hN3b hN4 g6 g05 hN2c
        have hE1 := sameS_any A4 A2 cut.length cut.length c4 c2 cut cut w6 hN4b.rs hN2d.rs (by omega) (by omega)
        rw [eqB_true rfl] at hE1
        go_wp2_with fail
        refine hE1.mono ?_
        rintro e w7 ⟨rfl, g7⟩
        have hD7 := hD6.grew g7
        have g07 := g06.trans g7
        have hE2 := sameS_any A5 A3 left.length left.length c5 c3 left left w7 (hN5.grew g7).rs (hN3c.grew g7).rs (by omega) (by omega)
        rw [eqB_true rfl] at hE2
        clear hE1
        go_wp2_with fail
        refine hE2.mono ?_
        rintro e w8 ⟨rfl, g8⟩
        have hD8 := hD7.grew g8
        have g08 := g07.trans g8
        have g68 := g7.trans g8
        clear hE2 hD7 hD6
        have hP1 := points8_any A4 cut.length c4 cut w8 (hN4b.grew g68).rs (by omega) (by omega)
        go_wp2_with fail
        refine hP1.mono ?_
        rintro e w9 ⟨rfl, g9⟩
        have hD9 := hD8.grew g9
        have g69 := g68.trans g9
        have g09 := g08.trans g9
        clear hP1 hD8
        have hP2 := points8_any A5 left.length c5 left w9 (hN5.grew g69).rs (by omega) (by omega)
        go_wp2_with fail
        refine hP2.mono ?_
        rintro e w10 ⟨rfl, g10⟩
        have hD10 := hD9.grew g10
        have g610 := g69.trans g10
        have g010 := g09.trans g10
        clear hP2 hD9
        have hP3 := points8_any A1 all.length c1 all w10 (hN1e.grew g610).rs (by omega) (by omega)
        go_wp2_with fail
        refine hP3.mono ?_
        rintro e w11 ⟨rfl, g11⟩
        have hD11 := hD10.grew g11
        have g011 := g010.trans g11
        clear hP3 hD10
        have hC2 := cut_hd t hD11 (hm.grew g011)
        rw [sel_sel_none (-1099511627776) t (t - 1) 1099511627776 (by omega), srtS_nil, show ([] : List Ser).length = 0 from rfl] at hC2
        have e2 : (((tot cut : Nat) : Int) + ((tot left : Nat) : Int) == ((tot all : Nat) : Int)) = true := by have := hsum.out; simp only [beq_iff_eq]; omega
        go_wp2_with fail
        refine hC2.mono ?_
        rintro e w12 ⟨A6, c6, rfl, _, hc12, _⟩
        have g012 := Chg.new g011 hc12 hs.out
        clear hC2 hc12
        go_wp2_with fail
        refine (awake8_any w12 (hm.grew g012)).mono ?_
        rintro e w13 ⟨rfl, g13⟩
        go_wp2
        go_ret
        exact ⟨by simp, g012.trans g13⟩
end Go.Proofs.YtailooldnelecaaDoor
