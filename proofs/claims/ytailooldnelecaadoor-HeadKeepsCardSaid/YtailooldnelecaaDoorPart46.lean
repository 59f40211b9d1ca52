/-
  Several texts in one:
  The law HeadKeeps, walked. Conditions: the longest text that the library takes is as it is set.
-/
import Derived.Test.YtailooldnelecaaDoorPart44
import Derived.Deep.CutRange

namespace Go.Proofs.YtailooldnelecaaDoor
open Go.RowKit

/-- each point is a sample's -/
def FromS (xs : List Smp) (hs : List Ser) : Prop := ∀ s ∈ hs, ∀ p ∈ s.pts, ∃ x ∈ xs, x.lbs = s.lbs ∧ x.t = p.1 ∧ x.v = p.2
theorem FromS.add {xs : List Smp} {hs : List Ser} (h : FromS xs hs) {x : Smp} (hx : x ∈ xs) (lim : Nat) : FromS xs (addT lim hs x.lbs x.t x.v) := fun s hsm p hp => by
  rcases mem_add hsm hp with ⟨s', h1, h2, h3⟩ | ⟨h1, h2⟩
  · obtain ⟨y, hy, h4, h5⟩ := h s' h1 p h3
    exact ⟨y, hy, h4.trans h2, h5⟩
  · subst h2
    exact ⟨x, hx, h1.symm, rfl, rfl⟩
def isX (l : List Lab) (p : Ptn) (x : Smp) : Bool := decide (x.t = p.1) && decide (x.v = p.2) && decide (x.lbs = l)
theorem any_of {xs : List Smp} {l : List Lab} {p : Ptn} (h : ∃ x ∈ xs, x.lbs = l ∧ x.t = p.1 ∧ x.v = p.2) : xs.any (isX l p) = true := by
  obtain ⟨x, hx, h1, h2, h3⟩ := h
  exact List.any_eq_true.2 ⟨x, hx, by simp [isX, h1, h2, h3]⟩
theorem any_snoc {α : Type} {f : α → Bool} {l : List α} {k : Nat} {x : α} (h : l[k]? = some x) : (l.take (k + 1)).any f = ((l.take k).any f || f x) := by
  rw [take_sn h, List.any_append]
  simp
/-- what the third answer is -/
theorem fate_third {lim : Nat} {hs : List Ser} {lbs : List Lab} {T : Int} {V : Nat} : (fateS lim hs lbs T V = 1 → fateS lim (addT lim hs lbs T V) lbs T V = 2) ∧ (fateS lim hs lbs T V ≠ 1 → fateS lim (addT lim hs lbs T V) lbs T V = fateS lim hs lbs T V) :=
  ⟨fateS_twin, fun h => by rw [fateS_same h]⟩
structure KeepF (xs : List Smp) (G : List Ser) : Prop where
  sort : SortS G
  rise : ∀ s ∈ G, Rise s.pts
  non : ∀ s ∈ G, s.pts ≠ []
  frm : FromS xs G
theorem keep_of {lim : Nat} {xs : List Smp} {hs : List Ser} (hv : HV lim hs) (hf : FromS xs hs) : KeepF xs (srtS hs) :=
  ⟨srtS_sort hv.dis, fun s h => hv.ris s ((srtS_perm hs).mem_iff.1 h), fun s h => hv.non s ((srtS_perm hs).mem_iff.1 h), fun s h => hf s ((srtS_perm hs).mem_iff.1 h)⟩

set_option maxRecDepth 100000 in
set_option maxHeartbeats 16000000 in
theorem walk_headKeeps (lim : Int) (A : Option Addr) (n c : Nat) (xs : List Smp) (w : World) (hlim : (Lit.int .i64 lim).wf = true) (hA : RSa w A n xs) (hn : n ≤ c ∧ c ≤ 9223372036854775807) (hm : MaxL w) :
    Calls Tryd.prog 3 #[.int .i64 lim, .slice A n c] w fun e w' => e = .returned (.bool true) ∧ Grew w w' := by
  have hN := new_hd lim w (Go.bounds_i64 hlim)
  clear hlim
  generalize (min (max lim 0) 1024).toNat = lm at *
  go_enter Tryd.func3, Tryd.ntmps3
  go_wp2_with fail
  refine hN.mono ?_
  rintro e w1 ⟨h, S1, rfl, hD1, g1, hs1⟩
  clear hN
  go_wp2
  go_loopw [6, 7] (fun o i wr => ∃ (k : Nat) (S : Nat → Prop) (hs : List Ser), k ≤ n ∧ i = .int .i64 (k : Int) ∧ o = .int .i64 (tot hs : Int) ∧ HD S wr h lm hs ∧ (∀ k, S k → w.heap.size ≤ k) ∧ Grew w wr ∧ Hid (FromS xs hs)) (fun _ i _ => n - (intOf i).toNat)
  case atStart => exact ⟨0, S1, [], by omega, rfl, rfl, hD1, hs1, g1, fun s h => by cases h⟩
  case round =>
    clear hD1 hs1 g1 w1 S1
    obtain ⟨k, S, hs, hk, rfl, rfl, hD, hS, hg, hfr⟩ := hrel
    by_cases hlt : k < n
    · obtain ⟨ad, la, ln, lc, s, rfl, hx, hlb, hlc, _, _, v0, v1, v2⟩ := hA.at_ hlt
      have hfr2 := Lib.hid (hfr.out.add (List.mem_of_getElem? hx) lm)
      have hft := Lib.hid (fate_third (lim := lm) (hs := hs) (lbs := s.lbs) (T := s.t) (V := s.v))
      have htt := Lib.hid (tot_add (lim := lm) (lbs := s.lbs) (T := s.t) (V := s.v) hD.hv.dis)
      have htb := hD.tot
      have hF := fate_hd la ln lc s.lbs s.t s.v hD (hlb.grew hg) hlc
      have hAd := fun w' (g : Grew wr w') => add_hd la ln lc s.lbs s.t s.v (hD.grew g) (hlb.grew (hg.trans g)) hlc
      generalize hf : fateS lm hs s.lbs s.t s.v = f at *
      generalize addT lm hs s.lbs s.t s.v = tt at *
      clear hf
      have hl := Lib.hid fun w' (g : Grew w w') => hlb.grew g
      have c0 := Lib.hid fun w' (g : Grew w w') => Chg.cell g v0 (fun e => e)
      have c1 := Lib.hid fun w' (g : Grew w w') => Chg.cell g v1 (fun e => e)
      have c2 := Lib.hid fun w' (g : Grew w w') => Chg.cell g v2 (fun e => e)
      have x0 := c0.out _ hg
      have x1 := c1.out _ hg
      have x2 := c2.out _ hg
      replace hAd := Lib.hid hAd
      replace hS := Lib.hid hS
      replace hg := Lib.hid hg
      clear hx hlb hD v0 v1 v2 hfr
      go_wp2_with fail
      refine hF.mono ?_
      rintro e w2 ⟨rfl, g2⟩
      have g02 := hg.out.trans g2
      have hAd2 := hAd.out _ g2
      clear hF hAd x0 x1 x2
      have x0 := c0.out _ g02
      have x1 := c1.out _ g02
      have x2 := c2.out _ g02
      go_wp2_with fail
      refine hAd2.mono ?_
      rintro e w3 ⟨rfl, S3, hD3, hs13, hs31, hc3⟩
      have g03 := Chg.new g02 hc3 hS.out
      have hz2 := g02.size
      have hS3 : ∀ k, S3 k → w.heap.size ≤ k := fun k hk => by
        rcases hs31 k hk with h | h
        · exact hS.out k h
        · omega
      have htb2 := hD3.tot
      have hF3 := fate_hd la ln lc s.lbs s.t s.v hD3 (hl.out _ g03) hlc
      generalize fateS lm tt s.lbs s.t s.v = f3 at *
      clear hAd2 hs13 hs31 hc3 x0 x1 x2 hg
      have x0 := c0.out _ g03
      have x1 := c1.out _ g03
      have x2 := c2.out _ g03
      go_wp2_with fail
      refine hF3.mono ?_
      rintro e w4 ⟨rfl, g4⟩
      have hD4 := hD3.grew g4
      have g04 := g03.trans g4
      clear hF3 hD3 x0 x1 x2 g02 g03 g2 g4
      by_cases hf1 : f = 1
      · subst hf1
        obtain rfl := hft.out.1 rfl
        have ht9 := Lib.hid htt.out
        rw [if_pos rfl] at ht9
        have hb9 : tot hs + 1 ≤ 2251799813686272 := by have := ht9.out; omega
        clear hft htt
        generalize tot hs = q at *
        go_wp2
        go_roundw
        case rel => exact ⟨k + 1, S3, tt, by omega, by go_num, by rw [ht9.out]; go_num, hD4, hS3, g04, hfr2⟩
        case measure => simp [intOf] <;> omega
      · have e1 : (f == 1) = false := by simp [hf1]
        have hf3 := hft.out.2 hf1
        subst hf3
        have ht9 := Lib.hid htt.out
        rw [if_neg hf1] at ht9
        clear hft htt
        generalize tot hs = q at *
        go_wp2
        go_roundw
        case rel => exact ⟨k + 1, S3, tt, by omega, by go_num, by rw [ht9.out]; rfl, hD4, hS3, g04, hfr2⟩
        case measure => simp [intOf] <;> omega
    · obtain rfl : n = k := by omega
      have hkf := keep_of hD.hv hfr.out
      have hSl := sel_hd (-1099511627776) 1099511627776 hD (hm.grew hg)
      rw [hD.hv.sel_all (Int.le_refl _) (Int.le_refl _)] at hSl
      have hcl : hs.length = (srtS hs).length := ((srtS_perm hs).length_eq).symm
      have hCn := fun w' (g : Grew wr w') => count_hd (hD.grew g)
      simp only [hcl] at hCn
      generalize srtS hs = G at *
      generalize tot hs = q at *
      replace hkf := Lib.hid hkf
      clear hD hcl hfr hS
      go_wp2_with fail
      refine hSl.mono ?_
      rintro e w5 ⟨B, d, rfl, hN5, g5⟩
      have hCn5 := hCn w5 g5
      clear hSl hCn
      go_wp2_with fail
      refine hCn5.mono ?_
      rintro e w6 ⟨rfl, g6⟩
      have hR := (hN5.grew g6).rs
      have hBc := hN5.cap
      have g06 := hg.trans (g5.trans g6)
      have hfr := Lib.hid hkf.out.frm
      clear hN5 hCn5 hg g5 g6
      go_wp2
      go_loopw [14] (fun i' w' => ∃ i : Nat, i ≤ G.length ∧ i' = .int .i64 (i : Int) ∧ Grew w6 w') (fun i' _ => G.length - (intOf i').toNat)
      case atStart => exact ⟨0, by omega, rfl, Chg.refl _ _⟩
      case round =>
        obtain ⟨i, hi, rfl, hg⟩ := hrel
        by_cases hlt : i < G.length
        · obtain ⟨cd, ⟨la, ln, lc, pa, pn, pc⟩, s, rfl, hx, hsi, z0, z1⟩ := hR.at_ hlt
          dsimp only at z0 z1
          have hlc := hsi.lc
          have hpc := hsi.pc
          have hsl := hsi.lb
          have hsp := hsi.pt
          dsimp only at hlc hpc hsl hsp
          have hmem := Lib.hid (List.mem_of_getElem? hx)
          have hris := Lib.hid (hkf.out.rise s hmem.out)
          have hpn : 0 < pn := by
            rw [← hsp.1]
            exact List.length_pos_iff.2 (hkf.out.non s hmem.out)
          have e2 : ((pn : Int) == 0) = false := by simp only [beq_eq_false_iff_ne]; omega
          have hsl2 := fun w' (g : Grew w6 w') => hsl.grew g
          have hsp2 := fun w' (g : Grew w6 w') => hsp.grew g
          have y0 := Lib.hid fun w' (g : Grew w6 w') => Chg.cell g z0 (fun e => e)
          have y1 := Lib.hid fun w' (g : Grew w6 w') => Chg.cell g z1 (fun e => e)
          clear hsl hsp hsi
          have hsl := Lib.hid hsl2
          have hsp := Lib.hid hsp2
          clear hsl2 hsp2
          have s0 := y0.out _ hg
          have s1 := y1.out _ hg
          go_upto_region 26 with fail
          go_cut [110] from 79 to 188 (fun b' wx => b' = .bool false ∧ Grew w6 wx)
          case first =>
            rcases Nat.eq_zero_or_pos i with hi0 | hi0
            · have e1 : ¬ 0 < i := by omega
              clear hx z0 z1 hi0
              refine wp_region_text [(3, 1), (2, 1), (27, 1)] (by kernel_rfl) (by kernel_rfl) ?_
              simp only [instr, chk, look, Nat.reduceBEq, Bool.false_eq_true, if_true, if_false, Nat.reduceEqDiff, List.cons_append, List.nil_append]
              go_wp2_with fail
              refine OnlyN.normal ?_
              go_wp2
              go_meet
              case rel => exact ⟨rfl, hg.drew⟩
            · have hi1 : i - 1 < G.length := by omega
              obtain ⟨cd2, ⟨la2, ln2, lc2, pa2, pn2, pc2⟩, s2, hcd2, hx2, hsi2, zz0, _⟩ := hR.at_ hi1
              injection hcd2 with hcd2
              subst hcd2
              dsimp only at zz0
              have hlc2 := hsi2.lc
              dsimp only at hlc2
              have hrq := (List.pairwise_iff_getElem.1 (hkf.out.sort)) (i - 1) i (List.getElem?_eq_some_iff.1 hx2).1 (List.getElem?_eq_some_iff.1 hx).1 (by omega)
              rw [(List.getElem?_eq_some_iff.1 hx2).2, (List.getElem?_eq_some_iff.1 hx).2] at hrq
              have e1 : decide ((0 : Int) ≤ cmpLs s2.lbs s.lbs) = false := decide_eq_false (by omega)
              have q0 := Chg.cell hg zz0 (fun e => e)
              have hC := compare3_any la2 la ln2 lc2 ln lc s2.lbs s.lbs wr.drew (hsi2.lb.grew hg.drew) (hsl.out _ hg.drew) (by omega) (by omega)
              have s1g := Lib.hid fun w' (g : Grew wr w') => Chg.cell g s1 (fun e => e)
              clear hx hx2 z0 z1 zz0 hrq hsi2
              refine wp_region_text [(3, 1), (2, 1), (27, 1)] (by kernel_rfl) (by kernel_rfl) ?_
              simp only [instr, chk, look, Nat.reduceBEq, Bool.false_eq_true, if_true, if_false, Nat.reduceEqDiff, List.cons_append, List.nil_append]
              go_wp2_with fail
              refine hC.mono ?_
              rintro e w9 ⟨rfl, g9⟩
              have s9 := s1g.out _ ((Chg.refl _ wr).drew.trans g9)
              go_wp2_with fail
              refine OnlyN.normal ?_
              go_wp2
              go_meet
              case rel => exact ⟨rfl, hg.trans ((Chg.refl _ wr).drew.trans g9)⟩
          case rest =>
            obtain ⟨rfl, hcg⟩ := hcut
            clear hx z0 z1 s0 s1 hg
            have hg := hcg
            clear hcg
            go_wp2
            clear e2
            generalize wc = w7 at *
            go_loopw [15] (fun i' w' => ∃ j : Nat, j ≤ pn ∧ i' = .int .i64 (j : Int) ∧ Grew w6 w') (fun i' _ => pn - (intOf i').toNat)
            case atStart => exact ⟨0, by omega, rfl, hg⟩
            case round =>
              clear hg
              obtain ⟨j, hj, rfl, hg⟩ := hrel
              have s1 := y1.out _ hg
              by_cases hlt3 : j < pn
              · obtain ⟨pd, p, rfl, hp, p0, p1⟩ := (hsp.out _ (Chg.refl _ w6)).pt hlt3
                have hany := Lib.hid (any_of (hfr.out s (hmem.out) p (List.mem_of_getElem? hp)))
                obtain ⟨W, hW⟩ : ∃ W, W = wr.alloc (.cells #[.int .i64 p.1, .int .u64 (p.2 : Int)] 39) := ⟨_, rfl⟩
                have gW : Grew wr W := by rw [hW]; exact (Chg.refl _ wr).alloc _
                have hbp : Blk W wr.heap.size 39 #[.int .i64 p.1, .int .u64 (p.2 : Int)] := by rw [hW]; exact Blk.new wr _ _
                have hWg := hg.trans gW
                have t0 := Chg.cell hg p0 (fun e => e)
                have t1 := Chg.cell hg p1 (fun e => e)
                go_upto_region 32 with fail
                rw [← hW]
                clear hW t0 t1 s1
                generalize wr.heap.size = pb at *
                go_cut [145] from 111 to 188 (fun b' wx => b' = .bool false ∧ Grew W wx)
                case first =>
                  rcases Nat.eq_zero_or_pos j with hj0 | hj0
                  · have e4 : ¬ 0 < j := by omega
                    clear p0 p1 hp hj0
                    refine wp_region_text [(3, 1), (2, 1), (27, 1)] (by kernel_rfl) (by kernel_rfl) ?_
                    simp only [instr, chk, look, Nat.reduceBEq, Bool.false_eq_true, if_true, if_false, Nat.reduceEqDiff, List.cons_append, List.nil_append]
                    go_wp2_with fail
                    refine OnlyN.normal ?_
                    go_wp2
                    go_meet
                    case rel => exact ⟨rfl, (Chg.refl _ W).drew⟩
                  · have hj1 : j - 1 < pn := by omega
                    obtain ⟨pd2, q, hpa2, hq, q0, q1⟩ := (hsp.out _ (Chg.refl _ w6)).pt hj1
                    injection hpa2 with hpa2
                    subst hpa2
                    have hrq := (List.pairwise_iff_getElem.1 (hris.out)) (j - 1) j (List.getElem?_eq_some_iff.1 hq).1 (List.getElem?_eq_some_iff.1 hp).1 (by omega)
                    rw [(List.getElem?_eq_some_iff.1 hq).2, (List.getElem?_eq_some_iff.1 hp).2] at hrq
                    have e4 : decide (p.1 ≤ q.1) = false := decide_eq_false (by omega)
                    have r0 := hbp.cell 0
                    have tq := Chg.cell hWg q0 (fun e => e)
                    have s1W := y1.out _ hWg
                    clear p0 p1 q0 q1 hp hq hrq
                    refine wp_region_text [(3, 1), (2, 1), (27, 1)] (by kernel_rfl) (by kernel_rfl) ?_
                    simp only [instr, chk, look, Nat.reduceBEq, Bool.false_eq_true, if_true, if_false, Nat.reduceEqDiff, List.cons_append, List.nil_append]
                    go_wp2_with fail
                    refine OnlyN.normal ?_
                    go_wp2
                    go_meet
                    case rel => exact ⟨rfl, (Chg.refl _ W).drew⟩
                case rest =>
                  obtain ⟨rfl, hcg⟩ := hcut
                  clear p0 p1 hp
                  replace hbp := hbp.grew hcg
                  replace hWg := hWg.trans hcg
                  clear hcg
                  generalize wc = W at *
                  go_wp2
                  go_loopw [17, 18] (fun o i' w' => ∃ k : Nat, k ≤ n ∧ i' = .int .i64 (k : Int) ∧ o = .bool ((xs.take k).any (isX s.lbs p)) ∧ Grew W w') (fun _ i' _ => n - (intOf i').toNat)
                  case atStart => exact ⟨0, by omega, rfl, rfl, Chg.refl _ _⟩
                  case round =>
                    obtain ⟨k, hk, rfl, rfl, hgw⟩ := hrel
                    have hg0 := hWg.trans hgw
                    by_cases hlt4 : k < n
                    · obtain ⟨xd, la', ln', lc', x, hAx, hx4, hlb4, hlc4, _, _, v0, v1, v2⟩ := hA.at_ hlt4
                      have hst4 := Lib.hid (any_snoc (f := isX s.lbs p) hx4)
                      subst hAx
                      have u0 := Chg.cell (g06.trans hg0) v0 (fun e => e)
                      have u1 := Chg.cell (g06.trans hg0) v1 (fun e => e)
                      have u2 := Chg.cell (g06.trans hg0) v2 (fun e => e)
                      have s0 := y0.out _ hg0
                      have r0 := (hbp.grew hgw).cell 0
                      have r1 := (hbp.grew hgw).cell 1
                      generalize (xs.take k).any (isX s.lbs p) = bb at *
                      have gdr : Grew wr wr.drew := (Chg.refl _ wr).drew
                      have hC := compare3_any la' la ln' lc' ln lc x.lbs s.lbs wr.drew (hlb4.grew (g06.trans (hg0.trans gdr))) (hsl.out _ (hg0.trans gdr)) (by omega) (by omega)
                      clear hx4 hlb4 v0 v1 v2
                      cases bb
                      · by_cases ht : x.t = p.1
                        · have c1 : (x.t == p.1) = true := by simp [ht]
                          by_cases hv : x.v = p.2
                          · have c2 : ((x.v : Int) == (p.2 : Int)) = true := by simp [hv]
                            by_cases hl : x.lbs = s.lbs
                            · have c3 : (cmpLs x.lbs s.lbs == 0) = true := cmp_zero.2 hl
                              have hfin : Hid ((xs.take (k + 1)).any (isX s.lbs p) = true) := by show _ = _; rw [hst4.out]; simp [isX, ht, hv, hl]
                              clear hst4 ht hv hl
                              go_wp2_with fail
                              refine wp_region_text [(3, 1), (2, 1), (27, 1)] (by kernel_rfl) (by kernel_rfl) ?_
                              simp only [instr, chk, look, Nat.reduceBEq, Bool.false_eq_true, if_true, if_false, Nat.reduceEqDiff, List.cons_append, List.nil_append]
                              go_wp2_with fail
                              refine hC.mono ?_
                              rintro e w9 ⟨rfl, g9⟩
                              go_wp2_with fail
                              refine OnlyN.normal ?_
                              have hgw2 := hgw.trans (gdr.trans g9)
                              clear hC u0 u1 u2 s0 r0 r1
                              go_wp2
                              go_roundw
                              case rel => exact ⟨k + 1, by omega, by go_num, by rw [hfin.out], hgw2⟩
                              case measure => simp [intOf] <;> omega
                            · have c3 : (cmpLs x.lbs s.lbs == 0) = false := Bool.eq_false_iff.2 fun h => hl (cmp_zero.1 h)
                              have hfin : Hid ((xs.take (k + 1)).any (isX s.lbs p) = false) := by show _ = _; rw [hst4.out]; simp [isX, hl]
                              clear hst4 ht hv hl
                              go_wp2_with fail
                              refine wp_region_text [(3, 1), (2, 1), (27, 1)] (by kernel_rfl) (by kernel_rfl) ?_
                              simp only [instr, chk, look, Nat.reduceBEq, Bool.false_eq_true, if_true, if_false, Nat.reduceEqDiff, List.cons_append, List.nil_append]
                              go_wp2_with fail
                              refine hC.mono ?_
                              rintro e w9 ⟨rfl, g9⟩
                              go_wp2_with fail
                              refine OnlyN.normal ?_
                              have hgw2 := hgw.trans (gdr.trans g9)
                              clear hC u0 u1 u2 s0 r0 r1
                              go_wp2
                              go_roundw
                              case rel => exact ⟨k + 1, by omega, by go_num, by rw [hfin.out], hgw2⟩
                              case measure => simp [intOf] <;> omega
                          · have c2 : ((x.v : Int) == (p.2 : Int)) = false := by simp only [beq_eq_false_iff_ne]; omega
                            have hfin : Hid ((xs.take (k + 1)).any (isX s.lbs p) = false) := by show _ = _; rw [hst4.out]; simp [isX, hv]
                            clear hst4 ht hv hC
                            go_wp2_with fail
                            refine wp_region_text [(3, 1), (2, 1), (27, 1)] (by kernel_rfl) (by kernel_rfl) ?_
                            simp only [instr, chk, look, Nat.reduceBEq, Bool.false_eq_true, if_true, if_false, Nat.reduceEqDiff, List.cons_append, List.nil_append]
                            go_wp2_with fail
                            refine OnlyN.normal ?_
                            have hgw2 := hgw.trans gdr
                            clear u0 u1 u2 s0 r0 r1
                            go_wp2
                            go_roundw
                            case rel => exact ⟨k + 1, by omega, by go_num, by rw [hfin.out], hgw2⟩
                            case measure => simp [intOf] <;> omega
                        · have c1 : (x.t == p.1) = false := by simp [ht]
                          have hfin : Hid ((xs.take (k + 1)).any (isX s.lbs p) = false) := by show _ = _; rw [hst4.out]; simp [isX, ht]
                          clear hst4 ht hC
                          go_wp2_with fail
                          refine wp_region_text [(3, 1), (2, 1), (27, 1)] (by kernel_rfl) (by kernel_rfl) ?_
                          simp only [instr, chk, look, Nat.reduceBEq, Bool.false_eq_true, if_true, if_false, Nat.reduceEqDiff, List.cons_append, List.nil_append]
                          go_wp2_with fail
                          refine OnlyN.normal ?_
                          have hgw2 := hgw.trans gdr
                          clear u0 u1 u2 s0 r0 r1
                          go_wp2
                          go_roundw
                          case rel => exact ⟨k + 1, by omega, by go_num, by rw [hfin.out], hgw2⟩
                          case measure => simp [intOf] <;> omega
                      · have hfin : Hid ((xs.take (k + 1)).any (isX s.lbs p) = true) := by show _ = _; rw [hst4.out]; rfl
                        clear hst4 hC
                        go_wp2_with fail
                        refine wp_region_text [(3, 1), (2, 1), (27, 1)] (by kernel_rfl) (by kernel_rfl) ?_
                        simp only [instr, chk, look, Nat.reduceBEq, Bool.false_eq_true, if_true, if_false, Nat.reduceEqDiff, List.cons_append, List.nil_append]
                        go_wp2_with fail
                        refine OnlyN.normal ?_
                        have hgw2 := hgw.trans gdr
                        clear u0 u1 u2 s0 r0 r1
                        go_wp2
                        go_roundw
                        case rel => exact ⟨k + 1, by omega, by go_num, by rw [hfin.out], hgw2⟩
                        case measure => simp [intOf] <;> omega
                    · obtain rfl : k = n := by omega
                      rw [List.take_of_length_le (by rw [hA.len]; exact Nat.le_refl _), hany.out]
                      go_wp2
                      go_roundw
                      case rel => first | exact ⟨j + 1, by omega, by go_num, hg0⟩ | ((repeat apply Exists.intro); exact ⟨⟨j + 1, by omega, by go_num, hg0⟩, rfl⟩)
                      case measure => simp [intOf] <;> omega
              · obtain rfl : j = pn := by omega
                go_wp2
                go_roundw
                case rel => first | exact ⟨i + 1, by omega, by go_num, hg⟩ | ((repeat apply Exists.intro); exact ⟨⟨i + 1, by omega, by go_num, hg⟩, rfl⟩)
                case measure => simp [intOf] <;> omega
        · obtain rfl : i = G.length := by omega
          go_wp2_with fail
          refine (awake8_any wr (hm.grew (g06.trans hg))).mono ?_
          rintro e w7 ⟨rfl, g7⟩
          go_wp2
          go_ret
          exact ⟨by simp, (g06.trans hg).trans g7⟩
end Go.Proofs.YtailooldnelecaaDoor
