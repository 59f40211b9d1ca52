/-
  Several texts in one:
  The form of a list of series. Conditions: none.
-/
import Derived.Test.YtjgbdkokcgcpjaaDoorPart15
import Derived.Test.YtjgbdkokcgcpjaaDoorPart16

namespace Go.Proofs.YtjgbdkokcgcpjaaDoor
open Go.RowKit

def onB (L : List Lab) : Option (List Lab) → Bool
  | some p => decide (cmpLs p L < 0)
  | none => true
def okS : Option (List Lab) → List Ser → Bool
  | _, [] => true
  | prev, s :: r => decide (chkL s.lbs = 0) && (risB s.pts && (onB s.lbs prev && okS (some s.lbs) r))
theorem okS_cons (prev : Option (List Lab)) (s : Ser) (r : List Ser) : okS prev (s :: r) = (decide (chkL s.lbs = 0) && (risB s.pts && (onB s.lbs prev && okS (some s.lbs) r))) := rfl
def prevS (ss : List Ser) (k : Nat) : Option (List Lab) := if k = 0 then none else (ss[k - 1]?).map Ser.lbs
def errS (ss : List Ser) : Nat := if okS none ss then 0 else 100
theorem absP {b : Bool} (h : some undef = some (Value.bool b)) : False := by simp [undef] at h
theorem sameIn_refl {bs : List Nat} {W w : World} (h : w.heap = W.heap) : SameIn bs W w := fun k _ => by rw [h]

set_option maxRecDepth 100000 in
set_option maxHeartbeats 16000000 in
theorem checkS_any (A : Option Addr) (n c : Nat) (ss : List Ser) (w : World) (h : RS w A n ss) (hn : n ≤ 9223372036854775807) :
    Calls Tryd.prog 12 #[.slice A n c] w fun e w' => e = .returned (.int .i64 (errS ss : Int)) ∧ Grew w w' := by
  have hln := h.len
  unfold errS
  obtain ⟨z, hz⟩ : ∃ z, okS none ss = z := ⟨_, rfl⟩
  rw [hz]
  obtain ⟨ez, hez⟩ : ∃ ez : Int, ((if z = true then (0 : Nat) else 100 : Nat) : Int) = ez := ⟨_, rfl⟩
  rw [hez]
  replace hez := Lib.hid hez
  have hz0 : Hid (z = okS (prevS ss 0) (ss.drop 0)) := hz.symm
  clear hz
  go_enter Tryd.func12, Tryd.ntmps12
  go_wp2
  go_loopw [7] (fun i wr => ∃ k : Nat, k ≤ n ∧ i = .int .i64 (k : Int) ∧ Hid (z = okS (prevS ss k) (ss.drop k)) ∧ Grew w wr) (fun i _ => n - (intOf i).toNat)
  case atStart => exact ⟨0, by omega, rfl, hz0, Chg.refl _ _⟩
  case round =>
    obtain ⟨k, hk, rfl, hc, hg⟩ := hrel
    by_cases hlt : k < n
    · obtain ⟨ad, m, s, rfl, hs, hsi, x0, x1⟩ := (h.grew hg).at_ hlt
      have hsd : ss.drop k = s :: ss.drop (k + 1) := by
        obtain ⟨h1, h2⟩ := List.getElem?_eq_some_iff.1 hs
        rw [List.drop_eq_getElem_cons h1, h2]
      have hv := hc.out
      rw [hsd, okS_cons] at hv
      have hpn : prevS ss (k + 1) = some s.lbs := by
        unfold prevS
        rw [if_neg (by omega), Nat.add_sub_cancel, hs]
        rfl
      rw [← hpn] at hv
      obtain ⟨W, hW⟩ : ∃ W, W = wr.alloc (.cells #[.slice m.la m.ln m.lc, .slice m.pa m.pn m.pc] 46) := ⟨_, rfl⟩
      have hgW : Grew wr W := by rw [hW]; exact (Chg.refl _ wr).alloc _
      have hbx : Blk W wr.heap.size 46 #[.slice m.la m.ln m.lc, .slice m.pa m.pn m.pc] := by rw [hW]; exact Blk.new wr _ _
      have b0 := hbx.cell 0
      have b1 := hbx.cell 1
      have hlW := hsi.lb.grew hgW
      have hpW := hsi.pt.grew hgW
      have hlc := hsi.lc
      have hpc := hsi.pc
      have hC := fun W1 (hg1 : Grew W W1) => chk_any m.la m.ln m.lc s.lbs W1 (hlW.grew hg1) (by omega)
      have hR := fun W1 (hg1 : Grew W W1) => rise_any m.pa m.pn m.pc s.pts W1 (hpW.grew hg1) (by omega)
      have hadW : ad.block < W.heap.size := Nat.lt_of_lt_of_le (by have := World.block_lt_of_cell? wr _ x0; rwa [block_add] at this) hgW.size
      have hcA := cellsIn_cell (hgW.cell x0 (fun e => e))
      rw [block_add] at hcA
      have hcs : CellsIn [wr.heap.size, ad.block] W := fun i hi => by
        simp only [List.mem_cons, List.not_mem_nil, or_false] at hi
        rcases hi with rfl | rfl
        · exact ⟨_, _, _, hbx⟩
        · exact hcA _ (by simp)
      have hsame : Hid (∀ W1, Grew W W1 → SameIn [wr.heap.size, ad.block] W W1) := fun W1 h1 i hi => by
        simp only [List.mem_cons, List.not_mem_nil, or_false] at hi
        rcases hi with rfl | rfl
        · exact h1.block _ hbx.lt (fun e => e)
        · exact h1.block _ hadW (fun e => e)
      clear hc hsd hpn hlW hpW hcA
      replace hC := Lib.hid hC
      replace hR := Lib.hid hR
      generalize chkL s.lbs = ck at *
      by_cases hck : ck = 0
      · subst hck
        rw [decide_eq_true (p := (0 : Nat) = 0) rfl, Bool.true_and] at hv
        cases hrb : risB s.pts
        · rw [hrb, Bool.false_and] at hv
          replace hv := Lib.hid hv
          clear hs hsi
          go_wp2_with fail
          all_goals try exact (absP (by assumption)).elim
          rw [← hW]
          clear hW
          refine wp_region_textS [(23, 1), (3, 1)] [wr.heap.size, ad.block] (by kernel_rfl) (by kernel_rfl) hcs ?_
          simp only [wpU, tagOf, chk, look, Nat.reduceBEq, if_true, if_false, Nat.reduceEqDiff, List.nil_append, List.cons_append]
          intro K hK
          go_wp2_with fail
          all_goals try exact (absP (by assumption)).elim
          refine OnlyN.normal (hK _ _ (fun _ => ⟨_, _, _, rfl, rfl, by simp []⟩) ?_)
          clear hK K
          intro K hK
          go_wp2_with fail
          all_goals try exact (absP (by assumption)).elim
          refine (hC.out _ (Chg.refl _ W).drew).mono ?_
          rintro e w1 ⟨rfl, hg1⟩
          have hgg1 : Grew W w1 := (Chg.refl _ W).drew.trans hg1
          have d1 := hgg1.cell (show W.cell? ⟨wr.heap.size, 1, none⟩ = some (.slice m.pa m.pn m.pc) from b1) (fun e => e)
          go_wp2_with fail
          all_goals try exact (absP (by assumption)).elim
          refine OnlyN.normal (hK _ _ (hsame.out _ hgg1) ?_)
          clear hK K
          intro K hK
          go_wp2_with fail
          all_goals try exact (absP (by assumption)).elim
          refine OnlyN.normal (hK _ _ (fun _ => ⟨_, _, _, rfl, rfl, by simp []⟩) ?_)
          clear hK K
          intro K hK
          go_wp2_with fail
          all_goals try exact (absP (by assumption)).elim
          refine (hR.out _ hgg1).mono ?_
          rw [hrb]
          rintro e w2 ⟨rfl, hg2⟩
          have hgg2 : Grew W w2 := hgg1.trans hg2
          go_wp2_with fail
          all_goals try exact (absP (by assumption)).elim
          refine OnlyN.normal (hK _ _ (hsame.out _ hgg2) ?_)
          clear hK K
          intro K hK
          go_wp2_with fail
          all_goals try exact (absP (by assumption)).elim
          refine OnlyN.normal (hK _ _ (fun hw => by cases (show false = true from hw)) ?_)
          clear hK K
          intro K hK
          go_wp2_with fail
          all_goals try exact (absP (by assumption)).elim
          refine OnlyN.normal (hK _ _ (fun hw => by cases (show false = true from hw)) ?_)
          clear hK K
          intro K hK
          go_wp2_with fail
          all_goals try exact (absP (by assumption)).elim
          refine OnlyN.normal (hK _ _ (hsame.out _ hgg2) ?_)
          clear hK K
          go_wp2_with fail
          all_goals try exact (absP (by assumption)).elim
          refine OnlyN.normal ?_
          go_wp2
          go_ret
          exact ⟨by rw [← hez.out, hv.out]; simp, hg.trans (hgW.trans hgg2)⟩
        · rw [hrb, Bool.true_and] at hv
          rcases k with _ | k
          · rw [Nat.zero_mul, show ad.add 0 = ad from rfl] at x0 x1
            rw [show onB s.lbs (prevS ss 0) = true from rfl, Bool.true_and] at hv
            replace hv := Lib.hid hv
            clear hs hsi
            go_wp2_with fail
            rw [← hW]
            clear hW
            refine wp_region_textS [(23, 1), (3, 1)] [wr.heap.size, ad.block] (by kernel_rfl) (by kernel_rfl) hcs ?_
            simp only [wpU, tagOf, chk, look, Nat.reduceBEq, if_true, if_false, Nat.reduceEqDiff, List.nil_append, List.cons_append]
            intro K hK
            go_wp2_with fail
            refine OnlyN.normal (hK _ _ (fun _ => ⟨_, _, _, rfl, rfl, by simp []⟩) ?_)
            clear hK K
            intro K hK
            go_wp2_with fail
            refine (hC.out _ (Chg.refl _ W).drew).mono ?_
            rintro e w1 ⟨rfl, hg1⟩
            have hgg1 : Grew W w1 := (Chg.refl _ W).drew.trans hg1
            have d1 := hgg1.cell (show W.cell? ⟨wr.heap.size, 1, none⟩ = some (.slice m.pa m.pn m.pc) from b1) (fun e => e)
            go_wp2_with fail
            refine OnlyN.normal (hK _ _ (hsame.out _ hgg1) ?_)
            clear hK K
            intro K hK
            go_wp2_with fail
            refine OnlyN.normal (hK _ _ (fun _ => ⟨_, _, _, rfl, rfl, by simp []⟩) ?_)
            clear hK K
            intro K hK
            go_wp2_with fail
            refine (hR.out _ hgg1).mono ?_
            rw [hrb]
            rintro e w2 ⟨rfl, hg2⟩
            have hgg2 : Grew W w2 := hgg1.trans hg2
            go_wp2_with fail
            refine OnlyN.normal (hK _ _ (hsame.out _ hgg2) ?_)
            clear hK K
            intro K hK
            go_wp2_with fail
            refine OnlyN.normal (hK _ _ (fun hw => by cases (show false = true from hw)) ?_)
            clear hK K
            intro K hK
            go_wp2_with fail
            refine OnlyN.normal (hK _ _ (fun hw => by cases (show false = true from hw)) ?_)
            clear hK K
            intro K hK
            go_wp2_with fail
            refine OnlyN.normal (hK _ _ (hsame.out _ hgg2) ?_)
            clear hK K
            go_wp2_with fail
            all_goals try exact (absP (by assumption)).elim
            refine OnlyN.normal ?_
            go_wp2
            all_goals try exact (absP (by assumption)).elim
            go_roundw
            case rel => exact ⟨1, by omega, by go_num, hv, hg.trans (hgW.trans hgg2)⟩
            case measure => simp [intOf] <;> omega
          · obtain ⟨ad', mp, sp, hpe, hsp, hspi, y0, y1⟩ := (h.grew hg).at_ (show k < n by omega)
            injection hpe with hpe
            subst hpe
            have hpl : prevS ss (k + 1) = some sp.lbs := by
              unfold prevS
              rw [if_neg (by omega), Nat.add_sub_cancel, hsp]
              rfl
            rw [hpl, show onB s.lbs (some sp.lbs) = decide (cmpLs sp.lbs s.lbs < 0) from rfl] at hv
            have y0 := hgW.cell y0 (fun e => e)
            have hplc := hspi.lc
            have hM := fun W1 (hg1 : Grew W W1) => compare_labels mp.la m.la mp.ln mp.lc m.ln m.lc sp.lbs s.lbs W1 (hspi.lb.grew (hgW.trans hg1)) (hsi.lb.grew (hgW.trans hg1)) (by omega) (by omega)
            replace hM := Lib.hid hM
            generalize cmpLs sp.lbs s.lbs = cz at *
            clear hs hsi hsp hspi hpl y1
            by_cases hcz : cz < 0
            · rw [decide_eq_true hcz, Bool.true_and] at hv
              replace hv := Lib.hid hv
              have e1 : decide ((0 : Int) ≤ cz) = false := decide_eq_false (by omega)
              go_wp2_with fail
              rw [← hW]
              clear hW
              refine wp_region_textS [(23, 1), (3, 1)] [wr.heap.size, ad.block] (by kernel_rfl) (by kernel_rfl) hcs ?_
              simp only [wpU, tagOf, chk, look, Nat.reduceBEq, if_true, if_false, Nat.reduceEqDiff, List.nil_append, List.cons_append]
              intro K hK
              go_wp2_with fail
              refine OnlyN.normal (hK _ _ (fun _ => ⟨_, _, _, rfl, rfl, by simp []⟩) ?_)
              clear hK K
              intro K hK
              go_wp2_with fail
              refine (hC.out _ (Chg.refl _ W).drew).mono ?_
              rintro e w1 ⟨rfl, hg1⟩
              have hgg1 : Grew W w1 := (Chg.refl _ W).drew.trans hg1
              have d1 := hgg1.cell (show W.cell? ⟨wr.heap.size, 1, none⟩ = some (.slice m.pa m.pn m.pc) from b1) (fun e => e)
              go_wp2_with fail
              refine OnlyN.normal (hK _ _ (hsame.out _ hgg1) ?_)
              clear hK K
              intro K hK
              go_wp2_with fail
              refine OnlyN.normal (hK _ _ (fun _ => ⟨_, _, _, rfl, rfl, by simp []⟩) ?_)
              clear hK K
              intro K hK
              go_wp2_with fail
              refine (hR.out _ hgg1).mono ?_
              rw [hrb]
              rintro e w2 ⟨rfl, hg2⟩
              have hgg2 : Grew W w2 := hgg1.trans hg2
              have d0 := hgg2.cell (show W.cell? ⟨wr.heap.size, 0, none⟩ = some (.slice m.la m.ln m.lc) from b0) (fun e => e)
              have dy := hgg2.cell y0 (fun e => e)
              go_wp2_with fail
              refine OnlyN.normal (hK _ _ (hsame.out _ hgg2) ?_)
              clear hK K
              intro K hK
              go_wp2_with fail
              refine OnlyN.normal (hK _ _ (fun _ => ⟨_, _, _, rfl, rfl, by simp [block_add]⟩) ?_)
              clear hK K
              intro K hK
              go_wp2_with fail
              refine OnlyN.normal (hK _ _ (fun _ => ⟨_, _, _, rfl, rfl, by simp []⟩) ?_)
              clear hK K
              intro K hK
              go_wp2_with fail
              refine (hM.out _ hgg2).mono ?_
              rintro e w3 ⟨rfl, hg3⟩
              have hgg3 : Grew W w3 := hgg2.trans hg3
              go_wp2_with fail
              refine OnlyN.normal (hK _ _ (hsame.out _ hgg3) ?_)
              clear hK K
              go_wp2_with fail
              all_goals try exact (absP (by assumption)).elim
              refine OnlyN.normal ?_
              go_wp2
              all_goals try exact (absP (by assumption)).elim
              go_roundw
              case rel => exact ⟨k + 1 + 1, by omega, by go_num, hv, hg.trans (hgW.trans hgg3)⟩
              case measure => simp [intOf] <;> omega
            · rw [decide_eq_false hcz, Bool.false_and] at hv
              replace hv := Lib.hid hv
              have e1 : decide ((0 : Int) ≤ cz) = true := decide_eq_true (by omega)
              go_wp2_with fail
              rw [← hW]
              clear hW
              refine wp_region_textS [(23, 1), (3, 1)] [wr.heap.size, ad.block] (by kernel_rfl) (by kernel_rfl) hcs ?_
              simp only [wpU, tagOf, chk, look, Nat.reduceBEq, if_true, if_false, Nat.reduceEqDiff, List.nil_append, List.cons_append]
              intro K hK
              go_wp2_with fail
              refine OnlyN.normal (hK _ _ (fun _ => ⟨_, _, _, rfl, rfl, by simp []⟩) ?_)
              clear hK K
              intro K hK
              go_wp2_with fail
              refine (hC.out _ (Chg.refl _ W).drew).mono ?_
              rintro e w1 ⟨rfl, hg1⟩
              have hgg1 : Grew W w1 := (Chg.refl _ W).drew.trans hg1
              have d1 := hgg1.cell (show W.cell? ⟨wr.heap.size, 1, none⟩ = some (.slice m.pa m.pn m.pc) from b1) (fun e => e)
              go_wp2_with fail
              refine OnlyN.normal (hK _ _ (hsame.out _ hgg1) ?_)
              clear hK K
              intro K hK
              go_wp2_with fail
              refine OnlyN.normal (hK _ _ (fun _ => ⟨_, _, _, rfl, rfl, by simp []⟩) ?_)
              clear hK K
              intro K hK
              go_wp2_with fail
              refine (hR.out _ hgg1).mono ?_
              rw [hrb]
              rintro e w2 ⟨rfl, hg2⟩
              have hgg2 : Grew W w2 := hgg1.trans hg2
              have d0 := hgg2.cell (show W.cell? ⟨wr.heap.size, 0, none⟩ = some (.slice m.la m.ln m.lc) from b0) (fun e => e)
              have dy := hgg2.cell y0 (fun e => e)
              go_wp2_with fail
              refine OnlyN.normal (hK _ _ (hsame.out _ hgg2) ?_)
              clear hK K
              intro K hK
              go_wp2_with fail
              refine OnlyN.normal (hK _ _ (fun _ => ⟨_, _, _, rfl, rfl, by simp [block_add]⟩) ?_)
              clear hK K
              intro K hK
              go_wp2_with fail
              refine OnlyN.normal (hK _ _ (fun _ => ⟨_, _, _, rfl, rfl, by simp []⟩) ?_)
              clear hK K
              intro K hK
              go_wp2_with fail
              refine (hM.out _ hgg2).mono ?_
              rintro e w3 ⟨rfl, hg3⟩
              have hgg3 : Grew W w3 := hgg2.trans hg3
              go_wp2_with fail
              refine OnlyN.normal (hK _ _ (hsame.out _ hgg3) ?_)
              clear hK K
              go_wp2_with fail
              all_goals try exact (absP (by assumption)).elim
              refine OnlyN.normal ?_
              go_wp2
              all_goals try exact (absP (by assumption)).elim
              go_ret
              exact ⟨by rw [← hez.out, hv.out]; simp, hg.trans (hgW.trans hgg3)⟩
      · rw [decide_eq_false hck, Bool.false_and] at hv
        replace hv := Lib.hid hv
        have e1 : ((ck : Int) != 0) = true := by simp; omega
        clear hs hsi
        go_wp2_with fail
        all_goals try exact (absP (by assumption)).elim
        rw [← hW]
        clear hW
        refine wp_region_textS [(23, 1), (3, 1)] [wr.heap.size, ad.block] (by kernel_rfl) (by kernel_rfl) hcs ?_
        simp only [wpU, tagOf, chk, look, Nat.reduceBEq, if_true, if_false, Nat.reduceEqDiff, List.nil_append, List.cons_append]
        intro K hK
        go_wp2_with fail
        all_goals try exact (absP (by assumption)).elim
        refine OnlyN.normal (hK _ _ (fun _ => ⟨_, _, _, rfl, rfl, by simp []⟩) ?_)
        clear hK K
        intro K hK
        go_wp2_with fail
        all_goals try exact (absP (by assumption)).elim
        refine (hC.out _ (Chg.refl _ W).drew).mono ?_
        rintro e w1 ⟨rfl, hg1⟩
        have hgg1 : Grew W w1 := (Chg.refl _ W).drew.trans hg1
        have d1 := hgg1.cell (show W.cell? ⟨wr.heap.size, 1, none⟩ = some (.slice m.pa m.pn m.pc) from b1) (fun e => e)
        go_wp2_with fail
        all_goals try exact (absP (by assumption)).elim
        refine OnlyN.normal (hK _ _ (hsame.out _ hgg1) ?_)
        clear hK K
        intro K hK
        go_wp2_with fail
        all_goals try exact (absP (by assumption)).elim
        refine OnlyN.normal (hK _ _ (fun hw => by cases (show false = true from hw)) ?_)
        clear hK K
        intro K hK
        go_wp2_with fail
        all_goals try exact (absP (by assumption)).elim
        refine OnlyN.normal (hK _ _ (hsame.out _ hgg1) ?_)
        clear hK K
        intro K hK
        go_wp2_with fail
        all_goals try exact (absP (by assumption)).elim
        refine OnlyN.normal (hK _ _ (fun hw => by cases (show false = true from hw)) ?_)
        clear hK K
        intro K hK
        go_wp2_with fail
        all_goals try exact (absP (by assumption)).elim
        refine OnlyN.normal (hK _ _ (fun hw => by cases (show false = true from hw)) ?_)
        clear hK K
        intro K hK
        go_wp2_with fail
        all_goals try exact (absP (by assumption)).elim
        refine OnlyN.normal (hK _ _ (hsame.out _ hgg1) ?_)
        clear hK K
        go_wp2_with fail
        all_goals try exact (absP (by assumption)).elim
        refine OnlyN.normal ?_
        go_wp2
        go_ret
        exact ⟨by rw [← hez.out, hv.out]; simp, hg.trans (hgW.trans hgg1)⟩
    · obtain rfl : k = n := by omega
      have hv := hc.out
      rw [List.drop_of_length_le (by omega), okS] at hv
      replace hv := Lib.hid hv
      clear hc
      go_wp2
      go_ret
      exact ⟨by rw [← hez.out, hv.out]; simp, hg⟩
end Go.Proofs.YtjgbdkokcgcpjaaDoor
