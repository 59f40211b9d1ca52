/-
  Several texts in one:
  Lists of labels and of series compared. Conditions: lengths that memory bears.
  Merges in plain words; the series of the statements' own trial. Conditions: none.
-/
import Derived.Test.YtjgbdkokcgcpjaaDoorPart18
import Derived.Test.YtjgbdkokcgcpjaaDoorPart35

namespace Go.Proofs.YtjgbdkokcgcpjaaDoor
open Go.RowKit

/-- are two alike? -/
noncomputable def eqB {α : Type} (a b : α) : Bool := @decide (a = b) (Classical.propDecidable _)
theorem eqB_true {α : Type} {a b : α} (h : a = b) : eqB a b = true := by unfold eqB; exact @decide_eq_true _ (Classical.propDecidable _) h
theorem eqB_false {α : Type} {a b : α} (h : a ≠ b) : eqB a b = false := by unfold eqB; exact @decide_eq_false _ (Classical.propDecidable _) h
theorem eqB_iff {α : Type} {a b : α} : eqB a b = true ↔ a = b := by
  constructor
  · intro h
    refine Classical.byContradiction fun hn => ?_
    rw [eqB_false hn] at h
    cases h
  · exact eqB_true

theorem toL_inj {a b : ByteArray} (h : a.toList = b.toList) : a = b := by
  rw [ByteArray.toList_eq, ByteArray.toList_eq] at h
  exact data_inj h
set_option maxHeartbeats 2000000 in
theorem sameLabels_any (A B : Option Addr) (n m c d : Nat) (l r : List Lab) (w : World) (ha : RE elLb w A n l) (hb : RE elLb w B m r) (hn : n ≤ 9223372036854775807) (hm : m ≤ 9223372036854775807) :
    Calls Tryd.prog 36 #[.slice A n c, .slice B m d] w fun e w' => e = .returned (.bool (eqB l r)) ∧ Grew w w' := by
  by_cases hnm : n = m
  · subst hnm
    go_enter Tryd.func36, Tryd.ntmps36
    go_wp2
    go_loopw [5] (fun i wr => ∃ k : Nat, k ≤ n ∧ i = .int .i64 k ∧ l.take k = r.take k ∧ Grew w wr) (fun i _ => n - (intOf i).toNat)
    case atStart => exact ⟨0, Nat.zero_le _, rfl, rfl, Chg.refl _ _⟩
    case round =>
      obtain ⟨k, hk, rfl, ht, hg⟩ := hrel
      by_cases hlt : k < n
      · obtain ⟨ad, x, rfl, hx, hcx1, hcx2⟩ := (ha.grew hg).lb hlt
        obtain ⟨bd, y, rfl, hy, hcy1, hcy2⟩ := (hb.grew hg).lb hlt
        by_cases hxy : x = y
        · subst hxy
          have hst := Lib.hid (take_step ht hx hy)
          clear ht hx hy
          go_wp2
          refine wp_region_text [(3, 1)] (by kernel_rfl) (by kernel_rfl) ?_
          simp only [instr, chk, look, Nat.reduceBEq, Bool.false_eq_true, if_true, if_false, Nat.reduceEqDiff, List.nil_append]
          go_wp2
          refine OnlyN.normal ?_
          go_wp2
          go_roundw
          case rel => exact ⟨k + 1, by omega, by go_num, hst.out, hg.drew⟩
          case measure => simp [intOf]; omega
        · have hne := Lib.hid (ne_at hx hy hxy)
          have hd : ¬ x.1.toList = y.1.toList ∨ (x.1.toList = y.1.toList ∧ ¬ x.2.toList = y.2.toList) := by
            by_cases h1 : x.1 = y.1
            · exact .inr ⟨by rw [h1], fun h2 => hxy (Prod.ext h1 (toL_inj h2))⟩
            · exact .inl fun h2 => h1 (toL_inj h2)
          clear ht hx hy hxy
          rcases hd with h1 | ⟨h1, h2⟩
          all_goals
            go_wp2
            refine wp_region_text [(3, 1)] (by kernel_rfl) (by kernel_rfl) ?_
            simp only [instr, chk, look, Nat.reduceBEq, Bool.false_eq_true, if_true, if_false, Nat.reduceEqDiff, List.nil_append]
            go_wp2
            refine OnlyN.normal ?_
            go_wp2
            go_ret
            exact ⟨by rw [eqB_false hne.out]; simp, hg.drew⟩
      · have hkn : k = n := by omega
        subst hkn
        have h1 : l.take k = l := List.take_of_length_le (by rw [ha.1]; omega)
        have h2 : r.take k = r := List.take_of_length_le (by rw [hb.1]; omega)
        rw [h1, h2] at ht
        have ht := Lib.hid ht
        go_wp2
        go_ret
        exact ⟨by rw [eqB_true ht.out]; simp, hg⟩
  · have hlr : Hid (l ≠ r) := by
      show l ≠ r
      have h1 := ha.1
      have h2 := hb.1
      rintro rfl
      omega
    go_enter Tryd.func36, Tryd.ntmps36
    go_wp2
    go_ret
    exact ⟨by rw [eqB_false hlr.out]; simp, Chg.refl _ _⟩

theorem RS.rows {w : World} {A : Option Addr} {n : Nat} {ss : List Ser} (h : RS w A n ss) {k : Nat} (hk : k < n) :
    ∃ ad m s, A = some ad ∧ ss[k]? = some s ∧ SrIs w m s ∧ w.cell? (ad.add (k * 2)) = some (.slice m.la m.ln m.lc) ∧ w.cell? ⟨(ad.add (k * 2)).block, (ad.add (k * 2)).off + 1, none⟩ = some (.slice m.pa m.pn m.pc) := h.at_ hk

set_option maxRecDepth 100000 in
set_option maxHeartbeats 4000000 in
theorem sameS_any (A B : Option Addr) (n m c d : Nat) (l r : List Ser) (w : World) (ha : RS w A n l) (hb : RS w B m r) (hn : n ≤ 9223372036854775807) (hm : m ≤ 9223372036854775807) :
    Calls Tryd.prog 13 #[.slice A n c, .slice B m d] w fun e w' => e = .returned (.bool (eqB l r)) ∧ Grew w w' := by
  by_cases hnm : n = m
  · subst hnm
    go_enter Tryd.func13, Tryd.ntmps13
    go_wp2
    go_loopw [5] (fun i wr => ∃ k : Nat, k ≤ n ∧ i = .int .i64 k ∧ l.take k = r.take k ∧ Grew w wr) (fun i _ => n - (intOf i).toNat)
    case atStart => exact ⟨0, Nat.zero_le _, rfl, rfl, Chg.refl _ _⟩
    case round =>
      obtain ⟨k, hk, rfl, ht, hg⟩ := hrel
      by_cases hlt : k < n
      · obtain ⟨ad, mx, x, rfl, hx, hxi, x0, x1⟩ := (ha.grew hg).at_ hlt
        obtain ⟨bd, my, y, rfl, hy, hyi, y0, y1⟩ := (hb.grew hg).at_ hlt
        have hL := fun W1 (hW1 : Grew wr W1) => sameLabels_any mx.la my.la mx.ln my.ln mx.lc my.lc x.lbs y.lbs W1 (hxi.lb.grew hW1) (hyi.lb.grew hW1) (by have := hxi.lc; omega) (by have := hyi.lc; omega)
        have hcs : CellsIn [ad.block, bd.block] wr := by
          have h1 := ex_cell x0
          have h2 := ex_cell y0
          rw [block_add] at h1 h2
          exact cellsIn_cons h1 (cellsIn_cons h2 (cellsIn_nil _))
        have hsame : Hid (∀ W1, Grew wr W1 → SameIn [ad.block, bd.block] wr W1) := fun W1 h1 => sameIn_of h1 hcs fun _ _ e => e
        by_cases hxy : x.lbs = y.lbs
        · have hP := fun W1 (hW1 : Grew wr W1) => samePoints_any mx.pa my.pa mx.pn my.pn mx.pc my.pc x.pts y.pts W1 (hxi.pt.grew hW1) (hyi.pt.grew hW1) (by have := hxi.pc; omega) (by have := hyi.pc; omega)
          rw [eqB_true hxy] at hL
          replace hL := Lib.hid hL
          by_cases hpq : x.pts = y.pts
          · have hst := Lib.hid (take_step ht hx (by rw [hy]; congr 1; cases x; cases y; simp only at hxy hpq; rw [hxy, hpq]))
            rw [decide_eq_true hpq] at hP
            replace hP := Lib.hid hP
            clear ht hx hy hxy hpq hxi hyi
            go_wp2
            refine wp_region_textS [(3, 1)] [ad.block, bd.block] (by kernel_rfl) (by kernel_rfl) hcs ?_
            simp only [wpU, tagOf, chk, List.nil_append, List.cons_append]
            intro K hK
            go_wp2_with fail
            refine OnlyN.normal (hK _ _ (fun _ => ⟨_, _, _, rfl, rfl, by simp [block_add]⟩) ?_)
            clear hK K
            intro K hK
            go_wp2_with fail
            refine OnlyN.normal (hK _ _ (fun _ => ⟨_, _, _, rfl, rfl, by simp [block_add]⟩) ?_)
            clear hK K
            intro K hK
            go_wp2_with fail
            refine (hL.out _ (Chg.refl _ wr).drew).mono ?_
            rintro e w1 ⟨rfl, hg1⟩
            have hgg : Grew wr w1 := (Chg.refl _ wr).drew.trans hg1
            go_wp2_with fail
            refine OnlyN.normal (hK _ _ (hsame.out _ hgg) ?_)
            clear hK K
            have x1 := hgg.cell x1 (fun e => e)
            have y1 := hgg.cell y1 (fun e => e)
            intro K hK
            go_wp2_with fail
            refine OnlyN.normal (hK _ _ (fun _ => ⟨_, _, _, rfl, rfl, by simp [block_add]⟩) ?_)
            clear hK K
            intro K hK
            go_wp2_with fail
            refine OnlyN.normal (hK _ _ (fun _ => ⟨_, _, _, rfl, rfl, by simp [block_add]⟩) ?_)
            clear hK K
            intro K hK
            go_wp2_with fail
            refine (hP.out _ hgg).mono ?_
            rintro e w2 ⟨rfl, q, rfl⟩
            have hgg2 : Grew wr (w1.drewN q) := hgg.drewN q
            go_wp2_with fail
            refine OnlyN.normal (hK _ _ (hsame.out _ hgg2) ?_)
            clear hK K
            go_wp2_with fail
            refine OnlyN.normal ?_
            have hg0 := hg.trans hgg2
            clear hgg hg1 hgg2 hsame hcs
            go_wp2
            go_roundw
            case rel => exact ⟨k + 1, by omega, by go_num, hst.out, hg0⟩
            case measure => simp [intOf] <;> omega
          · have hne := Lib.hid (ne_at hx hy (fun e => hpq (by rw [e])))
            rw [decide_eq_false hpq] at hP
            replace hP := Lib.hid hP
            clear ht hx hy hxy hpq hxi hyi
            go_wp2
            refine wp_region_textS [(3, 1)] [ad.block, bd.block] (by kernel_rfl) (by kernel_rfl) hcs ?_
            simp only [wpU, tagOf, chk, List.nil_append, List.cons_append]
            intro K hK
            go_wp2_with fail
            refine OnlyN.normal (hK _ _ (fun _ => ⟨_, _, _, rfl, rfl, by simp [block_add]⟩) ?_)
            clear hK K
            intro K hK
            go_wp2_with fail
            refine OnlyN.normal (hK _ _ (fun _ => ⟨_, _, _, rfl, rfl, by simp [block_add]⟩) ?_)
            clear hK K
            intro K hK
            go_wp2_with fail
            refine (hL.out _ (Chg.refl _ wr).drew).mono ?_
            rintro e w1 ⟨rfl, hg1⟩
            have hgg : Grew wr w1 := (Chg.refl _ wr).drew.trans hg1
            go_wp2_with fail
            refine OnlyN.normal (hK _ _ (hsame.out _ hgg) ?_)
            clear hK K
            have x1 := hgg.cell x1 (fun e => e)
            have y1 := hgg.cell y1 (fun e => e)
            intro K hK
            go_wp2_with fail
            refine OnlyN.normal (hK _ _ (fun _ => ⟨_, _, _, rfl, rfl, by simp [block_add]⟩) ?_)
            clear hK K
            intro K hK
            go_wp2_with fail
            refine OnlyN.normal (hK _ _ (fun _ => ⟨_, _, _, rfl, rfl, by simp [block_add]⟩) ?_)
            clear hK K
            intro K hK
            go_wp2_with fail
            refine (hP.out _ hgg).mono ?_
            rintro e w2 ⟨rfl, q, rfl⟩
            have hgg2 : Grew wr (w1.drewN q) := hgg.drewN q
            go_wp2_with fail
            refine OnlyN.normal (hK _ _ (hsame.out _ hgg2) ?_)
            clear hK K
            go_wp2_with fail
            refine OnlyN.normal ?_
            have hg0 := hg.trans hgg2
            clear hgg hg1 hgg2 hsame hcs
            go_wp2
            go_ret
            exact ⟨by rw [eqB_false hne.out]; simp, hg0⟩
        · have hne := Lib.hid (ne_at hx hy (fun e => hxy (by rw [e])))
          rw [eqB_false hxy] at hL
          replace hL := Lib.hid hL
          clear ht hx hy hxy hxi hyi
          go_wp2
          refine wp_region_textS [(3, 1)] [ad.block, bd.block] (by kernel_rfl) (by kernel_rfl) hcs ?_
          simp only [wpU, tagOf, chk, List.nil_append, List.cons_append]
          intro K hK
          go_wp2_with fail
          refine OnlyN.normal (hK _ _ (fun _ => ⟨_, _, _, rfl, rfl, by simp [block_add]⟩) ?_)
          clear hK K
          intro K hK
          go_wp2_with fail
          refine OnlyN.normal (hK _ _ (fun _ => ⟨_, _, _, rfl, rfl, by simp [block_add]⟩) ?_)
          clear hK K
          intro K hK
          go_wp2_with fail
          refine (hL.out _ (Chg.refl _ wr).drew).mono ?_
          rintro e w1 ⟨rfl, hg1⟩
          have hgg : Grew wr w1 := (Chg.refl _ wr).drew.trans hg1
          go_wp2_with fail
          refine OnlyN.normal (hK _ _ (hsame.out _ hgg) ?_)
          clear hK K
          intro K hK
          go_wp2_with fail
          refine OnlyN.normal (hK _ _ (fun hw => by cases (show false = true from hw)) ?_)
          clear hK K
          intro K hK
          go_wp2_with fail
          refine OnlyN.normal (hK _ _ (fun hw => by cases (show false = true from hw)) ?_)
          clear hK K
          intro K hK
          go_wp2_with fail
          refine OnlyN.normal (hK _ _ (hsame.out _ hgg) ?_)
          clear hK K
          go_wp2_with fail
          refine OnlyN.normal ?_
          go_wp2
          go_ret
          exact ⟨by rw [eqB_false hne.out]; simp, hg.trans hgg⟩
      · have hkn : k = n := by omega
        subst hkn
        have h1 : l.take k = l := List.take_of_length_le (by rw [ha.len]; omega)
        have h2 : r.take k = r := List.take_of_length_le (by rw [hb.len]; omega)
        rw [h1, h2] at ht
        have ht := Lib.hid ht
        go_wp2
        go_ret
        exact ⟨by rw [eqB_true ht.out]; simp, hg⟩
  · have hlr : Hid (l ≠ r) := by
      show l ≠ r
      have h1 := ha.len
      have h2 := hb.len
      rintro rfl
      omega
    go_enter Tryd.func13, Tryd.ntmps13
    go_wp2
    go_ret
    exact ⟨by rw [eqB_false hlr.out]; simp, Chg.refl _ _⟩
end Go.Proofs.YtjgbdkokcgcpjaaDoor

namespace Go.Proofs.YtjgbdkokcgcpjaaDoor

noncomputable def mrg (L : List (List Ser)) : List Ser := @dite _ (∃ m, Mrg L m) (Classical.propDecidable _) (fun h => Classical.choose h) (fun _ => [])
theorem mrg_of {L : List (List Ser)} {m : List Ser} (h : Mrg L m) : mrg L = m := by
  unfold mrg
  rw [dif_pos ⟨m, h⟩]
  exact (Classical.choose_spec (⟨m, h⟩ : ∃ m, Mrg L m)).uniq h
theorem Mrg.to {L L' : List (List Ser)} {m : List Ser} (h : Mrg L m) (he : ∀ K t, maxL L K t = maxL L' K t) : Mrg L' m := ⟨h.vs, fun K t => by rw [h.at_, he]⟩
theorem maxL_nil (K : List Lab) (t : Int) : maxL [] K t = none := rfl
theorem mrg_own {a : List Ser} (h : Vs a) : Mrg [a] a := ⟨h, fun K t => by rw [maxL_cons, maxL_nil, maxO_none]⟩
theorem mrg_nil : Mrg [] [] := ⟨Vs.nil, fun _K _t => rfl⟩
theorem maxO_left (a b c : Option Nat) : maxO a (maxO b c) = maxO b (maxO a c) := by rw [← maxO_assoc, maxO_comm a b, maxO_assoc]
theorem maxO_self2 (a b : Option Nat) : maxO a (maxO a b) = maxO a b := by rw [← maxO_assoc, maxO_self]

/-! ### the trial -/
def lbA : List Lab := [(⟨#[97]⟩, ⟨#[120]⟩)]
def serA : List Ser := [⟨lbA, [(1, 5), (2, 6)]⟩]
def serB : List Ser := [⟨lbA, [(2, 7)]⟩]
def serM : List Ser := [⟨lbA, [(1, 5), (2, 7)]⟩]
theorem chkA : chkL lbA = 0 := by decide +kernel
theorem vs_one {L : List Lab} {ps : List Ptn} (h : Rise ps) (hn : ps ≠ []) : Vs [⟨L, ps⟩] := ⟨List.pairwise_singleton _ _, fun s hs => by
    obtain rfl : s = _ := by simpa using hs
    exact h, fun s hs => by
    obtain rfl : s = _ := by simpa using hs
    exact hn⟩
theorem ok_one {L : List Lab} {ps : List Ptn} (hc : chkL L = 0) (h : Rise ps) (hn : ps ≠ []) : OkL [⟨L, ps⟩] := ⟨vs_one h hn, fun s hs => by
    obtain rfl : s = _ := by simpa using hs
    exact hc⟩
theorem okA : OkL serA := ok_one chkA (by simp [Rise]) (by simp)
theorem okB_ : OkL serB := ok_one chkA (by simp [Rise]) (by simp)
theorem okM : OkL serM := ok_one chkA (by simp [Rise]) (by simp)
theorem mrgAB : Mrg [serA, serB] serM := ⟨okM.1, fun K t => by
  rw [maxL_cons, maxL_cons, maxL_nil, maxO_none]
  unfold serA serB serM
  rw [atV_one, atV_one, atV_one]
  dsimp only
  by_cases h : lbA = K
  · rw [if_pos h, if_pos h, if_pos h]
    simp only [lookP_cons]
    by_cases h1 : (1 : Int) = t
    · rw [if_pos h1, if_pos h1, if_neg (by omega)]
      rfl
    · rw [if_neg h1, if_neg h1]
      by_cases h2 : (2 : Int) = t
      · rw [if_pos h2, if_pos h2]
        rfl
      · rw [if_neg h2, if_neg h2]
        rfl
  · rw [if_neg h, if_neg h, if_neg h]
    rfl⟩
theorem clipM : clipS 2 2 serM = serB := rfl
theorem saysA : saysB [(1, ⟨#[97]⟩, ⟨#[121]⟩)] lbA = false := by decide +kernel
theorem pickM : pickS [(1, ⟨#[97]⟩, ⟨#[121]⟩)] serM = [] := by
  unfold pickS serM
  rw [List.filter_cons]
  dsimp only
  rw [saysA]
  rfl
theorem totM : tot serM = 2 := rfl
theorem cmpA : cmpLs lbA lbA = 0 := (cmpLs_ok.zero _ _).2 rfl
theorem covMB : covB' serM serB = true := by
  unfold covB'
  rw [okS_iff.2 okM, okS_iff.2 okB_]
  unfold serM serB
  rw [coversS_ge (by show ¬ cmpLs lbA lbA < 0; rw [cmpA]; omega)]
  show (decide (cmpLs lbA lbA = 0) && _) = true
  rw [cmpA, coversS_nil, holdsP_lt (by decide), holdsP_ge (by decide), holdsP_nil]
  rfl
theorem covMA : covB' serM serA = false := by
  unfold covB'
  rw [okS_iff.2 okM, okS_iff.2 okA]
  unfold serM serA
  rw [coversS_ge (by show ¬ cmpLs lbA lbA < 0; rw [cmpA]; omega)]
  show (decide (cmpLs lbA lbA = 0) && _) = false
  rw [cmpA, coversS_nil, holdsP_ge (by decide), holdsP_lt (by decide), holdsP_ge (by decide)]
  rfl
theorem errEmpty : errS [⟨[], []⟩] = 100 := errS_no fun h => h.1.some ⟨[], []⟩ (by simp) rfl
end Go.Proofs.YtjgbdkokcgcpjaaDoor
