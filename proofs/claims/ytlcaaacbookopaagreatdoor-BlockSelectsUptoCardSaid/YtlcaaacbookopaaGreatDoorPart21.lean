/-
  Several texts in one:
  May series be in a block? In plain words. Conditions: none.
  (block.Check) walked: may series be in a block? Conditions: none.
  A block's writer: a text laid. Conditions: lengths that memory bears.
  Maps keyed by texts, as their blocks hold them: look-ups, stores, strikes, a range over one entry. Conditions: those that each law names; no program in sight.
-/
import Derived.Test.YtlcaaacbookopaaGreatDoorPart13
import Derived.Test.YtlcaaacbookopaaGreatDoorPart16
import Derived.Test.YtlcaaacbookopaaGreatDoorPart20
import Derived.Deep.CutRange
import Derived.Test.YtlcaaacbookopaaGreatDoorPart6
import Derived.Test.YtlcaaacbookopaaGreatDoorPart12
import Derived.Test.YtlcaaacbookopaaGreatDoorPart9
import Derived.Maps.OwnOps
import Derived.Laws.IdiomRangeMap
import Derived.Test.YtlcaaacbookopaaGreatDoorPart1

namespace Go.Proofs.YtlcaaacbookopaaGreatDoor

theorem chkG_sz : ∀ {prev : Option ByteArray} {L : List Lab}, chkG prev L = 0 → ∀ x ∈ L, x.1.size ≤ 64 ∧ x.2.size ≤ 256
  | _, [], _, x, hx => by cases hx
  | prev, l :: r, h, x, hx => by
    rw [chkG_cons] at h
    by_cases h1 : nameL l.1 = false
    · rw [if_pos h1] at h
      cases h
    rw [if_neg h1] at h
    by_cases h2 : txtB l.2 = false
    · rw [if_pos h2] at h
      cases h
    rw [if_neg h2] at h
    by_cases h3 : upB l.1 prev = true
    · rw [if_pos h3] at h
      cases h
    rw [if_neg h3] at h
    rcases List.mem_cons.1 hx with rfl | hx
    · refine ⟨?_, ?_⟩
      · by_cases h : x.1.size ≤ 64
        · exact h
        · exact absurd (by unfold nameL; rw [decide_eq_false h]; simp) h1
      · by_cases h : x.2.size ≤ 256
        · exact h
        · exact absurd (by unfold txtB; rw [decide_eq_false h]; simp) h2
    · exact chkG_sz h x hx
theorem chkL_sz {L : List Lab} (h : chkL L = 0) : L.length ≤ 16 ∧ ∀ x ∈ L, x.1.size ≤ 64 ∧ x.2.size ≤ 256 := by
  unfold chkL at h
  by_cases h1 : 16 < L.length
  · rw [if_pos h1] at h
    cases h
  · rw [if_neg h1] at h
    exact ⟨by omega, chkG_sz h⟩

/-- points in range that rise, behind a moment -/
def aftT (t : Int) : Option Int → Bool
  | some p => decide (p < t)
  | none => true
def rngB : Option Int → List Ptn → Bool
  | _, [] => true
  | prev, p :: r => decide (-1099511627776 ≤ p.1) && (decide (p.1 ≤ 1099511627776) && (aftT p.1 prev && rngB (some p.1) r))
theorem rngB_cons (prev : Option Int) (p : Ptn) (r : List Ptn) : rngB prev (p :: r) = (decide (-1099511627776 ≤ p.1) && (decide (p.1 ≤ 1099511627776) && (aftT p.1 prev && rngB (some p.1) r))) := rfl
theorem rngB_ok : ∀ {ps : List Ptn} {prev : Option Int}, rngB prev ps = true → Okp ps
  | [], _, _ => fun i p h => by simp at h
  | [q], prev, h => fun i p hi => by
    rw [rngB_cons] at h
    simp only [Bool.and_eq_true, decide_eq_true_eq] at h
    cases i with
    | zero =>
      simp only [List.getElem?_cons_zero, Option.some.injEq] at hi
      subst hi
      exact ⟨⟨h.1, h.2.1⟩, fun z hz => by simp at hz⟩
    | succ i => simp at hi
  | q :: z :: r, prev, h => fun i p hi => by
    rw [rngB_cons] at h
    simp only [Bool.and_eq_true, decide_eq_true_eq] at h
    have h2 := rngB_ok (ps := z :: r) h.2.2.2
    cases i with
    | zero =>
      simp only [List.getElem?_cons_zero, Option.some.injEq] at hi
      subst hi
      refine ⟨⟨h.1, h.2.1⟩, fun x hx => ?_⟩
      simp only [List.getElem?_cons_succ, List.getElem?_cons_zero, Option.some.injEq] at hx
      subst hx
      have h3 := h.2.2.2
      rw [rngB_cons] at h3
      simp only [Bool.and_eq_true, aftT, decide_eq_true_eq] at h3
      exact h3.2.2.1
    | succ i =>
      rw [List.getElem?_cons_succ] at hi
      obtain ⟨h3, h4⟩ := h2 i p hi
      exact ⟨h3, fun x hx => h4 x (by rwa [List.getElem?_cons_succ] at hx)⟩
/-- series that may be in a block, behind some labels -/
def okK : Option (List Lab) → List Ser → Bool
  | _, [] => true
  | prev, s :: r => decide (chkL s.lbs = 0) && (onB s.lbs prev && (decide (0 < s.pts.length) && (decide (s.pts.length ≤ 8191) && (rngB none s.pts && okK (some s.lbs) r))))
theorem okK_cons (prev : Option (List Lab)) (s : Ser) (r : List Ser) : okK prev (s :: r) = (decide (chkL s.lbs = 0) && (onB s.lbs prev && (decide (0 < s.pts.length) && (decide (s.pts.length ≤ 8191) && (rngB none s.pts && okK (some s.lbs) r))))) := rfl
def BkOk (ss : List Ser) : Prop := 0 < ss.length ∧ ss.length ≤ 1024 ∧ okK none ss = true
instance (ss : List Ser) : Decidable (BkOk ss) := by unfold BkOk; infer_instance
def errK (ss : List Ser) : Nat := if BkOk ss then 0 else 90
theorem okK_all : ∀ {ss : List Ser} {prev : Option (List Lab)}, okK prev ss = true → ∀ s ∈ ss, chkL s.lbs = 0 ∧ 0 < s.pts.length ∧ s.pts.length ≤ 8191 ∧ Okp s.pts
  | [], _, _, s, hs => by cases hs
  | a :: r, prev, h, s, hs => by
    rw [okK_cons] at h
    simp only [Bool.and_eq_true, decide_eq_true_eq] at h
    rcases List.mem_cons.1 hs with rfl | hs
    · exact ⟨h.1, h.2.2.1, h.2.2.2.1, rngB_ok h.2.2.2.2.1⟩
    · exact okK_all h.2.2.2.2.2 s hs
theorem BkOk.bks {ss : List Ser} (h : BkOk ss) (hv : ∀ s ∈ ss, Okv s.pts) : BkS ss where
  n := h.2.1
  lb := fun s hs => chkL_sz (okK_all h.2.2 s hs).1
  pt := fun s hs => ⟨(okK_all h.2.2 s hs).2.2.1, (okK_all h.2.2 s hs).2.2.2, hv s hs⟩
  en := fun s _ => (encB_long s.pts).2
end Go.Proofs.YtlcaaacbookopaaGreatDoor

namespace Go.Proofs.YtlcaaacbookopaaGreatDoor
open Go.RowKit

def prvT (ps : List Ptn) (k : Nat) : Option Int := if k = 0 then none else (ps[k - 1]?).map (·.1)
theorem prvT_succ {ps : List Ptn} {k : Nat} {p : Ptn} (h : ps[k]? = some p) : prvT ps (k + 1) = some p.1 := by
  unfold prvT
  rw [if_neg (by omega), Nat.add_sub_cancel, h]
  rfl
theorem drop_one {α : Type} {l : List α} {k : Nat} {x : α} (h : l[k]? = some x) : l.drop k = x :: l.drop (k + 1) := by
  obtain ⟨h1, h2⟩ := List.getElem?_eq_some_iff.1 h
  rw [List.drop_eq_getElem_cons h1, h2]
theorem errK_of {ss : List Ser} (h : ¬ BkOk ss) : (errK ss : Int) = 90 := by unfold errK; rw [if_neg h]; rfl
theorem errK_ok {ss : List Ser} (h : BkOk ss) : (errK ss : Int) = 0 := by unfold errK; rw [if_pos h]; rfl

set_option maxRecDepth 100000 in
set_option maxHeartbeats 16000000 in
theorem bcheck_any (A : Option Addr) (n c : Nat) (ss : List Ser) (w : World) (h : RS w A n ss) (hn : n ≤ 9223372036854775807) :
    Calls Tryz.prog 23 #[.slice A n c] w fun e w' => e = .returned (.int .i64 (errK ss : Int)) ∧ Grew w w' := by
  have hln := h.len
  obtain ⟨ez, hez⟩ : ∃ ez : Int, (errK ss : Int) = ez := ⟨_, rfl⟩
  rw [hez]
  have hbad : Hid (¬ BkOk ss → ez = 90) := Lib.hid fun hb => by rw [← hez, errK_of hb]
  have hgood : Hid (BkOk ss → ez = 0) := Lib.hid fun hb => by rw [← hez, errK_ok hb]
  clear hez
  by_cases h0 : 0 < n
  rotate_left
  · obtain rfl : n = 0 := by omega
    have hz := hbad.out (fun hb => by have := hb.1; omega)
    subst hz
    clear hbad hgood hln
    go_enter Tryz.func23, Tryz.ntmps23
    go_wp2
    go_ret
    exact ⟨by simp, Chg.refl _ _⟩
  by_cases h1 : n ≤ 1024
  rotate_left
  · have hz := hbad.out (fun hb => by have := hb.2.1; omega)
    subst hz
    have e1 : ((n : Int) == 0) = false := by simp only [beq_eq_false_iff_ne]; omega
    have e2 : ¬ n = 0 := by omega
    have e3 : 1024 < n := by omega
    clear hbad hgood hln
    go_enter Tryz.func23, Tryz.ntmps23
    go_wp2
    go_ret
    exact ⟨by simp, Chg.refl _ _⟩
  have e1 : ((n : Int) == 0) = false := by simp only [beq_eq_false_iff_ne]; omega
  have e2 : ¬ n = 0 := by omega
  have e3 : ¬ 1024 < n := by omega
  obtain ⟨z, hz⟩ : ∃ z, okK none ss = z := ⟨_, rfl⟩
  have hzb : Hid (z = false → ez = 90) := Lib.hid fun e => hbad.out fun hb => by rw [← hz, hb.2.2] at e; cases e
  have hzg : Hid (z = true → ez = 0) := Lib.hid fun e => hgood.out ⟨by omega, by omega, by rw [hz, e]⟩
  have hz0 : Hid (z = okK (prevS ss 0) (ss.drop 0)) := hz.symm
  clear hz hbad hgood
  replace hln := Lib.hid hln
  go_enter Tryz.func23, Tryz.ntmps23
  go_wp2
  go_loopw [17] (fun i wr => ∃ k : Nat, k ≤ n ∧ i = .int .i64 (k : Int) ∧ Hid (z = okK (prevS ss k) (ss.drop k)) ∧ Grew w wr) (fun i _ => n - (intOf i).toNat)
  case atStart => exact ⟨0, by omega, rfl, hz0, Chg.refl _ _⟩
  case round =>
    clear hz0
    obtain ⟨k, hk, rfl, hc, hg⟩ := hrel
    by_cases hlt : k < n
    · obtain ⟨ad, ⟨la, ln, lc, pa, pn, pc⟩, s, rfl, hs, hsi, x0, x1⟩ := (h.grew hg).at_ hlt
      dsimp only at x0 x1
      have hpn2 : prevS ss (k + 1) = some s.lbs := by
        unfold prevS
        rw [if_neg (by omega), Nat.add_sub_cancel, hs]
        rfl
      have hv := hc.out
      rw [drop_one hs, okK_cons, ← hpn2] at hv
      obtain ⟨W, hW⟩ : ∃ W, W = wr.alloc (.cells #[.slice la ln lc, .slice pa pn pc] 85) := ⟨_, rfl⟩
      have hgW : Grew wr W := by rw [hW]; exact (Chg.refl _ wr).alloc _
      obtain ⟨gb, hgb⟩ : ∃ gb, wr.heap.size = gb := ⟨_, rfl⟩
      have hbx : Blk W gb 85 #[.slice la ln lc, .slice pa pn pc] := by rw [hW, ← hgb]; exact Blk.new wr _ _
      have b0 := hbx.cell 0
      have b1 := hbx.cell 1
      simp only [List.getElem?_toArray, List.getElem?_cons_succ, List.getElem?_cons_zero] at b0 b1
      have hlc := hsi.lc
      have hpc := hsi.pc
      dsimp only at hlc hpc
      have hC := fun W1 (hg1 : Grew W W1) => chk_any la ln lc s.lbs W1 ((hsi.lb.grew hgW).grew hg1) (by omega)
      have hsp := Lib.hid fun W1 (hg1 : Grew W W1) => RE.grew (RE.grew hsi.pt hgW) hg1
      dsimp only at hsp
      have hpl : s.pts.length = pn := hsi.pt.1
      have hpl2 := hpl
      rw [hpl2] at hv
      have hadW : ad.block < W.heap.size := Nat.lt_of_lt_of_le (by have := World.block_lt_of_cell? wr _ x0; rwa [block_add] at this) hgW.size
      have hcA := cellsIn_cell (hgW.cell x0 (fun e => e))
      rw [block_add] at hcA
      have hcs : CellsIn [gb, ad.block] W := fun i hi => by
        simp only [List.mem_cons, List.not_mem_nil, or_false] at hi
        rcases hi with rfl | rfl
        · exact ⟨_, _, _, hbx⟩
        · exact hcA _ (by simp)
      have hsame : Hid (∀ W1, Grew W W1 → SameIn [gb, ad.block] W W1) := fun W1 h1 i hi => by
        simp only [List.mem_cons, List.not_mem_nil, or_false] at hi
        rcases hi with rfl | rfl
        · exact h1.block _ hbx.lt (fun e => e)
        · exact h1.block _ hadW (fun e => e)
      have hbg := Lib.hid fun W1 (hg1 : Grew W W1) => hbx.grew hg1
      have hwW := hg.trans hgW
      clear hcA hpn2 hpl2 hbx
      replace hC := Lib.hid hC
      replace hpl := Lib.hid hpl
      generalize chkL s.lbs = ck at *
      obtain ⟨zk, hzk⟩ : ∃ zk, zk = okK (prevS ss (k + 1)) (ss.drop (k + 1)) := ⟨_, rfl⟩
      rw [← hzk] at hv
      replace hzk := Lib.hid hzk
      obtain ⟨rb, hrb⟩ : ∃ rb, rngB none s.pts = rb := ⟨_, rfl⟩
      rw [hrb] at hv
      replace hrb := Lib.hid hrb
      replace hv := Lib.hid hv
      have x0' := x0
      go_upto_region 6 with fail
      rw [← hW]
      clear hW x0 x1 hc
      go_cut [47] from 18 to 85 (fun b wx => ∃ tb : Bool, b = .bool tb ∧ Grew W wx ∧ Hid (tb = true → z = false) ∧ Hid (tb = false → z = (decide (pn ≤ 8191) && (rb && zk))))
      case first =>
        by_cases hck : ck = 0
        rotate_left
        · have e9 : ((ck : Int) != 0) = true := by simp; omega
          have hv9 : Hid (z = false) := Lib.hid (by have := hv.out; rw [decide_eq_false hck, Bool.false_and] at this; exact this)
          clear hv hs hsi
          refine wp_region_textS [(27, 1), (3, 1)] [gb, ad.block] (by kernel_rfl) (by kernel_rfl) hcs ?_
          simp only [wpU, tagOf, chk, look, Nat.reduceBEq, Bool.false_eq_true, if_true, if_false, Nat.reduceEqDiff, List.nil_append, List.cons_append]
          intro K hK
          go_wp2_with fail
          refine OnlyN.normal (hK _ _ (fun _ => ⟨_, _, _, rfl, rfl, by simp⟩) ?_)
          clear hK K
          intro K hK
          go_wp2_with fail
          refine (hC.out _ (Chg.refl _ W).drew).mono ?_
          rintro e w1 ⟨rfl, hg1⟩
          have hgg1 : Grew W w1 := (Chg.refl _ W).drew.trans hg1
          go_wp2_with fail
          refine OnlyN.normal (hK _ _ (hsame.out _ hgg1) ?_)
          clear hK K
          intro K hK
          go_wp2_with fail
          refine OnlyN.normal (hK _ _ (fun hw => by cases (show false = true from hw)) ?_)
          clear hK K
          intro K hK
          go_wp2_with fail
          refine OnlyN.normal (hK _ _ (fun hw => by cases (show false = true from hw)) ?_)
          clear hK K
          intro K hK
          go_wp2_with fail
          refine OnlyN.normal (hK _ _ (hsame.out _ hgg1) ?_)
          clear hK K
          intro K hK
          go_wp2_with fail
          refine OnlyN.normal (hK _ _ (fun hw => by cases (show false = true from hw)) ?_)
          clear hK K
          go_wp2_with fail
          refine OnlyN.normal ?_
          go_wp2
          go_meet
          case rel => exact ⟨true, rfl, hgg1, Lib.hid fun _ => hv9.out, Lib.hid fun e => by cases e⟩
        · subst hck
          rcases k with _ | k
          · rw [show onB s.lbs (prevS ss 0) = true from rfl, Bool.true_and, decide_eq_true (p := (0 : Nat) = 0) rfl, Bool.true_and] at hv
            clear hs hsi
            refine wp_region_textS [(27, 1), (3, 1)] [gb, ad.block] (by kernel_rfl) (by kernel_rfl) hcs ?_
            simp only [wpU, tagOf, chk, look, Nat.reduceBEq, Bool.false_eq_true, if_true, if_false, Nat.reduceEqDiff, List.nil_append, List.cons_append]
            intro K hK
            go_wp2_with fail
            refine OnlyN.normal (hK _ _ (fun _ => ⟨_, _, _, rfl, rfl, by simp⟩) ?_)
            clear hK K
            intro K hK
            go_wp2_with fail
            refine (hC.out _ (Chg.refl _ W).drew).mono ?_
            rintro e w1 ⟨rfl, hg1⟩
            have hgg1 : Grew W w1 := (Chg.refl _ W).drew.trans hg1
            have d1 := (hbg.out _ hgg1).cell 1
            simp only [List.getElem?_toArray, List.getElem?_cons_succ, List.getElem?_cons_zero] at d1
            go_wp2_with fail
            refine OnlyN.normal (hK _ _ (hsame.out _ hgg1) ?_)
            clear hK K
            intro K hK
            go_wp2_with fail
            refine OnlyN.normal (hK _ _ (fun hw => by cases (show false = true from hw)) ?_)
            clear hK K
            intro K hK
            go_wp2_with fail
            refine OnlyN.normal (hK _ _ (fun hw => by cases (show false = true from hw)) ?_)
            clear hK K
            intro K hK
            go_wp2_with fail
            refine OnlyN.normal (hK _ _ (hsame.out _ hgg1) ?_)
            clear hK K
            intro K hK
            go_wp2_with fail
            refine OnlyN.normal (hK _ _ (fun _ => ⟨_, _, _, rfl, rfl, by simp⟩) ?_)
            clear hK K
            go_wp2_with fail
            refine OnlyN.normal ?_
            by_cases hp0 : pn = 0
            · have e8 : ((pn : Int) == 0) = true := by simp; omega
              go_wp2
              go_meet
              case rel => exact ⟨true, by simp; omega, hgg1, Lib.hid fun _ => by have := hv.out; rw [decide_eq_false (by omega), Bool.false_and] at this; exact this, Lib.hid fun e => by cases e⟩
            · have e8 : ((pn : Int) == 0) = false := by simp; omega
              go_wp2
              go_meet
              case rel => exact ⟨false, by simp; omega, hgg1, Lib.hid (fun e => by cases e), Lib.hid fun _ => by have := hv.out; rw [decide_eq_true (by omega), Bool.true_and] at this; exact this⟩
          · obtain ⟨ad', ⟨mla, mln, mlc, mpa, mpn, mpc⟩, sp, hpe, hsp2, hspi, y0, y1⟩ := (h.grew hg).at_ (show k < n by omega)
            injection hpe with hpe
            subst hpe
            dsimp only at y0
            have hpl3 : prevS ss (k + 1) = some sp.lbs := by
              unfold prevS
              rw [if_neg (by omega), Nat.add_sub_cancel, hsp2]
              rfl
            rw [hpl3, show onB s.lbs (some sp.lbs) = decide (cmpLs sp.lbs s.lbs < 0) from rfl, decide_eq_true (p := (0 : Nat) = 0) rfl, Bool.true_and] at hv
            have y0 := hgW.cell y0 (fun e => e)
            have hplc := hspi.lc
            dsimp only at hplc
            have hM := fun W1 (hg1 : Grew W W1) => compare_labels mla la mln mlc ln lc sp.lbs s.lbs W1 (hspi.lb.grew (hgW.trans hg1)) (hsi.lb.grew (hgW.trans hg1)) (by omega) (by omega)
            replace hM := Lib.hid hM
            generalize cmpLs sp.lbs s.lbs = cz at *
            clear hs hsi hsp2 hspi hpl3 y1
            refine wp_region_textS [(27, 1), (3, 1)] [gb, ad.block] (by kernel_rfl) (by kernel_rfl) hcs ?_
            simp only [wpU, tagOf, chk, look, Nat.reduceBEq, Bool.false_eq_true, if_true, if_false, Nat.reduceEqDiff, List.nil_append, List.cons_append]
            intro K hK
            go_wp2_with fail
            refine OnlyN.normal (hK _ _ (fun _ => ⟨_, _, _, rfl, rfl, by simp⟩) ?_)
            clear hK K
            intro K hK
            go_wp2_with fail
            refine (hC.out _ (Chg.refl _ W).drew).mono ?_
            rintro e w1 ⟨rfl, hg1⟩
            have hgg1 : Grew W w1 := (Chg.refl _ W).drew.trans hg1
            have d0 := (hbg.out _ hgg1).cell 0
            simp only [List.getElem?_toArray, List.getElem?_cons_zero] at d0
            have dy := hgg1.cell y0 (fun e => e)
            go_wp2_with fail
            refine OnlyN.normal (hK _ _ (hsame.out _ hgg1) ?_)
            clear hK K
            intro K hK
            go_wp2_with fail
            refine OnlyN.normal (hK _ _ (fun _ => ⟨_, _, _, rfl, rfl, by simp [block_add]⟩) ?_)
            clear hK K
            intro K hK
            go_wp2_with fail
            refine OnlyN.normal (hK _ _ (fun _ => ⟨_, _, _, rfl, rfl, by simp⟩) ?_)
            clear hK K
            intro K hK
            go_wp2_with fail
            refine (hM.out _ hgg1).mono ?_
            rintro e w3 ⟨rfl, hg3⟩
            have hgg3 : Grew W w3 := hgg1.trans hg3
            have d3 := (hbg.out _ hgg3).cell 1
            simp only [List.getElem?_toArray, List.getElem?_cons_succ, List.getElem?_cons_zero] at d3
            go_wp2_with fail
            refine OnlyN.normal (hK _ _ (hsame.out _ hgg3) ?_)
            clear hK K
            by_cases hcz : cz < 0
            · rw [decide_eq_true hcz, Bool.true_and] at hv
              have e7 : decide ((0 : Int) ≤ cz) = false := decide_eq_false (by omega)
              have e7b : ¬ (0 : Int) ≤ cz := by omega
              intro K hK
              go_wp2_with fail
              refine OnlyN.normal (hK _ _ (fun _ => ⟨_, _, _, rfl, rfl, by simp⟩) ?_)
              clear hK K
              go_wp2_with fail
              refine OnlyN.normal ?_
              by_cases hp0 : pn = 0
              · have e8 : ((pn : Int) == 0) = true := by simp; omega
                go_wp2
                go_meet
                case rel => exact ⟨true, by simp; omega, hgg3, Lib.hid fun _ => by have := hv.out; rw [decide_eq_false (by omega), Bool.false_and] at this; exact this, Lib.hid fun e => by cases e⟩
              · have e8 : ((pn : Int) == 0) = false := by simp; omega
                go_wp2
                go_meet
                case rel => exact ⟨false, by simp; omega, hgg3, Lib.hid (fun e => by cases e), Lib.hid fun _ => by have := hv.out; rw [decide_eq_true (by omega), Bool.true_and] at this; exact this⟩
            · rw [decide_eq_false hcz, Bool.false_and] at hv
              have e7 : decide ((0 : Int) ≤ cz) = true := decide_eq_true (by omega)
              have e7b : (0 : Int) ≤ cz := by omega
              intro K hK
              go_wp2_with fail
              refine OnlyN.normal (hK _ _ (fun hw => by cases (show false = true from hw)) ?_)
              clear hK K
              go_wp2_with fail
              refine OnlyN.normal ?_
              go_wp2
              go_meet
              case rel => exact ⟨true, rfl, hgg3, Lib.hid fun _ => hv.out, Lib.hid fun e => by cases e⟩
      case rest =>
        obtain ⟨tb, rfl, hcg, ht1, ht2⟩ := hcut
        generalize wc = w7 at *
        cases tb
        rotate_left
        · have hzf := hzb.out (ht1.out rfl)
          subst hzf
          clear hv hs hsi hC hsame hcs b0 b1
          go_wp2
          go_ret
          exact ⟨by simp, hwW.trans hcg⟩
        replace hv := Lib.hid (ht2.out rfl)
        have d1 := (hbg.out _ hcg).cell 1
        simp only [List.getElem?_toArray, List.getElem?_cons_succ, List.getElem?_cons_zero] at d1
        clear hs hsi hC hsame hcs b0 b1 ht1 ht2
        by_cases hp1 : pn ≤ 8191
        rotate_left
        · have hzf := hzb.out (by have := hv.out; rw [decide_eq_false hp1, Bool.false_and] at this; exact this)
          subst hzf
          have e6 : 8191 < pn := by omega
          clear hv
          go_wp2
          go_ret
          exact ⟨by simp, hwW.trans hcg⟩
        have e6 : ¬ 8191 < pn := by omega
        rw [decide_eq_true hp1, Bool.true_and] at hv
        have hv2 : Hid (z = (rngB (prvT s.pts 0) (s.pts.drop 0) && zk)) := Lib.hid (by have := hv.out; rw [← hrb.out] at this; exact this)
        clear hv hrb
        go_wp2
        go_loopw [55] (fun i' w' => ∃ j : Nat, j ≤ pn ∧ i' = .int .i64 (j : Int) ∧ Hid (z = (rngB (prvT s.pts j) (s.pts.drop j) && zk)) ∧ Grew W w') (fun i' _ => pn - (intOf i').toNat)
        case atStart => exact ⟨0, by omega, rfl, hv2, hcg⟩
        case round =>
          clear hv2 hcg d1
          obtain ⟨j, hj, rfl, hvi, hcg⟩ := hrel
          have d1 := (hbg.out _ hcg).cell 1
          simp only [List.getElem?_toArray, List.getElem?_cons_succ, List.getElem?_cons_zero] at d1
          by_cases hlt3 : j < pn
          · obtain ⟨pd, p, rfl, hp, p0, p1⟩ := (hsp.out _ hcg).pt hlt3
            have hv1 := hvi.out
            rw [drop_one hp, rngB_cons, ← prvT_succ hp] at hv1
            obtain ⟨V, hV⟩ : ∃ V, V = wr.alloc (.cells #[.int .i64 p.1, .int .u64 (p.2 : Int)] 82) := ⟨_, rfl⟩
            have gV : Grew wr V := by rw [hV]; exact (Chg.refl _ wr).alloc _
            have hbp : Blk V wr.heap.size 82 #[.int .i64 p.1, .int .u64 (p.2 : Int)] := by rw [hV]; exact Blk.new wr _ _
            have q0 := hbp.cell 0
            simp only [List.getElem?_toArray, List.getElem?_cons_zero] at q0
            have d2 := gV.cell d1 (fun e => e)
            have hcV := hcg.trans gV
            have hwV := hwW.trans hcV
            go_upto_region 13 with fail
            rw [← hV]
            clear hV p0 p1 d1
            generalize wr.heap.size = pb at *
            clear hvi
            have hv := hv1
            clear hv1
            by_cases c1 : p.1 < -1099511627776
            · have hzf := hzb.out (by rw [hv, decide_eq_false (by omega)]; simp)
              subst hzf
              clear hv hp hbp
              refine wp_region_text [(2, 1), (3, 1)] (by kernel_rfl) (by kernel_rfl) ?_
              simp only [instr, chk, look, Nat.reduceBEq, Bool.false_eq_true, if_true, if_false, Nat.reduceEqDiff, List.cons_append, List.nil_append]
              go_wp2_with fail
              refine OnlyN.normal ?_
              go_wp2
              go_ret
              exact ⟨by simp, hwV.drew⟩
            by_cases c2 : 1099511627776 < p.1
            · have hzf := hzb.out (by rw [hv, decide_eq_false (p := p.1 ≤ 1099511627776) (by omega)]; simp)
              subst hzf
              clear hv hp hbp
              refine wp_region_text [(2, 1), (3, 1)] (by kernel_rfl) (by kernel_rfl) ?_
              simp only [instr, chk, look, Nat.reduceBEq, Bool.false_eq_true, if_true, if_false, Nat.reduceEqDiff, List.cons_append, List.nil_append]
              go_wp2_with fail
              refine OnlyN.normal ?_
              go_wp2
              go_ret
              exact ⟨by simp, hwV.drew⟩
            rw [decide_eq_true (p := -1099511627776 ≤ p.1) (by omega), decide_eq_true (p := p.1 ≤ 1099511627776) (by omega), Bool.true_and, Bool.true_and] at hv
            rcases j with _ | j
            · have hv := Lib.hid (show z = (rngB (prvT s.pts (0 + 1)) (s.pts.drop (0 + 1)) && zk) by rw [hv]; rfl)
              clear hp hbp
              refine wp_region_text [(2, 1), (3, 1)] (by kernel_rfl) (by kernel_rfl) ?_
              simp only [instr, chk, look, Nat.reduceBEq, Bool.false_eq_true, if_true, if_false, Nat.reduceEqDiff, List.cons_append, List.nil_append]
              go_wp2_with fail
              refine OnlyN.normal ?_
              go_wp2
              go_roundw
              case rel => exact ⟨1, by omega, by go_num, hv, hcV.drew⟩
              case measure => simp [intOf] <;> omega
            · obtain ⟨pd2, q, hpd, hq, r0, r1⟩ := (hsp.out _ hcV).pt (show j < pn by omega)
              injection hpd with hpd
              subst hpd
              rw [prvT_succ hq, show aftT p.1 (some q.1) = decide (q.1 < p.1) from rfl] at hv
              by_cases c3 : p.1 ≤ q.1
              · have hzf := hzb.out (by rw [hv, decide_eq_false (by omega)]; simp)
                subst hzf
                clear hv hp hbp hq
                refine wp_region_text [(2, 1), (3, 1)] (by kernel_rfl) (by kernel_rfl) ?_
                simp only [instr, chk, look, Nat.reduceBEq, Bool.false_eq_true, if_true, if_false, Nat.reduceEqDiff, List.cons_append, List.nil_append]
                go_wp2_with fail
                refine OnlyN.normal ?_
                go_wp2
                go_ret
                exact ⟨by simp, hwV.drew⟩
              · rw [decide_eq_true (p := q.1 < p.1) (by omega), Bool.true_and] at hv
                have hv := Lib.hid hv
                clear hp hbp hq
                refine wp_region_text [(2, 1), (3, 1)] (by kernel_rfl) (by kernel_rfl) ?_
                simp only [instr, chk, look, Nat.reduceBEq, Bool.false_eq_true, if_true, if_false, Nat.reduceEqDiff, List.cons_append, List.nil_append]
                go_wp2_with fail
                refine OnlyN.normal ?_
                go_wp2
                go_roundw
                case rel => exact ⟨j + 1 + 1, by omega, by go_num, hv, hcV.drew⟩
                case measure => simp [intOf] <;> omega
          · obtain rfl : j = pn := by omega
            have hv3 : Hid (z = zk) := Lib.hid (by rw [hvi.out, List.drop_of_length_le (by have := hpl.out; omega)]; rfl)
            clear hvi
            go_wp2
            go_roundw
            case rel => exact ⟨k + 1, by omega, by go_num, by rw [hzk.out] at hv3; exact hv3, hwW.trans hcg⟩
            case measure => simp [intOf] <;> omega
    · obtain rfl : k = n := by omega
      have hv := hc.out
      rw [List.drop_of_length_le (by have := hln.out; omega)] at hv
      have hzf := hzg.out (by rw [hv]; rfl)
      subst hzf
      clear hc hv
      go_wp2
      go_ret
      exact ⟨by simp, hg⟩
end Go.Proofs.YtlcaaacbookopaaGreatDoor

namespace Go.Proofs.YtlcaaacbookopaaGreatDoor
open Go.RowKit

set_option maxRecDepth 100000 in
set_option maxHeartbeats 4000000 in
theorem wtext_any (g base : Nat) (A : Option Addr) (n c : Nat) (l : List UInt8) (s : ByteArray) (w : World) (h : WrS w base g A n c l) (hb : base ≤ w.heap.size) (hn : n + s.size ≤ 140737488340000) :
    Calls Tryz.prog 50 #[.pointer (some ⟨g, 0, none⟩), .string s] w fun e w' => e = .returned (.tuple #[]) ∧ ∃ A' c', WrT w w' base g A A' (n + (wrdB s.data.toList).length) c' (l ++ wrdB s.data.toList) := by
  obtain ⟨p, hp⟩ : ∃ p, s.size = p := ⟨_, rfl⟩
  have hsl : s.data.toList.length = p := by rw [Array.length_toList]; exact hp
  have hwl : Hid ((wrdB s.data.toList).length = (uvs [(p : Int)]).length + p ∧ wrdB s.data.toList = uvs [(p : Int)] ++ s.data.toList) := Lib.hid (by
    unfold wrdB
    rw [hsl]
    refine ⟨?_, ?_⟩
    · rw [List.length_append, hsl]
      simp [uvs]
    · simp [uvs])
  have hvp : ∀ v ∈ [(p : Int)], 0 ≤ v ∧ v < 9223372036854775808 := by
    intro v hv
    rcases List.mem_singleton.1 hv with rfl
    omega
  have l9 := uvs_len [(p : Int)] (fun v hv => (hvp v hv).2)
  simp only [List.length_cons, List.length_nil] at l9
  rw [hp] at hn
  replace hsl := Lib.hid hsl
  replace hp := Lib.hid hp
  obtain ⟨w1, hw1⟩ : ∃ w1, w1 = w.alloc (.cells #[.int .i64 (p : Int)] 3) := ⟨_, rfl⟩
  have hg1 : Grew w w1 := by rw [hw1]; exact (Chg.refl _ w).alloc _
  have hV : OE elI w1 w.heap.size 3 (some ⟨w.heap.size, 0, none⟩) 1 1 [(p : Int)] := by rw [hw1]; exact OE.lit w w.heap.size 3 1 [(p : Int)] _ (Nat.le_refl _) (by unfold maxLen; omega) rfl rfl
  go_enter Tryz.func50, Tryz.ntmps50
  go_wp2_with fail
  rw [hp.out, ← hw1]
  refine (wnumbers_any g base w.heap.size A n c l _ 1 1 [(p : Int)] w1 (h.grew hg1) hV (Nat.le_trans hb hg1.size) (by omega) (by omega) hvp).mono ?_
  rintro e w2 ⟨rfl, A2, c2, hT2⟩
  have hT := hT2.ahead hg1
  have s2 := hT.ch.size
  obtain ⟨n2, hn2⟩ : ∃ n2, n + (uvs [(p : Int)]).length = n2 := ⟨_, rfl⟩
  obtain ⟨l2, hl2⟩ : ∃ l2, l ++ uvs [(p : Int)] = l2 := ⟨_, rfl⟩
  have hn2b : n2 + p ≤ 140737488350000 := by omega
  rw [hn2, hl2] at hT
  replace hn2 := Lib.hid hn2
  replace hl2 := Lib.hid hl2
  have c0 := hT.ws.bk.cell 0
  simp only [List.getElem?_toArray, List.getElem?_cons_zero] at c0
  clear hT2 hV hw1 hg1
  have hst := fun A3 c3 w3 h3 => hT.ws.x.app (m := p) (r := s.data.toList) (A' := A3) (c' := c3) (w' := w3) (Chg.refl _ w2) h3
  go_wp2_with (at_builtin; go_loud (refine wpList_appS rfl _ _ rfl base A2 n2 c2 l2 rfl hT.ws.ob (by omega) s rfl (by rw [hp.out]; omega) ?_); intro A3 c3 w3 h3; rw [hp.out] at h3 ⊢; obtain ⟨b3, hT3⟩ := hst A3 c3 w3 h3; have k0 := b3.cell 0; have f0 := b3.frozen 0; simp only [List.getElem?_toArray, List.getElem?_cons_zero] at k0)
  first
    | go_end0
    | refine bodyPost_ret (results_none rfl _ _ _) rfl ?_
  refine ⟨rfl, A3, c3, ?_⟩
  rw [hwl.out.1, hwl.out.2, ← Nat.add_assoc, ← List.append_assoc, hn2.out, hl2.out]
  exact hT.u.trans hT3
end Go.Proofs.YtlcaaacbookopaaGreatDoor

namespace Go.Proofs.YtlcaaacbookopaaGreatDoor
open Go.RowKit

def MapB (w : World) (b : Nat) (es : Array MapEntry) (clock : Nat) : Prop := w.heap[b]? = some (.map es clock)
def IterB (w : World) (r m since : Nat) (seen : Array Nat) (c0 : Nat) : Prop := w.heap[r]? = some (.mapIter (some m) since seen c0)
def setB (w : World) (b : Nat) (o : Obj) : World := { w with heap := w.heap.setIfInBounds b o }

theorem MapB.lt {w : World} {b : Nat} {es : Array MapEntry} {clock : Nat} (h : MapB w b es clock) : b < w.heap.size := (Array.getElem?_eq_some_iff.1 h).1
theorem IterB.lt {w : World} {r m since c0 : Nat} {seen : Array Nat} (h : IterB w r m since seen c0) : r < w.heap.size := (Array.getElem?_eq_some_iff.1 h).1
theorem MapB.chg {S : Nat → Prop} {w w' : World} {b : Nat} {es : Array MapEntry} {clock : Nat} (h : MapB w b es clock) (hc : Chg S w w') (hn : ¬ S b) : MapB w' b es clock := (hc.block b h.lt hn).trans h
theorem MapB.grew {w w' : World} {b : Nat} {es : Array MapEntry} {clock : Nat} (h : MapB w b es clock) (hc : Grew w w') : MapB w' b es clock := h.chg hc fun e => e
theorem MapB.new (w : World) (es : Array MapEntry) (clock : Nat) : MapB (w.alloc (.map es clock)) w.heap.size es clock := heap_alloc_new w _
theorem setB_size (w : World) (b : Nat) (o : Obj) : (setB w b o).heap.size = w.heap.size := by simp [setB]
theorem setB_here {w : World} {b : Nat} (hb : b < w.heap.size) (o : Obj) : (setB w b o).heap[b]? = some o := by simp [setB, hb]
theorem setB_far (w : World) {b k : Nat} (hk : k ≠ b) (o : Obj) : (setB w b o).heap[k]? = w.heap[k]? := by simp [setB, Ne.symm hk]
theorem Chg.setB {S : Nat → Prop} {a b : World} (h : Chg S a b) {k : Nat} (hk : a.heap.size ≤ k ∨ S k) (o : Obj) : Chg S a (setB b k o) :=
  ⟨h.os, h.tape, h.output, Nat.le_trans h.size (by rw [setB_size]; exact Nat.le_refl _), fun i hi hn => by
    rw [setB_far b (fun e => by subst e; rcases hk with h' | h'; omega; exact hn h')]
    exact h.block i hi hn⟩
theorem Blk.setB {w : World} {g b : Nat} {t : TypeId} {cs : Array Value} (h : Blk w g t cs) (hne : g ≠ b) (o : Obj) : Blk (setB w b o) g t cs := (setB_far w hne o).trans h
theorem MapB.set {w : World} {b : Nat} {es : Array MapEntry} {clock : Nat} (h : MapB w b es clock) (es' : Array MapEntry) (clock' : Nat) : MapB (setB w b (.map es' clock')) b es' clock' := setB_here h.lt _
theorem MapB.setB {w : World} {b k : Nat} {es : Array MapEntry} {clock : Nat} (h : MapB w b es clock) (hne : b ≠ k) (o : Obj) : MapB (setB w k o) b es clock := (setB_far w hne o).trans h
theorem MapB.setCell {w : World} {b : Nat} {es : Array MapEntry} {clock : Nat} (h : MapB w b es clock) {p : Addr} (hne : b ≠ p.block) (u : Value) : MapB (w.setCell p u) b es clock := (Below.heap_setCell w p u b hne).trans h
theorem MapB.ne_blk {w : World} {b g : Nat} {es : Array MapEntry} {clock : Nat} {t : TypeId} {cs : Array Value} (h : MapB w b es clock) (h' : Blk w g t cs) : b ≠ g := fun e => by
  subst e
  have := Eq.trans (Eq.symm h) h'
  cases this

section
variable {P : Program} {t k e : TypeId} {w : World} {b clock : Nat} {es : Array MapEntry} {s : ByteArray}

theorem run_look (ht : P.underlying t = some (.map k e)) (hk : P.underlying k = some .string) {z : Value} (hz : (zeroValue e).run P w = .ok z w) (hb : MapB w b es clock) {r : Option (Nat × Value)} (h : Instr.findNow .string (.string s) es.toList 0 = some r) :
    (Instr.lookup t (.map (some b)) (.string s) false).run P w = .ok (match r with | some (_, v) => v | none => z) w := by
  unfold MapB at hb
  cases r with
  | none => simp [Instr.lookup, run_underlying ht, MapKept.run_getObj_map hb, MapKept.run_checkKey hk (k := .string s) trivial, MapKept.run_findKey hk h, hz, Result.andThen]
  | some x => simp [Instr.lookup, run_underlying ht, MapKept.run_getObj_map hb, MapKept.run_checkKey hk (k := .string s) trivial, MapKept.run_findKey hk h, Result.andThen]
theorem run_put_new (ht : P.underlying t = some (.map k e)) (hk : P.underlying k = some .string) (hb : MapB w b es clock) (v : Value) (h : Instr.findNow .string (.string s) es.toList 0 = some none) :
    (Instr.mapUpdate t (.map (some b)) (.string s) v).run P w = .ok () (setB w b (.map (es.push ⟨.string s, v, clock⟩) (clock + 1))) := by
  unfold MapB at hb
  simp [Instr.mapUpdate, run_underlying ht, MapKept.run_getObj_map hb, MapKept.run_checkKey hk (k := .string s) trivial, MapKept.run_findKey hk h, MapKept.run_setObj_map _ hb, Result.andThen, setB]
/-! ### At the operation -/
variable {ops : Array Oper} {rest : List Oper} {o : Oper} {a : Act} {Q : Exit → Act → World → Prop}
theorem wpList_put (hg : o.guard = none) (m x v : Operand) (t : TypeId) (hop : o.op = Op.mapUpdate t m x v) (b : Nat) (hm : a.eval m = .map (some b)) (s : ByteArray) (hx : a.eval x = .string s) (u : Value) (hv : a.eval v = u) (w' : World)
    (hrun : (Instr.mapUpdate t (.map (some b)) (.string s) u).run P w = .ok () w') (hK : wpList P ops Q rest (a.put o.dst undef) w') : wpList P ops Q (o :: rest) a w := by
  refine wpList_plain hg fun K' hK' => ?_
  unfold Oper.wp
  simp [execOp, hop, hm, hx, hv, hrun, Result.andThen]
  exact hK' _ _ hK
end
end Go.Proofs.YtlcaaacbookopaaGreatDoor
