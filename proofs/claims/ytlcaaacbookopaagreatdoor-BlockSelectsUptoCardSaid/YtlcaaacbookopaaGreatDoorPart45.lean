/-
  Several texts in one:
  The document's form of a list of series. Conditions: none.
  The document's merge of lists, and that it answers as the package's. Conditions: lengths that memory bears.
  Two selects of a block, of one stretch and of the next one, merged: one select of both. Conditions: none; no program in sight.
  The document's reader (tidewrackref9.Reader): a number, a signed one, a text. Conditions: lengths that memory bears.
  The document's bytes of a meta (tidewrackref9.EncodeMeta). Conditions: lengths that memory bears; numbers of 64 bits.
  The document's (tidewrackref9.DecodeMeta) on any bytes: a meta is read just of its own bytes. Conditions: lengths that memory bears.
  The document's bytes of an index (tidewrackref14.Encode); what is no index has none. Conditions: numbers of 64 bits.
  Bytes of metas and of indexes, told apart; an index' own bytes read by the document's reader; the boxes of the document's Decode. Conditions: numbers of 64 bits.
-/
import Derived.Test.YtlcaaacbookopaaGreatDoorPart38
import Derived.Test.YtlcaaacbookopaaGreatDoorPart44
import Derived.Test.YtlcaaacbookopaaGreatDoorPart16
import Derived.Test.YtlcaaacbookopaaGreatDoorPart40
import Derived.Test.YtlcaaacbookopaaGreatDoorPart42
import Derived.Test.YtlcaaacbookopaaGreatDoorPart39
import Derived.Test.YtlcaaacbookopaaGreatDoorPart32

namespace Go.Proofs.YtlcaaacbookopaaGreatDoor
open Go.RowKit

theorem upP_one {ps : List Ptn} (h : ps.length ≤ 1) : upP ps = true := by
  rcases ps with _ | ⟨p, _ | ⟨q, r⟩⟩
  · rfl
  · rfl
  · simp only [List.length_cons] at h
    omega
set_option maxRecDepth 100000 in
set_option maxHeartbeats 16000000 in
theorem check10_any (A : Option Addr) (n c : Nat) (ss : List Ser) (w : World) (h : RS w A n ss) (hn : n ≤ 9223372036854775807) :
    Calls Tryz.prog 61 #[.slice A n c] w fun e w' => e = .returned (.int .i64 (errS ss : Int)) ∧ Grew w w' := by
  have hln := h.len
  unfold errS
  obtain ⟨z, hz⟩ : ∃ z, okS none ss = z := ⟨_, rfl⟩
  rw [hz]
  obtain ⟨ez, hez⟩ : ∃ ez : Int, ((if z = true then (0 : Nat) else 100 : Nat) : Int) = ez := ⟨_, rfl⟩
  rw [hez]
  replace hez := Lib.hid hez
  have hz0 : Hid (z = okS (prevS ss 0) (ss.drop 0)) := hz.symm
  clear hz
  go_enter Tryz.func61, Tryz.ntmps61
  go_wp2
  go_loopw [3] (fun i wr => ∃ k : Nat, k ≤ n ∧ i = .int .i64 (k : Int) ∧ Hid (z = okS (prevS ss k) (ss.drop k)) ∧ Grew w wr) (fun i _ => n - (intOf i).toNat)
  case atStart => exact ⟨0, by omega, rfl, hz0, Chg.refl _ _⟩
  case round =>
    obtain ⟨k, hk, rfl, hc, hg⟩ := hrel
    by_cases hlt : k < n
    · obtain ⟨ad, m, s, rfl, hs, hsi, z0, z1⟩ := h.at_ hlt
      have x0 := hg.cell z0 (fun e => e)
      have x1 := hg.cell z1 (fun e => e)
      have hsd : ss.drop k = s :: ss.drop (k + 1) := by
        obtain ⟨h1, h2⟩ := List.getElem?_eq_some_iff.1 hs
        rw [List.drop_eq_getElem_cons h1, h2]
      have hv := hc.out
      rw [hsd, okS_cons] at hv
      have hpn : prevS ss (k + 1) = some s.lbs := by
        unfold prevS
        rw [if_neg (by omega), Nat.add_sub_cancel, hs]
        rfl
      rw [← hpn] at hv
      have hlc := hsi.lc
      have hpc := hsi.pc
      have hpl := hsi.pt.1
      have hC := fun W1 (hg1 : Grew wr W1) => chk3_any m.la m.ln m.lc s.lbs W1 ((hsi.lb.grew hg).grew hg1) (by omega)
      have hadW : ad.block < wr.heap.size := by have := World.block_lt_of_cell? wr _ x0; rwa [block_add] at this
      have hcA := cellsIn_cell x0
      rw [block_add] at hcA
      have hcs : CellsIn [ad.block] wr := hcA
      have hsame : Hid (∀ W1, Grew wr W1 → SameIn [ad.block] wr W1) := fun W1 h1 i hi => by
        obtain rfl : i = ad.block := by simpa using hi
        exact h1.block _ hadW (fun e => e)
      have x0 := Lib.hid x0
      have x1 := Lib.hid x1
      clear hc hsd hpn hcA hadW
      replace hC := Lib.hid hC
      generalize chkL s.lbs = ck at *
      by_cases hck : ck = 0
      · subst hck
        rw [decide_eq_true (p := (0 : Nat) = 0) rfl, Bool.true_and] at hv
        by_cases hp0 : m.pn = 0
        · have hzf : z = false := by
            rw [hv, show s.pts = [] from List.eq_nil_of_length_eq_zero (by omega), show risB [] = false from rfl, Bool.false_and]
          replace hzf := Lib.hid hzf
          have x0 := x0.out
          have x1 := x1.out
          rw [hp0] at x1
          clear hv hs hsi
          go_wp2_with fail
          refine wp_region_text [(27, 1), (3, 1)] (by kernel_rfl) (by kernel_rfl) ?_
          simp only [instr, chk, look, Nat.reduceBEq, Bool.false_eq_true, if_true, if_false, Nat.reduceEqDiff, List.cons_append, List.nil_append]
          go_wp2_with fail
          refine (hC.out _ (Chg.refl _ wr).drew).mono ?_
          rintro e w1 ⟨rfl, hg1⟩
          have hgg1 : Grew wr w1 := (Chg.refl _ wr).drew.trans hg1
          have d1 := hgg1.cell x1 (fun e => e)
          go_wp2_with fail
          refine OnlyN.normal ?_
          go_wp2
          go_ret
          exact ⟨by rw [← hez.out, hzf.out]; simp, hg.trans hgg1⟩
        · have hp1 : 0 < m.pn := by omega
          obtain ⟨pd, p00, hpa, _, _, _⟩ := hsi.pt.pt hp1
          obtain ⟨la, ln, lc, pa, pn, pc⟩ := m
          dsimp only at *
          subst hpa
          have ep : ((pn : Int) == 0) = false := by simp; omega
          have hin : ∀ (b : Bool), (onB s.lbs (prevS ss k) = b) → Hid (z = (upP s.pts && (b && okS (prevS ss (k + 1)) (ss.drop (k + 1))))) := fun b hb => by
            have := hv
            unfold risB at this
            rw [decide_eq_true (p := 0 < s.pts.length) (by omega), Bool.and_true, hb] at this
            exact this
          clear hv hpl
          have x0' := x0.out
          have x1' := x1.out
          rcases k with _ | k
          · rw [Nat.zero_mul, show ad.add 0 = ad from rfl] at x0' x1' z0 z1
            have hv := hin true rfl
            clear hin hs
            go_wp2_with fail
            refine wp_region_text [(27, 1), (3, 1)] (by kernel_rfl) (by kernel_rfl) ?_
            simp only [instr, chk, look, Nat.reduceBEq, Bool.false_eq_true, if_true, if_false, Nat.reduceEqDiff, List.cons_append, List.nil_append]
            go_wp2_with fail
            refine (hC.out _ (Chg.refl _ wr).drew).mono ?_
            rintro e w1 ⟨rfl, hg1⟩
            have hgg1 : Grew wr w1 := (Chg.refl _ wr).drew.trans hg1
            have d1 := hgg1.cell x1' (fun e => e)
            have d0 := hgg1.cell x0' (fun e => e)
            go_wp2_with fail
            refine OnlyN.normal ?_
            have hgo := hg.trans hgg1
            have hpt := hsi.pt
            have z1 : w.cell? ⟨(ad).block, (ad).off + 1, none⟩ = some (.slice (some pd) pn pc) := z1
            have hv' := hv.out
            rw [Bool.true_and] at hv'
            obtain ⟨R, hR⟩ : ∃ R, okS (prevS ss (0 + 1)) (ss.drop (0 + 1)) = R := ⟨_, rfl⟩
            rw [hR] at hv'
            have hup : Hid (z = (upP (s.pts.drop 0) && R)) := hv'
            replace hR := Lib.hid hR
            clear hv' hv hC hsame hcs x0' x1' d0 d1 hgg1 hg1 hg x0 x1 h
            go_wp2
            go_loopw [4] (fun i wr => ∃ q : Nat, i = .int .i64 ((q : Int) + 1) ∧ q ≤ pn ∧ Hid (z = (upP (s.pts.drop q) && R)) ∧ Grew w wr) (fun i _ => pn + 1 - (intOf i).toNat)
            case atStart => exact ⟨0, rfl, by omega, hup, hgo⟩
            case round =>
              obtain ⟨q, rfl, hq, hc, hg⟩ := hrel
              have x1 := hg.cell z1 (fun e => e)
              by_cases hql : q + 1 < pn
              · obtain ⟨pd1, p, hpa, hp, p0, p1⟩ := (hpt.grew hg).pt (show q < pn by omega)
                injection hpa with hpa
                subst hpa
                obtain ⟨pd2, p2, he, hp2, q0, q1⟩ := (hpt.grew hg).pt hql
                injection he with he
                subst he
                have hv := hc.out
                rw [upP_drop hp hp2] at hv
                clear hc hp hp2 p1 q1
                by_cases hb : p.1 < p2.1
                · rw [decide_eq_true hb, Bool.true_and] at hv
                  replace hv := Lib.hid hv
                  have e1 : decide (p2.1 ≤ p.1) = false := decide_eq_false (by omega)
                  clear hb
                  go_wp2_with fail
                  refine wp_region_text [(2, 1), (3, 1)] (by kernel_rfl) (by kernel_rfl) ?_
                  simp only [instr, chk, look, Nat.reduceBEq, if_true, if_false, Nat.reduceEqDiff, List.cons_append, List.nil_append]
                  go_wp2_with fail
                  refine OnlyN.normal ?_
                  go_wp2
                  go_roundw
                  case rel => exact ⟨q + 1, by go_num, by omega, hv, hg.drew⟩
                  case measure => simp [intOf] <;> omega
                · rw [decide_eq_false hb, Bool.false_and, Bool.false_and] at hv
                  replace hv := Lib.hid hv
                  have e1 : decide (p2.1 ≤ p.1) = true := decide_eq_true (by omega)
                  clear hb
                  go_wp2_with fail
                  refine wp_region_text [(2, 1), (3, 1)] (by kernel_rfl) (by kernel_rfl) ?_
                  simp only [instr, chk, look, Nat.reduceBEq, if_true, if_false, Nat.reduceEqDiff, List.cons_append, List.nil_append]
                  go_wp2_with fail
                  refine OnlyN.normal ?_
                  go_wp2
                  go_ret
                  exact ⟨by rw [← hez.out, hv.out]; simp, hg.drew⟩
              · have hv := hc.out
                rw [upP_one (by rw [List.length_drop, hpt.1]; omega), Bool.true_and, ← hR.out] at hv
                replace hv := Lib.hid hv
                clear hc
                go_wp2
                go_roundw
                case rel => exact ⟨1, by omega, by go_num, hv, hg⟩
                case measure => simp [intOf] <;> omega
          · obtain ⟨ad', mp, sp, hpe, hsp, hspi, y0, y1⟩ := h.at_ (show k < n by omega)
            injection hpe with hpe
            subst hpe
            have hpl : prevS ss (k + 1) = some sp.lbs := by
              unfold prevS
              rw [if_neg (by omega), Nat.add_sub_cancel, hsp]
              rfl
            have y0 := hg.cell y0 (fun e => e)
            have hplc := hspi.lc
            have hM := fun W1 (hg1 : Grew wr W1) => compare3_any mp.la la mp.ln mp.lc ln lc sp.lbs s.lbs W1 ((hspi.lb.grew hg).grew hg1) ((hsi.lb.grew hg).grew hg1) (by omega) (by omega)
            replace hM := Lib.hid hM
            have hin := hin (decide (cmpLs sp.lbs s.lbs < 0)) (by rw [hpl]; rfl)
            generalize cmpLs sp.lbs s.lbs = cz at *
            clear hs hsp hspi hpl y1
            by_cases hcz : cz < 0
            · rw [decide_eq_true hcz] at hin
              have hv := hin
              have e1 : decide ((0 : Int) ≤ cz) = false := decide_eq_false (by omega)
              clear hin hcz
              go_wp2_with fail
              refine wp_region_text [(27, 1), (3, 1)] (by kernel_rfl) (by kernel_rfl) ?_
              simp only [instr, chk, look, Nat.reduceBEq, Bool.false_eq_true, if_true, if_false, Nat.reduceEqDiff, List.cons_append, List.nil_append]
              go_wp2_with fail
              refine (hC.out _ (Chg.refl _ wr).drew).mono ?_
              rintro e w1 ⟨rfl, hg1⟩
              have hgg1 : Grew wr w1 := (Chg.refl _ wr).drew.trans hg1
              have d1 := hgg1.cell x1' (fun e => e)
              have d0 := hgg1.cell x0' (fun e => e)
              have dy := hgg1.cell y0 (fun e => e)
              go_wp2_with fail
              refine (hM.out _ hgg1).mono ?_
              rintro e w3 ⟨rfl, hg3⟩
              have hgg3 : Grew wr w3 := hgg1.trans hg3
              go_wp2_with fail
              refine OnlyN.normal ?_
              have hgo := hg.trans hgg3
              have hpt := hsi.pt
              have z1 : w.cell? ⟨(ad.add ((k + 1) * 2)).block, (ad.add ((k + 1) * 2)).off + 1, none⟩ = some (.slice (some pd) pn pc) := z1
              have hv' := hv.out
              rw [Bool.true_and] at hv'
              obtain ⟨R, hR⟩ : ∃ R, okS (prevS ss (k + 1 + 1)) (ss.drop (k + 1 + 1)) = R := ⟨_, rfl⟩
              rw [hR] at hv'
              have hup : Hid (z = (upP (s.pts.drop 0) && R)) := hv'
              replace hR := Lib.hid hR
              clear hv' hv hC hsame hcs x0' x1' d0 d1 hgg1 hg1 hg x0 x1 h
              go_wp2
              go_loopw [4] (fun i wr => ∃ q : Nat, i = .int .i64 ((q : Int) + 1) ∧ q ≤ pn ∧ Hid (z = (upP (s.pts.drop q) && R)) ∧ Grew w wr) (fun i _ => pn + 1 - (intOf i).toNat)
              case atStart => exact ⟨0, rfl, by omega, hup, hgo⟩
              case round =>
                obtain ⟨q, rfl, hq, hc, hg⟩ := hrel
                have x1 := hg.cell z1 (fun e => e)
                by_cases hql : q + 1 < pn
                · obtain ⟨pd1, p, hpa, hp, p0, p1⟩ := (hpt.grew hg).pt (show q < pn by omega)
                  injection hpa with hpa
                  subst hpa
                  obtain ⟨pd2, p2, he, hp2, q0, q1⟩ := (hpt.grew hg).pt hql
                  injection he with he
                  subst he
                  have hv := hc.out
                  rw [upP_drop hp hp2] at hv
                  clear hc hp hp2 p1 q1
                  by_cases hb : p.1 < p2.1
                  · rw [decide_eq_true hb, Bool.true_and] at hv
                    replace hv := Lib.hid hv
                    have e1 : decide (p2.1 ≤ p.1) = false := decide_eq_false (by omega)
                    clear hb
                    go_wp2_with fail
                    refine wp_region_text [(2, 1), (3, 1)] (by kernel_rfl) (by kernel_rfl) ?_
                    simp only [instr, chk, look, Nat.reduceBEq, if_true, if_false, Nat.reduceEqDiff, List.cons_append, List.nil_append]
                    go_wp2_with fail
                    refine OnlyN.normal ?_
                    go_wp2
                    go_roundw
                    case rel => exact ⟨q + 1, by go_num, by omega, hv, hg.drew⟩
                    case measure => simp [intOf] <;> omega
                  · rw [decide_eq_false hb, Bool.false_and, Bool.false_and] at hv
                    replace hv := Lib.hid hv
                    have e1 : decide (p2.1 ≤ p.1) = true := decide_eq_true (by omega)
                    clear hb
                    go_wp2_with fail
                    refine wp_region_text [(2, 1), (3, 1)] (by kernel_rfl) (by kernel_rfl) ?_
                    simp only [instr, chk, look, Nat.reduceBEq, if_true, if_false, Nat.reduceEqDiff, List.cons_append, List.nil_append]
                    go_wp2_with fail
                    refine OnlyN.normal ?_
                    go_wp2
                    go_ret
                    exact ⟨by rw [← hez.out, hv.out]; simp, hg.drew⟩
                · have hv := hc.out
                  rw [upP_one (by rw [List.length_drop, hpt.1]; omega), Bool.true_and, ← hR.out] at hv
                  replace hv := Lib.hid hv
                  clear hc
                  go_wp2
                  go_roundw
                  case rel => exact ⟨k + 1 + 1, by omega, by go_num, hv, hg⟩
                  case measure => simp [intOf] <;> omega
            · rw [decide_eq_false hcz, Bool.false_and, Bool.and_false] at hin
              have hv := hin
              have e1 : decide ((0 : Int) ≤ cz) = true := decide_eq_true (by omega)
              clear hin hcz
              go_wp2_with fail
              refine wp_region_text [(27, 1), (3, 1)] (by kernel_rfl) (by kernel_rfl) ?_
              simp only [instr, chk, look, Nat.reduceBEq, Bool.false_eq_true, if_true, if_false, Nat.reduceEqDiff, List.cons_append, List.nil_append]
              go_wp2_with fail
              refine (hC.out _ (Chg.refl _ wr).drew).mono ?_
              rintro e w1 ⟨rfl, hg1⟩
              have hgg1 : Grew wr w1 := (Chg.refl _ wr).drew.trans hg1
              have d1 := hgg1.cell x1' (fun e => e)
              have d0 := hgg1.cell x0' (fun e => e)
              have dy := hgg1.cell y0 (fun e => e)
              go_wp2_with fail
              refine (hM.out _ hgg1).mono ?_
              rintro e w3 ⟨rfl, hg3⟩
              have hgg3 : Grew wr w3 := hgg1.trans hg3
              go_wp2_with fail
              refine OnlyN.normal ?_
              go_wp2
              go_ret
              exact ⟨by rw [← hez.out, hv.out]; simp, hg.trans hgg3⟩
      · rw [decide_eq_false hck, Bool.false_and] at hv
        replace hv := Lib.hid hv
        have e1 : ((ck : Int) != 0) = true := by simp; omega
        have x0 := x0.out
        have x1 := x1.out
        clear hs hsi
        go_wp2_with fail
        refine wp_region_text [(27, 1), (3, 1)] (by kernel_rfl) (by kernel_rfl) ?_
        simp only [instr, chk, look, Nat.reduceBEq, Bool.false_eq_true, if_true, if_false, Nat.reduceEqDiff, List.cons_append, List.nil_append]
        go_wp2_with fail
        refine (hC.out _ (Chg.refl _ wr).drew).mono ?_
        rintro e w1 ⟨rfl, hg1⟩
        have hgg1 : Grew wr w1 := (Chg.refl _ wr).drew.trans hg1
        go_wp2_with fail
        refine OnlyN.normal ?_
        go_wp2
        go_ret
        exact ⟨by rw [← hez.out, hv.out]; simp, hg.trans hgg1⟩
    · obtain rfl : k = n := by omega
      have hv := hc.out
      rw [List.drop_of_length_le (by omega), okS] at hv
      replace hv := Lib.hid hv
      clear hc
      go_wp2
      go_ret
      exact ⟨by rw [← hez.out, hv.out]; simp, hg⟩
end Go.Proofs.YtlcaaacbookopaaGreatDoor

namespace Go.Proofs.YtlcaaacbookopaaGreatDoor
open Go.RowKit

def foldM (L : List (List Ser)) : List Ser := L.foldl twoM []
theorem foldM_snoc (L : List (List Ser)) (a : List Ser) : foldM (L ++ [a]) = twoM (foldM L) a := by simp [foldM]
/-- what a merge leaves: a list of its own, and a code -/
def RP (w : World) (R : List Ser) (z : Int) (e : Ending) (w' : World) : Prop := ∃ A c, e = .returned (.tuple #[.slice A R.length c, .int .i64 z]) ∧ NS w' w.heap.size A R.length c R ∧ Grew w w'
theorem sss_get {ls : List QLst} {k : Nat} {x : QLst} (h : ls[k]? = some x) : (sss ls)[k]? = some x.ss := by simp [sss, h]

set_option maxRecDepth 100000 in
set_option maxHeartbeats 4000000 in
theorem merge10_yes (La : Option Addr) (Ln Lc : Nat) (ls : List QLst) (w : World) (hls : RE elLs w La Ln ls) (hin : ∀ x ∈ ls, LsIn w x) (hok : ∀ x ∈ ls, OkL x.ss) (hn : Ln ≤ 1048576) (hsm : ∀ x ∈ ls, Small x.ss) (hsf : ∀ k, Small (foldM ((sss ls).take k))) :
    Calls Tryz.prog 27 #[.slice La Ln Lc] w (RP w (foldM (sss ls)) 0) := by
  have hlen := hls.1
  replace hlen := Lib.hid hlen
  replace hin := Lib.hid hin
  replace hok := Lib.hid hok
  replace hsm := Lib.hid hsm
  replace hsf := Lib.hid hsf
  go_enter Tryz.func27, Tryz.ntmps27
  go_wp2
  go_loopw [4] (fun i wr => ∃ k : Nat, k ≤ Ln ∧ i = .int .i64 (k : Int) ∧ Grew w wr) (fun i _ => Ln - (intOf i).toNat)
  case atStart => exact ⟨0, by omega, rfl, Chg.refl _ _⟩
  case round =>
    obtain ⟨k, hk, rfl, hg⟩ := hrel
    by_cases hlt : k < Ln
    · obtain ⟨ad, x, rfl, hx, x0⟩ := (hls.grew hg).ls hlt
      have hmem := List.mem_of_getElem? hx
      have hi := hin.out x hmem
      have hcap := hi.cap
      have hC := check10_any x.a x.n x.c x.ss wr (hi.rs.grew hg) (by omega)
      rw [errS_ok (hok.out x hmem)] at hC
      clear hx hmem
      go_wp2_with fail
      refine hC.mono ?_
      rintro e w1 ⟨rfl, hg1⟩
      have hgg := hg.trans hg1
      clear hC hg1
      go_wp2
      go_roundw
      case rel => exact ⟨k + 1, by omega, by go_num, hgg⟩
      case measure => simp [intOf]; omega
    · obtain rfl : k = Ln := by omega
      clear hlt
      go_wp2
      obtain ⟨wo, rfl⟩ : ∃ wo : World, wo = wr := ⟨_, rfl⟩
      go_loopw [6, 7] (fun o i wr => ∃ (j s0 e0 : Nat) (D : Option Addr), j ≤ k ∧ i = .int .i64 (j : Int) ∧ o = .slice D s0 e0 ∧ NS wr w.heap.size D s0 e0 (foldM ((sss ls).take j)) ∧ Grew w wr) (fun _ i _ => k - (intOf i).toNat)
      case atStart => exact ⟨0, 0, 0, none, by omega, rfl, rfl, NS.nil _ _, hg⟩
      case round =>
        clear hg
        obtain ⟨j, s0, e0, D, hj, rfl, rfl, ho, hg⟩ := hrel
        by_cases hlt : j < k
        · obtain ⟨ad, x, rfl, hx, x0⟩ := (hls.grew hg).ls hlt
          have hmem := List.mem_of_getElem? hx
          have hi := hin.out x hmem
          have hT := two10_any D x.a s0 e0 x.n x.c (foldM ((sss ls).take j)) x.ss wr ho.rs (hi.rs.grew hg) (hsf.out j) (hsm.out x hmem)
          rw [← foldM_snoc, ← take_snoc (sss_get hx)] at hT
          have hsz := hg.size
          clear hx hmem hi ho
          go_wp2_with fail
          refine hT.mono ?_
          rintro e w1 ⟨A2, c2, rfl, hN, hg1⟩
          have hN := NS.mono hN hsz
          have hgg := hg.trans hg1
          clear hT hg1
          go_wp2
          go_roundw
          case rel => exact ⟨j + 1, _, c2, A2, by omega, by go_num, rfl, hN, hgg⟩
          case measure => simp [intOf]; omega
        · obtain rfl : j = k := by omega
          have hl := ho.len
          rw [List.take_of_length_le (by rw [sss, List.length_map]; exact Nat.le_of_eq hlen.out)] at ho hl
          subst hl
          go_wp2
          refine bodyPost_ret (v := .tuple #[.slice D (foldM (sss ls)).length e0, .int .i64 0]) ?_ rfl ⟨D, e0, rfl, ho, hg⟩
          simp [results, Tryz.results27, go_sem]

end Go.Proofs.YtlcaaacbookopaaGreatDoor

namespace Go.Proofs.YtlcaaacbookopaaGreatDoor
open Go.RowKit

theorem rngB_up : ∀ {ps : List Ptn} {prev : Option Int}, rngB prev ps = true → upP ps = true
  | [], _, _ => rfl
  | [p], _, _ => rfl
  | p :: q :: r, prev, h => by
    rw [rngB_cons] at h
    simp only [Bool.and_eq_true, decide_eq_true_eq] at h
    have h2 := rngB_up h.2.2.2
    have h3 := h.2.2.2
    rw [rngB_cons] at h3
    simp only [Bool.and_eq_true, aftT, decide_eq_true_eq] at h3
    rw [upP, Bool.and_eq_true, decide_eq_true_eq]
    exact ⟨h3.2.2.1, h2⟩
theorem okK_okS : ∀ {ss : List Ser} {prev : Option (List Lab)}, okK prev ss = true → okS prev ss = true
  | [], _, _ => rfl
  | s :: r, prev, h => by
    rw [okK_cons] at h
    simp only [Bool.and_eq_true, decide_eq_true_eq] at h
    obtain ⟨h1, h2, h3, h4, h5, h6⟩ := h
    rw [okS_cons]
    simp only [Bool.and_eq_true, decide_eq_true_eq]
    refine ⟨h1, ?_, h2, okK_okS h6⟩
    unfold risB
    rw [rngB_up h5, Bool.true_and, decide_eq_true_eq]
    exact h3
theorem BkOk.okL {ss : List Ser} (h : BkOk ss) : OkL ss := okS_iff.1 (okK_okS h.2.2)

theorem mem_sl1 {mt : List Mat} {f t : Int} {s x : Ser} (h : x ∈ sl1 mt f t s) : x.lbs = s.lbs ∧ x.pts = clipP f t s.pts ∧ x.pts ≠ [] := by
  unfold sl1 at h
  split at h
  · split at h
    · cases h
    · rename_i h1
      rcases List.mem_singleton.1 h with rfl
      exact ⟨rfl, rfl, h1⟩
  · cases h
theorem mem_selK {mt : List Mat} {f t : Int} {ss : List Ser} {x : Ser} (h : x ∈ selK mt f t ss) : ∃ s ∈ ss, x.lbs = s.lbs ∧ x.pts = clipP f t s.pts ∧ x.pts ≠ [] := by
  obtain ⟨s, hs, hx⟩ := List.mem_flatMap.1 h
  exact ⟨s, hs, mem_sl1 hx⟩
theorem selK_cons (mt : List Mat) (f t : Int) (s : Ser) (r : List Ser) : selK mt f t (s :: r) = sl1 mt f t s ++ selK mt f t r := by unfold selK; rw [List.flatMap_cons]
theorem selK_sort {mt : List Mat} {f t : Int} : ∀ {ss : List Ser}, SortS ss → SortS (selK mt f t ss)
  | [], _ => List.Pairwise.nil
  | s :: r, h => by
    obtain ⟨h1, h2⟩ := List.pairwise_cons.1 h
    rw [selK_cons]
    have h3 := selK_sort (mt := mt) (f := f) (t := t) h2
    have h4 : ∀ x ∈ selK mt f t r, cmpLs s.lbs x.lbs < 0 := fun x hx => by
      obtain ⟨y, hy, e, _⟩ := mem_selK hx
      rw [e]
      exact h1 y hy
    unfold sl1
    split
    · split
      · exact h3
      · exact List.pairwise_cons.2 ⟨h4, h3⟩
    · exact h3
theorem clipP_rise {f t : Int} {ps : List Ptn} (h : Rise ps) : Rise (clipP f t ps) := List.Pairwise.filter _ h
theorem selK_ok {mt : List Mat} {f t : Int} {ss : List Ser} (h : OkL ss) : OkL (selK mt f t ss) := ⟨⟨selK_sort h.1.sort, fun x hx => by
  obtain ⟨s, hs, _, e, _⟩ := mem_selK hx
  rw [e]
  exact clipP_rise (h.1.rise s hs), fun x hx => by
  obtain ⟨s, hs, _, _, e⟩ := mem_selK hx
  exact e⟩, fun x hx => by
  obtain ⟨s, hs, e, _⟩ := mem_selK hx
  rw [e]
  exact h.2 s hs⟩
theorem selK_len {mt : List Mat} {f t : Int} : ∀ ss : List Ser, (selK mt f t ss).length ≤ ss.length
  | [] => by simp [selK]
  | s :: r => by
    rw [selK_cons, List.length_append, List.length_cons]
    have h1 := selK_len (mt := mt) (f := f) (t := t) r
    have h2 : (sl1 mt f t s).length ≤ 1 := by
      unfold sl1
      split
      · split <;> simp
      · simp
    omega
theorem kclipP_len {f t : Int} (ps : List Ptn) : (clipP f t ps).length ≤ ps.length := List.length_filter_le _ _
theorem selK_small {mt : List Mat} {f t : Int} {ss : List Ser} (h : BkS ss) : Small (selK mt f t ss) := ⟨by have := selK_len (mt := mt) (f := f) (t := t) ss; have := h.n; omega, fun x hx => by
  obtain ⟨s, hs, e1, e2, _⟩ := mem_selK hx
  have h1 := (h.lb s hs).1
  have h2 := (h.pt s hs).1
  have h3 := kclipP_len (f := f) (t := t) s.pts
  rw [e1, e2]
  omega⟩

theorem ptsM_nil (b : List Ptn) : ptsM [] b = b := by rw [ptsM]
theorem kptsM_r (a : List Ptn) : ptsM a [] = a := by cases a <;> rw [ptsM]
theorem ptsM_app : ∀ {a b : List Ptn}, (∀ p ∈ a, ∀ q ∈ b, p.1 < q.1) → ptsM a b = a ++ b
  | [], b, _ => ptsM_nil b
  | p :: a, [], _ => by rw [kptsM_r, List.append_nil]
  | p :: a, q :: b, h => by
    rw [ptsM, if_pos (h p (by simp) q (by simp)), ptsM_app (fun x hx y hy => h x (List.mem_cons_of_mem _ hx) y hy)]
    rfl
theorem clip_two {f m t : Int} (h1 : f ≤ m) (h2 : m ≤ t) : ∀ {ps : List Ptn}, Rise ps → clipP f m ps ++ clipP (m + 1) t ps = clipP f t ps
  | [], _ => rfl
  | p :: r, h => by
    obtain ⟨k1, k2⟩ := List.pairwise_cons.1 h
    have ih := clip_two h1 h2 k2
    unfold clipP at ih ⊢
    by_cases hp : p.1 ≤ m
    · have e1 : okP (m + 1) t p = false := by unfold okP; rw [decide_eq_false (by omega)]; rfl
      rw [List.filter_cons_of_neg (l := r) (p := okP (m + 1) t) (by rw [e1]; simp)]
      by_cases hf : f ≤ p.1
      · rw [List.filter_cons_of_pos (by unfold okP; simp; omega), List.filter_cons_of_pos (by unfold okP; simp; omega), List.cons_append, ih]
      · rw [List.filter_cons_of_neg (by unfold okP; simp; omega), List.filter_cons_of_neg (by unfold okP; simp; omega), ih]
    · have e1 : (p :: r).filter (okP f m) = [] := List.filter_eq_nil_iff.2 fun x hx => by
        unfold okP
        rcases List.mem_cons.1 hx with rfl | hx
        · simp; omega
        · have := k1 x hx
          simp; omega
      rw [e1, List.nil_append]
      refine List.filter_congr fun x hx => ?_
      unfold okP
      rcases List.mem_cons.1 hx with rfl | hx
      · rw [decide_eq_true (p := m + 1 ≤ x.1) (by omega), decide_eq_true (p := f ≤ x.1) (by omega)]
      · have := k1 x hx
        rw [decide_eq_true (p := m + 1 ≤ x.1) (by omega), decide_eq_true (p := f ≤ x.1) (by omega)]
theorem clip_lt {f m t : Int} {ps qs : List Ptn} : ∀ p ∈ clipP f m ps, ∀ q ∈ clipP (m + 1) t qs, p.1 < q.1 := fun p hp q hq => by
  have h1 := (List.mem_filter.1 hp).2
  have h2 := (List.mem_filter.1 hq).2
  unfold okP at h1 h2
  simp only [Bool.and_eq_true, decide_eq_true_eq] at h1 h2
  omega
theorem twoM_left {s : Ser} {X Y : List Ser} (h : ∀ q ∈ Y, cmpLs s.lbs q.lbs < 0) : twoM (s :: X) Y = s :: twoM X Y := by
  cases Y with
  | nil => rw [twoM_r, twoM_r]
  | cons q Y => exact twoM_lt (h q (by simp))
theorem twoM_right {s : Ser} {X Y : List Ser} (h : ∀ q ∈ X, cmpLs s.lbs q.lbs < 0) : twoM X (s :: Y) = s :: twoM X Y := by
  cases X with
  | nil => rw [twoM_l, twoM_l]
  | cons q X => exact twoM_gt ((cmpLs_ok.anti _ _).1 (h q (by simp)))
theorem sel_two {mt : List Mat} {f m t : Int} (h1 : f ≤ m) (h2 : m ≤ t) : ∀ {ss : List Ser}, SortS ss → (∀ s ∈ ss, Rise s.pts) → twoM (selK mt f m ss) (selK mt (m + 1) t ss) = selK mt f t ss
  | [], _, _ => by simp [selK, twoM]
  | s :: r, h, hr => by
    obtain ⟨k1, k2⟩ := List.pairwise_cons.1 h
    have ih := sel_two (mt := mt) h1 h2 k2 fun x hx => hr x (List.mem_cons_of_mem _ hx)
    have hc := clip_two h1 h2 (hr s List.mem_cons_self)
    have hlt : ∀ (a b : Int), ∀ x ∈ selK mt a b r, cmpLs s.lbs x.lbs < 0 := fun a b x hx => by
      obtain ⟨y, hy, e, _⟩ := mem_selK hx
      rw [e]
      exact k1 y hy
    rw [selK_cons, selK_cons, selK_cons]
    unfold sl1
    by_cases hs : saysB mt s.lbs = true
    · rw [if_pos hs, if_pos hs, if_pos hs]
      by_cases ha : clipP f m s.pts = [] <;> by_cases hb : clipP (m + 1) t s.pts = []
      · rw [if_pos ha, if_pos hb, if_pos (by rw [← hc, ha, hb]; rfl)]
        exact ih
      · have hab : clipP f t s.pts = clipP (m + 1) t s.pts := by rw [← hc, ha, List.nil_append]
        rw [if_pos ha, if_neg hb, hab, if_neg hb]
        exact (twoM_right (s := ⟨s.lbs, clipP (m + 1) t s.pts⟩) (hlt f m)).trans (congrArg _ ih)
      · have hab : clipP f t s.pts = clipP f m s.pts := by rw [← hc, hb, List.append_nil]
        rw [if_neg ha, if_pos hb, hab, if_neg ha]
        exact (twoM_left (s := ⟨s.lbs, clipP f m s.pts⟩) (hlt (m + 1) t)).trans (congrArg _ ih)
      · have hab : clipP f t s.pts = ptsM (clipP f m s.pts) (clipP (m + 1) t s.pts) := by rw [← hc, ptsM_app clip_lt]
        have hne : clipP f t s.pts ≠ [] := by rw [← hc]; simp [ha]
        rw [if_neg ha, if_neg hb, if_neg hne, hab]
        refine (twoM_eq (p := ⟨s.lbs, clipP f m s.pts⟩) (q := ⟨s.lbs, clipP (m + 1) t s.pts⟩) (a := selK mt f m r) (b := selK mt (m + 1) t r) ((cmpLs_ok.zero _ _).2 rfl)).trans ?_
        rw [ih]
        rfl
    · rw [if_neg hs, if_neg hs, if_neg hs]
      exact ih
theorem sel_all {ss : List Ser} (h : ∀ s ∈ ss, s.pts ≠ [] ∧ Okp s.pts) : selK [] (-1099511627776) 1099511627776 ss = ss := by
  induction ss with
  | nil => rfl
  | cons s r ih =>
    rw [selK_cons, ih fun x hx => h x (List.mem_cons_of_mem _ hx)]
    obtain ⟨h1, h2⟩ := h s List.mem_cons_self
    have hc : clipP (-1099511627776) 1099511627776 s.pts = s.pts := List.filter_eq_self.2 fun p hp => by
      obtain ⟨i, hi⟩ := List.mem_iff_getElem?.1 hp
      have := (h2 i p hi).1
      unfold okP
      simp
      omega
    unfold sl1
    rw [if_pos (by rfl), hc, if_neg h1]
    rfl
end Go.Proofs.YtlcaaacbookopaaGreatDoor

namespace Go.Proofs.YtlcaaacbookopaaGreatDoor
open Go.RowKit

/-- the document's reader: its bytes, at which place it is, whether it is wrong -/
structure RrS (w : World) (g : Nat) (B : Option Addr) (n c : Nat) (l : List UInt8) (q : Nat) (bad : Bool) : Prop where
  bk : Blk w g 60 #[.slice B n c, .int .i64 (q : Int), .bool bad]
  rb : RB w B n l
  ne : ∀ ad, B = some ad → 0 < n → ad.block ≠ g
theorem RrS.chg {w w' : World} {S : Nat → Prop} {g : Nat} {B : Option Addr} {n c : Nat} {l : List UInt8} {q : Nat} {bad : Bool} (h : RrS w g B n c l q bad) (hc : Chg S w w') (h1 : ¬ S g) (h2 : ∀ ad, B = some ad → 0 < n → ¬ S ad.block) : RrS w' g B n c l q bad :=
  ⟨h.bk.chg hc h1, h.rb.far hc h2, h.ne⟩
theorem RrS.grew {w w' : World} {g : Nat} {B : Option Addr} {n c : Nat} {l : List UInt8} {q : Nat} {bad : Bool} (h : RrS w g B n c l q bad) (hc : Grew w w') : RrS w' g B n c l q bad := h.chg hc (fun e => e) fun _ _ _ e => e
theorem RrS.set {w : World} {g : Nat} {B : Option Addr} {n c : Nat} {l : List UInt8} {q : Nat} {bad : Bool} (h : RrS w g B n c l q bad) (b : Bool) : RrS (w.setCell ⟨g, 2, none⟩ (.bool b)) g B n c l q b := by
  have b3 := h.bk.set 2 (.bool b)
  simp only [List.setIfInBounds_toArray, List.set_cons_succ, List.set_cons_zero] at b3
  exact ⟨b3, h.rb.far (Chg.cell1 w g 2 _) (fun ad e h0 hk => h.ne ad e h0 hk), h.ne⟩
theorem RrS.to {w : World} {g : Nat} {B : Option Addr} {n c : Nat} {l : List UInt8} {q : Nat} {bad : Bool} (h : RrS w g B n c l q bad) (q2 : Nat) : RrS (w.setCell ⟨g, 1, none⟩ (.int .i64 (q2 : Int))) g B n c l q2 bad := by
  have b3 := h.bk.set 1 (.int .i64 (q2 : Int))
  simp only [List.setIfInBounds_toArray, List.set_cons_succ, List.set_cons_zero] at b3
  exact ⟨b3, h.rb.far (Chg.cell1 w g 1 _) (fun ad e h0 hk => h.ne ad e h0 hk), h.ne⟩
/-- what a reading leaves -/
structure RrT (w w' : World) (g : Nat) (B : Option Addr) (n c : Nat) (l : List UInt8) (q : Nat) (bad : Bool) : Prop where
  rd : RrS w' g B n c l q bad
  ch : Chg (fun k => k = g) w w'
theorem RrS.two {w W : World} {g : Nat} {B : Option Addr} {n c : Nat} {l : List UInt8} {q : Nat} {bad : Bool} (h : RrS w g B n c l q bad) (hW : Grew w W) (q2 : Nat) (b : Bool) : RrT w ((W.setCell ⟨g, 2, none⟩ (.bool b)).setCell ⟨g, 1, none⟩ (.int .i64 (q2 : Int))) g B n c l q2 b :=
  ⟨((h.grew hW).set b).to q2, ((Chg.of_grew hW).trans (Chg.cell1 W g 2 _)).trans (Chg.cell1 _ g 1 _)⟩
end Go.Proofs.YtlcaaacbookopaaGreatDoor

namespace Go.Proofs.YtlcaaacbookopaaGreatDoor
open Go.RowKit

end Go.Proofs.YtlcaaacbookopaaGreatDoor

namespace Go.Proofs.YtlcaaacbookopaaGreatDoor
open Go.RowKit

/-- the document's reading of a meta: its boxes -/
structure DrS (w W : World) (l : List UInt8) (gm gr gs : Nat) (B : Option Addr) (n c q : Nat) (bad : Bool) (cs ss : Array Value) : Prop where
  rd : RrS W gr B n c l q bad
  bm : Blk W gm 25 cs
  b2 : Blk W w.heap.size 25 #[.int .u64 0, .int .i64 0, .int .i64 0, .int .i64 0, .slice none 0 0, .int .i64 0, .int .i64 0]
  bs : Blk W gs 62 ss
  bl : ∀ ad, B = some ad → 0 < n → ad.block < w.heap.size
  gw : Grew w W
  lo : w.heap.size < gm ∧ w.heap.size ≤ gr ∧ w.heap.size ≤ gs
theorem DrS.to {w W W' : World} {l : List UInt8} {gm gr gs : Nat} {B : Option Addr} {n c q q2 : Nat} {bad b2 : Bool} {cs ss : Array Value} (h : DrS w W l gm gr gs B n c q bad cs ss) (ht : RrT W W' gr B n c l q2 b2) : DrS w W' l gm gr gs B n c q2 b2 cs ss :=
  ⟨ht.rd, h.bm.chg ht.ch (fun e => Blk.neT h.bm h.rd.bk (by decide) e), h.b2.chg ht.ch (fun e => Blk.neT h.b2 h.rd.bk (by decide) e), h.bs.chg ht.ch (fun e => Blk.neT h.bs h.rd.bk (by decide) e), h.bl, h.gw.step ht.ch fun j hj e => by have := h.lo; omega, h.lo⟩
theorem DrS.grew {w W W' : World} {l : List UInt8} {gm gr gs : Nat} {B : Option Addr} {n c q : Nat} {bad : Bool} {cs ss : Array Value} (h : DrS w W l gm gr gs B n c q bad cs ss) (hg : Grew W W') : DrS w W' l gm gr gs B n c q bad cs ss :=
  ⟨h.rd.grew hg, h.bm.grew hg, h.b2.grew hg, h.bs.grew hg, h.bl, h.gw.trans hg, h.lo⟩
theorem DrS.setB {w W : World} {l : List UInt8} {gm gr gs : Nat} {B : Option Addr} {n c q : Nat} {bad : Bool} {cs ss : Array Value} (h : DrS w W l gm gr gs B n c q bad cs ss) (b : Bool) : DrS w (W.setCell ⟨gr, 2, none⟩ (.bool b)) l gm gr gs B n c q b cs ss :=
  ⟨h.rd.set b, h.bm.far (Blk.neT h.bm h.rd.bk (by decide)) _, h.b2.far (Blk.neT h.b2 h.rd.bk (by decide)) _, h.bs.far (Blk.neT h.bs h.rd.bk (by decide)) _, h.bl, h.gw.setCell (p := ⟨gr, 2, none⟩) (.inl (by show w.heap.size ≤ gr; have := h.lo; omega)) _, h.lo⟩
theorem DrS.append {w W W' : World} {l : List UInt8} {gm gr gs : Nat} {B : Option Addr} {n c q : Nat} {bad : Bool} {cs ss : Array Value} {A A' : Option Addr} {p r d d' : Nat} {ls rs : List Nat} (h : DrS w W l gm gr gs B n c q bad cs ss)
    (ho : OE elU W w.heap.size 22 A p d rs) (ha : ApE elU W w.heap.size 22 A r d ls A' d' W') : DrS w W' l gm gr gs B n c q bad cs ss :=
  ⟨h.rd.chg ha.chg (fun ⟨ad, e, hk⟩ => Own.ne_blk ho h.rd.bk (by decide) ad e hk.symm) (fun ad e h0 ⟨bd, e2, hk⟩ => by have := h.bl ad e h0; have := (Own.blk_lt ho bd e2).1; omega), h.bm.chg ha.chg (fun ⟨ad, e, hk⟩ => Own.ne_blk ho h.bm (by decide) ad e hk.symm), h.b2.chg ha.chg (fun ⟨ad, e, hk⟩ => Own.ne_blk ho h.b2 (by decide) ad e hk.symm), h.bs.chg ha.chg (fun ⟨ad, e, hk⟩ => Own.ne_blk ho h.bs (by decide) ad e hk.symm), h.bl,
    h.gw.step ha.chg fun j hj ⟨ad, e, hk⟩ => by have := (Own.blk_lt ho ad e).1; omega, h.lo⟩
end Go.Proofs.YtlcaaacbookopaaGreatDoor

namespace Go.Proofs.YtlcaaacbookopaaGreatDoor
open Go.RowKit

end Go.Proofs.YtlcaaacbookopaaGreatDoor

namespace Go.Proofs.YtlcaaacbookopaaGreatDoor
open Go.RowKit

end Go.Proofs.YtlcaaacbookopaaGreatDoor
