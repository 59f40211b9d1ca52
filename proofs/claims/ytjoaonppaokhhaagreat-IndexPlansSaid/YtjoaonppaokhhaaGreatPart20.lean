/-
  Several texts in one:
  (slices.pdqsortOrdered) of numbers: what it leaves is sorted, and the same numbers. Conditions: lengths that a slice has.
-/
import Derived.Test.YtjoaonppaokhhaaGreatPart14
import Derived.Test.YtjoaonppaokhhaaGreatPart15
import Derived.Test.YtjoaonppaokhhaaGreatPart16
import Derived.Test.YtjoaonppaokhhaaGreatPart17
import Derived.Test.YtjoaonppaokhhaaGreatPart18
import Derived.Test.YtjoaonppaokhhaaGreatPart19
import Derived.Deep.CutRange

namespace Go.Proofs.YtjoaonppaokhhaaGreat
open Go.RowKit

theorem permIn_symm {a b : Nat} {d d' : Array Nat} (h : Go.Sort.PermIn a b d d') : Go.Sort.PermIn a b d' d := ⟨h.1.symm, fun i hi => (h.2.1 i hi).symm, h.2.2.symm⟩
/-- a part of the row is sorted -/
def PdqTo (base : Nat) (t : TypeId) (g n c a b : Nat) (d : Array Nat) (w : World) (x : Ending) (w' : World) : Prop :=
  x = .returned (.tuple #[]) ∧ ∃ d', Go.Sort.PermIn a b d d' ∧ Go.Sort.SortedIn ltU a b d' ∧ SrtTo base t g n c w d' w'

set_option maxRecDepth 100000 in
set_option maxHeartbeats 16000000 in
theorem updq_any (base g o n c : Nat) (t : TypeId) (ho : o = 0) (hn : n < 4611686018427387904) : ∀ (m a b lim : Nat) (d : Array Nat) (w : World), b - a ≤ m → lim ≤ 1000 → UA w base t g n c d → a ≤ b → b ≤ n → Go.Sort.Below ltU a b d →
    Calls Tryz.prog 132 #[.slice (some ⟨g, o, none⟩) n c, .int .i64 (a : Int), .int .i64 (b : Int), .int .i64 (lim : Int)] w (PdqTo base t g n c a b d w) := by
  intro m
  induction m using Nat.strongRecOn with
  | _ m ih =>
    intro a b lim d w hm hlm h hab hb hB
    replace ho := Lib.hid ho
    replace hB := Lib.hid hB
    replace h := Lib.hid h
    go_enter Tryz.func132, Tryz.ntmps132
    go_wp2
    go_loopw [1, 2, 3, 8, 9] (fun va vb vl v8 v9 wr => ∃ (p q l : Nat) (e : Array Nat) (p8 p9 : Bool), va = .int .i64 (p : Int) ∧ vb = .int .i64 (q : Int) ∧ vl = .int .i64 (l : Int) ∧ v8 = .bool p8 ∧ v9 = .bool p9 ∧ l ≤ 1000 ∧ p ≤ q ∧ q ≤ n ∧ q - p ≤ b - a ∧ Go.Sort.Below ltU p q e ∧ SrtTo base t g n c w e wr ∧
      (∀ R, Go.Sort.PermIn p q e R → Go.Sort.SortedIn ltU p q R → Go.Sort.PermIn a b d R ∧ Go.Sort.SortedIn ltU a b R)) (fun va vb _ _ _ _ => (intOf vb).toNat - (intOf va).toNat)
    case atStart => exact ⟨a, b, lim, d, true, true, rfl, rfl, rfl, rfl, rfl, hlm, hab, hb, Nat.le_refl _, hB.out, ⟨h.out, Chg.refl _ _⟩, fun R h1 h2 => ⟨h1, h2⟩⟩
    case round =>
      clear hB h
      obtain ⟨p, q, l, e, p8, p9, rfl, rfl, rfl, rfl, rfl, hl9, hpq, hqn, hqp, hB, hu, hK⟩ := hrel
      replace hB := Lib.hid hB
      replace hu := Lib.hid hu
      replace hK := Lib.hid hK
      by_cases h12 : q - p ≤ 12
      · have h12z : (q : Int) - (p : Int) ≤ 12 := by omega
        have hQ := uins_any base g o n c p q t e wr ho.out hu.out.1 hpq hqn (by omega)
        obtain ⟨h91, h92⟩ := Go.Sort.insertionSort_holds swoU e p q hpq (by rw [hu.out.1.size]; exact hqn)
        have hfin := Lib.hid (hK.out _ h91 h92)
        clear h91 h92
        go_wp2_with fail
        refine hQ.mono ?_
        rintro x w1 ⟨rfl, hs1⟩
        have hu1 := Lib.hid (hu.out.trans hs1)
        clear hQ hs1
        go_wp2
        first
          | go_end0
          | refine bodyPost_ret (results_none rfl _ _ _) rfl ?_
        exact ⟨rfl, _, hfin.out.1, hfin.out.2, hu1.out⟩
      · have h12z : ¬ ((q : Int) - (p : Int) ≤ 12) := by omega
        by_cases hl0 : l = 0
        · have hlz : (l : Int) = 0 := by omega
          have hlzb : ((l : Int) == 0) = true := by simpa using hlz
          have hQ := uheap_any base g o n c p q t e wr ho.out hu.out.1 (by omega) hqn hn
          obtain ⟨h91, h92⟩ := Go.Sort.heapSort_holds swoU e p q hpq (by rw [hu.out.1.size]; exact hqn)
          have hfin := Lib.hid (hK.out _ h91 h92)
          clear h91 h92
          go_wp2_with fail
          refine hQ.mono ?_
          rintro x w1 ⟨rfl, hs1⟩
          have hu1 := Lib.hid (hu.out.trans hs1)
          clear hQ hs1
          go_wp2
          first
            | go_end0
            | refine bodyPost_ret (results_none rfl _ _ _) rfl ?_
          exact ⟨rfl, _, hfin.out.1, hfin.out.2, hu1.out⟩
        · have hlz : ¬ ((l : Int) = 0) := by omega
          have hlzb : ((l : Int) == 0) = false := by simpa using hlz
          go_upto_if 35 with fail
          go_cut [3] from 19 to 133 (fun s3 wx => ∃ (l2 : Nat) (e1 : Array Nat), s3 = .int .i64 (l2 : Int) ∧ l2 ≤ 1000 ∧ Go.Sort.PermIn p q e e1 ∧ SrtTo base t g n c w e1 wx)
          case first =>
            cases p8
            · have hQ := ubreak_any base g o n c p q t e wr ho.out hu.out.1 (by omega) hqn hn
              go_wp2_with fail
              refine hQ.mono ?_
              rintro x w1 ⟨rfl, e1, h91, hs1⟩
              have hu1 := Lib.hid (hu.out.trans hs1)
              have P1 := Lib.hid h91
              clear hQ hs1 h91 hu hB
              go_wp2_with fail
              go_meet
              case rel => exact ⟨l - 1, e1, predV (by omega), by omega, P1.out, hu1.out⟩
            · go_wp2_with fail
              go_meet
              case rel => exact ⟨l, e, rfl, hl9, Go.Sort.permIn_refl _ _ _, hu.out⟩
          case rest =>
            obtain ⟨l2, e1, rfl, hl8, P1, hu1⟩ := hcut
            have B1 := Lib.hid (hB.out.perm (by rw [hu.out.1.size]; exact hqn) P1)
            replace P1 := Lib.hid P1
            replace hu1 := Lib.hid hu1
            clear hu hB hlz hlzb hl0 hl9
            have hQ := uchoose_any base g o n c p q t e1 wc ho.out hu1.out.1 (by omega) hqn hn
            have hc0 := Go.Sort.choosePivot_holds ltU e1 p q (by omega)
            obtain ⟨⟨pv0, hh⟩, hx⟩ : ∃ r, Go.Sort.choosePivot ltU e1 p q = r := ⟨_, rfl⟩
            rw [hx] at hQ hc0
            simp only at hQ hc0
            obtain ⟨hpv5, hpv6⟩ := hc0
            clear hx
            go_wp2_with fail
            refine hQ.mono ?_
            rintro x w2 ⟨rfl, hs2⟩
            have hu2 : Hid (SrtTo base t g n c w e1 w2) := ⟨OE.grew hu1.out.1 hs2, hu1.out.2.grow hs2⟩
            clear hQ hs2
            go_upto_if 50 with fail
            go_cut [11, 12] from 19 to 133 (fun s11 s12 wx => ∃ (pv : Nat) (hx : Go.Sort.Hint) (e2 : Array Nat), s11 = .int .i64 (pv : Int) ∧ s12 = .int .i64 (hintZ hx) ∧ p ≤ pv ∧ pv < q ∧ Go.Sort.PermIn p q e e2 ∧ SrtTo base t g n c w e2 wx)
            case first =>
              cases hh
              case unknown =>
                simp only [hintZ]
                go_wp2_with fail
                go_meet
                case rel => exact ⟨pv0, .unknown, e1, rfl, rfl, hpv5, hpv6, P1.out, hu2.out⟩
              case increasing =>
                simp only [hintZ]
                go_wp2_with fail
                go_meet
                case rel => exact ⟨pv0, .increasing, e1, rfl, rfl, hpv5, hpv6, P1.out, hu2.out⟩
              case decreasing =>
                simp only [hintZ]
                have hV := urev_any base g o n c p q t e1 w2 ho.out hu2.out.1 (by omega) hqn (Nat.le_of_lt hn)
                have h91 := Go.Sort.reverseRange_holds e1 p q (by omega) (by rw [hu1.out.1.size]; exact hqn)
                obtain ⟨e2, he2⟩ : ∃ e2, Go.Sort.reverseRange e1 p q = e2 := ⟨_, rfl⟩
                rw [he2] at h91 hV
                clear he2
                go_wp2_with fail
                refine hV.mono ?_
                rintro x w3 ⟨rfl, hs3⟩
                have hu3 := Lib.hid (hu2.out.trans hs3)
                have P2 := Lib.hid (Go.Sort.permIn_trans _ _ _ p q P1.out h91)
                clear hs3 hV h91
                obtain ⟨pv2, hpv3⟩ : ∃ pv2, pv2 = (q - 1) - (pv0 - p) := ⟨_, rfl⟩
                have hpvz : (q : Int) - 1 - ((pv0 : Int) - (p : Int)) = (pv2 : Int) := by omega
                have hpv7 : p ≤ pv2 := by omega
                have hpv8 : pv2 < q := by omega
                clear hpv3
                go_wp2_with fail
                go_meet
                case rel => exact ⟨pv2, .increasing, e2, rfl, rfl, hpv7, hpv8, P2.out, hu3.out⟩
            case rest =>
              obtain ⟨pv, hx, e2, rfl, rfl, hpv1, hpv2, P2, hu2b⟩ := hcut
              have B2 := Lib.hid (B1.out.perm (by rw [hu1.out.1.size]; exact hqn) (Go.Sort.permIn_trans _ _ _ p q (permIn_symm P1.out) P2))
              replace P2 := Lib.hid P2
              replace hu2b := Lib.hid hu2b
              clear hu1 hu2 P1 B1 hpv5 hpv6
              go_upto_region 15 with fail
              go_cut [68] from 19 to 133 (fun s68 wx => (∃ f : Bool, s68 = .bool f) ∧ wx = wc)
              case first =>
                cases p8 <;> cases p9 <;> cases hx <;>
                  (simp only [hintZ]
                   go_wp2_with fail
                   go_meet
                   exact ⟨⟨_, rfl⟩, rfl⟩)
              case rest =>
                obtain ⟨⟨f, rfl⟩, rfl⟩ := hcut
                go_upto_if 68 with fail
                go_cut [] from 19 to 133 (fun wx => ∃ e3, Go.Sort.PermIn p q e e3 ∧ SrtTo base t g n c w e3 wx)
                case first =>
                  cases f
                  · go_wp2_with fail
                    go_meet
                    case rel => exact ⟨e2, P2.out, hu2b.out⟩
                  · have hQ := upins_any base g o n c p q t e2 wc ho.out hu2b.out.1 (by omega) hqn hn
                    obtain ⟨h91, h92⟩ := Go.Sort.partialInsertionSort_holds swoU e2 p q (by omega) (by rw [hu2b.out.1.size]; exact hqn) B2.out
                    obtain ⟨⟨e3, f3⟩, hx⟩ : ∃ r, Go.Sort.partialInsertionSort ltU e2 p q = r := ⟨_, rfl⟩
                    rw [hx] at hQ h91 h92
                    simp only at hQ h91 h92
                    have P3 := Lib.hid (Go.Sort.permIn_trans _ _ _ p q P2.out h91)
                    replace h92 := Lib.hid h92
                    clear hx h91
                    go_wp2_with fail
                    refine hQ.mono ?_
                    rintro x w3 ⟨rfl, hs3⟩
                    have hu3 := Lib.hid (hu2b.out.trans hs3)
                    clear hQ hs3
                    cases f3
                    · go_wp2_with fail
                      go_meet
                      case rel => exact ⟨e3, P3.out, hu3.out⟩
                    · have hfin := Lib.hid (hK.out e3 P3.out (h92.out rfl))
                      go_wp2
                      first
                        | go_end0
                        | refine bodyPost_ret (results_none rfl _ _ _) rfl ?_
                      exact ⟨rfl, e3, hfin.out.1, hfin.out.2, hu3.out⟩
                case rest =>
                  obtain ⟨e3, P3, hu3⟩ := hcut
                  have B3 := Lib.hid (B2.out.perm (by rw [hu2b.out.1.size]; exact hqn) (Go.Sort.permIn_trans _ _ _ p q (permIn_symm P2.out) P3))
                  replace P3 := Lib.hid P3
                  replace hu3 := Lib.hid hu3
                  clear hu2b P2 B2
                  rename World => wz
                  obtain ⟨G, hG⟩ : ∃ G : Nat → Nat, ∀ k, G k = e3[k]! := ⟨fun k => e3[k]!, fun _ => rfl⟩
                  replace hG := Lib.hid hG
                  have hcw : ∀ k, k < n → wz.cell? ⟨g, o + k, none⟩ = some (.int .u64 ((G k : Nat) : Int)) := fun k hk => by rw [hG.out]; exact hu3.out.1.fam ho.out k hk
                  by_cases hp0 : 0 < p
                  · have hp0z : (0 : Int) < (p : Int) := by omega
                    go_wp2_with fail
                    refine wp_region_text [(3, 1), (22, 1)] (by kernel_rfl) (by kernel_rfl) ?_
                    simp only [instr, chk, look, Nat.reduceBEq, Bool.false_eq_true, if_true, if_false, Nat.reduceEqDiff, List.cons_append, List.nil_append]
                    go_wp2_with fail
                    refine (lessU_any _ _ _).mono ?_
                    rintro x w9 ⟨rfl, rfl⟩
                    go_wp2_with fail
                    refine OnlyN.normal ?_
                    go_wp2_with fail
                    · have hm : (!ltU (G (p - 1)) (G pv)) = true := by assumption
                      have hm2 : ltU (G (p - 1)) (G pv) = false := by simpa using hm
                      clear hm hcw
                      have hQ := fun W (h : UA W base t g n c e3) => upartEq_any base g o n c p q pv t e3 W ho.out h hpv1 hpv2 hqn hn
                      obtain ⟨⟨mid, e4⟩, hx⟩ : ∃ r, Go.Sort.partitionEqual ltU e3 p q pv = r := ⟨_, rfl⟩
                      rw [hx] at hQ
                      have hQ2 := hQ _ hu3.out.1.drew
                      obtain ⟨q1, q2, q3, qB5, qF⟩ := Go.Sort.round_eq swoU (Go.Sort.partitionEqual_holds ltU) hp0 hpv1 hpv2 (by rw [hu3.out.1.size]; exact hqn) B3.out (by rw [← hG.out, ← hG.out]; exact hm2) hx
                      have hK2 : Hid (∀ R, Go.Sort.PermIn mid q e4 R → Go.Sort.SortedIn ltU mid q R → Go.Sort.PermIn a b d R ∧ Go.Sort.SortedIn ltU a b R) := fun R h1 h2 => hK.out R (Go.Sort.permIn_trans _ _ _ p q P3.out (qF R h1 h2).1) (qF R h1 h2).2
                      replace qB5 := Lib.hid qB5
                      clear hx hQ q3 qF
                      go_wp2_with fail
                      refine hQ2.mono ?_
                      rintro x w5 ⟨rfl, hs5⟩
                      have hu5 : Hid (SrtTo base t g n c w e4 w5) := SrtTo.trans ⟨hu3.out.1.drew, hu3.out.2.drew⟩ hs5
                      clear hQ2 hs5
                      go_wp2
                      go_roundw
                      case rel => exact ⟨mid, q, l2, e4, _, _, rfl, rfl, rfl, rfl, rfl, by omega, q2, hqn, by omega, qB5.out, hu5.out, hK2.out⟩
                      case measure => simp [intOf]; omega
                    · clear hcw
                      have hQ := fun W (h : UA W base t g n c e3) => upart_any base g o n c p q pv t e3 W ho.out h hpv1 hpv2 hqn hn
                      obtain ⟨⟨mid, ap, e4⟩, hx⟩ : ∃ r, Go.Sort.partition ltU e3 p q pv = r := ⟨_, rfl⟩
                      rw [hx] at hQ
                      have hQ2 := hQ _ hu3.out.1.drew
                      obtain ⟨q1, q2, q3, qB1, qB2, qL, qR⟩ := Go.Sort.round_part swoU (Go.Sort.partition_holds ltU) hpv1 hpv2 (by rw [hu3.out.1.size]; exact hqn) B3.out hx
                      replace qB1 := Lib.hid qB1
                      replace qB2 := Lib.hid qB2
                      replace qL := Lib.hid qL
                      replace qR := Lib.hid qR
                      replace q3 := Lib.hid q3
                      clear hx hQ
                      go_wp2_with fail
                      refine hQ2.mono ?_
                      rintro x w5 ⟨rfl, hs5⟩
                      have hu5 : Hid (SrtTo base t g n c w e4 w5) := SrtTo.trans ⟨hu3.out.1.drew, hu3.out.2.drew⟩ hs5
                      have hs5u := hs5.1
                      clear hQ2 hs5
                      by_cases hlr : mid - p < q - mid
                      · have hlz : (mid : Int) - (p : Int) < (q : Int) - (mid : Int) := by omega
                        have hR := ih (mid - p) (by omega) p mid l2 e4 w5 (Nat.le_refl _) (by omega) hs5u q1 (by omega) qB1.out
                        clear hs5u
                        go_wp2_with fail
                        refine hR.mono ?_
                        rintro x w6 ⟨rfl, e5, pm5, st5, hu6⟩
                        obtain ⟨qB5, qF⟩ := qL.out e5 pm5 st5
                        have hu7 := Lib.hid (hu5.out.trans hu6)
                        have hK2 : Hid (∀ R, Go.Sort.PermIn (mid + 1) q e5 R → Go.Sort.SortedIn ltU (mid + 1) q R → Go.Sort.PermIn a b d R ∧ Go.Sort.SortedIn ltU a b R) := fun R h1 h2 => hK.out R (Go.Sort.permIn_trans _ _ _ p q P3.out (qF R h1 h2).1) (qF R h1 h2).2
                        replace qB5 := Lib.hid qB5
                        clear hR pm5 st5 hu6 qF
                        go_wp2
                        go_roundw
                        case rel => exact ⟨mid + 1, q, l2, e5, _, _, by go_num, rfl, rfl, rfl, rfl, by omega, by omega, hqn, by omega, qB5.out, hu7.out, hK2.out⟩
                        case measure => simp [intOf]; omega
                      · have hlz : ¬ ((mid : Int) - (p : Int) < (q : Int) - (mid : Int)) := by omega
                        have hR := ih (q - (mid + 1)) (by omega) (mid + 1) q l2 e4 w5 (Nat.le_refl _) (by omega) hs5u (by omega) hqn qB2.out
                        rw [show ((mid + 1 : Nat) : Int) = (mid : Int) + 1 by omega] at hR
                        clear hs5u
                        go_wp2_with fail
                        refine hR.mono ?_
                        rintro x w6 ⟨rfl, e5, pm5, st5, hu6⟩
                        obtain ⟨qB5, qF⟩ := qR.out e5 pm5 st5
                        have hu7 := Lib.hid (hu5.out.trans hu6)
                        have hK2 : Hid (∀ R, Go.Sort.PermIn p mid e5 R → Go.Sort.SortedIn ltU p mid R → Go.Sort.PermIn a b d R ∧ Go.Sort.SortedIn ltU a b R) := fun R h1 h2 => hK.out R (Go.Sort.permIn_trans _ _ _ p q P3.out (qF R h1 h2).1) (qF R h1 h2).2
                        replace qB5 := Lib.hid qB5
                        clear hR pm5 st5 hu6 qF
                        go_wp2
                        go_roundw
                        case rel => exact ⟨p, mid, l2, e5, _, _, rfl, rfl, rfl, rfl, rfl, by omega, q1, by omega, by omega, qB5.out, hu7.out, hK2.out⟩
                        case measure => simp [intOf]; omega
                  · have hp0z : decide ((0 : Int) < (p : Int)) = false := decide_eq_false (by omega)
                    go_wp2_with fail
                    refine wp_region_text [(3, 1), (22, 1)] (by kernel_rfl) (by kernel_rfl) ?_
                    simp only [instr, chk, look, Nat.reduceBEq, Bool.false_eq_true, if_true, if_false, Nat.reduceEqDiff, List.cons_append, List.nil_append]
                    go_wp2_with fail
                    refine OnlyN.normal ?_
                    go_wp2_with fail
                    clear hcw
                    have hQ := fun W (h : UA W base t g n c e3) => upart_any base g o n c p q pv t e3 W ho.out h hpv1 hpv2 hqn hn
                    obtain ⟨⟨mid, ap, e4⟩, hx⟩ : ∃ r, Go.Sort.partition ltU e3 p q pv = r := ⟨_, rfl⟩
                    rw [hx] at hQ
                    have hQ2 := hQ _ hu3.out.1.drew
                    obtain ⟨q1, q2, q3, qB1, qB2, qL, qR⟩ := Go.Sort.round_part swoU (Go.Sort.partition_holds ltU) hpv1 hpv2 (by rw [hu3.out.1.size]; exact hqn) B3.out hx
                    replace qB1 := Lib.hid qB1
                    replace qB2 := Lib.hid qB2
                    replace qL := Lib.hid qL
                    replace qR := Lib.hid qR
                    replace q3 := Lib.hid q3
                    clear hx hQ
                    go_wp2_with fail
                    refine hQ2.mono ?_
                    rintro x w5 ⟨rfl, hs5⟩
                    have hu5 : Hid (SrtTo base t g n c w e4 w5) := SrtTo.trans ⟨hu3.out.1.drew, hu3.out.2.drew⟩ hs5
                    have hs5u := hs5.1
                    clear hQ2 hs5
                    by_cases hlr : mid - p < q - mid
                    · have hlz : (mid : Int) - (p : Int) < (q : Int) - (mid : Int) := by omega
                      have hR := ih (mid - p) (by omega) p mid l2 e4 w5 (Nat.le_refl _) (by omega) hs5u q1 (by omega) qB1.out
                      clear hs5u
                      go_wp2_with fail
                      refine hR.mono ?_
                      rintro x w6 ⟨rfl, e5, pm5, st5, hu6⟩
                      obtain ⟨qB5, qF⟩ := qL.out e5 pm5 st5
                      have hu7 := Lib.hid (hu5.out.trans hu6)
                      have hK2 : Hid (∀ R, Go.Sort.PermIn (mid + 1) q e5 R → Go.Sort.SortedIn ltU (mid + 1) q R → Go.Sort.PermIn a b d R ∧ Go.Sort.SortedIn ltU a b R) := fun R h1 h2 => hK.out R (Go.Sort.permIn_trans _ _ _ p q P3.out (qF R h1 h2).1) (qF R h1 h2).2
                      replace qB5 := Lib.hid qB5
                      clear hR pm5 st5 hu6 qF
                      go_wp2
                      go_roundw
                      case rel => exact ⟨mid + 1, q, l2, e5, _, _, by go_num, rfl, rfl, rfl, rfl, by omega, by omega, hqn, by omega, qB5.out, hu7.out, hK2.out⟩
                      case measure => simp [intOf]; omega
                    · have hlz : ¬ ((mid : Int) - (p : Int) < (q : Int) - (mid : Int)) := by omega
                      have hR := ih (q - (mid + 1)) (by omega) (mid + 1) q l2 e4 w5 (Nat.le_refl _) (by omega) hs5u (by omega) hqn qB2.out
                      rw [show ((mid + 1 : Nat) : Int) = (mid : Int) + 1 by omega] at hR
                      clear hs5u
                      go_wp2_with fail
                      refine hR.mono ?_
                      rintro x w6 ⟨rfl, e5, pm5, st5, hu6⟩
                      obtain ⟨qB5, qF⟩ := qR.out e5 pm5 st5
                      have hu7 := Lib.hid (hu5.out.trans hu6)
                      have hK2 : Hid (∀ R, Go.Sort.PermIn p mid e5 R → Go.Sort.SortedIn ltU p mid R → Go.Sort.PermIn a b d R ∧ Go.Sort.SortedIn ltU a b R) := fun R h1 h2 => hK.out R (Go.Sort.permIn_trans _ _ _ p q P3.out (qF R h1 h2).1) (qF R h1 h2).2
                      replace qB5 := Lib.hid qB5
                      clear hR pm5 st5 hu6 qF
                      go_wp2
                      go_roundw
                      case rel => exact ⟨p, mid, l2, e5, _, _, rfl, rfl, rfl, rfl, rfl, by omega, q1, by omega, by omega, qB5.out, hu7.out, hK2.out⟩
                      case measure => simp [intOf]; omega
end Go.Proofs.YtjoaonppaokhhaaGreat
