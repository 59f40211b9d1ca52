/-
  Several texts in one:
  (slices.partialInsertionSortOrdered) of numbers. Conditions: lengths that a slice has.
-/
import Derived.Test.YtjoaonppaokhhaaGreatPart15

namespace Go.Proofs.YtjoaonppaokhhaaGreat
open Go.RowKit

section
open Go.Sort
variable {a b s i i2 : Nat} {e z : Array Nat} {f : Bool}
theorem pi_true (h : scanSorted ltU e b i = i2) (hb : i2 = b) : partialIns ltU a b (s + 1) i e = (e, true) := by
  rw [partialIns]
  simp only [h, if_pos hb]
theorem pi_short (h : scanSorted ltU e b i = i2) (hb : i2 ≠ b) (h50 : b - a < 50) : partialIns ltU a b (s + 1) i e = (e, false) := by
  rw [partialIns]
  simp only [h, if_neg hb, if_pos h50]
/-- a step's rest -/
def piRest (a b s k : Nat) (e : Array Nat) : Array Nat × Bool :=
  if k = b then (e, true) else if b - a < 50 then (e, false) else
  partialIns ltU a b s k ((if b - k ≥ 2 then shiftUp ltU b (k + 1) else id) ((if k - a ≥ 2 then shiftDown ltU (k - 1) else id) (swp e k (k - 1))))
theorem pi_eq (h : scanSorted ltU e b i = i2) : partialIns ltU a b (s + 1) i e = piRest a b s i2 e := by
  rw [partialIns]
  simp only [h]
  unfold piRest
  by_cases h1 : i2 - a ≥ 2 <;> by_cases h2 : b - i2 ≥ 2 <;> simp only [h1, h2, if_true, if_false, id]
structure PiGo (a b s k : Nat) (e z : Array Nat) (f : Bool) : Prop where
  out : 2 ≤ k - a → 2 ≤ b - k → partialIns ltU a b s k (shiftUp ltU b (k + 1) (shiftDown ltU (k - 1) (swp e k (k - 1)))) = (z, f)
  down : 2 ≤ k - a → ¬ 2 ≤ b - k → partialIns ltU a b s k (shiftDown ltU (k - 1) (swp e k (k - 1))) = (z, f)
  up : ¬ 2 ≤ k - a → 2 ≤ b - k → partialIns ltU a b s k (shiftUp ltU b (k + 1) (swp e k (k - 1))) = (z, f)
  none : ¬ 2 ≤ k - a → ¬ 2 ≤ b - k → partialIns ltU a b s k (swp e k (k - 1)) = (z, f)
theorem pi_go {k : Nat} (hb : k ≠ b) (h50 : ¬ b - a < 50) (h : piRest a b s k e = (z, f)) : PiGo a b s k e z f := by
  unfold piRest at h
  rw [if_neg hb, if_neg h50] at h
  refine ⟨fun h1 h2 => ?_, fun h1 h2 => ?_, fun h1 h2 => ?_, fun h1 h2 => ?_⟩
  · rw [if_pos (show b - k ≥ 2 from h2), if_pos (show k - a ≥ 2 from h1)] at h; exact h
  · rw [if_neg (show ¬ b - k ≥ 2 from h2), if_pos (show k - a ≥ 2 from h1)] at h; exact h
  · rw [if_pos (show b - k ≥ 2 from h2), if_neg (show ¬ k - a ≥ 2 from h1)] at h; exact h
  · rw [if_neg (show ¬ b - k ≥ 2 from h2), if_neg (show ¬ k - a ≥ 2 from h1)] at h; exact h
theorem sh_go2 {d : Array Nat} {j : Nat} (hj : 1 ≤ j) (hl : ltU d[j]! d[j - 1]! = true) : shiftDown ltU j d = shiftDown ltU (j - 1) (swp d j (j - 1)) := by
  obtain ⟨k, rfl⟩ : ∃ k, j = k + 1 := ⟨j - 1, by omega⟩
  exact sh_go hl
theorem sh_no2 {d : Array Nat} {j : Nat} (hj : 1 ≤ j) (hl : ltU d[j]! d[j - 1]! = false) : shiftDown ltU j d = d := by
  obtain ⟨k, rfl⟩ : ∃ k, j = k + 1 := ⟨j - 1, by omega⟩
  exact sh_no hl
end

set_option maxRecDepth 100000 in
set_option maxHeartbeats 8000000 in
theorem upins_any (base g o n c a b : Nat) (t : TypeId) (d : Array Nat) (w : World) (ho : o = 0) (h : UA w base t g n c d) (hab : a < b) (hb : b ≤ n) (hn : n < 4611686018427387904) :
    Calls Tryz.prog 150 #[.slice (some ⟨g, o, none⟩) n c, .int .i64 (a : Int), .int .i64 (b : Int)] w fun x w' => x = .returned (.bool (Go.Sort.partialInsertionSort ltU d a b).2) ∧ SrtTo base t g n c w (Go.Sort.partialInsertionSort ltU d a b).1 w' := by
  unfold Go.Sort.partialInsertionSort
  obtain ⟨⟨z, f⟩, hz⟩ : ∃ r, Go.Sort.partialIns ltU a b 5 (a + 1) d = r := ⟨_, rfl⟩
  rw [hz]
  replace hz := Lib.hid hz
  replace ho := Lib.hid ho
  by_cases h50 : b - a < 50
  · have h50z : (b : Int) - (a : Int) < 50 := by omega
    go_enter Tryz.func150, Tryz.ntmps150
    go_wp2
    go_loopw [7, 8] (fun vi vk wr => ∃ (i r : Nat) (e : Array Nat), vi = .int .i64 (i : Int) ∧ vk = .int .i64 (r : Int) ∧ a < i ∧ i ≤ b ∧ r ≤ 5 ∧ SrtTo base t g n c w e wr ∧ Go.Sort.partialIns ltU a b (5 - r) i e = (z, f)) (fun _ vk _ => 5 - (intOf vk).toNat)
    case atStart => exact ⟨a + 1, 0, d, by go_num, by go_num, by omega, by omega, by omega, ⟨h, Chg.refl _ _⟩, hz.out⟩
    case round =>
      obtain ⟨i, r, e, rfl, rfl, hai, hib, hr5, hu, hE⟩ := hrel
      clear hz
      by_cases hr : r < 5
      · have hrz : (r : Int) < 5 := by omega
        rw [show 5 - r = (4 - r) + 1 by omega] at hE
        obtain ⟨i2, hi2⟩ : ∃ i2, Go.Sort.scanSorted ltU e b i = i2 := ⟨_, rfl⟩
        obtain ⟨G, hG⟩ : ∃ G : Nat → Nat, ∀ k, G k = e[k]! := ⟨fun k => e[k]!, fun _ => rfl⟩
        replace hG := Lib.hid hG
        replace hE := Lib.hid hE
        go_wp2
        go_loopw [7] (fun vi wq => ∃ k : Nat, vi = .int .i64 (k : Int) ∧ i ≤ k ∧ k ≤ b ∧ SrtTo base t g n c w e wq ∧ Go.Sort.scanSorted ltU e b k = i2) (fun vi _ => b - (intOf vi).toNat)
        case atStart => exact ⟨i, rfl, Nat.le_refl _, hib, hu, hi2⟩
        case round =>
          obtain ⟨k, rfl, hk1, hk2, hv, hsc⟩ := hrel
          have hcw : ∀ k, k < n → wr.cell? ⟨g, o + k, none⟩ = some (.int .u64 ((G k : Nat) : Int)) := fun k hk => by rw [hG.out]; exact hv.1.fam ho.out k hk
          have hfw : ∀ k, k < n → wr.frozen? ⟨g, o + k, none⟩ = false := hv.1.fre
          replace hi2 := Lib.hid hi2
          replace hv := Lib.hid hv
          replace hsc := Lib.hid hsc
          by_cases hkb : k < b
          · have hkz : (k : Int) < (b : Int) := by omega
            have hnz : ¬ (k = b) := by omega
            have hnzz : ¬ ((k : Int) = (b : Int)) := by omega
            have hnzb : ((k : Int) == (b : Int)) = false := by simpa using hnzz
            go_wp2_with fail
            refine wp_region_text [(3, 1), (22, 1)] (by kernel_rfl) (by kernel_rfl) ?_
            simp only [instr, chk, look, Nat.reduceBEq, Bool.false_eq_true, if_true, if_false, Nat.reduceEqDiff, List.cons_append, List.nil_append]
            go_wp2_with fail
            refine (lessU_any _ _ _).mono ?_
            rintro x w1 ⟨rfl, rfl⟩
            go_wp2_with fail
            refine OnlyN.normal ?_
            go_wp2_with fail
            · have ht : (!ltU (G k) (G (k - 1))) = true := by assumption
              have ht2 : ltU (G k) (G (k - 1)) = false := by simpa using ht
              go_roundw
              case rel => exact ⟨k + 1, by go_num, by omega, by omega, ⟨hv.out.1.drew, hv.out.2.drew⟩, (ss_go (lt := ltU) hkb (by rw [← hG.out, ← hG.out]; exact ht2)).symm.trans hsc.out⟩
              case measure => simp [intOf]; omega
            · have ht : (!ltU (G k) (G (k - 1))) = false := by assumption
              have ht2 : ltU (G k) (G (k - 1)) = true := by simpa using ht
              have e2 := (ss_no (lt := ltU) (b := b) (d := e) (i := k) (by rw [← hG.out, ← hG.out]; exact ht2)).symm.trans hsc.out
              subst e2
              try simp only [ht]
              clear ht ht2 hkz
              have hE := hE.out
              have hE2 := (pi_short hi2.out (by omega) h50).symm.trans hE
              injection hE2 with hE3 hE4
              subst hE3
              subst hE4
              go_wp2
              go_ret
              exact ⟨rfl, hv.out.1.drew, hv.out.2.drew⟩
          · have hkz : decide ((k : Int) < (b : Int)) = false := decide_eq_false (by omega)
            have hkb : k = b := by omega
            have hkbz : (k : Int) = (b : Int) := by omega
            go_wp2_with fail
            refine wp_region_text [(3, 1), (22, 1)] (by kernel_rfl) (by kernel_rfl) ?_
            simp only [instr, chk, look, Nat.reduceBEq, Bool.false_eq_true, if_true, if_false, Nat.reduceEqDiff, List.cons_append, List.nil_append]
            go_wp2_with fail
            refine OnlyN.normal ?_
            go_wp2_with fail
            have e2 := (ss_end (lt := ltU) (d := e) (by omega : b ≤ k)).symm.trans hsc.out
            subst e2
            have hE2 := (pi_true hi2.out hkb).symm.trans hE.out
            injection hE2 with hE3 hE4
            subst hE3
            subst hE4
            go_wp2
            go_ret
            exact ⟨rfl, hv.out.1.drew, hv.out.2.drew⟩
      · have hrz : ¬ ((r : Int) < 5) := by omega
        have hE2 : (e, false) = (z, f) := by rw [show 5 - r = 0 by omega] at hE; exact hE
        injection hE2 with hE3 hE4
        subst hE3
        subst hE4
        replace hu := Lib.hid hu
        go_wp2
        go_ret
        exact ⟨rfl, hu.out⟩
  · have h50z : ¬ ((b : Int) - (a : Int) < 50) := by omega
    go_enter Tryz.func150, Tryz.ntmps150
    go_wp2
    go_loopw [7, 8] (fun vi vk wr => ∃ (i r : Nat) (e : Array Nat), vi = .int .i64 (i : Int) ∧ vk = .int .i64 (r : Int) ∧ a < i ∧ i ≤ b ∧ r ≤ 5 ∧ SrtTo base t g n c w e wr ∧ Go.Sort.partialIns ltU a b (5 - r) i e = (z, f)) (fun _ vk _ => 5 - (intOf vk).toNat)
    case atStart => exact ⟨a + 1, 0, d, by go_num, by go_num, by omega, by omega, by omega, ⟨h, Chg.refl _ _⟩, hz.out⟩
    case round =>
      obtain ⟨i, r, e, rfl, rfl, hai, hib, hr5, hu, hE⟩ := hrel
      clear hz
      by_cases hr : r < 5
      · have hrz : (r : Int) < 5 := by omega
        rw [show 5 - r = (4 - r) + 1 by omega] at hE
        obtain ⟨i2, hi2⟩ : ∃ i2, Go.Sort.scanSorted ltU e b i = i2 := ⟨_, rfl⟩
        obtain ⟨G, hG⟩ : ∃ G : Nat → Nat, ∀ k, G k = e[k]! := ⟨fun k => e[k]!, fun _ => rfl⟩
        replace hG := Lib.hid hG
        replace hE := Lib.hid hE
        go_wp2
        go_loopw [7] (fun vi wq => ∃ k : Nat, vi = .int .i64 (k : Int) ∧ i ≤ k ∧ k ≤ b ∧ SrtTo base t g n c w e wq ∧ Go.Sort.scanSorted ltU e b k = i2) (fun vi _ => b - (intOf vi).toNat)
        case atStart => exact ⟨i, rfl, Nat.le_refl _, hib, hu, hi2⟩
        case round =>
          obtain ⟨k, rfl, hk1, hk2, hv, hsc⟩ := hrel
          have hcw : ∀ k, k < n → wr.cell? ⟨g, o + k, none⟩ = some (.int .u64 ((G k : Nat) : Int)) := fun k hk => by rw [hG.out]; exact hv.1.fam ho.out k hk
          have hfw : ∀ k, k < n → wr.frozen? ⟨g, o + k, none⟩ = false := hv.1.fre
          replace hi2 := Lib.hid hi2
          replace hv := Lib.hid hv
          replace hsc := Lib.hid hsc
          by_cases hkb : k < b
          · have hkz : (k : Int) < (b : Int) := by omega
            have hnz : ¬ (k = b) := by omega
            have hnzz : ¬ ((k : Int) = (b : Int)) := by omega
            have hnzb : ((k : Int) == (b : Int)) = false := by simpa using hnzz
            go_wp2_with fail
            refine wp_region_text [(3, 1), (22, 1)] (by kernel_rfl) (by kernel_rfl) ?_
            simp only [instr, chk, look, Nat.reduceBEq, Bool.false_eq_true, if_true, if_false, Nat.reduceEqDiff, List.cons_append, List.nil_append]
            go_wp2_with fail
            refine (lessU_any _ _ _).mono ?_
            rintro x w1 ⟨rfl, rfl⟩
            go_wp2_with fail
            refine OnlyN.normal ?_
            go_wp2_with fail
            · have ht : (!ltU (G k) (G (k - 1))) = true := by assumption
              have ht2 : ltU (G k) (G (k - 1)) = false := by simpa using ht
              go_roundw
              case rel => exact ⟨k + 1, by go_num, by omega, by omega, ⟨hv.out.1.drew, hv.out.2.drew⟩, (ss_go (lt := ltU) hkb (by rw [← hG.out, ← hG.out]; exact ht2)).symm.trans hsc.out⟩
              case measure => simp [intOf]; omega
            · have ht : (!ltU (G k) (G (k - 1))) = false := by assumption
              have ht2 : ltU (G k) (G (k - 1)) = true := by simpa using ht
              have e2 := (ss_no (lt := ltU) (b := b) (d := e) (i := k) (by rw [← hG.out, ← hG.out]; exact ht2)).symm.trans hsc.out
              subst e2
              try simp only [ht]
              clear ht ht2 hkz
              have hE := hE.out
              have hne : k ≠ b := by omega
              rw [pi_eq hi2.out] at hE
              have S1 := Lib.hid (hv.out.1.swpo ho.out k (k - 1) _ _ (hG.out _).symm (hG.out _).symm)
              have C1 := Lib.hid (Chg.swap hv.out.2 (o + k) (o + (k - 1)) (.int .u64 ((G (k - 1) : Nat) : Int)) (.int .u64 ((G k : Nat) : Int)))
              clear hi2 hsc
              by_cases h2 : 2 ≤ k - a
              · have h2z : (2 : Int) ≤ (k : Int) - (a : Int) := by omega
                by_cases h3 : 2 ≤ b - k
                · have h3z : (2 : Int) ≤ (b : Int) - (k : Int) := by omega
                  have hE2 := (pi_go hne h50 hE).out h2 h3
                  go_region
                  obtain ⟨y, hy⟩ : ∃ y, Go.Sort.shiftDown ltU (k - 1) (Go.Sort.swp e k (k - 1)) = y := ⟨_, rfl⟩
                  rw [hy] at hE2
                  replace hE2 := Lib.hid hE2
                  go_wp2_with fail
                  go_loopw [9] (fun vj wq => ∃ (j : Nat) (f1 : Array Nat), vj = .int .i64 (j : Int) ∧ j ≤ k - 1 ∧ SrtTo base t g n c w f1 wq ∧ Go.Sort.shiftDown ltU j f1 = y) (fun vj _ => (intOf vj).toNat)
                  case atStart => exact ⟨k - 1, _, predV (by omega), Nat.le_refl _, ⟨S1.out.drew.drew, C1.out.drew.drew⟩, hy⟩
                  case round =>
                    obtain ⟨j, f1, rfl, hj1, hv1, hsh1⟩ := hrel
                    clear S1 C1
                    obtain ⟨G1, hG1⟩ : ∃ G : Nat → Nat, ∀ k, G k = f1[k]! := ⟨fun k => f1[k]!, fun _ => rfl⟩
                    replace hG1 := Lib.hid hG1
                    by_cases hj : 1 ≤ j
                    · have hjz : (1 : Int) ≤ (j : Int) := by omega
                      have hcw : ∀ k, k < n → wr.cell? ⟨g, o + k, none⟩ = some (.int .u64 ((G1 k : Nat) : Int)) := fun k hk => by rw [hG1.out]; exact hv1.1.fam ho.out k hk
                      have hfw : ∀ k, k < n → wr.frozen? ⟨g, o + k, none⟩ = false := hv1.1.fre
                      replace hv1 := Lib.hid hv1
                      replace hsh1 := Lib.hid hsh1
                      go_wp2_with fail
                      refine wp_region_text [(3, 1), (22, 1)] (by kernel_rfl) (by kernel_rfl) ?_
                      simp only [instr, chk, look, Nat.reduceBEq, Bool.false_eq_true, if_true, if_false, Nat.reduceEqDiff, List.cons_append, List.nil_append]
                      go_wp2_with fail
                      refine (lessU_any _ _ _).mono ?_
                      rintro x w1 ⟨rfl, rfl⟩
                      go_wp2_with fail
                      refine OnlyN.normal ?_
                      go_wp2_with fail
                      · have hm : (!ltU (G1 j) (G1 (j - 1))) = true := by assumption
                        have hm2 : ltU (G1 j) (G1 (j - 1)) = false := by simpa using hm
                        have e1 := (sh_no2 (d := f1) hj (by rw [← hG1.out, ← hG1.out]; exact hm2)).symm.trans hsh1.out
                        subst e1
                        try simp only [hm]
                        have hvx : SrtTo base t g n c w f1 wr.drew := ⟨hv1.out.1.drew, hv1.out.2.drew⟩
                        clear hm hm2 hcw hfw hjz hj
                        replace hE2 := hE2.out
                        obtain ⟨y2, hy2⟩ : ∃ y2, Go.Sort.shiftUp ltU b (k + 1) f1 = y2 := ⟨_, rfl⟩
                        rw [hy2] at hE2
                        replace hE2 := Lib.hid hE2
                        go_loopw [10] (fun vj wq => ∃ (j : Nat) (f2 : Array Nat), vj = .int .i64 (j : Int) ∧ k + 1 ≤ j ∧ j ≤ b ∧ SrtTo base t g n c w f2 wq ∧ Go.Sort.shiftUp ltU b j f2 = y2) (fun vj _ => b - (intOf vj).toNat)
                        case atStart => exact ⟨k + 1, _, by go_num, Nat.le_refl _, by omega, hvx, hy2⟩
                        case round =>
                          obtain ⟨j, f2, rfl, hj1, hj2, hv3, hsh3⟩ := hrel
                          obtain ⟨G2, hG2⟩ : ∃ G : Nat → Nat, ∀ k, G k = f2[k]! := ⟨fun k => f2[k]!, fun _ => rfl⟩
                          replace hG2 := Lib.hid hG2
                          by_cases hjb : j < b
                          · have hjz : (j : Int) < (b : Int) := by omega
                            have hcw : ∀ k, k < n → wr.cell? ⟨g, o + k, none⟩ = some (.int .u64 ((G2 k : Nat) : Int)) := fun k hk => by rw [hG2.out]; exact hv3.1.fam ho.out k hk
                            have hfw : ∀ k, k < n → wr.frozen? ⟨g, o + k, none⟩ = false := hv3.1.fre
                            replace hv3 := Lib.hid hv3
                            replace hsh3 := Lib.hid hsh3
                            go_wp2_with fail
                            refine wp_region_text [(3, 1), (22, 1)] (by kernel_rfl) (by kernel_rfl) ?_
                            simp only [instr, chk, look, Nat.reduceBEq, Bool.false_eq_true, if_true, if_false, Nat.reduceEqDiff, List.cons_append, List.nil_append]
                            go_wp2_with fail
                            refine (lessU_any _ _ _).mono ?_
                            rintro x w1 ⟨rfl, rfl⟩
                            go_wp2_with fail
                            refine OnlyN.normal ?_
                            go_wp2_with fail
                            · have hm : (!ltU (G2 j) (G2 (j - 1))) = true := by assumption
                              have hm2 : ltU (G2 j) (G2 (j - 1)) = false := by simpa using hm
                              have e3 := (sp_no (b := b) (lt := ltU) (d := f2) (j := j) (by rw [← hG2.out, ← hG2.out]; exact hm2)).symm.trans hsh3.out
                              subst e3
                              clear hm hm2
                              go_roundw
                              case rel => exact ⟨k, r + 1, _, rfl, by go_num, by omega, by omega, by omega, ⟨hv3.out.1.drew, hv3.out.2.drew⟩, by rw [show 5 - (r + 1) = 4 - r by omega]; exact hE2.out⟩
                              case measure => simp [intOf]; omega
                            · have hm : (!ltU (G2 j) (G2 (j - 1))) = false := by assumption
                              have hm2 : ltU (G2 j) (G2 (j - 1)) = true := by simpa using hm
                              have e3 := Lib.hid ((sp_go (lt := ltU) (d := f2) hjb (by rw [← hG2.out, ← hG2.out]; exact hm2)).symm.trans hsh3.out)
                              clear hm hm2
                              have S1 := Lib.hid (hv3.out.1.swpo ho.out j (j - 1) _ _ (hG2.out _).symm (hG2.out _).symm)
                              have C1 := Lib.hid (Chg.swap hv3.out.2 (o + j) (o + (j - 1)) (.int .u64 ((G2 (j - 1) : Nat) : Int)) (.int .u64 ((G2 j : Nat) : Int)))
                              clear hsh3
                              go_region
                              go_wp2
                              go_roundw
                              case rel => exact ⟨j + 1, _, by go_num, by omega, by omega, ⟨S1.out.drew.drew, C1.out.drew.drew⟩, e3.out⟩
                              case measure => simp [intOf]; omega
                          · have hjz : ¬ ((j : Int) < (b : Int)) := by omega
                            have e3 := (sp_end (lt := ltU) (d := f2) (by omega : b ≤ j)).symm.trans hsh3
                            subst e3
                            replace hv3 := Lib.hid hv3
                            go_wp2
                            go_roundw
                            case rel => exact ⟨k, r + 1, _, rfl, by go_num, by omega, by omega, by omega, hv3.out, by rw [show 5 - (r + 1) = 4 - r by omega]; exact hE2.out⟩
                            case measure => simp [intOf]; omega
                      · have hm : (!ltU (G1 j) (G1 (j - 1))) = false := by assumption
                        have hm2 : ltU (G1 j) (G1 (j - 1)) = true := by simpa using hm
                        have e1 := Lib.hid ((sh_go2 (d := f1) hj (by rw [← hG1.out, ← hG1.out]; exact hm2)).symm.trans hsh1.out)
                        clear hm hm2
                        have S1 := Lib.hid (hv1.out.1.swpo ho.out j (j - 1) _ _ (hG1.out _).symm (hG1.out _).symm)
                        have C1 := Lib.hid (Chg.swap hv1.out.2 (o + j) (o + (j - 1)) (.int .u64 ((G1 (j - 1) : Nat) : Int)) (.int .u64 ((G1 j : Nat) : Int)))
                        clear hsh1
                        go_region
                        go_wp2
                        go_roundw
                        case rel => exact ⟨j - 1, _, predV hj, by omega, ⟨S1.out.drew.drew, C1.out.drew.drew⟩, e1.out⟩
                        case measure => simp [intOf]; omega
                    · have hjz : ¬ ((1 : Int) ≤ (j : Int)) := by omega
                      have ej : j = 0 := by omega
                      have e1 : f1 = y := by rw [ej] at hsh1; exact hsh1
                      subst e1
                      have hvx : SrtTo base t g n c w f1 wr := hv1
                      clear ej hv1
                      replace hE2 := hE2.out
                      go_wp2_with fail
                      obtain ⟨y2, hy2⟩ : ∃ y2, Go.Sort.shiftUp ltU b (k + 1) f1 = y2 := ⟨_, rfl⟩
                      rw [hy2] at hE2
                      replace hE2 := Lib.hid hE2
                      go_loopw [10] (fun vj wq => ∃ (j : Nat) (f2 : Array Nat), vj = .int .i64 (j : Int) ∧ k + 1 ≤ j ∧ j ≤ b ∧ SrtTo base t g n c w f2 wq ∧ Go.Sort.shiftUp ltU b j f2 = y2) (fun vj _ => b - (intOf vj).toNat)
                      case atStart => exact ⟨k + 1, _, by go_num, Nat.le_refl _, by omega, hvx, hy2⟩
                      case round =>
                        obtain ⟨j, f2, rfl, hj1, hj2, hv3, hsh3⟩ := hrel
                        obtain ⟨G2, hG2⟩ : ∃ G : Nat → Nat, ∀ k, G k = f2[k]! := ⟨fun k => f2[k]!, fun _ => rfl⟩
                        replace hG2 := Lib.hid hG2
                        by_cases hjb : j < b
                        · have hjz : (j : Int) < (b : Int) := by omega
                          have hcw : ∀ k, k < n → wr.cell? ⟨g, o + k, none⟩ = some (.int .u64 ((G2 k : Nat) : Int)) := fun k hk => by rw [hG2.out]; exact hv3.1.fam ho.out k hk
                          have hfw : ∀ k, k < n → wr.frozen? ⟨g, o + k, none⟩ = false := hv3.1.fre
                          replace hv3 := Lib.hid hv3
                          replace hsh3 := Lib.hid hsh3
                          go_wp2_with fail
                          refine wp_region_text [(3, 1), (22, 1)] (by kernel_rfl) (by kernel_rfl) ?_
                          simp only [instr, chk, look, Nat.reduceBEq, Bool.false_eq_true, if_true, if_false, Nat.reduceEqDiff, List.cons_append, List.nil_append]
                          go_wp2_with fail
                          refine (lessU_any _ _ _).mono ?_
                          rintro x w1 ⟨rfl, rfl⟩
                          go_wp2_with fail
                          refine OnlyN.normal ?_
                          go_wp2_with fail
                          · have hm : (!ltU (G2 j) (G2 (j - 1))) = true := by assumption
                            have hm2 : ltU (G2 j) (G2 (j - 1)) = false := by simpa using hm
                            have e3 := (sp_no (b := b) (lt := ltU) (d := f2) (j := j) (by rw [← hG2.out, ← hG2.out]; exact hm2)).symm.trans hsh3.out
                            subst e3
                            clear hm hm2
                            go_roundw
                            case rel => exact ⟨k, r + 1, _, rfl, by go_num, by omega, by omega, by omega, ⟨hv3.out.1.drew, hv3.out.2.drew⟩, by rw [show 5 - (r + 1) = 4 - r by omega]; exact hE2.out⟩
                            case measure => simp [intOf]; omega
                          · have hm : (!ltU (G2 j) (G2 (j - 1))) = false := by assumption
                            have hm2 : ltU (G2 j) (G2 (j - 1)) = true := by simpa using hm
                            have e3 := Lib.hid ((sp_go (lt := ltU) (d := f2) hjb (by rw [← hG2.out, ← hG2.out]; exact hm2)).symm.trans hsh3.out)
                            clear hm hm2
                            have S1 := Lib.hid (hv3.out.1.swpo ho.out j (j - 1) _ _ (hG2.out _).symm (hG2.out _).symm)
                            have C1 := Lib.hid (Chg.swap hv3.out.2 (o + j) (o + (j - 1)) (.int .u64 ((G2 (j - 1) : Nat) : Int)) (.int .u64 ((G2 j : Nat) : Int)))
                            clear hsh3
                            go_region
                            go_wp2
                            go_roundw
                            case rel => exact ⟨j + 1, _, by go_num, by omega, by omega, ⟨S1.out.drew.drew, C1.out.drew.drew⟩, e3.out⟩
                            case measure => simp [intOf]; omega
                        · have hjz : ¬ ((j : Int) < (b : Int)) := by omega
                          have e3 := (sp_end (lt := ltU) (d := f2) (by omega : b ≤ j)).symm.trans hsh3
                          subst e3
                          replace hv3 := Lib.hid hv3
                          go_wp2
                          go_roundw
                          case rel => exact ⟨k, r + 1, _, rfl, by go_num, by omega, by omega, by omega, hv3.out, by rw [show 5 - (r + 1) = 4 - r by omega]; exact hE2.out⟩
                          case measure => simp [intOf]; omega
                · have h3z : ¬ ((2 : Int) ≤ (b : Int) - (k : Int)) := by omega
                  have hE2 := (pi_go hne h50 hE).down h2 h3
                  go_region
                  obtain ⟨y, hy⟩ : ∃ y, Go.Sort.shiftDown ltU (k - 1) (Go.Sort.swp e k (k - 1)) = y := ⟨_, rfl⟩
                  rw [hy] at hE2
                  replace hE2 := Lib.hid hE2
                  go_wp2_with fail
                  go_loopw [9] (fun vj wq => ∃ (j : Nat) (f1 : Array Nat), vj = .int .i64 (j : Int) ∧ j ≤ k - 1 ∧ SrtTo base t g n c w f1 wq ∧ Go.Sort.shiftDown ltU j f1 = y) (fun vj _ => (intOf vj).toNat)
                  case atStart => exact ⟨k - 1, _, predV (by omega), Nat.le_refl _, ⟨S1.out.drew.drew, C1.out.drew.drew⟩, hy⟩
                  case round =>
                    obtain ⟨j, f1, rfl, hj1, hv1, hsh1⟩ := hrel
                    clear S1 C1
                    obtain ⟨G1, hG1⟩ : ∃ G : Nat → Nat, ∀ k, G k = f1[k]! := ⟨fun k => f1[k]!, fun _ => rfl⟩
                    replace hG1 := Lib.hid hG1
                    by_cases hj : 1 ≤ j
                    · have hjz : (1 : Int) ≤ (j : Int) := by omega
                      have hcw : ∀ k, k < n → wr.cell? ⟨g, o + k, none⟩ = some (.int .u64 ((G1 k : Nat) : Int)) := fun k hk => by rw [hG1.out]; exact hv1.1.fam ho.out k hk
                      have hfw : ∀ k, k < n → wr.frozen? ⟨g, o + k, none⟩ = false := hv1.1.fre
                      replace hv1 := Lib.hid hv1
                      replace hsh1 := Lib.hid hsh1
                      go_wp2_with fail
                      refine wp_region_text [(3, 1), (22, 1)] (by kernel_rfl) (by kernel_rfl) ?_
                      simp only [instr, chk, look, Nat.reduceBEq, Bool.false_eq_true, if_true, if_false, Nat.reduceEqDiff, List.cons_append, List.nil_append]
                      go_wp2_with fail
                      refine (lessU_any _ _ _).mono ?_
                      rintro x w1 ⟨rfl, rfl⟩
                      go_wp2_with fail
                      refine OnlyN.normal ?_
                      go_wp2_with fail
                      · have hm : (!ltU (G1 j) (G1 (j - 1))) = true := by assumption
                        have hm2 : ltU (G1 j) (G1 (j - 1)) = false := by simpa using hm
                        have e1 := (sh_no2 (d := f1) hj (by rw [← hG1.out, ← hG1.out]; exact hm2)).symm.trans hsh1.out
                        subst e1
                        try simp only [hm]
                        have hvx : SrtTo base t g n c w f1 wr.drew := ⟨hv1.out.1.drew, hv1.out.2.drew⟩
                        clear hm hm2 hcw hfw hjz hj
                        replace hE2 := hE2.out
                        replace hE2 := Lib.hid hE2
                        go_roundw
                        case rel => exact ⟨k, r + 1, _, rfl, by go_num, by omega, by omega, by omega, hvx, by rw [show 5 - (r + 1) = 4 - r by omega]; exact hE2.out⟩
                        case measure => simp [intOf]; omega
                      · have hm : (!ltU (G1 j) (G1 (j - 1))) = false := by assumption
                        have hm2 : ltU (G1 j) (G1 (j - 1)) = true := by simpa using hm
                        have e1 := Lib.hid ((sh_go2 (d := f1) hj (by rw [← hG1.out, ← hG1.out]; exact hm2)).symm.trans hsh1.out)
                        clear hm hm2
                        have S1 := Lib.hid (hv1.out.1.swpo ho.out j (j - 1) _ _ (hG1.out _).symm (hG1.out _).symm)
                        have C1 := Lib.hid (Chg.swap hv1.out.2 (o + j) (o + (j - 1)) (.int .u64 ((G1 (j - 1) : Nat) : Int)) (.int .u64 ((G1 j : Nat) : Int)))
                        clear hsh1
                        go_region
                        go_wp2
                        go_roundw
                        case rel => exact ⟨j - 1, _, predV hj, by omega, ⟨S1.out.drew.drew, C1.out.drew.drew⟩, e1.out⟩
                        case measure => simp [intOf]; omega
                    · have hjz : ¬ ((1 : Int) ≤ (j : Int)) := by omega
                      have ej : j = 0 := by omega
                      have e1 : f1 = y := by rw [ej] at hsh1; exact hsh1
                      subst e1
                      have hvx : SrtTo base t g n c w f1 wr := hv1
                      clear ej hv1
                      replace hE2 := hE2.out
                      replace hE2 := Lib.hid hE2
                      go_wp2
                      go_roundw
                      case rel => exact ⟨k, r + 1, _, rfl, by go_num, by omega, by omega, by omega, hvx, by rw [show 5 - (r + 1) = 4 - r by omega]; exact hE2.out⟩
                      case measure => simp [intOf]; omega
              · have h2z : ¬ ((2 : Int) ≤ (k : Int) - (a : Int)) := by omega
                by_cases h3 : 2 ≤ b - k
                · have h3z : (2 : Int) ≤ (b : Int) - (k : Int) := by omega
                  have hE2 := (pi_go hne h50 hE).up h2 h3
                  go_region
                  go_wp2_with fail
                  obtain ⟨y2, hy2⟩ : ∃ y2, Go.Sort.shiftUp ltU b (k + 1) (Go.Sort.swp e k (k - 1)) = y2 := ⟨_, rfl⟩
                  rw [hy2] at hE2
                  replace hE2 := Lib.hid hE2
                  go_loopw [10] (fun vj wq => ∃ (j : Nat) (f2 : Array Nat), vj = .int .i64 (j : Int) ∧ k + 1 ≤ j ∧ j ≤ b ∧ SrtTo base t g n c w f2 wq ∧ Go.Sort.shiftUp ltU b j f2 = y2) (fun vj _ => b - (intOf vj).toNat)
                  case atStart => exact ⟨k + 1, _, by go_num, Nat.le_refl _, by omega, ⟨S1.out.drew.drew, C1.out.drew.drew⟩, hy2⟩
                  case round =>
                    obtain ⟨j, f2, rfl, hj1, hj2, hv3, hsh3⟩ := hrel
                    obtain ⟨G2, hG2⟩ : ∃ G : Nat → Nat, ∀ k, G k = f2[k]! := ⟨fun k => f2[k]!, fun _ => rfl⟩
                    replace hG2 := Lib.hid hG2
                    by_cases hjb : j < b
                    · have hjz : (j : Int) < (b : Int) := by omega
                      have hcw : ∀ k, k < n → wr.cell? ⟨g, o + k, none⟩ = some (.int .u64 ((G2 k : Nat) : Int)) := fun k hk => by rw [hG2.out]; exact hv3.1.fam ho.out k hk
                      have hfw : ∀ k, k < n → wr.frozen? ⟨g, o + k, none⟩ = false := hv3.1.fre
                      replace hv3 := Lib.hid hv3
                      replace hsh3 := Lib.hid hsh3
                      go_wp2_with fail
                      refine wp_region_text [(3, 1), (22, 1)] (by kernel_rfl) (by kernel_rfl) ?_
                      simp only [instr, chk, look, Nat.reduceBEq, Bool.false_eq_true, if_true, if_false, Nat.reduceEqDiff, List.cons_append, List.nil_append]
                      go_wp2_with fail
                      refine (lessU_any _ _ _).mono ?_
                      rintro x w1 ⟨rfl, rfl⟩
                      go_wp2_with fail
                      refine OnlyN.normal ?_
                      go_wp2_with fail
                      · have hm : (!ltU (G2 j) (G2 (j - 1))) = true := by assumption
                        have hm2 : ltU (G2 j) (G2 (j - 1)) = false := by simpa using hm
                        have e3 := (sp_no (b := b) (lt := ltU) (d := f2) (j := j) (by rw [← hG2.out, ← hG2.out]; exact hm2)).symm.trans hsh3.out
                        subst e3
                        clear hm hm2
                        go_roundw
                        case rel => exact ⟨k, r + 1, _, rfl, by go_num, by omega, by omega, by omega, ⟨hv3.out.1.drew, hv3.out.2.drew⟩, by rw [show 5 - (r + 1) = 4 - r by omega]; exact hE2.out⟩
                        case measure => simp [intOf]; omega
                      · have hm : (!ltU (G2 j) (G2 (j - 1))) = false := by assumption
                        have hm2 : ltU (G2 j) (G2 (j - 1)) = true := by simpa using hm
                        have e3 := Lib.hid ((sp_go (lt := ltU) (d := f2) hjb (by rw [← hG2.out, ← hG2.out]; exact hm2)).symm.trans hsh3.out)
                        clear hm hm2
                        have S1 := Lib.hid (hv3.out.1.swpo ho.out j (j - 1) _ _ (hG2.out _).symm (hG2.out _).symm)
                        have C1 := Lib.hid (Chg.swap hv3.out.2 (o + j) (o + (j - 1)) (.int .u64 ((G2 (j - 1) : Nat) : Int)) (.int .u64 ((G2 j : Nat) : Int)))
                        clear hsh3
                        go_region
                        go_wp2
                        go_roundw
                        case rel => exact ⟨j + 1, _, by go_num, by omega, by omega, ⟨S1.out.drew.drew, C1.out.drew.drew⟩, e3.out⟩
                        case measure => simp [intOf]; omega
                    · have hjz : ¬ ((j : Int) < (b : Int)) := by omega
                      have e3 := (sp_end (lt := ltU) (d := f2) (by omega : b ≤ j)).symm.trans hsh3
                      subst e3
                      replace hv3 := Lib.hid hv3
                      go_wp2
                      go_roundw
                      case rel => exact ⟨k, r + 1, _, rfl, by go_num, by omega, by omega, by omega, hv3.out, by rw [show 5 - (r + 1) = 4 - r by omega]; exact hE2.out⟩
                      case measure => simp [intOf]; omega
                · have h3z : ¬ ((2 : Int) ≤ (b : Int) - (k : Int)) := by omega
                  exfalso
                  omega
          · have hkz : decide ((k : Int) < (b : Int)) = false := decide_eq_false (by omega)
            have hkb : k = b := by omega
            have hkbz : (k : Int) = (b : Int) := by omega
            go_wp2_with fail
            refine wp_region_text [(3, 1), (22, 1)] (by kernel_rfl) (by kernel_rfl) ?_
            simp only [instr, chk, look, Nat.reduceBEq, Bool.false_eq_true, if_true, if_false, Nat.reduceEqDiff, List.cons_append, List.nil_append]
            go_wp2_with fail
            refine OnlyN.normal ?_
            go_wp2_with fail
            have e2 := (ss_end (lt := ltU) (d := e) (by omega : b ≤ k)).symm.trans hsc.out
            subst e2
            have hE2 := (pi_true hi2.out hkb).symm.trans hE.out
            injection hE2 with hE3 hE4
            subst hE3
            subst hE4
            go_wp2
            go_ret
            exact ⟨rfl, hv.out.1.drew, hv.out.2.drew⟩
      · have hrz : ¬ ((r : Int) < 5) := by omega
        have hE2 : (e, false) = (z, f) := by rw [show 5 - r = 0 by omega] at hE; exact hE
        injection hE2 with hE3 hE4
        subst hE3
        subst hE4
        replace hu := Lib.hid hu
        go_wp2
        go_ret
        exact ⟨rfl, hu.out⟩
end Go.Proofs.YtjoaonppaokhhaaGreat
