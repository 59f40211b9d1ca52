/-
  The reference of chunk: may points be? Conditions: lengths that memory bears.
-/
import Derived.Test.YtlilnibinligkaaRb
namespace Go.Proofs.Ytlilnibinligkaa
open Go.RowKit

set_option maxRecDepth 100000 in
set_option maxHeartbeats 2000000 in
theorem points_any (A : Option Addr) (n c : Nat) (ps : List Pnt) (w : World) (h : RE elPt w A n ps) (hn : n ≤ 8796093022208) :
    Calls Try.prog 26 #[.slice A n c] w (MayP w ps) := by
  go_enter Try.func26, Try.ntmps26
  go_wp2
  go_loopw [3] (fun i wr => ∃ k : Nat, k ≤ n ∧ i = .int .i64 k ∧ OkTo ps k ∧ Grew w wr) (fun i _ => n - (intOf i).toNat)
  case atStart => exact ⟨0, Nat.zero_le _, rfl, fun i p hi => by omega, Chg.refl _ _⟩
  case round =>
    obtain ⟨k, hk, rfl, hto, hg⟩ := hrel
    by_cases hlt : k < n
    · have hr := h.grew hg
      obtain ⟨ad, p, rfl, hp, hc1, hc2⟩ := hr.pt hlt
      have hsz := hg.size
      have hend : ∀ wz, Grew wr wz → Grew w wz := fun wz h => hg.trans h
      by_cases k0 : k < 1
      · have k1 : decide ((0 : Int) < (k : Int)) = false := decide_eq_false (by omega)
        have hsp : decide (p.1 < -1099511627776) = true ∨ (decide (p.1 < -1099511627776) = false ∧ decide (1099511627776 < p.1) = true) ∨ (decide (p.1 < -1099511627776) = false ∧ decide (1099511627776 < p.1) = false) := by simp only [decide_eq_true_eq, decide_eq_false_iff_not]; omega
        have hno : (decide (p.1 < -1099511627776) = true ∨ decide (1099511627776 < p.1) = true) → ¬ Okp ps := fun h ho => by simp only [decide_eq_true_eq] at h; have := (ho k p hp).1; omega
        have hyes : decide (p.1 < -1099511627776) = false ∧ decide (1099511627776 < p.1) = false → OkTo ps (k + 1) := fun h => by
          simp only [decide_eq_false_iff_not] at h
          exact okto_step hto hp (by omega) fun q => .inl (by omega)
        have Hno := Lib.hid hno
        have Hyes := Lib.hid hyes
        clear hno hyes hp hto hr h
        rcases hsp with h1 | ⟨h1, h2⟩ | ⟨h1, h2⟩
        · go_wp2
          refine wp_region_text [(3, 1), (2, 1)] (by kernel_rfl) (by kernel_rfl) ?_
          simp only [instr, chk, look, Nat.reduceBEq, Bool.false_eq_true, if_true, if_false, Nat.reduceEqDiff, List.cons_append, List.nil_append]
          go_wp2_with fail
          refine OnlyN.normal ?_
          go_wp2
          go_ret
          exact ⟨false, rfl, by simp [Hno.out (.inl h1)], hend _ ((Chg.refl _ wr).drewN 1)⟩
        · go_wp2
          refine wp_region_text [(3, 1), (2, 1)] (by kernel_rfl) (by kernel_rfl) ?_
          simp only [instr, chk, look, Nat.reduceBEq, Bool.false_eq_true, if_true, if_false, Nat.reduceEqDiff, List.cons_append, List.nil_append]
          go_wp2_with fail
          refine OnlyN.normal ?_
          go_wp2
          go_ret
          exact ⟨false, rfl, by simp [Hno.out (.inr h2)], hend _ ((Chg.refl _ wr).drewN 1)⟩
        · go_wp2
          refine wp_region_text [(3, 1), (2, 1)] (by kernel_rfl) (by kernel_rfl) ?_
          simp only [instr, chk, look, Nat.reduceBEq, Bool.false_eq_true, if_true, if_false, Nat.reduceEqDiff, List.cons_append, List.nil_append]
          go_wp2_with fail
          refine OnlyN.normal ?_
          go_wp2
          go_roundw
          case rel => exact ⟨k + 1, by omega, by go_num, Hyes.out ⟨h1, h2⟩, hend _ ((Chg.refl _ wr).drewN 1)⟩
          case measure => simp [intOf]; omega
      · obtain ⟨ad', q, e, hq, hc3, hc4⟩ := hr.pt (k := k - 1) (by omega)
        injection e with e
        subst e
        have k1 : decide ((0 : Int) < (k : Int)) = true := decide_eq_true (by omega)
        have kz : (k : Int) - 1 = ((k - 1 : Nat) : Int) := by omega
        have hk1 : k - 1 < n := by omega
        have hsp : decide (p.1 < -1099511627776) = true ∨ (decide (p.1 < -1099511627776) = false ∧ decide (1099511627776 < p.1) = true) ∨ (decide (p.1 < -1099511627776) = false ∧ decide (1099511627776 < p.1) = false ∧ decide (p.1 ≤ q.1) = true) ∨
            (decide (p.1 < -1099511627776) = false ∧ decide (1099511627776 < p.1) = false ∧ decide (p.1 ≤ q.1) = false) := by simp only [decide_eq_true_eq, decide_eq_false_iff_not]; omega
        have hno : (decide (p.1 < -1099511627776) = true ∨ decide (1099511627776 < p.1) = true) → ¬ Okp ps := fun h ho => by simp only [decide_eq_true_eq] at h; have := (ho k p hp).1; omega
        have hno2 : decide (p.1 ≤ q.1) = true → ¬ Okp ps := fun h ho => by simp only [decide_eq_true_eq] at h; have := (ho (k - 1) q hq).2 p (by rw [show k - 1 + 1 = k by omega]; exact hp); omega
        have hyes : decide (p.1 < -1099511627776) = false ∧ decide (1099511627776 < p.1) = false ∧ decide (p.1 ≤ q.1) = false → OkTo ps (k + 1) := fun h => by
          simp only [decide_eq_false_iff_not] at h
          refine okto_step hto hp (by omega) fun q' => ?_
          by_cases hqq : ps[k - 1]? = some q'
          · right; right
            rw [hq] at hqq
            injection hqq with hqq
            subst hqq
            omega
          · exact .inr (.inl hqq)
        have Hno := Lib.hid hno
        have Hno2 := Lib.hid hno2
        have Hyes := Lib.hid hyes
        clear hno hno2 hyes hp hq hto hr h hc4
        rcases hsp with h1 | ⟨h1, h2⟩ | ⟨h1, h2, h3⟩ | ⟨h1, h2, h3⟩
        · go_wp2
          refine wp_region_text [(3, 1), (2, 1)] (by kernel_rfl) (by kernel_rfl) ?_
          simp only [instr, chk, look, Nat.reduceBEq, Bool.false_eq_true, if_true, if_false, Nat.reduceEqDiff, List.cons_append, List.nil_append]
          go_wp2_with fail
          refine OnlyN.normal ?_
          go_wp2
          go_ret
          exact ⟨false, rfl, by simp [Hno.out (.inl h1)], hend _ ((Chg.refl _ wr).drewN 1)⟩
        · go_wp2
          refine wp_region_text [(3, 1), (2, 1)] (by kernel_rfl) (by kernel_rfl) ?_
          simp only [instr, chk, look, Nat.reduceBEq, Bool.false_eq_true, if_true, if_false, Nat.reduceEqDiff, List.cons_append, List.nil_append]
          go_wp2_with fail
          refine OnlyN.normal ?_
          go_wp2
          go_ret
          exact ⟨false, rfl, by simp [Hno.out (.inr h2)], hend _ ((Chg.refl _ wr).drewN 1)⟩
        · go_wp2
          refine wp_region_text [(3, 1), (2, 1)] (by kernel_rfl) (by kernel_rfl) ?_
          simp only [instr, chk, look, Nat.reduceBEq, Bool.false_eq_true, if_true, if_false, Nat.reduceEqDiff, List.cons_append, List.nil_append]
          go_wp2_with fail
          refine OnlyN.normal ?_
          go_wp2
          go_ret
          exact ⟨false, rfl, by simp [Hno2.out h3], hend _ ((Chg.refl _ wr).drewN 1)⟩
        · go_wp2
          refine wp_region_text [(3, 1), (2, 1)] (by kernel_rfl) (by kernel_rfl) ?_
          simp only [instr, chk, look, Nat.reduceBEq, Bool.false_eq_true, if_true, if_false, Nat.reduceEqDiff, List.cons_append, List.nil_append]
          go_wp2_with fail
          refine OnlyN.normal ?_
          go_wp2
          go_roundw
          case rel => exact ⟨k + 1, by omega, by go_num, Hyes.out ⟨h1, h2, h3⟩, hend _ ((Chg.refl _ wr).drewN 1)⟩
          case measure => simp [intOf]; omega
    · have hkn : k = n := by omega
      subst hkn
      have hl := h.1
      have Hok := Lib.hid (show Okp ps from okp_of_to (by rw [hl]; exact hto))
      clear hl h hto
      go_wp2
      go_ret
      exact ⟨true, rfl, by simp [Hok.out], hg⟩
end Go.Proofs.Ytlilnibinligkaa
