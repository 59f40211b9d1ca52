/-
  Package chunk: may, Encode: what each call does. Conditions: lengths that memory bears.
-/
import Derived.Test.YtlilnibinligkaaKb
import Derived.Test.YtlilnibinligkaaPt
namespace Go.Proofs.Ytlilnibinligkaa
open Go.RowKit

/-- the first k points are as they may be -/
def OkTo (ps : List Pnt) (k : Nat) : Prop := ∀ (i : Nat) (p : Pnt), i < k → ps[i]? = some p → (-1099511627776 ≤ p.1 ∧ p.1 ≤ 1099511627776) ∧ ∀ q : Pnt, i = 0 ∨ ps[i - 1]? ≠ some q ∨ q.1 < p.1
theorem okp_of_to {ps : List Pnt} (h : OkTo ps ps.length) : Okp ps := fun i p hp => by
  have hi := (List.getElem?_eq_some_iff.1 hp).1
  refine ⟨(h i p hi hp).1, fun q hq => ?_⟩
  have hi2 := (List.getElem?_eq_some_iff.1 hq).1
  rcases (h (i + 1) q hi2 hq).2 p with h1 | h1 | h1
  · omega
  · exact (h1 (by simpa using hp)).elim
  · exact h1
theorem okto_step {ps : List Pnt} {k : Nat} {p : Pnt} (h : OkTo ps k) (hp : ps[k]? = some p) (h1 : -1099511627776 ≤ p.1 ∧ p.1 ≤ 1099511627776) (h2 : ∀ q : Pnt, k = 0 ∨ ps[k - 1]? ≠ some q ∨ q.1 < p.1) : OkTo ps (k + 1) := fun i x hi hx => by
  by_cases hik : i = k
  · subst hik
    rw [hp] at hx
    injection hx with hx
    subst hx
    exact ⟨h1, h2⟩
  · exact h i x (by omega) hx

theorem cell?_grew {w w' : World} {p : Addr} {u : Value} (h : w.cell? p = some u) (hg : Grew w w') : w'.cell? p = some u := hg.cell h fun e => e

def MayP (w : World) (ps : List Pnt) (e : Ending) (w' : World) : Prop := ∃ b, e = .returned (.bool b) ∧ (b = true ↔ Okp ps) ∧ Grew w w'

set_option maxRecDepth 100000 in
set_option maxHeartbeats 2000000 in
theorem may_any (A : Option Addr) (n c : Nat) (ps : List Pnt) (w : World) (h : RE elPt w A n ps) (hn : n ≤ 8796093022208) :
    Calls Try.prog 30 #[.slice A n c] w (MayP w ps) := by
  go_enter Try.func30, Try.ntmps30
  go_wp2
  go_loopw [7] (fun i wr => ∃ k : Nat, k ≤ n ∧ i = .int .i64 k ∧ OkTo ps k ∧ Grew w wr) (fun i _ => n - (intOf i).toNat)
  case atStart => exact ⟨0, Nat.zero_le _, rfl, fun i p hi => by omega, Chg.refl _ _⟩
  case round =>
    obtain ⟨k, hk, rfl, hto, hg⟩ := hrel
    by_cases hlt : k < n
    · have hr := h.grew hg
      obtain ⟨ad, p, rfl, hp, hc1, hc2⟩ := hr.pt hlt
      have hsz := hg.size
      have hend : ∀ wz, Grew wr wz → Grew w wz := fun wz h => hg.trans h
      by_cases k0 : k < 1
      · have hsp : decide (p.1 < -1099511627776) = true ∨ (decide (p.1 < -1099511627776) = false ∧ decide (1099511627776 < p.1) = true) ∨ (decide (p.1 < -1099511627776) = false ∧ decide (1099511627776 < p.1) = false) := by simp only [decide_eq_true_eq, decide_eq_false_iff_not]; omega
        have hno : (decide (p.1 < -1099511627776) = true ∨ decide (1099511627776 < p.1) = true) → ¬ Okp ps := fun h ho => by simp only [decide_eq_true_eq] at h; have := (ho k p hp).1; omega
        have hyes : decide (p.1 < -1099511627776) = false ∧ decide (1099511627776 < p.1) = false → OkTo ps (k + 1) := fun h => by
          simp only [decide_eq_false_iff_not] at h
          exact okto_step hto hp (by omega) fun q => .inl (by omega)
        have Hno := Lib.hid hno
        have Hyes := Lib.hid hyes
        clear hno hyes hp hto hr h
        rcases hsp with h1 | ⟨h1, h2⟩ | ⟨h1, h2⟩
        · go_wp2
          refine wp_region_text [(3, 1), (2, 1)] (by kernel_rfl) (by kernel_rfl) ?_
          simp only [instr, chk, look, Nat.reduceBEq, Bool.false_eq_true, if_true, if_false, Nat.reduceEqDiff, List.cons_append, List.nil_append]
          go_wp2_with fail
          refine OnlyN.normal ?_
          go_wp2
          go_ret
          exact ⟨false, rfl, by simp [Hno.out (.inl h1)], hend _ (((Chg.refl _ wr).alloc _).drewN 1)⟩
        · go_wp2
          refine wp_region_text [(3, 1), (2, 1)] (by kernel_rfl) (by kernel_rfl) ?_
          simp only [instr, chk, look, Nat.reduceBEq, Bool.false_eq_true, if_true, if_false, Nat.reduceEqDiff, List.cons_append, List.nil_append]
          go_wp2_with fail
          refine OnlyN.normal ?_
          go_wp2
          go_ret
          exact ⟨false, rfl, by simp [Hno.out (.inr h2)], hend _ (((Chg.refl _ wr).alloc _).drewN 1)⟩
        · go_wp2
          refine wp_region_text [(3, 1), (2, 1)] (by kernel_rfl) (by kernel_rfl) ?_
          simp only [instr, chk, look, Nat.reduceBEq, Bool.false_eq_true, if_true, if_false, Nat.reduceEqDiff, List.cons_append, List.nil_append]
          go_wp2_with fail
          refine OnlyN.normal ?_
          go_wp2
          go_roundw
          case rel => exact ⟨k + 1, by omega, by go_num, Hyes.out ⟨h1, h2⟩, hend _ (((Chg.refl _ wr).alloc _).drewN 1)⟩
          case measure => simp [intOf]; omega
      · obtain ⟨ad', q, e, hq, hc3, hc4⟩ := hr.pt (k := k - 1) (by omega)
        injection e with e
        subst e
        have hsp : decide (p.1 < -1099511627776) = true ∨ (decide (p.1 < -1099511627776) = false ∧ decide (1099511627776 < p.1) = true) ∨ (decide (p.1 < -1099511627776) = false ∧ decide (1099511627776 < p.1) = false ∧ decide (p.1 ≤ q.1) = true) ∨
            (decide (p.1 < -1099511627776) = false ∧ decide (1099511627776 < p.1) = false ∧ decide (p.1 ≤ q.1) = false) := by simp only [decide_eq_true_eq, decide_eq_false_iff_not]; omega
        have hno : (decide (p.1 < -1099511627776) = true ∨ decide (1099511627776 < p.1) = true) → ¬ Okp ps := fun h ho => by simp only [decide_eq_true_eq] at h; have := (ho k p hp).1; omega
        have hno2 : decide (p.1 ≤ q.1) = true → ¬ Okp ps := fun h ho => by simp only [decide_eq_true_eq] at h; have := (ho (k - 1) q hq).2 p (by rw [show k - 1 + 1 = k by omega]; exact hp); omega
        have hyes : decide (p.1 < -1099511627776) = false ∧ decide (1099511627776 < p.1) = false ∧ decide (p.1 ≤ q.1) = false → OkTo ps (k + 1) := fun h => by
          simp only [decide_eq_false_iff_not] at h
          refine okto_step hto hp (by omega) fun q' => ?_
          by_cases hqq : ps[k - 1]? = some q'
          · right; right
            rw [hq] at hqq
            injection hqq with hqq
            subst hqq
            omega
          · exact .inr (.inl hqq)
        have Hno := Lib.hid hno
        have Hno2 := Lib.hid hno2
        have Hyes := Lib.hid hyes
        have hc3' := cell?_grew hc3 ((Chg.refl (fun _ => False) wr).alloc (.cells #[.int .i64 p.1, .int .u64 (p.2 : Int)] 41))
        clear hno hno2 hyes hp hq hto hr h hc4
        rcases hsp with h1 | ⟨h1, h2⟩ | ⟨h1, h2, h3⟩ | ⟨h1, h2, h3⟩
        · go_wp2
          refine wp_region_text [(3, 1), (2, 1)] (by kernel_rfl) (by kernel_rfl) ?_
          simp only [instr, chk, look, Nat.reduceBEq, Bool.false_eq_true, if_true, if_false, Nat.reduceEqDiff, List.cons_append, List.nil_append]
          go_wp2_with fail
          refine OnlyN.normal ?_
          go_wp2
          go_ret
          exact ⟨false, rfl, by simp [Hno.out (.inl h1)], hend _ (((Chg.refl _ wr).alloc _).drewN 1)⟩
        · go_wp2
          refine wp_region_text [(3, 1), (2, 1)] (by kernel_rfl) (by kernel_rfl) ?_
          simp only [instr, chk, look, Nat.reduceBEq, Bool.false_eq_true, if_true, if_false, Nat.reduceEqDiff, List.cons_append, List.nil_append]
          go_wp2_with fail
          refine OnlyN.normal ?_
          go_wp2
          go_ret
          exact ⟨false, rfl, by simp [Hno.out (.inr h2)], hend _ (((Chg.refl _ wr).alloc _).drewN 1)⟩
        · go_wp2
          refine wp_region_text [(3, 1), (2, 1)] (by kernel_rfl) (by kernel_rfl) ?_
          simp only [instr, chk, look, Nat.reduceBEq, Bool.false_eq_true, if_true, if_false, Nat.reduceEqDiff, List.cons_append, List.nil_append]
          go_wp2_with fail
          refine OnlyN.normal ?_
          go_wp2
          go_ret
          exact ⟨false, rfl, by simp [Hno2.out h3], hend _ (((Chg.refl _ wr).alloc _).drewN 1)⟩
        · go_wp2
          refine wp_region_text [(3, 1), (2, 1)] (by kernel_rfl) (by kernel_rfl) ?_
          simp only [instr, chk, look, Nat.reduceBEq, Bool.false_eq_true, if_true, if_false, Nat.reduceEqDiff, List.cons_append, List.nil_append]
          go_wp2_with fail
          refine OnlyN.normal ?_
          go_wp2
          go_roundw
          case rel => exact ⟨k + 1, by omega, by go_num, Hyes.out ⟨h1, h2, h3⟩, hend _ (((Chg.refl _ wr).alloc _).drewN 1)⟩
          case measure => simp [intOf]; omega
    · have hkn : k = n := by omega
      subst hkn
      have hl := h.1
      have Hok := Lib.hid (show Okp ps from okp_of_to (by rw [hl]; exact hto))
      clear hl h hto
      go_wp2
      go_ret
      exact ⟨true, rfl, by simp [Hok.out], hg⟩
end Go.Proofs.Ytlilnibinligkaa
