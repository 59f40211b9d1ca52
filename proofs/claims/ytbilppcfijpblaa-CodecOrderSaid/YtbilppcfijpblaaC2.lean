/-
  The law CodecOrder, walked: whatever the input it returns true, and nothing that was there has turned. Conditions: none.
-/
import Derived.Test.YtbilppcfijpblaaCa
import Derived.Test.YtbilppcfijpblaaTs
import Derived.Lib.MinMax
import Derived.OpenShut
namespace Go.Proofs.Ytbilppcfijpblaa
open Go.RowKit

theorem uv_pre {a b : Nat} (ha : a < 18446744073709551616) (hb : b < 18446744073709551616) (r : List UInt8) (h : uv b = uv a ++ r) : a = b := by
  have h1 := ur_uv r a 0 0 (Or.inl rfl) (by omega) (by omega)
  have h2 := ur_uv [] b 0 0 (Or.inl rfl) (by omega) (by omega)
  rw [List.append_nil, h, h1] at h2
  simp at h2
  exact h2.1
theorem uv_free {a b : Nat} (ha : a < 18446744073709551616) (hb : b < 18446744073709551616) (h : uv a = (uv b).take (uv a).length) : a = b :=
  uv_pre ha hb ((uv b).drop (uv a).length) (by conv => rhs; lhs; rw [h]
                                               rw [List.take_append_drop])
theorem uv_mono : ∀ b a, a ≤ b → (uv a).length ≤ (uv b).length := by
  intro b
  induction b using Nat.strongRecOn with
  | ind b ih =>
    intro a hab
    by_cases hb : b < 128
    · rw [uv_small hb, uv_small (show a < 128 by omega)]
      simp
    · by_cases ha : a < 128
      · rw [uv_small ha]
        exact uv_len1 b
      · rw [uv_big hb, uv_big ha]
        have := ih (b / 128) (by omega) (a / 128) (by omega)
        simp only [List.length_cons]
        omega

set_option maxRecDepth 100000 in
set_option maxHeartbeats 4000000 in
theorem walk_codecOrder (az bz : Int) (w : World) (ha : (Lit.int .u64 az).wf = true) (hb : (Lit.int .u64 bz).wf = true) :
    Calls Try.prog 8 #[.int .u64 az, .int .u64 bz] w fun e w' => e = .returned (.bool true) ∧ Grew w w' := by
  have bv := Go.bounds_u64 ha
  have bx := Go.bounds_u64 hb
  obtain ⟨a, rfl⟩ := Int.eq_ofNat_of_zero_le bv.1
  obtain ⟨b, rfl⟩ := Int.eq_ofNat_of_zero_le bx.1
  have ha2 : a < 18446744073709551616 := by omega
  have hb2 : b < 18446744073709551616 := by omega
  clear ha hb bv bx
  have a1 : ∀ w, Calls Try.prog 10 #[.slice none 0 0, .int .u64 (a : Int)] w (NewB w (uv a).length (uv a)) := fun w => by
    have := putUint_any none 0 0 [] a a w ⟨rfl, Rd.nil _ _⟩ rfl (by omega) ha2
    simpa using this
  have a2 : ∀ w, Calls Try.prog 10 #[.slice none 0 0, .int .u64 (b : Int)] w (NewB w (uv b).length (uv b)) := fun w => by
    have := putUint_any none 0 0 [] b b w ⟨rfl, Rd.nil _ _⟩ rfl (by omega) hb2
    simpa using this
  have l1 := uv_len10 ha2
  have l2 := uv_len10 hb2
  have m1 := uv_len1 a
  have m2 := uv_len1 b
  have f1 : a < b → (uv a).length ≤ (uv b).length := fun h => uv_mono b a (by omega)
  have f2 : b < a → (uv b).length ≤ (uv a).length := fun h => uv_mono a b (by omega)
  have g1 : a ≠ b → ((uv a).take (uv a).length == (uv b).take (uv a).length) = false := fun hn => by
    rw [List.take_length]
    simp only [beq_eq_false_iff_ne, ne_eq]
    exact fun e => hn (uv_free ha2 hb2 e)
  have g2 : a ≠ b → ((uv a).take (uv b).length == (uv b).take (uv b).length) = false := fun hn => by
    rw [List.take_length]
    simp only [beq_eq_false_iff_ne, ne_eq]
    exact fun e => hn (uv_free hb2 ha2 e.symm).symm
  by_cases hab : a = b
  · subst hab
    generalize (uv a).length = na at *
    generalize uv a = la at *
    have A1 := Lib.hid a1
    clear a1 a2 f1 f2 g1 g2
    go_enter Try.func8, Try.ntmps8
    go_wp2_with fail
    refine (A1.out _).mono ?_
    rintro e w1 ⟨P1, c1, rfl, ho1, hg1⟩
    go_wp2_with fail
    refine (A1.out _).mono ?_
    rintro e w2 ⟨P2, c2, rfl, ho2, hg2⟩
    go_wp2_with fail
    refine (sameBytes_yes _ _ na na _ _ la _ (ho1.grew hg2).rb ho2.rb (by omega) (by omega)).mono ?_
    rintro e w3 ⟨rfl, k3, rfl⟩
    go_wp2_with fail
    refine (awake_any _).mono ?_
    rintro e w4 ⟨rfl, hg4⟩
    go_wp2
    go_ret
    exact ⟨by simp, ((hg1.trans hg2).drewN k3).trans hg4⟩
  · have hd : ((a : Int) == (b : Int)) = false := by simp; omega
    generalize hna : (uv a).length = na at *
    generalize hnb : (uv b).length = nb at *
    have ⟨k, hk, hk1, hk2, hk3⟩ : ∃ k : Nat, min (na : Int) (nb : Int) = (k : Int) ∧ k ≤ na ∧ k ≤ nb ∧ ((uv a).take k == (uv b).take k) = false := by
      by_cases hl : na ≤ nb
      · exact ⟨na, by omega, by omega, hl, g1 hab⟩
      · exact ⟨nb, by omega, by omega, by omega, g2 hab⟩
    have ht : (a < b ∧ na ≤ nb) ∨ (b < a ∧ nb ≤ na) := by
      by_cases h : a < b
      · exact .inl ⟨h, f1 h⟩
      · have h' : b < a := by omega
        exact .inr ⟨h', f2 h'⟩
    clear hna hnb f1 f2 g1 g2
    have hk3' := Lib.hid hk3
    have A1 := Lib.hid a1
    have A2 := Lib.hid a2
    have HD := Lib.hid hd
    clear hk3 a1 a2 hd
    have Hk := Lib.hid hk
    clear hk
    generalize uv a = la at *
    generalize uv b = lb at *
    rcases ht with ⟨t1, t3⟩ | ⟨t1, t3⟩
    all_goals
      go_enter Try.func8, Try.ntmps8
      go_wp2_with fail
      refine (A1.out _).mono ?_
      rintro e w1 ⟨P1, c1, rfl, ho1, hg1⟩
      go_wp2_with fail
      refine (A2.out _).mono ?_
      rintro e w2 ⟨P2, c2, rfl, ho2, hg2⟩
      have j1 := ho1.cap
      have j2 := ho2.cap
      have r1 := (ho1.grew hg2).rb.take (i := k) hk1
      have r2 := ho2.rb.take (i := k) hk2
      have hd := HD.out
      have hk := Hk.out
      go_wp2_with fail
      have i1 : (k : Int) ≤ (c1 : Int) := by omega
      have i2 : (k : Int) ≤ (c2 : Int) := by omega
      have i3 : (0 : Int) ≤ (k : Int) := by omega
      clear hk hd
      refine wp_region_text [(3, 1), (23, 1)] (by kernel_rfl) (by kernel_rfl) ?_
      simp only [instr, chk, look, Nat.reduceBEq, Bool.false_eq_true, if_true, if_false, Nat.reduceEqDiff, List.cons_append, List.nil_append]
      go_wp2_with fail
      refine (sameBytes_any P1 P2 k k c1 c2 (la.take k) (lb.take k) _ (by exact r1) (by exact r2) (by omega) (by omega)).mono ?_
      rintro e w3 ⟨rfl, k3, rfl⟩
      rw [hk3'.out]
      go_wp2_with fail
      refine (awake_any _).mono ?_
      rintro e w4 ⟨rfl, hg4⟩
      go_wp2_with fail
      refine OnlyN.normal ?_
      go_wp2
      go_ret
      exact ⟨by simp, ((hg1.trans hg2).drewN (1 + k3)).trans hg4⟩
end Go.Proofs.Ytbilppcfijpblaa
