/-
  The small functions of the statements over bits: Low, low, awake. Conditions: none.
-/
import Derived.Test.YtekneipfbpjmlaaBz
namespace Go.Proofs.Ytekneipfbpjmlaa
open Go.RowKit

theorem low_form (x : Int) : ∃ r : Nat, r < 9223372036854775808 ∧ bits .and .i64 x 9223372036854775807 = (r : Int) := by
  refine ⟨(BitVec.ofInt 64 x &&& BitVec.ofInt 64 9223372036854775807).toNat, ?_, ?_⟩
  · rw [BitVec.toNat_and]
    exact Nat.and_lt_two_pow (n := 63) _ (by decide)
  · show IntKind.i64.wrap ((BitVec.ofInt 64 x &&& BitVec.ofInt 64 9223372036854775807).toNat : Int) = _
    have : (BitVec.ofInt 64 x &&& BitVec.ofInt 64 9223372036854775807).toNat < 2 ^ 63 := by
      rw [BitVec.toNat_and]
      exact Nat.and_lt_two_pow (n := 63) _ (by decide)
    rw [IntKind.wrap_i64]
    omega

/-- a number that is not negative; the world as it was -/
def LowPost (w : World) (e : Ending) (w' : World) : Prop := ∃ r : Nat, r ≤ 9223372036854775807 ∧ e = .returned (.int .i64 (r : Int)) ∧ w = w'

set_option maxHeartbeats 400000 in
theorem low_any (x : Int) (w : World) : Calls Try.prog 17 #[.int .i64 x] w (LowPost w) := by
  obtain ⟨r, hr, he⟩ := low_form x
  have He := Lib.hid he
  clear he
  go_enter Try.func17, Try.ntmps17
  go_wp2
  go_ret
  refine ⟨r, by omega, ?_, rfl⟩
  rw [← He.out]
  simp

set_option maxHeartbeats 400000 in
theorem lowBits_any (v k : Nat) (w : World) (hv : v < 18446744073709551616) (hk : k ≤ 64) :
    Calls Try.prog 19 #[.int .u64 (v : Int), .int .i64 (k : Int)] w fun e w' => e = .returned (.int .u64 ((v % 2 ^ k : Nat) : Int)) ∧ w' = w := by
  by_cases h : k = 64
  · subst h
    have h1 : v % 2 ^ 64 = v := Nat.mod_eq_of_lt (by omega)
    rw [h1]
    go_enter Try.func19, Try.ntmps19
    go_wp2
    go_ret
    exact ⟨by simp, rfl⟩
  · have h64 : k < 64 := by omega
    go_enter Try.func19, Try.ntmps19
    go_wp2
    go_ret
    have hp : 2 ^ k ≤ 2 ^ 63 := Nat.pow_le_pow_right (by omega) (by omega)
    have hp0 : 0 < 2 ^ k := Nat.two_pow_pos k
    have e0 : ((2 : Int) ^ k) = ((2 ^ k : Nat) : Int) := by simp
    have e1 : bits .and .u64 (v : Int) (IntKind.u64.wrap (IntKind.u64.wrap (2 ^ k) - 1)) = ((v % 2 ^ k : Nat) : Int) := by
      rw [e0, ← Nat.and_two_pow_sub_one_eq_mod]
      have e2 : IntKind.u64.wrap (IntKind.u64.wrap ((2 ^ k : Nat) : Int) - 1) = ((2 ^ k - 1 : Nat) : Int) := by
        simp only [IntKind.wrap_u64]
        omega
      rw [e2, u64_and_nat _ _ hv (by omega)]
    exact ⟨by simp [e1], rfl⟩

set_option maxRecDepth 100000 in
set_option maxHeartbeats 2000000 in
theorem awake_any (w : World) : Calls Try.prog 16 #[] w fun e w' => e = .returned (.bool true) ∧ Grew w w' := by
  have h0 : RB w none 0 (pack []) := ⟨rfl, Rd.nil _ _⟩
  have e1 : pack (toBits 5 3) = [160] := by decide +kernel
  have e2 : wholeB [160, 128] 9 = true := by decide +kernel
  have e3 : val (((bitsOf [160, 128] 9).drop 2).take 7) = 65 := by decide +kernel
  have e4 : wholeB [160] 3 = true := by decide +kernel
  have e5 : wholeB [161] 3 = false := by decide +kernel
  have a1 : ∀ w, Calls Try.prog 9 #[.slice none 0 0, .int .i64 0, .int .u64 5, .int .i64 3] w (AppPost w 3 (toBits 5 3)) := fun w => append_ok none 0 0 [] 5 3 w ⟨rfl, Rd.nil _ _⟩ (by omega) (by omega) (by omega)
  have a2 : ∀ A c w, RB w A 2 [160, 128] → Calls Try.prog 18 #[.slice A 2 c, .int .i64 9, .int .i64 2, .int .i64 7] w fun e w' => e = .returned (.tuple #[.int .u64 65, .bool true]) ∧ Grew w w' := fun A c w h => by
    have := read_ok A 2 c [160, 128] 9 2 7 w h (by omega) (by omega) e2 (by omega)
    rw [e3] at this
    exact this
  have a3 : ∀ A c w, RB w A 1 [160] → Calls Try.prog 10 #[.slice A 1 c, .int .i64 3] w fun e w' => e = .returned (.bool true) ∧ w' = w := fun A c w h => by
    have := whole_any A 1 c [160] 3 w h (by omega)
    rwa [e4] at this
  have a4 : ∀ A c w, RB w A 1 [161] → Calls Try.prog 10 #[.slice A 1 c, .int .i64 3] w fun e w' => e = .returned (.bool false) ∧ w' = w := fun A c w h => by
    have := whole_any A 1 c [161] 3 w h (by omega)
    rwa [e5] at this
  have E1 := Lib.hid e1
  clear e1 e2 e3 e4 e5
  have A1 := Lib.hid a1
  have A2 := Lib.hid a2
  have A3 := Lib.hid a3
  have A4 := Lib.hid a4
  clear a1 a2 a3 a4 h0
  go_enter Try.func16, Try.ntmps16
  go_wp2_with fail
  refine (A1.out _).mono ?_
  rintro e w1 ⟨A, m, c, rfl, ho, hg⟩
  rw [E1.out] at ho
  have hm := ho.len
  simp at hm
  subst hm
  go_wp2_with fail
  refine (A2.out _ _ _ (RB.new w1 [160, 128] 2 #[.int .u8 160, .int .u8 128] 5 rfl rfl)).mono ?_
  rintro e w2 ⟨rfl, hg2⟩
  have hg2' : Grew w1 w2 := ((Chg.refl _ w1).alloc _).trans hg2
  go_wp2_with fail
  refine (sameBytes_yes _ _ 1 1 _ _ [160] _ ((ho.grew hg2').rb.grew ((Chg.refl _ w2).alloc _)) (RB.new w2 [160] 1 #[.int .u8 160] 5 rfl rfl) (by omega) (by omega)).mono ?_
  rintro e w3 ⟨rfl, k3, rfl⟩
  go_wp2_with fail
  refine (A3.out _ _ _ ?_).mono ?_
  · exact RB.newAt (by simp) rfl rfl
  rintro e w4 ⟨rfl, rfl⟩
  go_wp2_with fail
  refine (A4.out _ _ _ ?_).mono ?_
  · exact RB.newAt (by simp) rfl rfl
  rintro e w5 ⟨rfl, rfl⟩
  go_wp2
  go_ret
  refine ⟨by simp, ?_⟩
  exact ((((hg.trans hg2').alloc _).drewN _).alloc _).alloc _
end Go.Proofs.Ytekneipfbpjmlaa
