/-
  A number without its sign (the law's Low). Conditions: none.
-/
import Derived.Test.YtddgkfheoldjkaaMem
import Derived.Test.YtddgkfheoldjkaaRows
import Derived.OpenShut
namespace Go.Proofs.Ytddgkfheoldjkaa
open Go.RowKit

theorem low_form (x : Int) : ∃ r : Nat, r < 9223372036854775808 ∧ bits .and .i64 x 9223372036854775807 = (r : Int) := by
  refine ⟨(BitVec.ofInt 64 x &&& BitVec.ofInt 64 9223372036854775807).toNat, ?_, ?_⟩
  · rw [BitVec.toNat_and]
    exact Nat.and_lt_two_pow (n := 63) _ (by decide)
  · show IntKind.i64.wrap ((BitVec.ofInt 64 x &&& BitVec.ofInt 64 9223372036854775807).toNat : Int) = _
    have : (BitVec.ofInt 64 x &&& BitVec.ofInt 64 9223372036854775807).toNat < 2 ^ 63 := by
      rw [BitVec.toNat_and]
      exact Nat.and_lt_two_pow (n := 63) _ (by decide)
    rw [IntKind.wrap_i64]
    omega
/-- a number that is not negative; the world as it was -/
def LowPost (w : World) (e : Ending) (w' : World) : Prop := ∃ r : Nat, r ≤ 9223372036854775807 ∧ e = .returned (.int .i64 (r : Int)) ∧ w = w'
set_option maxHeartbeats 400000 in
theorem low_any (x : Int) (w : World) : Calls Try.prog 16 #[.int .i64 x] w (LowPost w) := by
  obtain ⟨r, hr, he⟩ := low_form x
  have He := Lib.hid he
  clear he
  go_enter Try.func16, Try.ntmps16
  go_wp2
  go_ret
  refine ⟨r, by omega, ?_, rfl⟩
  rw [← He.out]
  simp
end Go.Proofs.Ytddgkfheoldjkaa
