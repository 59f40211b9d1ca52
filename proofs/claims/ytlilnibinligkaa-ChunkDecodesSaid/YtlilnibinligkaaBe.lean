/-
  bytes.Equal: whether two rows of bytes are alike. Conditions: none.
-/
import Derived.Test.YtlilnibinligkaaLa
import Derived.Test.YtlilnibinligkaaCo
namespace Go.Proofs.Ytlilnibinligkaa
open Go.RowKit

set_option maxHeartbeats 400000 in
theorem bytesEqual_any (A B : Option Addr) (n m c d : Nat) (l r : List UInt8) (w : World) (ha : RB w A n l) (hb : RB w B m r) :
    Calls Try.prog 39 #[.slice A n c, .slice B m d] w fun e w' => e = .returned (.bool (l == r)) ∧ w = w' := by
  have h1 := run_conv_RB (P := Try.prog) (c := c) Try.underlying23 Try.underlying5 Try.underlying9 ha
  have h2 := run_conv_RB (P := Try.prog) (c := d) Try.underlying23 Try.underlying5 Try.underlying9 hb
  clear ha hb
  go_enter Try.func39, Try.ntmps39
  go_wp2
  go_ret
  exact ⟨by simp, rfl⟩
end Go.Proofs.Ytlilnibinligkaa
