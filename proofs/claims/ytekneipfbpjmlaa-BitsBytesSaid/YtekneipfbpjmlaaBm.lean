/-
  Package bits, once more: Append and Read at numbers that the walk has in its own spelling; lists of numbers as bits. Conditions: lengths that memory bears.
-/
import Derived.Test.YtekneipfbpjmlaaBl
import Derived.OpenShut
namespace Go.Proofs.Ytekneipfbpjmlaa
open Go.RowKit

theorem append_z (A : Option Addr) (m c : Nat) (bs : List Bool) (v k : Nat) (n vz kz : Int) (w : World) (h : RB w A m (pack bs)) (hn : n = bs.length) (hvz : vz = v) (hkz : kz = k) (hm : m ≤ 140737488355200) (hv : v < 18446744073709551616) (hk : k ≤ 64) :
    Calls Try.prog 9 #[.slice A m c, .int .i64 n, .int .u64 vz, .int .i64 kz] w (AppPost w (bs.length + k) (bs ++ toBits v k)) := by
  subst hn; subst hvz; subst hkz
  exact append_ok A m c bs v k w h hm hv hk

theorem whole_z (A : Option Addr) (m c : Nat) (bs : List Bool) (n : Int) (w : World) (h : RB w A m (pack bs)) (hn : n = bs.length) (hm : m ≤ 140737488355328) :
    Calls Try.prog 10 #[.slice A m c, .int .i64 n] w fun e w' => e = .returned (.bool true) ∧ w' = w := by
  subst hn
  have := whole_any A m c (pack bs) bs.length w h hm
  rwa [wholeB_pack] at this

/-- what a Read tells: these bits' number -/
theorem read_z (A : Option Addr) (m c : Nat) (X Y Z : List Bool) (n a k : Int) (w : World) (h : RB w A m (pack (X ++ Y ++ Z))) (hn : n = (X ++ Y ++ Z).length) (ha : a = X.length) (hk : k = Y.length) (hm : m ≤ 140737488355200) (hY : Y.length ≤ 64) :
    Calls Try.prog 18 #[.slice A m c, .int .i64 n, .int .i64 a, .int .i64 k] w fun e w' => e = .returned (.tuple #[.int .u64 ((val Y : Nat) : Int), .bool true]) ∧ Grew w w' := by
  subst hn; subst ha; subst hk
  have h1 := read_ok A m c (pack (X ++ Y ++ Z)) (X ++ Y ++ Z).length X.length Y.length w h hm hY (wholeB_pack _) (by simp)
  rw [bitsOf_pack] at h1
  have h2 : (((X ++ Y ++ Z).drop X.length).take Y.length) = Y := by rw [List.append_assoc, List.drop_left, List.take_left]
  rwa [h2] at h1

/-- bytes, each by its s lowest bits -/
def heads (s : Nat) (l : List UInt8) : List Bool := l.flatMap fun c => toBits c.toNat s
@[simp] theorem length_heads (s : Nat) (l : List UInt8) : (heads s l).length = s * l.length := by
  induction l with
  | nil => simp [heads]
  | cons c l ih =>
    have : heads s (c :: l) = toBits c.toNat s ++ heads s l := by simp [heads]
    rw [this, List.length_append, ih, length_toBits, List.length_cons, Nat.mul_add]
    omega
theorem heads_snoc (s : Nat) (l : List UInt8) (c : UInt8) : heads s (l ++ [c]) = heads s l ++ toBits c.toNat s := by simp [heads]
theorem heads_split (s : Nat) (l : List UInt8) (i : Nat) (c : UInt8) (h : l[i]? = some c) : heads s l = heads s (l.take i) ++ toBits c.toNat s ++ heads s (l.drop (i + 1)) := by
  have hi := (List.getElem?_eq_some_iff.1 h).1
  have e : l = l.take i ++ c :: l.drop (i + 1) := by
    have h2 := List.getElem?_eq_some_iff.1 h
    rw [← h2.2, List.getElem_cons_drop, List.take_append_drop]
  conv => lhs; rw [e]
  simp [heads]
theorem take_snoc (l : List UInt8) (i : Nat) (c : UInt8) (h : l[i]? = some c) : l.take (i + 1) = l.take i ++ [c] := by
  rw [List.take_add_one, h]
  rfl

theorem pack_nil : pack [] = [] := by simp [pack]
theorem lowBits_z (v k : Nat) (kz : Int) (w : World) (hkz : kz = k) (hv : v < 18446744073709551616) (hk : k ≤ 64) :
    Calls Try.prog 19 #[.int .u64 (v : Int), .int .i64 kz] w fun e w' => e = .returned (.int .u64 ((v % 2 ^ k : Nat) : Int)) ∧ w' = w := by
  subst hkz
  exact lowBits_any v k w hv hk
end Go.Proofs.Ytekneipfbpjmlaa
