/-
  Several texts in one:
  Package codec and its reference: Int and Text: what each call answers. Conditions: lengths that memory bears.
  Plain laws of the sum of bytes: step by step, four at a time, and that a turned bit turns it. Conditions: none; no program in sight.
-/
import Derived.Test.YtjoaonppaokhhaaGreatPart29
import Derived.Laws.BytesString
import Derived.Laws.BitsAllLaws

namespace Go.Proofs.YtjoaonppaokhhaaGreat
open Go.RowKit

theorem uintR_bad (l : List UInt8) (at_ : Int) (h : (uintR l at_).2.2 ≠ 0) : (uintR l at_).1 = 0 ∧ (uintR l at_).2.1 = 0 := by
  unfold uintR at *
  split at h <;> rename_i h1
  · rw [if_pos h1]
    split at h <;> rename_i h2
    · exact absurd rfl h
    · rw [if_neg h2]
      exact ⟨rfl, rfl⟩
  · rw [if_neg h1]
    exact ⟨rfl, rfl⟩
theorem uintR_err (l : List UInt8) (at_ : Int) : (uintR l at_).2.2 = 0 ∨ (uintR l at_).2.2 = 20 ∨ (uintR l at_).2.2 = 21 := by
  unfold uintR
  split
  · split
    · exact .inl rfl
    · exact ur_err _ _ _
  · exact .inr (.inl rfl)
theorem uintR_ok (l : List UInt8) (at_ : Int) (h : (uintR l at_).2.2 = 0) : ∃ t : Nat, at_ = t ∧ t ≤ l.length ∧ (uintR l at_).1 < 18446744073709551616 ∧ (uintR l at_).2.1 = t + (uv (uintR l at_).1).length ∧
    (l.drop t).take (uv (uintR l at_).1).length = uv (uintR l at_).1 ∧ t + (uv (uintR l at_).1).length ≤ l.length := by
  unfold uintR at *
  split at h <;> rename_i h1
  · rw [if_pos h1]
    split at h <;> rename_i h2
    · rw [if_pos h2]
      obtain ⟨v, e1, e2, e3, e4, _, e6⟩ := ur_back (l.drop at_.toNat) 0 0 (by omega) h2
      simp only [Nat.mul_zero, Nat.pow_zero, Nat.mul_one, Nat.zero_add] at e1 e2 e6
      rw [e1, e2]
      rw [List.length_drop] at e4
      exact ⟨at_.toNat, by omega, by omega, e6, rfl, e3, by omega⟩
    · exact absurd h h2
  · cases h
theorem uintR_lt (l : List UInt8) (at_ : Int) : (uintR l at_).1 < 18446744073709551616 := by
  by_cases h : (uintR l at_).2.2 = 0
  · exact (uintR_ok l at_ h).choose_spec.2.2.1
  · rw [(uintR_bad l at_ h).1]; omega
theorem uintR_to (l : List UInt8) (at_ : Int) : (uintR l at_).2.1 ≤ l.length := by
  by_cases h : (uintR l at_).2.2 = 0
  · obtain ⟨t, _, _, _, e, _, h2⟩ := uintR_ok l at_ h
    omega
  · rw [(uintR_bad l at_ h).2]; omega

theorem xor_neg (n : Nat) (h : n < 9223372036854775808) : bits .xor .i64 (n : Int) (-1) = -(n : Int) - 1 := by
  show IntKind.i64.wrap ((BitVec.ofInt 64 (n : Int) ^^^ BitVec.ofInt 64 (-1)).toNat : Int) = _
  have h1 : (BitVec.ofInt 64 (-1)).toNat = 18446744073709551615 := by decide
  have h2 : (BitVec.ofInt 64 (n : Int)).toNat = n := by rw [BitVec.ofInt_natCast, BitVec.toNat_ofNat]; exact Nat.mod_eq_of_lt (by omega)
  rw [BitVec.toNat_xor, h1, h2, xor_ones _ (by omega), IntKind.wrap_i64]
  omega
theorem xor_none (n : Nat) (h : n < 9223372036854775808) : bits .xor .i64 (n : Int) 0 = (n : Int) := by
  show IntKind.i64.wrap ((BitVec.ofInt 64 (n : Int) ^^^ BitVec.ofInt 64 0).toNat : Int) = _
  have h2 : (BitVec.ofInt 64 (n : Int)).toNat = n := by rw [BitVec.ofInt_natCast, BitVec.toNat_ofNat]; exact Nat.mod_eq_of_lt (by omega)
  rw [BitVec.toNat_xor, h2, show (BitVec.ofInt 64 0).toNat = 0 from rfl, Nat.xor_zero, IntKind.wrap_i64]
  omega
theorem and1 (v : Nat) (h : v < 18446744073709551616) : bits .and .u64 (v : Int) 1 = ((v % 2 : Nat) : Int) := by
  have := u64_and_nat v 1 h (by omega)
  rw [show ((1 : Nat) : Int) = 1 from rfl] at this
  rw [this, nat_mask1]
theorem uz_walk (v : Nat) (h : v < 18446744073709551616) : bits .xor .i64 ((v : Int) / 2) (wrap64 (-wrap64 (bits .and .u64 (v : Int) 1))) = uz v := by
  rw [and1 v h]
  have e : (v : Int) / 2 = ((v / 2 : Nat) : Int) := by simp
  rw [e]
  rcases Nat.mod_two_eq_zero_or_one v with h2 | h2
  · rw [h2, show wrap64 (-wrap64 ((0 : Nat) : Int)) = 0 from by unfold wrap64; decide, xor_none _ (by omega)]
    unfold uz
    rw [if_pos h2]
  · rw [h2, show wrap64 (-wrap64 ((1 : Nat) : Int)) = -1 from by unfold wrap64; decide, xor_neg _ (by omega)]
    unfold uz
    rw [if_neg (by omega)]

/-- what a reading of a signed number ends in -/
def IntPost (w : World) (r : Nat × Nat × Nat) (e : Ending) (w' : World) : Prop := e = .returned (.tuple #[.int .i64 (uz r.1), .int .i64 (r.2.1 : Int), .int .i64 (r.2.2 : Int)]) ∧ w' = w

set_option maxHeartbeats 1000000 in
theorem int_any (A : Option Addr) (m c : Nat) (l : List UInt8) (at_ : Int) (w : World) (h : RB w A m l) (hm : m ≤ 140737488355328) :
    Calls Tryz.prog 100 #[.slice A m c, .int .i64 at_] w (IntPost w (uintR l at_)) := by
  have hu := uintR_lt l at_
  have hU := uint_any A m c l at_ w h hm
  generalize uintR l at_ = r at hU hu ⊢
  have HU := Lib.hid hU
  clear hU
  go_enter Tryz.func100, Tryz.ntmps100
  go_wp2_with fail
  refine HU.out.mono ?_
  unfold UintPost uintEnd
  rintro e w1 ⟨rfl, rfl⟩
  have hz := uz_walk r.1 hu
  have Hz := Lib.hid hz
  clear hz
  go_wp2
  go_ret3
  exact ⟨by simp [Hz.out], rfl⟩

set_option maxHeartbeats 1000000 in
theorem refInt_any (A : Option Addr) (m c : Nat) (l : List UInt8) (at_ : Int) (w : World) (h : RB w A m l) (hm : m ≤ 140737488355328) :
    Calls Tryz.prog 91 #[.slice A m c, .int .i64 at_] w (IntPost w (uintR l at_)) := by
  have hu := uintR_lt l at_
  have hbad := uintR_bad l at_
  have herr := uintR_err l at_
  have hU := refUint_any A m c l at_ w h hm
  generalize uintR l at_ = r at hU hu hbad herr ⊢
  have HU := Lib.hid hU
  clear hU
  go_enter Tryz.func91, Tryz.ntmps91
  go_wp2_with fail
  refine HU.out.mono ?_
  unfold UintPost uintEnd
  rintro e w1 ⟨rfl, rfl⟩
  obtain ⟨v, nx, er⟩ := r
  simp only at hu hbad herr ⊢
  by_cases he : er = 0
  · subst he
    have ha := and1 v hu
    have Ha := Lib.hid ha
    clear ha hbad herr
    by_cases h2 : v % 2 = 0
    · have h3 : (bits .and .u64 (v : Int) 1 == 0) = true := by rw [Ha.out, h2]; rfl
      have hz : Hid (uz v = ((v / 2 : Nat) : Int)) := by show _ = _; unfold uz; rw [if_pos h2]
      clear h2 Ha
      go_wp2
      go_ret3
      exact ⟨by simp [hz.out], rfl⟩
    · have h3 : (bits .and .u64 (v : Int) 1 == 0) = false := by rw [Ha.out, show v % 2 = 1 from by omega]; rfl
      have hz : Hid (uz v = -((v / 2 : Nat) : Int) - 1) := by show _ = _; unfold uz; rw [if_neg h2]
      clear h2 Ha
      go_wp2
      go_ret3
      exact ⟨by simp [hz.out], rfl⟩
  · have h3 : ((er : Int) != 0) = true := by simp; omega
    obtain ⟨h4, h5⟩ := hbad he
    subst h4 h5
    clear he hbad herr
    go_wp2
    go_ret3
    exact ⟨by simp [uz], rfl⟩

theorem RB.dropO {w : World} {A : Option Addr} {n : Nat} {l : List UInt8} (h : RB w A n l) (i : Nat) : RB w (A.map fun x => x.add i) (n - i) (l.drop i) := by
  refine ⟨by rw [List.length_drop, h.1], ?_⟩
  rw [List.map_drop]
  exact h.2.drop i

/-- a text that is read: its bytes, the place behind it, the error -/
def textOf (l : List UInt8) (r : Nat × Nat × Nat) : List UInt8 × Nat × Nat := if r.2.2 ≠ 0 then ([], 0, r.2.2) else if l.length - r.2.1 < r.1 then ([], 0, 20) else ((l.drop r.2.1).take r.1, r.2.1 + r.1, 0)
def textR (l : List UInt8) (at_ : Int) : List UInt8 × Nat × Nat := textOf l (uintR l at_)
def textEnd (r : List UInt8 × Nat × Nat) : Ending := .returned (.tuple #[.string ⟨r.1.toArray⟩, .int .i64 (r.2.1 : Int), .int .i64 (r.2.2 : Int)])
def TextPost (w : World) (r : List UInt8 × Nat × Nat) (e : Ending) (w' : World) : Prop := e = textEnd r ∧ w' = w

set_option maxRecDepth 100000 in
set_option maxHeartbeats 1000000 in
theorem text_any (A : Option Addr) (m c : Nat) (l : List UInt8) (at_ : Int) (w : World) (h : RB w A m l) (hm : m ≤ 140737488355328) (hc : m ≤ c ∧ c ≤ 9223372036854775807) :
    Calls Tryz.prog 101 #[.slice A m c, .int .i64 at_] w (TextPost w (textR l at_)) := by
  have hto := uintR_to l at_
  have hbad := uintR_bad l at_
  have hU := uint_any A m c l at_ w h hm
  have hT : textR l at_ = textOf l (uintR l at_) := rfl
  rw [hT]
  clear hT
  generalize uintR l at_ = r at hU hto hbad ⊢
  obtain ⟨v, nx, er⟩ := r
  simp only at hto hbad
  have HU := Lib.hid hU
  have hll := h.1
  rw [h.1] at hto
  clear hU
  by_cases he : er = 0
  · subst he
    clear hbad
    by_cases hv : m - nx < v
    · have hv2 : (m : Int) - nx < v := by omega
      have hr : Hid (textOf l (v, nx, 0) = ([], 0, 20)) := by
        show _ = _
        unfold textOf
        simp only
        rw [if_neg (by omega), if_pos (by omega)]
      clear hv hll
      go_enter Tryz.func101, Tryz.ntmps101
      go_wp2_with fail
      refine HU.out.mono ?_
      unfold UintPost uintEnd
      rintro e w1 ⟨rfl, rfl⟩
      go_wp2
      go_ret3
      refine ⟨?_, rfl⟩
      rw [hr.out]
      simp [textEnd]
    · have hv2 : (v : Int) ≤ (m : Int) - nx := by omega
      have hr : Hid (textOf l (v, nx, 0) = ((l.drop nx).take v, nx + v, 0)) := by
        show _ = _
        unfold textOf
        simp only
        rw [if_neg (by omega), if_neg (by omega)]
      have hrb := (h.dropO nx).take (i := v) (by omega)
      have hq1 := run_conv_RB (P := Tryz.prog) (c := c - nx) Tryz.underlying42 Tryz.underlying5 Tryz.underlying9 hrb
      by_cases hcn : c = nx
      · have hv0 : v = 0 := by omega
        subst hv0
        subst hcn
        have h0 : RB w A 0 ((l.drop c).take 0) := ⟨rfl, Rd.nil _ _⟩
        have hq2 := run_conv_RB (P := Tryz.prog) (c := 0) Tryz.underlying42 Tryz.underlying5 Tryz.underlying9 h0
        clear hv hll hrb h0 hq1
        go_enter Tryz.func101, Tryz.ntmps101
        go_wp2_with fail
        refine HU.out.mono ?_
        unfold UintPost uintEnd
        rintro e w1 ⟨rfl, rfl⟩
        go_wp2
        go_ret3
        refine ⟨?_, rfl⟩
        rw [hr.out]
        simp [textEnd]
      · clear hv hll hrb
        go_enter Tryz.func101, Tryz.ntmps101
        go_wp2_with fail
        refine HU.out.mono ?_
        unfold UintPost uintEnd
        rintro e w1 ⟨rfl, rfl⟩
        go_wp2
        go_ret3
        refine ⟨?_, rfl⟩
        rw [hr.out]
        simp [textEnd]
  · have h3 : ((er : Int) != 0) = true := by simp; omega
    obtain ⟨h4, h5⟩ := hbad he
    subst h4 h5
    have hr : Hid (textOf l (0, 0, er) = ([], 0, er)) := by
      show _ = _
      unfold textOf
      simp only
      rw [if_pos he]
    clear he hbad hll
    go_enter Tryz.func101, Tryz.ntmps101
    go_wp2_with fail
    refine HU.out.mono ?_
    unfold UintPost uintEnd
    rintro e w1 ⟨rfl, rfl⟩
    go_wp2
    go_ret3
    refine ⟨?_, rfl⟩
    rw [hr.out]
    simp [textEnd]

set_option maxRecDepth 100000 in
set_option maxHeartbeats 1000000 in
theorem refText_any (A : Option Addr) (m c : Nat) (l : List UInt8) (at_ : Int) (w : World) (h : RB w A m l) (hm : m ≤ 140737488355328) (hc : m ≤ c ∧ c ≤ 9223372036854775807) :
    Calls Tryz.prog 92 #[.slice A m c, .int .i64 at_] w (TextPost w (textR l at_)) := by
  have hto := uintR_to l at_
  have hbad := uintR_bad l at_
  have hU := refUint_any A m c l at_ w h hm
  have hT : textR l at_ = textOf l (uintR l at_) := rfl
  rw [hT]
  clear hT
  generalize uintR l at_ = r at hU hto hbad ⊢
  obtain ⟨v, nx, er⟩ := r
  simp only at hto hbad
  have HU := Lib.hid hU
  have hll := h.1
  rw [h.1] at hto
  clear hU
  by_cases he : er = 0
  · subst he
    clear hbad
    by_cases hv : m - nx < v
    · have hv2 : (m : Int) - nx < v := by omega
      have hr : Hid (textOf l (v, nx, 0) = ([], 0, 20)) := by
        show _ = _
        unfold textOf
        simp only
        rw [if_neg (by omega), if_pos (by omega)]
      clear hv hll
      go_enter Tryz.func92, Tryz.ntmps92
      go_wp2_with fail
      refine HU.out.mono ?_
      unfold UintPost uintEnd
      rintro e w1 ⟨rfl, rfl⟩
      go_wp2
      go_ret3
      refine ⟨?_, rfl⟩
      rw [hr.out]
      simp [textEnd]
    · have hv2 : (v : Int) ≤ (m : Int) - nx := by omega
      have hr : Hid (textOf l (v, nx, 0) = ((l.drop nx).take v, nx + v, 0)) := by
        show _ = _
        unfold textOf
        simp only
        rw [if_neg (by omega), if_neg (by omega)]
      have hrb := (h.dropO nx).take (i := v) (by omega)
      have hq1 := run_conv_RB (P := Tryz.prog) (c := c - nx) Tryz.underlying42 Tryz.underlying5 Tryz.underlying9 hrb
      by_cases hcn : c = nx
      · have hv0 : v = 0 := by omega
        subst hv0
        subst hcn
        have h0 : RB w A 0 ((l.drop c).take 0) := ⟨rfl, Rd.nil _ _⟩
        have hq2 := run_conv_RB (P := Tryz.prog) (c := 0) Tryz.underlying42 Tryz.underlying5 Tryz.underlying9 h0
        clear hv hll hrb h0 hq1
        go_enter Tryz.func92, Tryz.ntmps92
        go_wp2_with fail
        refine HU.out.mono ?_
        unfold UintPost uintEnd
        rintro e w1 ⟨rfl, rfl⟩
        go_wp2
        go_ret3
        refine ⟨?_, rfl⟩
        rw [hr.out]
        simp [textEnd]
      · clear hv hll hrb
        go_enter Tryz.func92, Tryz.ntmps92
        go_wp2_with fail
        refine HU.out.mono ?_
        unfold UintPost uintEnd
        rintro e w1 ⟨rfl, rfl⟩
        go_wp2
        go_ret3
        refine ⟨?_, rfl⟩
        rw [hr.out]
        simp [textEnd]
  · have h3 : ((er : Int) != 0) = true := by simp; omega
    obtain ⟨h4, h5⟩ := hbad he
    subst h4 h5
    have hr : Hid (textOf l (0, 0, er) = ([], 0, er)) := by
      show _ = _
      unfold textOf
      simp only
      rw [if_pos he]
    clear he hbad hll
    go_enter Tryz.func92, Tryz.ntmps92
    go_wp2_with fail
    refine HU.out.mono ?_
    unfold UintPost uintEnd
    rintro e w1 ⟨rfl, rfl⟩
    go_wp2
    go_ret3
    refine ⟨?_, rfl⟩
    rw [hr.out]
    simp [textEnd]
end Go.Proofs.YtjoaonppaokhhaaGreat

namespace Go.Proofs.YtjoaonppaokhhaaGreat

/-- one step of the sum -/
def cs (c : Nat) : Nat := if c % 2 = 1 then (c / 2) ^^^ 3988292384 else c / 2
def cs4 (c : Nat) : Nat := cs (cs (cs (cs c)))
/-- a byte more -/
def crcB (c x : Nat) : Nat := cs4 (cs4 (c ^^^ x))
def crcL (c : Nat) (l : List UInt8) : Nat := l.foldl (fun c x => crcB c x.toNat) c
/-- the sum of bytes -/
def crc (l : List UInt8) : Nat := crcL 4294967295 l ^^^ 4294967295

theorem cs_lt {c : Nat} (h : c < 4294967296) : cs c < 4294967296 := by
  unfold cs
  split
  · exact Nat.xor_lt_two_pow (n := 32) (by omega) (by decide)
  · omega
theorem cs4_lt {c : Nat} (h : c < 4294967296) : cs4 c < 4294967296 := cs_lt (cs_lt (cs_lt (cs_lt h)))
theorem xor_lt32 {a b : Nat} (h : a < 4294967296) (h2 : b < 4294967296) : a ^^^ b < 4294967296 := Nat.xor_lt_two_pow (n := 32) h h2
theorem crcB_lt {c x : Nat} (h : c < 4294967296) (h2 : x < 4294967296) : crcB c x < 4294967296 := cs4_lt (cs4_lt (xor_lt32 h h2))
theorem crcL_lt (l : List UInt8) : ∀ {c : Nat}, c < 4294967296 → crcL c l < 4294967296 := by
  induction l with
  | nil => intro c h; exact h
  | cons x l ih => intro c h; exact ih (crcB_lt h (by have := x.toNat_lt; omega))
theorem crc_lt (l : List UInt8) : crc l < 4294967296 := xor_lt32 (crcL_lt l (by decide)) (by decide)
theorem xor_half (a b : Nat) : (a ^^^ b) / 2 = (a / 2) ^^^ (b / 2) := by
  apply Nat.eq_of_testBit_eq
  intro i
  rw [Nat.testBit_div_two, Nat.testBit_xor, Nat.testBit_xor, Nat.testBit_div_two, Nat.testBit_div_two]
theorem xor_par (a b : Nat) : (a ^^^ b) % 2 = (a + b) % 2 := by
  have h : (a ^^^ b).testBit 0 = ((a.testBit 0) ^^ (b.testBit 0)) := Nat.testBit_xor a b 0
  rw [Nat.testBit_zero, Nat.testBit_zero, Nat.testBit_zero] at h
  rcases Nat.mod_two_eq_zero_or_one a with h1 | h1 <;> rcases Nat.mod_two_eq_zero_or_one b with h2 | h2 <;> rcases Nat.mod_two_eq_zero_or_one (a ^^^ b) with h3 | h3 <;>
    first
      | omega
      | (rw [h1, h2, h3] at h; exact absurd h (by decide))
theorem cs_xor (a b : Nat) : cs (a ^^^ b) = cs a ^^^ cs b := by
  unfold cs
  rw [xor_par, xor_half]
  rcases Nat.mod_two_eq_zero_or_one a with h1 | h1 <;> rcases Nat.mod_two_eq_zero_or_one b with h2 | h2
  · rw [if_neg (by omega), if_neg (by omega), if_neg (by omega)]
  · rw [if_pos (by omega), if_neg (by omega), if_pos (by omega), Nat.xor_assoc]
  · rw [if_pos (by omega), if_pos (by omega), if_neg (by omega), Nat.xor_assoc, Nat.xor_assoc, Nat.xor_comm (b / 2)]
  · rw [if_neg (by omega), if_pos (by omega), if_pos (by omega)]
    have : ∀ p q r : Nat, (p ^^^ r) ^^^ (q ^^^ r) = p ^^^ q := fun p q r => by
      rw [Nat.xor_assoc, ← Nat.xor_assoc r q r, Nat.xor_comm r q, Nat.xor_assoc q r r, Nat.xor_self, Nat.xor_zero]
    rw [this]
theorem cs4_xor (a b : Nat) : cs4 (a ^^^ b) = cs4 a ^^^ cs4 b := by unfold cs4; simp only [cs_xor]
theorem cs_double (q : Nat) : cs (2 * q) = q := by unfold cs; rw [if_neg (by omega)]; omega
theorem cs4_16 (q : Nat) : cs4 (16 * q) = q := by
  unfold cs4
  rw [show 16 * q = 2 * (2 * (2 * (2 * q))) from by omega]
  simp only [cs_double]
/-- four steps at once, by a table of sixteen -/
theorem cs4_tab (c : Nat) : cs4 c = (c / 16) ^^^ cs4 (c % 16) := by
  have h : c = (16 * (c / 16)) ^^^ (c % 16) := by
    have h1 := nat_join 4 (16 * (c / 16)) (c % 16) (by omega) (by omega)
    have h2 : (16 * (c / 16)) ^^^ (c % 16) = (16 * (c / 16)) ||| (c % 16) := by
      apply Nat.eq_of_testBit_eq
      intro i
      rw [Nat.testBit_xor, Nat.testBit_or]
      by_cases hi : i < 4
      · have : (16 * (c / 16)).testBit i = false := by
          rw [show 16 * (c / 16) = (c / 16) * 2 ^ 4 from by omega, Nat.testBit_mul_two_pow]
          simp; omega
        simp [this]
      · have : (c % 16).testBit i = false := Nat.testBit_lt_two_pow (Nat.lt_of_lt_of_le (Nat.mod_lt _ (by omega)) (Nat.pow_le_pow_right (show 2 > 0 by omega) (show 4 ≤ i by omega)))
        simp [this]
    rw [h2, h1]
    omega
  conv => lhs; rw [h]
  rw [cs4_xor, cs4_16]

theorem cs_zero {c : Nat} (h : c < 4294967296) (h0 : cs c = 0) : c = 0 := by
  unfold cs at h0
  split at h0
  · have : c / 2 = 3988292384 := by
      have h1 := congrArg (· ^^^ 3988292384) h0
      simp only [Nat.xor_assoc, Nat.xor_self, Nat.xor_zero, Nat.zero_xor] at h1
      exact h1
    omega
  · omega
theorem cs4_zero {c : Nat} (h : c < 4294967296) (h0 : cs4 c = 0) : c = 0 :=
  cs_zero h (cs_zero (cs_lt h) (cs_zero (cs_lt (cs_lt h)) (cs_zero (cs_lt (cs_lt (cs_lt h))) h0)))
theorem xor_eq_zero {a b : Nat} (h : a ^^^ b = 0) : a = b := by
  have h1 := congrArg (· ^^^ b) h
  simp only [Nat.xor_assoc, Nat.xor_self, Nat.xor_zero, Nat.zero_xor] at h1
  exact h1
theorem crcB_diff (c d x y : Nat) : crcB c x ^^^ crcB d y = cs4 (cs4 ((c ^^^ d) ^^^ (x ^^^ y))) := by
  unfold crcB
  rw [← cs4_xor, ← cs4_xor]
  congr 2
  rw [Nat.xor_assoc, ← Nat.xor_assoc x d y, Nat.xor_comm x d, Nat.xor_assoc d x y, ← Nat.xor_assoc]
theorem crcB_inj {c d x : Nat} (hc : c < 4294967296) (hd : d < 4294967296) (h : crcB c x = crcB d x) : c = d := by
  have h1 := crcB_diff c d x x
  rw [h, Nat.xor_self, Nat.xor_self, Nat.xor_zero] at h1
  exact xor_eq_zero (cs4_zero (xor_lt32 hc hd) (cs4_zero (cs4_lt (xor_lt32 hc hd)) h1.symm))
theorem crcB_inj2 {c x y : Nat} (hx : x < 4294967296) (hy : y < 4294967296) (h : crcB c x = crcB c y) : x = y := by
  have h1 := crcB_diff c c x y
  rw [h, Nat.xor_self, Nat.xor_self, Nat.zero_xor] at h1
  exact xor_eq_zero (cs4_zero (xor_lt32 hx hy) (cs4_zero (cs4_lt (xor_lt32 hx hy)) h1.symm))
theorem crcL_inj (l : List UInt8) : ∀ {c d : Nat}, c < 4294967296 → d < 4294967296 → crcL c l = crcL d l → c = d := by
  induction l with
  | nil => intro c d _ _ h; exact h
  | cons x l ih =>
    intro c d hc hd h
    have hx := x.toNat_lt
    exact crcB_inj hc hd (ih (crcB_lt hc (by omega)) (crcB_lt hd (by omega)) h)
theorem crcL_append (c : Nat) (a b : List UInt8) : crcL c (a ++ b) = crcL (crcL c a) b := by unfold crcL; rw [List.foldl_append]
/-- one byte that differs makes another sum -/
theorem crc_turned (a b : List UInt8) (x y : UInt8) (h : x ≠ y) : crc (a ++ x :: b) ≠ crc (a ++ y :: b) := by
  intro e
  unfold crc at e
  have e1 : crcL 4294967295 (a ++ x :: b) = crcL 4294967295 (a ++ y :: b) := by
    have h1 := congrArg (· ^^^ 4294967295) e
    simp only [Nat.xor_assoc, Nat.xor_self, Nat.xor_zero] at h1
    exact h1
  rw [crcL_append, crcL_append] at e1
  have hc := crcL_lt a (c := 4294967295) (by decide)
  generalize crcL 4294967295 a = c at e1 hc
  have hx := x.toNat_lt
  have hy := y.toNat_lt
  have e2 : crcB c x.toNat = crcB c y.toNat := crcL_inj b (crcB_lt hc (by omega)) (crcB_lt hc (by omega)) e1
  exact h (UInt8.toNat_inj.1 (crcB_inj2 (by omega) (by omega) e2))
end Go.Proofs.YtjoaonppaokhhaaGreat
