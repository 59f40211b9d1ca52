/-
  Package codec and its reference: Int and Text: what each call answers. Conditions: lengths that memory bears.
-/
import Derived.Test.YtbilppcfijpblaaCx
import Derived.Laws.BytesString
namespace Go.Proofs.Ytbilppcfijpblaa
open Go.RowKit

theorem uintR_bad (l : List UInt8) (at_ : Int) (h : (uintR l at_).2.2 ≠ 0) : (uintR l at_).1 = 0 ∧ (uintR l at_).2.1 = 0 := by
  unfold uintR at *
  split at h <;> rename_i h1
  · rw [if_pos h1]
    split at h <;> rename_i h2
    · exact absurd rfl h
    · rw [if_neg h2]
      exact ⟨rfl, rfl⟩
  · rw [if_neg h1]
    exact ⟨rfl, rfl⟩
theorem uintR_err (l : List UInt8) (at_ : Int) : (uintR l at_).2.2 = 0 ∨ (uintR l at_).2.2 = 20 ∨ (uintR l at_).2.2 = 21 := by
  unfold uintR
  split
  · split
    · exact .inl rfl
    · exact ur_err _ _ _
  · exact .inr (.inl rfl)
theorem uintR_ok (l : List UInt8) (at_ : Int) (h : (uintR l at_).2.2 = 0) : ∃ t : Nat, at_ = t ∧ t ≤ l.length ∧ (uintR l at_).1 < 18446744073709551616 ∧ (uintR l at_).2.1 = t + (uv (uintR l at_).1).length ∧
    (l.drop t).take (uv (uintR l at_).1).length = uv (uintR l at_).1 ∧ t + (uv (uintR l at_).1).length ≤ l.length := by
  unfold uintR at *
  split at h <;> rename_i h1
  · rw [if_pos h1]
    split at h <;> rename_i h2
    · rw [if_pos h2]
      obtain ⟨v, e1, e2, e3, e4, _, e6⟩ := ur_back (l.drop at_.toNat) 0 0 (by omega) h2
      simp only [Nat.mul_zero, Nat.pow_zero, Nat.mul_one, Nat.zero_add] at e1 e2 e6
      rw [e1, e2]
      rw [List.length_drop] at e4
      exact ⟨at_.toNat, by omega, by omega, e6, rfl, e3, by omega⟩
    · exact absurd h h2
  · cases h
theorem uintR_lt (l : List UInt8) (at_ : Int) : (uintR l at_).1 < 18446744073709551616 := by
  by_cases h : (uintR l at_).2.2 = 0
  · exact (uintR_ok l at_ h).choose_spec.2.2.1
  · rw [(uintR_bad l at_ h).1]; omega
theorem uintR_to (l : List UInt8) (at_ : Int) : (uintR l at_).2.1 ≤ l.length := by
  by_cases h : (uintR l at_).2.2 = 0
  · obtain ⟨t, _, _, _, e, _, h2⟩ := uintR_ok l at_ h
    omega
  · rw [(uintR_bad l at_ h).2]; omega

theorem xor_neg (n : Nat) (h : n < 9223372036854775808) : bits .xor .i64 (n : Int) (-1) = -(n : Int) - 1 := by
  show IntKind.i64.wrap ((BitVec.ofInt 64 (n : Int) ^^^ BitVec.ofInt 64 (-1)).toNat : Int) = _
  have h1 : (BitVec.ofInt 64 (-1)).toNat = 18446744073709551615 := by decide
  have h2 : (BitVec.ofInt 64 (n : Int)).toNat = n := by rw [BitVec.ofInt_natCast, BitVec.toNat_ofNat]; exact Nat.mod_eq_of_lt (by omega)
  rw [BitVec.toNat_xor, h1, h2, xor_ones _ (by omega), IntKind.wrap_i64]
  omega
theorem xor_none (n : Nat) (h : n < 9223372036854775808) : bits .xor .i64 (n : Int) 0 = (n : Int) := by
  show IntKind.i64.wrap ((BitVec.ofInt 64 (n : Int) ^^^ BitVec.ofInt 64 0).toNat : Int) = _
  have h2 : (BitVec.ofInt 64 (n : Int)).toNat = n := by rw [BitVec.ofInt_natCast, BitVec.toNat_ofNat]; exact Nat.mod_eq_of_lt (by omega)
  rw [BitVec.toNat_xor, h2, show (BitVec.ofInt 64 0).toNat = 0 from rfl, Nat.xor_zero, IntKind.wrap_i64]
  omega
theorem and1 (v : Nat) (h : v < 18446744073709551616) : bits .and .u64 (v : Int) 1 = ((v % 2 : Nat) : Int) := by
  have := u64_and_nat v 1 h (by omega)
  rw [show ((1 : Nat) : Int) = 1 from rfl] at this
  rw [this, nat_mask1]
theorem uz_walk (v : Nat) (h : v < 18446744073709551616) : bits .xor .i64 ((v : Int) / 2) (wrap64 (-wrap64 (bits .and .u64 (v : Int) 1))) = uz v := by
  rw [and1 v h]
  have e : (v : Int) / 2 = ((v / 2 : Nat) : Int) := by simp
  rw [e]
  rcases Nat.mod_two_eq_zero_or_one v with h2 | h2
  · rw [h2, show wrap64 (-wrap64 ((0 : Nat) : Int)) = 0 from by unfold wrap64; decide, xor_none _ (by omega)]
    unfold uz
    rw [if_pos h2]
  · rw [h2, show wrap64 (-wrap64 ((1 : Nat) : Int)) = -1 from by unfold wrap64; decide, xor_neg _ (by omega)]
    unfold uz
    rw [if_neg (by omega)]

/-- what a reading of a signed number ends in -/
def IntPost (w : World) (r : Nat × Nat × Nat) (e : Ending) (w' : World) : Prop := e = .returned (.tuple #[.int .i64 (uz r.1), .int .i64 (r.2.1 : Int), .int .i64 (r.2.2 : Int)]) ∧ w' = w

set_option maxHeartbeats 1000000 in
theorem int_any (A : Option Addr) (m c : Nat) (l : List UInt8) (at_ : Int) (w : World) (h : RB w A m l) (hm : m ≤ 140737488355328) :
    Calls Try.prog 25 #[.slice A m c, .int .i64 at_] w (IntPost w (uintR l at_)) := by
  have hu := uintR_lt l at_
  have hU := uint_any A m c l at_ w h hm
  generalize uintR l at_ = r at hU hu ⊢
  have HU := Lib.hid hU
  clear hU
  go_enter Try.func25, Try.ntmps25
  go_wp2_with fail
  refine HU.out.mono ?_
  unfold UintPost uintEnd
  rintro e w1 ⟨rfl, rfl⟩
  have hz := uz_walk r.1 hu
  have Hz := Lib.hid hz
  clear hz
  go_wp2
  go_ret3
  exact ⟨by simp [Hz.out], rfl⟩

set_option maxHeartbeats 1000000 in
theorem refInt_any (A : Option Addr) (m c : Nat) (l : List UInt8) (at_ : Int) (w : World) (h : RB w A m l) (hm : m ≤ 140737488355328) :
    Calls Try.prog 29 #[.slice A m c, .int .i64 at_] w (IntPost w (uintR l at_)) := by
  have hu := uintR_lt l at_
  have hbad := uintR_bad l at_
  have herr := uintR_err l at_
  have hU := refUint_any A m c l at_ w h hm
  generalize uintR l at_ = r at hU hu hbad herr ⊢
  have HU := Lib.hid hU
  clear hU
  go_enter Try.func29, Try.ntmps29
  go_wp2_with fail
  refine HU.out.mono ?_
  unfold UintPost uintEnd
  rintro e w1 ⟨rfl, rfl⟩
  obtain ⟨v, nx, er⟩ := r
  simp only at hu hbad herr ⊢
  by_cases he : er = 0
  · subst he
    have ha := and1 v hu
    have Ha := Lib.hid ha
    clear ha hbad herr
    by_cases h2 : v % 2 = 0
    · have h3 : (bits .and .u64 (v : Int) 1 == 0) = true := by rw [Ha.out, h2]; rfl
      have hz : Hid (uz v = ((v / 2 : Nat) : Int)) := by show _ = _; unfold uz; rw [if_pos h2]
      clear h2 Ha
      go_wp2
      go_ret3
      exact ⟨by simp [hz.out], rfl⟩
    · have h3 : (bits .and .u64 (v : Int) 1 == 0) = false := by rw [Ha.out, show v % 2 = 1 from by omega]; rfl
      have hz : Hid (uz v = -((v / 2 : Nat) : Int) - 1) := by show _ = _; unfold uz; rw [if_neg h2]
      clear h2 Ha
      go_wp2
      go_ret3
      exact ⟨by simp [hz.out], rfl⟩
  · have h3 : ((er : Int) != 0) = true := by simp; omega
    obtain ⟨h4, h5⟩ := hbad he
    subst h4 h5
    clear he hbad herr
    go_wp2
    go_ret3
    exact ⟨by simp [uz], rfl⟩

theorem foldl_push (l : List UInt8) : ∀ s : ByteArray, (l.map fun c => (c.toNat : Int)).foldl (fun r n => r.push (UInt8.ofNat n.toNat)) s = ⟨s.data ++ l.toArray⟩ := by
  induction l with
  | nil => intro s; simp
  | cons c l ih =>
    intro s
    rw [List.map_cons, List.foldl_cons, ih]
    congr 1
    have : UInt8.ofNat ((c.toNat : Int)).toNat = c := UInt8.toNat_inj.1 (by rw [Int.toNat_natCast, ofNat_toNat c.toNat_lt])
    rw [this]
    simp [ByteArray.push]
theorem run_conv_RB {P : Program} {w : World} {src dst e : TypeId} (hs : P.underlying src = some (.slice e)) (he : P.underlying e = some (.int .u8)) (hd : P.underlying dst = some .string)
    {A : Option Addr} {n c : Nat} {l : List UInt8} (h : RB w A n l) : (convert src dst (.slice A n c)).run P w = .ok (.string ⟨l.toArray⟩) w := by
  rw [run_convert_bytes_string w src dst e A n c hs he hd]
  have hf := firstCells_rd (P := P) w 1 n c A (l.map byt) (by simpa using h.1) h.2
  rcases A with _ | ad
  · have hl : l = [] := by
      rcases l with _ | ⟨x, r⟩
      · rfl
      · obtain ⟨ad, e, _⟩ := h.2 0 (byt x) rfl
        cases e
    subst hl
    rfl
  · simp only [Builtin.firstCells, Nat.mul_one] at hf
    have := run_bytesToString (P := P) w ad n c (l.map fun c => (c.toNat : Int)) (by rw [hf]; simp [byt])
    rw [this, foldl_push]
    simp
theorem RB.dropO {w : World} {A : Option Addr} {n : Nat} {l : List UInt8} (h : RB w A n l) (i : Nat) : RB w (A.map fun x => x.add i) (n - i) (l.drop i) := by
  refine ⟨by rw [List.length_drop, h.1], ?_⟩
  rw [List.map_drop]
  exact h.2.drop i

/-- a text that is read: its bytes, the place behind it, the error -/
def textOf (l : List UInt8) (r : Nat × Nat × Nat) : List UInt8 × Nat × Nat := if r.2.2 ≠ 0 then ([], 0, r.2.2) else if l.length - r.2.1 < r.1 then ([], 0, 20) else ((l.drop r.2.1).take r.1, r.2.1 + r.1, 0)
def textR (l : List UInt8) (at_ : Int) : List UInt8 × Nat × Nat := textOf l (uintR l at_)
def textEnd (r : List UInt8 × Nat × Nat) : Ending := .returned (.tuple #[.string ⟨r.1.toArray⟩, .int .i64 (r.2.1 : Int), .int .i64 (r.2.2 : Int)])
def TextPost (w : World) (r : List UInt8 × Nat × Nat) (e : Ending) (w' : World) : Prop := e = textEnd r ∧ w' = w

set_option maxHeartbeats 1000000 in
theorem text_any (A : Option Addr) (m c : Nat) (l : List UInt8) (at_ : Int) (w : World) (h : RB w A m l) (hm : m ≤ 140737488355328) (hc : m ≤ c ∧ c ≤ 9223372036854775807) :
    Calls Try.prog 26 #[.slice A m c, .int .i64 at_] w (TextPost w (textR l at_)) := by
  have hto := uintR_to l at_
  have hbad := uintR_bad l at_
  have hU := uint_any A m c l at_ w h hm
  have hT : textR l at_ = textOf l (uintR l at_) := rfl
  rw [hT]
  clear hT
  generalize uintR l at_ = r at hU hto hbad ⊢
  obtain ⟨v, nx, er⟩ := r
  simp only at hto hbad
  have HU := Lib.hid hU
  have hll := h.1
  rw [h.1] at hto
  clear hU
  by_cases he : er = 0
  · subst he
    clear hbad
    by_cases hv : m - nx < v
    · have hv2 : (m : Int) - nx < v := by omega
      have hr : Hid (textOf l (v, nx, 0) = ([], 0, 20)) := by
        show _ = _
        unfold textOf
        simp only
        rw [if_neg (by omega), if_pos (by omega)]
      clear hv hll
      go_enter Try.func26, Try.ntmps26
      go_wp2_with fail
      refine HU.out.mono ?_
      unfold UintPost uintEnd
      rintro e w1 ⟨rfl, rfl⟩
      go_wp2
      go_ret3
      refine ⟨?_, rfl⟩
      rw [hr.out]
      simp [textEnd]
    · have hv2 : (v : Int) ≤ (m : Int) - nx := by omega
      have hr : Hid (textOf l (v, nx, 0) = ((l.drop nx).take v, nx + v, 0)) := by
        show _ = _
        unfold textOf
        simp only
        rw [if_neg (by omega), if_neg (by omega)]
      have hrb := (h.dropO nx).take (i := v) (by omega)
      have hq1 := run_conv_RB (P := Try.prog) (c := c - nx) Try.underlying22 Try.underlying5 Try.underlying9 hrb
      by_cases hcn : c = nx
      · have hv0 : v = 0 := by omega
        subst hv0
        subst hcn
        have h0 : RB w A 0 ((l.drop c).take 0) := ⟨rfl, Rd.nil _ _⟩
        have hq2 := run_conv_RB (P := Try.prog) (c := 0) Try.underlying22 Try.underlying5 Try.underlying9 h0
        clear hv hll hrb h0 hq1
        go_enter Try.func26, Try.ntmps26
        go_wp2_with fail
        refine HU.out.mono ?_
        unfold UintPost uintEnd
        rintro e w1 ⟨rfl, rfl⟩
        go_wp2
        go_ret3
        refine ⟨?_, rfl⟩
        rw [hr.out]
        simp [textEnd]
      · clear hv hll hrb
        go_enter Try.func26, Try.ntmps26
        go_wp2_with fail
        refine HU.out.mono ?_
        unfold UintPost uintEnd
        rintro e w1 ⟨rfl, rfl⟩
        go_wp2
        go_ret3
        refine ⟨?_, rfl⟩
        rw [hr.out]
        simp [textEnd]
  · have h3 : ((er : Int) != 0) = true := by simp; omega
    obtain ⟨h4, h5⟩ := hbad he
    subst h4 h5
    have hr : Hid (textOf l (0, 0, er) = ([], 0, er)) := by
      show _ = _
      unfold textOf
      simp only
      rw [if_pos he]
    clear he hbad hll
    go_enter Try.func26, Try.ntmps26
    go_wp2_with fail
    refine HU.out.mono ?_
    unfold UintPost uintEnd
    rintro e w1 ⟨rfl, rfl⟩
    go_wp2
    go_ret3
    refine ⟨?_, rfl⟩
    rw [hr.out]
    simp [textEnd]

set_option maxHeartbeats 1000000 in
theorem refText_any (A : Option Addr) (m c : Nat) (l : List UInt8) (at_ : Int) (w : World) (h : RB w A m l) (hm : m ≤ 140737488355328) (hc : m ≤ c ∧ c ≤ 9223372036854775807) :
    Calls Try.prog 30 #[.slice A m c, .int .i64 at_] w (TextPost w (textR l at_)) := by
  have hto := uintR_to l at_
  have hbad := uintR_bad l at_
  have hU := refUint_any A m c l at_ w h hm
  have hT : textR l at_ = textOf l (uintR l at_) := rfl
  rw [hT]
  clear hT
  generalize uintR l at_ = r at hU hto hbad ⊢
  obtain ⟨v, nx, er⟩ := r
  simp only at hto hbad
  have HU := Lib.hid hU
  have hll := h.1
  rw [h.1] at hto
  clear hU
  by_cases he : er = 0
  · subst he
    clear hbad
    by_cases hv : m - nx < v
    · have hv2 : (m : Int) - nx < v := by omega
      have hr : Hid (textOf l (v, nx, 0) = ([], 0, 20)) := by
        show _ = _
        unfold textOf
        simp only
        rw [if_neg (by omega), if_pos (by omega)]
      clear hv hll
      go_enter Try.func30, Try.ntmps30
      go_wp2_with fail
      refine HU.out.mono ?_
      unfold UintPost uintEnd
      rintro e w1 ⟨rfl, rfl⟩
      go_wp2
      go_ret3
      refine ⟨?_, rfl⟩
      rw [hr.out]
      simp [textEnd]
    · have hv2 : (v : Int) ≤ (m : Int) - nx := by omega
      have hr : Hid (textOf l (v, nx, 0) = ((l.drop nx).take v, nx + v, 0)) := by
        show _ = _
        unfold textOf
        simp only
        rw [if_neg (by omega), if_neg (by omega)]
      have hrb := (h.dropO nx).take (i := v) (by omega)
      have hq1 := run_conv_RB (P := Try.prog) (c := c - nx) Try.underlying22 Try.underlying5 Try.underlying9 hrb
      by_cases hcn : c = nx
      · have hv0 : v = 0 := by omega
        subst hv0
        subst hcn
        have h0 : RB w A 0 ((l.drop c).take 0) := ⟨rfl, Rd.nil _ _⟩
        have hq2 := run_conv_RB (P := Try.prog) (c := 0) Try.underlying22 Try.underlying5 Try.underlying9 h0
        clear hv hll hrb h0 hq1
        go_enter Try.func30, Try.ntmps30
        go_wp2_with fail
        refine HU.out.mono ?_
        unfold UintPost uintEnd
        rintro e w1 ⟨rfl, rfl⟩
        go_wp2
        go_ret3
        refine ⟨?_, rfl⟩
        rw [hr.out]
        simp [textEnd]
      · clear hv hll hrb
        go_enter Try.func30, Try.ntmps30
        go_wp2_with fail
        refine HU.out.mono ?_
        unfold UintPost uintEnd
        rintro e w1 ⟨rfl, rfl⟩
        go_wp2
        go_ret3
        refine ⟨?_, rfl⟩
        rw [hr.out]
        simp [textEnd]
  · have h3 : ((er : Int) != 0) = true := by simp; omega
    obtain ⟨h4, h5⟩ := hbad he
    subst h4 h5
    have hr : Hid (textOf l (0, 0, er) = ([], 0, er)) := by
      show _ = _
      unfold textOf
      simp only
      rw [if_pos he]
    clear he hbad hll
    go_enter Try.func30, Try.ntmps30
    go_wp2_with fail
    refine HU.out.mono ?_
    unfold UintPost uintEnd
    rintro e w1 ⟨rfl, rfl⟩
    go_wp2
    go_ret3
    refine ⟨?_, rfl⟩
    rw [hr.out]
    simp [textEnd]
end Go.Proofs.Ytbilppcfijpblaa
