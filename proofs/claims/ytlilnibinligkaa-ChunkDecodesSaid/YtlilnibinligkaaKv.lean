/-
  Points as bits: what is written, what is read, and that what was written is read back. Conditions: none; no program in sight.
-/
import Derived.Test.YtlilnibinligkaaBv
namespace Go.Proofs.Ytlilnibinligkaa

/-! ### Searching -/
def sF (p : Nat → Bool) : Nat → Nat → Nat
  | 0, a => a
  | f + 1, a => if p a then a else sF p f (a + 1)
theorem sF_spec (p : Nat → Bool) : ∀ f a, a ≤ sF p f a ∧ sF p f a ≤ a + f ∧ (∀ j, a ≤ j → j < sF p f a → p j = false) ∧ (sF p f a < a + f → p (sF p f a) = true)
  | 0, a => ⟨Nat.le_refl _, Nat.le_refl _, fun j h1 h2 => by simp only [sF] at h2; omega, fun h => by simp only [sF] at h; omega⟩
  | f + 1, a => by
    unfold sF
    by_cases h : p a = true
    · rw [if_pos h]
      exact ⟨Nat.le_refl _, by omega, fun j h1 h2 => by omega, fun _ => h⟩
    · rw [if_neg h]
      obtain ⟨h1, h2, h3, h4⟩ := sF_spec p f (a + 1)
      refine ⟨by omega, by omega, fun j hj1 hj2 => ?_, fun hlt => h4 (by omega)⟩
      rcases Nat.eq_or_lt_of_le hj1 with e | e
      · subst e; simpa using h
      · exact h3 j e hj2
theorem sF_eq (p : Nat → Bool) {f a b : Nat} (h0 : a ≤ b) (h1 : b ≤ a + f) (h2 : ∀ j, a ≤ j → j < b → p j = false) (h3 : b < a + f → p b = true) : sF p f a = b := by
  obtain ⟨g1, g2, g3, g4⟩ := sF_spec p f a
  rcases Nat.lt_trichotomy (sF p f a) b with h | h | h
  · have := g4 (by omega)
    rw [h2 _ g1 h] at this
    cases this
  · exact h
  · have := h3 (by omega)
    rw [g3 b h0 h] at this
    cases this

/-- the noughts ahead of the highest 1 of 64 bits, at most 31 -/
def lz (x : Nat) : Nat := sF (fun a => x.testBit (63 - a)) 31 0
/-- the noughts behind the lowest 1 -/
def tz (x : Nat) : Nat := sF (fun b => x.testBit b) 64 0

theorem testBit_high {x n : Nat} (h : x < 2 ^ n) {j : Nat} (hj : n ≤ j) : x.testBit j = false :=
  Nat.testBit_lt_two_pow (Nat.lt_of_lt_of_le h (Nat.pow_le_pow_right (by omega) hj))
theorem exists_bit {x : Nat} (h0 : x ≠ 0) (h : x < 2 ^ 64) : ∃ j, j < 64 ∧ x.testBit j = true := by
  obtain ⟨j, hj⟩ := Nat.exists_testBit_of_ne_zero h0
  refine ⟨j, ?_, hj⟩
  rcases Nat.lt_or_ge j 64 with h' | h'
  · exact h'
  · rw [testBit_high h h'] at hj; cases hj
theorem lz_le (x : Nat) : lz x ≤ 31 := by have := (sF_spec (fun a => x.testBit (63 - a)) 31 0).2.1; unfold lz; omega
theorem tz_bit {x : Nat} (h0 : x ≠ 0) (h : x < 2 ^ 64) : tz x < 64 ∧ x.testBit (tz x) = true := by
  obtain ⟨j, hj, hb⟩ := exists_bit h0 h
  obtain ⟨g1, g2, g3, g4⟩ := sF_spec (fun b => x.testBit b) 64 0
  have hlt : tz x < 64 := by
    unfold tz
    rcases Nat.lt_or_ge (sF (fun b => x.testBit b) 64 0) 64 with h' | h'
    · exact h'
    · have := g3 j (by omega) (by omega)
      rw [hb] at this
      cases this
  exact ⟨hlt, g4 (by unfold tz at hlt; omega)⟩
theorem tz_below {x j : Nat} (hj : j < tz x) : x.testBit j = false := (sF_spec (fun b => x.testBit b) 64 0).2.2.1 j (by omega) hj
theorem lz_above {x j : Nat} (hj : j < lz x) : x.testBit (63 - j) = false := (sF_spec (fun a => x.testBit (63 - a)) 31 0).2.2.1 j (by omega) hj
theorem lz_tz {x : Nat} (h0 : x ≠ 0) (h : x < 2 ^ 64) : lz x + tz x ≤ 63 := by
  obtain ⟨h1, h2⟩ := tz_bit h0 h
  have h3 := lz_le x
  rcases Nat.lt_or_ge (63 - tz x) (lz x) with h' | h'
  · have := lz_above h'
    rw [show 63 - (63 - tz x) = tz x by omega, h2] at this
    cases this
  · omega
theorem lz_lt {x : Nat} (h : x < 2 ^ 64) : x < 2 ^ (64 - lz x) := by
  refine Nat.lt_pow_two_of_testBit x fun i hi => ?_
  rcases Nat.lt_or_ge i 64 with h' | h'
  · have := lz_above (x := x) (j := 63 - i) (by omega)
    rwa [show 63 - (63 - i) = i by omega] at this
  · exact testBit_high h h'
theorem tz_div (x : Nat) : x / 2 ^ tz x * 2 ^ tz x = x := by
  refine Nat.eq_of_testBit_eq fun i => ?_
  rw [Nat.testBit_mul_two_pow, Nat.testBit_div_two_pow]
  by_cases hi : tz x ≤ i
  · simp [hi]
  · simp [hi, tz_below (x := x) (j := i) (by omega)]
theorem div_of_tz {x b : Nat} (h : b ≤ tz x) : x / 2 ^ b * 2 ^ b = x := by
  refine Nat.eq_of_testBit_eq fun i => ?_
  rw [Nat.testBit_mul_two_pow, Nat.testBit_div_two_pow]
  by_cases hi : b ≤ i
  · simp [hi]
  · simp [hi, tz_below (x := x) (j := i) (by omega)]
theorem lt_of_lz {x a : Nat} (hx : x < 2 ^ 64) (h : a ≤ lz x) : x < 2 ^ (64 - a) :=
  Nat.lt_of_lt_of_le (lz_lt hx) (Nat.pow_le_pow_right (by omega) (by omega))

/-! ### Writing -/
abbrev Pnt := Int × Nat
abbrev Win := Nat × Nat × Bool
/-- how a difference of differences is told -/
def cls (z : Int) : Nat × Nat × Nat :=
  if z = 0 then (0, 1, 0) else if -64 ≤ z ∧ z ≤ 63 then (2, 2, 7) else if -256 ≤ z ∧ z ≤ 255 then (6, 3, 9) else if -2048 ≤ z ∧ z ≤ 2047 then (14, 4, 12) else (15, 4, 64)
def u64 (z : Int) : Nat := (z % 18446744073709551616).toNat
def zB (z : Int) : List Bool := toBits (cls z).1 (cls z).2.1 ++ toBits (u64 z) (cls z).2.2
def valB (w : Win) (x : Nat) : List Bool × Win :=
  if x = 0 then ([false], w) else
  if w.2.2 = true ∧ w.1 ≤ lz x ∧ w.2.1 ≤ tz x then (toBits 1 1 ++ toBits 0 1 ++ toBits (x / 2 ^ w.2.1) (64 - w.1 - w.2.1), w)
  else (toBits 1 1 ++ toBits 1 1 ++ toBits (lz x) 5 ++ toBits (63 - lz x - tz x) 6 ++ toBits (x / 2 ^ tz x) (64 - lz x - tz x), (lz x, tz x, true))
def encGo : Pnt → Int → Win → List Pnt → List Bool
  | _, _, _, [] => []
  | p, d, w, q :: r => zB (q.1 - p.1 - d) ++ (valB w (q.2 ^^^ p.2)).1 ++ encGo q (q.1 - p.1) (valB w (q.2 ^^^ p.2)).2 r
def headB (p : Pnt) : List Bool := toBits (u64 p.1) 64 ++ toBits p.2 64
def encB (ps : List Pnt) : List Bool :=
  toBits ps.length 13 ++ match ps with
    | [] => []
    | p :: r => headB p ++ encGo p 0 (0, 0, false) r

/-- may points be, but for how many? -/
def Okp (ps : List Pnt) : Prop := ∀ (i : Nat) (p : Pnt), ps[i]? = some p → (-1099511627776 ≤ p.1 ∧ p.1 ≤ 1099511627776) ∧ ∀ q : Pnt, ps[i + 1]? = some q → p.1 < q.1
def Okv (ps : List Pnt) : Prop := ∀ p ∈ ps, p.2 < 18446744073709551616

def WinOk (w : Win) : Prop := w.2.2 = true → w.1 ≤ 31 ∧ w.1 + w.2.1 ≤ 63
theorem valB_ok {w : Win} {x : Nat} (hw : WinOk w) (hx : x < 2 ^ 64) : WinOk (valB w x).2 := by
  unfold valB
  split
  · exact hw
  · rename_i h0
    split
    · exact hw
    · exact fun _ => ⟨lz_le x, lz_tz h0 hx⟩
theorem zB_len (z : Int) : (zB z).length ≤ 68 := by
  unfold zB cls
  simp only [List.length_append, length_toBits]
  repeat' split
  all_goals simp
theorem valB_len (w : Win) (x : Nat) : (valB w x).1.length ≤ 77 := by
  unfold valB
  split
  · simp
  · split
    · simp; omega
    · simp; omega

/-! ### Reading -/
def tk (bs : List Bool) (k : Nat) (s : Nat × Bool) : Nat × Nat × Bool := if s.1 + k ≤ bs.length then (val ((bs.drop s.1).take k), s.1 + k, s.2) else (0, s.1, true)
/-- w bits as a signed number -/
def sx (v w : Nat) : Int := if v < 2 ^ (w - 1) then (v : Int) else (v : Int) - 2 ^ w
def wr64 (x : Int) : Int := IntKind.i64.wrap x

theorem tk_at (pre Y rest : List Bool) (b : Bool) : tk (pre ++ (Y ++ rest)) Y.length (pre.length, b) = (val Y, (pre ++ Y).length, b) := by
  unfold tk
  rw [if_pos (by simp only [List.length_append]; omega), List.drop_left, List.take_left, List.length_append]
theorem tk_bits (pre rest : List Bool) (v k : Nat) (b : Bool) (hv : v < 2 ^ k) : tk (pre ++ (toBits v k ++ rest)) k (pre.length, b) = (v, (pre ++ toBits v k).length, b) := by
  have := tk_at pre (toBits v k) rest b
  rw [length_toBits, val_toBits, Nat.mod_eq_of_lt hv] at this
  exact this
theorem tk_len (bs : List Bool) (k : Nat) (s : Nat × Bool) (h : s.1 ≤ bs.length) : (tk bs k s).2.1 ≤ bs.length := by
  unfold tk
  split
  · assumption
  · exact h
theorem tk_lt (bs : List Bool) (k : Nat) (s : Nat × Bool) : (tk bs k s).1 < 2 ^ k := by
  unfold tk
  split
  · refine Nat.lt_of_lt_of_le (val_lt _) (Nat.pow_le_pow_right (by omega) ?_)
    simp
    omega
  · exact Nat.two_pow_pos k

theorem u64_lt (z : Int) : u64 z < 18446744073709551616 := by unfold u64; omega
theorem sx_u64 {z : Int} {w : Nat} (hw : 0 < w) (hw2 : w ≤ 64) (h1 : -(2 ^ (w - 1) : Nat) ≤ z) (h2 : z < (2 ^ (w - 1) : Nat)) : sx (u64 z % 2 ^ w) w = z := by
  have hp : 2 ^ w = 2 * 2 ^ (w - 1) := by
    rw [← Nat.pow_succ']
    congr 1
    omega
  have hd : 2 ^ w ∣ 18446744073709551616 := ⟨2 ^ (64 - w), by rw [← Nat.pow_add]; rw [show w + (64 - w) = 64 by omega]⟩
  have hm : ((u64 z % 2 ^ w : Nat) : Int) = z % (2 ^ w : Nat) := by
    unfold u64
    rw [Int.natCast_emod, Int.toNat_of_nonneg (Int.emod_nonneg _ (by decide))]
    exact Int.emod_emod_of_dvd z (Int.natCast_dvd_natCast.2 hd)
  have e : ((2 : Int) ^ w) = ((2 ^ w : Nat) : Int) := by simp
  unfold sx
  rw [e]
  generalize 2 ^ (w - 1) = q at *
  rw [hp] at hm ⊢
  split
  · rename_i h
    rw [hm]
    have : (z % ((2 * q : Nat) : Int)) < q := by rw [← hm]; omega
    by_cases hz : 0 ≤ z
    · exact Int.emod_eq_of_lt hz (by omega)
    · have h3 : z % ((2 * q : Nat) : Int) = z + ((2 * q : Nat) : Int) := by
        rw [← Int.add_emod_right, Int.emod_eq_of_lt (by omega) (by omega)]
      omega
  · rename_i h
    rw [hm]
    have : (q : Int) ≤ (z % ((2 * q : Nat) : Int)) := by rw [← hm]; omega
    by_cases hz : 0 ≤ z
    · rw [Int.emod_eq_of_lt hz (by omega)] at this
      omega
    · have h3 : z % ((2 * q : Nat) : Int) = z + ((2 * q : Nat) : Int) := by
        rw [← Int.add_emod_right, Int.emod_eq_of_lt (by omega) (by omega)]
      omega
end Go.Proofs.Ytlilnibinligkaa
