/-
  Plain laws of strings of bits: a list of Bools, packed into bytes, the highest bit first. Conditions: none; no program in sight.
-/
import Derived.Laws.BitsAllLaws
namespace Go.Proofs.Ytlilnibinligkaa

/-- the number that some bits are, the highest first -/
def val (bs : List Bool) : Nat := bs.foldl (fun a b => 2 * a + b.toNat) 0
/-- the w lowest bits of a number, the highest first -/
def toBits (v : Nat) : Nat → List Bool
  | 0 => []
  | w + 1 => v.testBit w :: toBits v w
/-- bit i of some bytes -/
def bit (l : List UInt8) (i : Nat) : Bool := (l.getD (i / 8) 0).toNat.testBit (7 - i % 8)
/-- the first n bits of some bytes -/
def bitsOf (l : List UInt8) (n : Nat) : List Bool := (List.range n).map (bit l)
def byteOf (f : Nat → Bool) : UInt8 := UInt8.ofNat (val ((List.range 8).map f))
/-- bits laid into bytes, noughts behind them -/
def pack (bs : List Bool) : List UInt8 := (List.range ((bs.length + 7) / 8)).map fun i => byteOf fun j => bs.getD (8 * i + j) false

@[simp] theorem val_nil : val [] = 0 := rfl
theorem val_snoc (bs : List Bool) (b : Bool) : val (bs ++ [b]) = 2 * val bs + b.toNat := by simp [val]
theorem foldl_val (bs : List Bool) : ∀ x, bs.foldl (fun a b => 2 * a + b.toNat) x = x * 2 ^ bs.length + val bs := by
  induction bs with
  | nil => intro x; simp [val]
  | cons b bs ih =>
    intro x
    have h1 : val (b :: bs) = (2 * 0 + b.toNat) * 2 ^ bs.length + val bs := by
      show List.foldl _ _ _ = _
      rw [List.foldl_cons, ih]
    rw [List.foldl_cons, ih, h1]
    have h2 : 2 * x * 2 ^ bs.length = x * (2 ^ bs.length * 2) := by rw [Nat.mul_comm 2 x, Nat.mul_assoc, Nat.mul_comm 2]
    simp only [List.length_cons, Nat.pow_succ, Nat.mul_zero, Nat.zero_add, Nat.add_mul]
    omega
theorem val_cons (b : Bool) (bs : List Bool) : val (b :: bs) = b.toNat * 2 ^ bs.length + val bs := by
  show List.foldl _ _ _ = _
  rw [List.foldl_cons, foldl_val]
  simp
theorem val_append (a b : List Bool) : val (a ++ b) = val a * 2 ^ b.length + val b := by
  show List.foldl _ _ _ = _
  rw [List.foldl_append, foldl_val]
  rfl
theorem val_lt (bs : List Bool) : val bs < 2 ^ bs.length := by
  induction bs with
  | nil => simp
  | cons b bs ih =>
    rw [val_cons, List.length_cons, Nat.pow_succ]
    cases b <;> simp <;> omega
@[simp] theorem length_toBits (v w : Nat) : (toBits v w).length = w := by induction w <;> simp_all [toBits]
theorem testBit_mod (v w : Nat) : v % 2 ^ (w + 1) = (v.testBit w).toNat * 2 ^ w + v % 2 ^ w := by
  rw [Nat.pow_succ, Nat.mod_mul, Nat.mul_comm]
  have : (v / 2 ^ w) % 2 = (v.testBit w).toNat := by
    rw [Nat.testBit_eq_decide_div_mod_eq]
    have := Nat.mod_two_eq_zero_or_one (v / 2 ^ w)
    rcases this with h | h <;> simp [h]
  rw [this]
  omega
theorem val_toBits (v w : Nat) : val (toBits v w) = v % 2 ^ w := by
  induction w with
  | zero => simp [toBits, Nat.mod_one]
  | succ w ih => rw [toBits, val_cons, ih, length_toBits, testBit_mod]
theorem getElem?_toBits (v w i : Nat) : (toBits v w)[i]? = if i < w then some (v.testBit (w - 1 - i)) else none := by
  induction w generalizing i with
  | zero => simp [toBits]
  | succ w ih =>
    rw [toBits]
    cases i with
    | zero => simp
    | succ i =>
      rw [List.getElem?_cons_succ, ih]
      by_cases h : i < w
      · rw [if_pos h, if_pos (by omega)]
        congr 2
        omega
      · rw [if_neg h, if_neg (by omega)]
theorem testBit_val (bs : List Bool) (i : Nat) : (val bs).testBit i = if i < bs.length then bs.getD (bs.length - 1 - i) false else false := by
  induction bs generalizing i with
  | nil => simp
  | cons b bs ih =>
    rw [val_cons]
    have hl := val_lt bs
    rw [Nat.mul_comm, Nat.testBit_two_pow_mul_add _ hl]
    by_cases h : i < bs.length
    · rw [if_pos h, ih, if_pos h, if_pos (by simp; omega)]
      have : (b :: bs).length - 1 - i = (bs.length - 1 - i) + 1 := by simp; omega
      rw [this]
      simp [List.getD]
    · rw [if_neg h]
      by_cases h2 : i = bs.length
      · subst h2
        simp [List.getD]
        cases b <;> rfl
      · rw [if_neg (by simp; omega)]
        have : i - bs.length = (i - bs.length - 1) + 1 := by omega
        rw [this]
        cases b <;> simp [Nat.testBit_succ]
theorem toBits_val (bs : List Bool) : toBits (val bs) bs.length = bs := by
  apply List.ext_getElem?
  intro i
  rw [getElem?_toBits]
  by_cases h : i < bs.length
  · rw [if_pos h, testBit_val, if_pos (by omega)]
    have : bs.length - 1 - (bs.length - 1 - i) = i := by omega
    rw [this, List.getD_eq_getElem?_getD, List.getElem?_eq_getElem h]
    rfl
  · rw [if_neg h, List.getElem?_eq_none (by omega)]
theorem toBits_append (v a b : Nat) : toBits v (a + b) = toBits (v / 2 ^ b) a ++ toBits v b := by
  apply List.ext_getElem?
  intro i
  rw [getElem?_toBits, List.getElem?_append, length_toBits, getElem?_toBits, getElem?_toBits]
  by_cases h : i < a
  · rw [if_pos h, if_pos h, if_pos (by omega), Nat.testBit_div_two_pow]
    congr 2
    omega
  · rw [if_neg h]
    by_cases h2 : i < a + b
    · rw [if_pos h2, if_pos (by omega)]
      congr 2
      omega
    · rw [if_neg h2, if_neg (by omega)]
theorem toBits_mod (v w : Nat) : toBits (v % 2 ^ w) w = toBits v w := by
  have := toBits_val (toBits v w)
  rwa [length_toBits, val_toBits] at this

theorem byteOf_testBit (f : Nat → Bool) (j : Nat) (hj : j < 8) : (byteOf f).toNat.testBit (7 - j) = f j := by
  have hlt := val_lt ((List.range 8).map f)
  simp only [List.length_map, List.length_range] at hlt
  have : (byteOf f).toNat = val ((List.range 8).map f) := by
    unfold byteOf
    rw [UInt8.toNat_ofNat']
    exact Nat.mod_eq_of_lt (by omega)
  rw [this, testBit_val]
  simp only [List.length_map, List.length_range]
  rw [if_pos (by omega), show 8 - 1 - (7 - j) = j from by omega, List.getD_eq_getElem?_getD]
  simp [hj]
@[simp] theorem length_pack (bs : List Bool) : (pack bs).length = (bs.length + 7) / 8 := by simp [pack]
theorem bit_pack (bs : List Bool) (i : Nat) : bit (pack bs) i = bs.getD i false := by
  unfold bit
  by_cases h : i / 8 < (bs.length + 7) / 8
  · have : (pack bs).getD (i / 8) 0 = byteOf fun j => bs.getD (8 * (i / 8) + j) false := by
      rw [List.getD_eq_getElem?_getD]
      simp [pack, h]
    rw [this, byteOf_testBit _ _ (Nat.mod_lt _ (by omega))]
    congr 1
    omega
  · have h1 : (pack bs).getD (i / 8) 0 = 0 := by
      rw [List.getD_eq_getElem?_getD, List.getElem?_eq_none (by simp; omega)]
      rfl
    rw [h1, List.getD_eq_getElem?_getD, List.getElem?_eq_none (by omega)]
    simp
theorem u8_ext (a b : UInt8) (h : ∀ j, j < 8 → a.toNat.testBit (7 - j) = b.toNat.testBit (7 - j)) : a = b := by
  apply UInt8.toNat_inj.1
  apply Nat.eq_of_testBit_eq
  intro i
  by_cases hi : i < 8
  · have := h (7 - i) (by omega)
    rwa [show 7 - (7 - i) = i from by omega] at this
  · have ha : a.toNat < 2 ^ 8 := a.toNat_lt
    have hb : b.toNat < 2 ^ 8 := b.toNat_lt
    have hp : 2 ^ 8 ≤ 2 ^ i := Nat.pow_le_pow_right (by omega) (by omega)
    rw [Nat.testBit_lt_two_pow (by omega), Nat.testBit_lt_two_pow (by omega)]
theorem bits_ext {l r : List UInt8} (hl : l.length = r.length) (h : ∀ i, i < 8 * l.length → bit l i = bit r i) : l = r := by
  apply List.ext_getElem hl
  intro i h1 h2
  apply u8_ext
  intro j hj
  have := h (8 * i + j) (by omega)
  unfold bit at this
  rw [show (8 * i + j) / 8 = i from by omega, show (8 * i + j) % 8 = j from by omega] at this
  rwa [List.getD_eq_getElem?_getD, List.getD_eq_getElem?_getD, List.getElem?_eq_getElem h1, List.getElem?_eq_getElem h2] at this
@[simp] theorem length_bitsOf (l : List UInt8) (n : Nat) : (bitsOf l n).length = n := by simp [bitsOf]
theorem getD_bitsOf (l : List UInt8) (n i : Nat) : (bitsOf l n).getD i false = if i < n then bit l i else false := by
  rw [List.getD_eq_getElem?_getD]
  unfold bitsOf
  by_cases h : i < n <;> simp [h]
theorem bitsOf_pack (bs : List Bool) : bitsOf (pack bs) bs.length = bs := by
  apply List.ext_getElem?
  intro i
  unfold bitsOf
  by_cases h : i < bs.length
  · simp [h, bit_pack]
  · rw [List.getElem?_eq_none (by simp; omega), List.getElem?_eq_none (by omega)]
theorem pack_bitsOf {l : List UInt8} {n : Nat} (hl : l.length = (n + 7) / 8) (h : ∀ i, n ≤ i → i < 8 * l.length → bit l i = false) : pack (bitsOf l n) = l := by
  refine bits_ext (by simp [hl]) fun i hi => ?_
  rw [bit_pack, getD_bitsOf]
  split
  · rfl
  · exact (h i (by omega) (by simpa [hl] using hi)).symm
theorem pack_inj {a b : List Bool} (hl : a.length = b.length) (h : pack a = pack b) : a = b := by
  rw [← bitsOf_pack a, ← bitsOf_pack b, h, hl]

/-- one bit more in a byte -/
def orb (c : UInt8) (b : Bool) (s : Nat) : UInt8 := UInt8.ofNat (c.toNat ||| (b.toNat * 2 ^ s))
theorem orb_toNat (c : UInt8) (b : Bool) (s : Nat) (hs : s ≤ 7) : (orb c b s).toNat = c.toNat ||| (b.toNat * 2 ^ s) := by
  have h1 : c.toNat < 2 ^ 8 := c.toNat_lt
  have h2 : b.toNat * 2 ^ s < 2 ^ 8 := by
    have : 2 ^ s ≤ 2 ^ 7 := Nat.pow_le_pow_right (by omega) hs
    cases b <;> simp <;> omega
  have := Nat.or_lt_two_pow h1 h2
  unfold orb
  rw [UInt8.toNat_ofNat']
  exact Nat.mod_eq_of_lt this
theorem orb_testBit (c : UInt8) (b : Bool) (s i : Nat) (hs : s ≤ 7) : (orb c b s).toNat.testBit i = (c.toNat.testBit i || (b && i == s)) := by
  rw [orb_toNat c b s hs, Nat.testBit_or]
  congr 1
  cases b
  · simp
  · simp only [Bool.toNat_true, Nat.one_mul, Bool.true_and, Nat.testBit_two_pow]
    rw [Bool.eq_iff_iff]
    simp only [decide_eq_true_eq, beq_iff_eq]
    exact eq_comm
theorem pack_snoc (bs : List Bool) (b : Bool) (l : List UInt8) (hl : l = if bs.length % 8 = 0 then pack bs ++ [0] else pack bs) :
    pack (bs ++ [b]) = l.set (bs.length / 8) (orb (l.getD (bs.length / 8) 0) b (7 - bs.length % 8)) := by
  have hlen : l.length = bs.length / 8 + 1 := by
    subst hl
    split <;> simp <;> omega
  have hb : ∀ i, bit l i = bs.getD i false := by
    intro i
    subst hl
    split
    · rename_i h0
      rw [← bit_pack]
      unfold bit
      congr 2
      rw [List.getD_eq_getElem?_getD, List.getD_eq_getElem?_getD, List.getElem?_append]
      split
      · rfl
      · rename_i h1
        rw [List.getElem?_eq_none (Nat.le_of_not_lt h1)]
        rcases Nat.eq_zero_or_pos (i / 8 - (pack bs).length) with h2 | h2
        · rw [h2]; rfl
        · rw [List.getElem?_eq_none (by simp only [List.length_cons, List.length_nil]; omega)]
    · exact bit_pack bs i
  refine bits_ext (by simp [hlen]; omega) fun i hi => ?_
  rw [bit_pack]
  have hi2 : i / 8 < bs.length / 8 + 1 := by simp at hi; omega
  unfold bit
  by_cases hk : i / 8 = bs.length / 8
  · have : (l.set (bs.length / 8) (orb (l.getD (bs.length / 8) 0) b (7 - bs.length % 8))).getD (i / 8) 0 = orb (l.getD (bs.length / 8) 0) b (7 - bs.length % 8) := by
      rw [List.getD_eq_getElem?_getD, hk, List.getElem?_set_self (by omega)]
      rfl
    rw [this, orb_testBit _ _ _ _ (by omega)]
    have h2 := hb i
    unfold bit at h2
    rw [hk] at h2
    rw [h2]
    rw [List.getD_eq_getElem?_getD, List.getD_eq_getElem?_getD, List.getElem?_append]
    by_cases h3 : i < bs.length
    · rw [if_pos h3]
      have : (7 - i % 8 == 7 - bs.length % 8) = false := by simp; omega
      simp [this]
    · rw [if_neg h3, List.getElem?_eq_none (Nat.le_of_not_lt h3)]
      by_cases h4 : i = bs.length
      · subst h4; simp
      · rw [List.getElem?_eq_none (by simp; omega)]
        have : (7 - i % 8 == 7 - bs.length % 8) = false := by simp; omega
        simp [this]
  · have : (l.set (bs.length / 8) (orb (l.getD (bs.length / 8) 0) b (7 - bs.length % 8))).getD (i / 8) 0 = l.getD (i / 8) 0 := by
      rw [List.getD_eq_getElem?_getD, List.getElem?_set_ne (Ne.symm hk)]
      rfl
    rw [this]
    have h2 := hb i
    unfold bit at h2
    rw [h2, List.getD_eq_getElem?_getD, List.getD_eq_getElem?_getD, List.getElem?_append_left (by omega)]

/-- the byte as the walk reckons it -/
theorem orb_walk (c : UInt8) (v j s : Nat) (hv : v < 18446744073709551616) (hs : s ≤ 7) :
    bits .or .u8 (c.toNat : Int) (bits .and .u64 ((v : Int) / 2 ^ j) 1 % 256 * 2 ^ s % 256) = ((orb c (v.testBit j) s).toNat : Int) := by
  have h0 : ((v : Int) / 2 ^ j) = ((v / 2 ^ j : Nat) : Int) := by simp
  have hle : v / 2 ^ j ≤ v := Nat.div_le_self _ _
  have h1 : bits .and .u64 ((v : Int) / 2 ^ j) 1 = (((v.testBit j).toNat : Nat) : Int) := by
    rw [h0]
    have := u64_and_nat (v / 2 ^ j) 1 (by omega) (by omega)
    rw [show ((1 : Nat) : Int) = 1 from rfl] at this
    rw [this, nat_mask1, Nat.testBit_eq_decide_div_mod_eq]
    congr 1
    rcases Nat.mod_two_eq_zero_or_one (v / 2 ^ j) with h | h <;> simp [h]
  have h2 : (v.testBit j).toNat * 2 ^ s < 256 := by
    have : 2 ^ s ≤ 2 ^ 7 := Nat.pow_le_pow_right (by omega) hs
    cases v.testBit j <;> simp <;> omega
  have h3 : (((v.testBit j).toNat : Nat) : Int) % 256 * 2 ^ s % 256 = (((v.testBit j).toNat * 2 ^ s : Nat) : Int) := by
    have h4 : (((v.testBit j).toNat : Nat) : Int) % 256 = (((v.testBit j).toNat : Nat) : Int) := by cases v.testBit j <;> rfl
    rw [h4]
    have : ((((v.testBit j).toNat * 2 ^ s : Nat)) : Int) = (((v.testBit j).toNat : Nat) : Int) * 2 ^ s := by simp
    rw [← this]
    omega
  rw [h1, h3, u8_or_nat _ _ c.toNat_lt h2, orb_toNat _ _ _ hs]

/-- is it a string of n bits, noughts behind them? -/
def wholeB (l : List UInt8) (n : Int) : Bool := decide (0 ≤ n) && (decide (l.length = (n.toNat + 7) / 8) && (List.range (8 * l.length)).all fun i => decide (i < n.toNat) || !bit l i)
theorem wholeB_iff (l : List UInt8) (n : Int) : wholeB l n = true ↔ 0 ≤ n ∧ l.length = (n.toNat + 7) / 8 ∧ ∀ i, n.toNat ≤ i → i < 8 * l.length → bit l i = false := by
  unfold wholeB
  simp only [Bool.and_eq_true, decide_eq_true_eq, List.all_eq_true, List.mem_range, Bool.or_eq_true, Bool.not_eq_true']
  refine and_congr_right fun _ => and_congr_right fun _ => ⟨fun h i h1 h2 => ?_, fun h i h1 => ?_⟩
  · rcases h i h2 with h3 | h3
    · omega
    · exact h3
  · by_cases h2 : i < n.toNat
    · exact .inl h2
    · exact .inr (h i (by omega) h1)
theorem wholeB_pack (bs : List Bool) : wholeB (pack bs) bs.length = true := by
  rw [wholeB_iff]
  refine ⟨by omega, by simp, fun i h _ => ?_⟩
  rw [bit_pack, List.getD_eq_getElem?_getD, List.getElem?_eq_none (by simpa using h)]
  rfl
theorem pack_of_wholeB {l : List UInt8} {n : Int} (h : wholeB l n = true) : l = pack (bitsOf l n.toNat) := by
  rw [wholeB_iff] at h
  exact (pack_bitsOf h.2.1 h.2.2).symm
/-- the last byte tells all -/
theorem last_iff (l : List UInt8) (n : Nat) (hl : l.length = (n + 7) / 8) (h8 : n % 8 ≠ 0) :
    ((l.getD (l.length - 1) 0).toNat * 2 ^ (n % 8) % 256 = 0) ↔ ∀ i, n ≤ i → i < 8 * l.length → bit l i = false := by
  have hc : (l.getD (l.length - 1) 0).toNat < 256 := (l.getD (l.length - 1) 0).toNat_lt
  have hk : l.length - 1 = n / 8 := by omega
  have hbit : ∀ i, n ≤ i → i < 8 * l.length → bit l i = (l.getD (l.length - 1) 0).toNat.testBit (7 - i % 8) := by
    intro i h1 h2
    unfold bit
    rw [show i / 8 = l.length - 1 from by omega]
  generalize (l.getD (l.length - 1) 0).toNat = c at hc hbit
  have hp : (256 : Nat) = 2 ^ 8 := rfl
  constructor
  · intro h i h1 h2
    rw [hbit i h1 h2]
    have h3 : (c * 2 ^ (n % 8) % 2 ^ 8).testBit (7 - i % 8 + n % 8) = (0 : Nat).testBit (7 - i % 8 + n % 8) := by rw [← hp, h]
    rw [Nat.testBit_mod_two_pow, Nat.testBit_mul_two_pow, Nat.zero_testBit] at h3
    have h4 : 7 - i % 8 + n % 8 < 8 := by omega
    have h5 : n % 8 ≤ 7 - i % 8 + n % 8 := by omega
    simp only [h4, h5, decide_true, Bool.true_and] at h3
    rwa [Nat.add_sub_cancel] at h3
  · intro h
    rw [hp]
    apply Nat.eq_of_testBit_eq
    intro j
    rw [Nat.testBit_mod_two_pow, Nat.testBit_mul_two_pow, Nat.zero_testBit]
    by_cases h4 : j < 8
    · by_cases h5 : n % 8 ≤ j
      · simp only [h4, h5, decide_true, Bool.true_and]
        have h6 := hbit (8 * (n / 8) + (7 - (j - n % 8))) (by omega) (by omega)
        rw [h _ (by omega) (by omega)] at h6
        rw [show 7 - (8 * (n / 8) + (7 - (j - n % 8))) % 8 = j - n % 8 from by omega] at h6
        exact h6.symm
      · simp [h5]
    · simp [h4]
theorem take_bitsOf_succ (l : List UInt8) (N a k : Nat) (h : a + k < N) : val (((bitsOf l N).drop a).take (k + 1)) = 2 * val (((bitsOf l N).drop a).take k) + (bit l (a + k)).toNat := by
  rw [List.take_add_one, List.getElem?_drop]
  have : (bitsOf l N)[a + k]? = some (bit l (a + k)) := by simp [bitsOf, h]
  rw [this]
  exact val_snoc _ _
theorem getD_or (l : List UInt8) (i : Nat) : (bit l i).toNat = (l.getD (i / 8) 0).toNat / 2 ^ (7 - i % 8) % 2 := by
  unfold bit
  rw [Nat.testBit_eq_decide_div_mod_eq]
  generalize (l.getD (i / 8) 0).toNat / 2 ^ (7 - i % 8) = q
  rcases Nat.mod_two_eq_zero_or_one q with h | h <;> simp [h]
end Go.Proofs.Ytlilnibinligkaa
