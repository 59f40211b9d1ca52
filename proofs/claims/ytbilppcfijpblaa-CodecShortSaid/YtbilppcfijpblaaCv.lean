/-
  Plain laws of package codec: numbers as bytes, and read back; signed ones; the sum of bytes. Conditions: none; no program in sight.
-/
import Derived.Laws.BitsAllLaws
namespace Go.Proofs.Ytbilppcfijpblaa

/-- a number's bytes, seven bits each, the lowest first -/
def uv (v : Nat) : List UInt8 := if v < 128 then [UInt8.ofNat v] else UInt8.ofNat (v % 128 + 128) :: uv (v / 128)
termination_by v
decreasing_by omega
theorem uv_small {v : Nat} (h : v < 128) : uv v = [UInt8.ofNat v] := by rw [uv, if_pos h]
theorem uv_big {v : Nat} (h : ¬ v < 128) : uv v = UInt8.ofNat (v % 128 + 128) :: uv (v / 128) := by rw [uv, if_neg h]
theorem uv_ne (v : Nat) : uv v ≠ [] := by
  by_cases h : v < 128
  · rw [uv_small h]; simp
  · rw [uv_big h]; simp
theorem uv_len (n : Nat) : ∀ v, v < 128 ^ (n + 1) → (uv v).length ≤ n + 1 := by
  induction n with
  | zero => intro v h; rw [uv_small (by omega)]; simp
  | succ n ih =>
    intro v h
    by_cases hv : v < 128
    · rw [uv_small hv]; simp
    · rw [uv_big hv]
      have := ih (v / 128) (by rw [Nat.pow_succ] at h; omega)
      simp
      omega
theorem uv_len10 {v : Nat} (h : v < 18446744073709551616) : (uv v).length ≤ 10 := uv_len 9 v (by omega)
theorem uv_len1 (v : Nat) : 1 ≤ (uv v).length := by
  have := uv_ne v
  rcases hl : uv v with _ | ⟨a, r⟩
  · exact absurd hl this
  · simp

/-- the signed numbers as numbers: 0, -1, 1, -2 .. -/
def zz (x : Int) : Nat := if 0 ≤ x then 2 * x.toNat else 2 * (-(x + 1)).toNat + 1
def uz (v : Nat) : Int := if v % 2 = 0 then ((v / 2 : Nat) : Int) else -((v / 2 : Nat) : Int) - 1
theorem uz_zz (x : Int) : uz (zz x) = x := by unfold uz zz; split <;> split <;> omega
theorem zz_uz (v : Nat) : zz (uz v) = v := by unfold uz zz; split <;> split <;> omega
theorem zz_lt {x : Int} (h1 : -9223372036854775808 ≤ x) (h2 : x ≤ 9223372036854775807) : zz x < 18446744073709551616 := by unfold zz; split <;> omega
theorem uz_ge {v : Nat} (h : v < 18446744073709551616) : -9223372036854775808 ≤ uz v ∧ uz v ≤ 9223372036854775807 := by unfold uz; split <;> omega

/-- reading a number: what it is, how many bytes it has, and the error -/
def ur : List UInt8 → Nat → Nat → Nat × Nat × Nat
  | [], _, _ => (0, 0, 20)
  | c :: r, k, a => if (k = 9 ∧ 1 < c.toNat) ∨ (0 < k ∧ c.toNat = 0) then (0, 0, 21) else if c.toNat < 128 then (a + c.toNat * 2 ^ (7 * k), k + 1, 0) else ur r (k + 1) (a + c.toNat % 128 * 2 ^ (7 * k))
/-- the same from a place of some bytes on, with the place behind it -/
def uintR (l : List UInt8) (at_ : Int) : Nat × Nat × Nat :=
  if 0 ≤ at_ ∧ at_ ≤ l.length then (if (ur (l.drop at_.toNat) 0 0).2.2 = 0 then ((ur (l.drop at_.toNat) 0 0).1, at_.toNat + (ur (l.drop at_.toNat) 0 0).2.1, 0) else (0, 0, (ur (l.drop at_.toNat) 0 0).2.2)) else (0, 0, 20)

theorem ofNat_toNat {v : Nat} (h : v < 256) : (UInt8.ofNat v).toNat = v := by rw [UInt8.toNat_ofNat']; exact Nat.mod_eq_of_lt h

theorem ur_uv (r : List UInt8) : ∀ v k a, (k = 0 ∨ 0 < v) → v * 2 ^ (7 * k) < 18446744073709551616 → k ≤ 9 → ur (uv v ++ r) k a = (a + v * 2 ^ (7 * k), k + (uv v).length, 0) := by
  intro v
  induction v using Nat.strongRecOn with
  | _ v ih =>
    intro k a h0 h1 hk
    have h9 : k = 9 → v < 2 := by
      rintro rfl
      rw [show 2 ^ (7 * 9) = 9223372036854775808 from rfl] at h1
      omega
    by_cases hv : v < 128
    · rw [uv_small hv]
      show ur (UInt8.ofNat v :: r) k a = _
      unfold ur
      rw [ofNat_toNat (by omega), if_neg (by omega), if_pos hv]
      rfl
    · rw [uv_big hv]
      show ur (UInt8.ofNat (v % 128 + 128) :: (uv (v / 128) ++ r)) k a = _
      unfold ur
      rw [ofNat_toNat (by omega), if_neg (by omega), if_neg (by omega)]
      have e1 : 2 ^ (7 * (k + 1)) = 2 ^ (7 * k) * 128 := by rw [show 7 * (k + 1) = 7 * k + 7 from by omega, Nat.pow_add]
      have e2 : v / 128 * 2 ^ (7 * (k + 1)) = v / 128 * 128 * 2 ^ (7 * k) := by rw [e1, Nat.mul_comm (2 ^ (7 * k)), Nat.mul_assoc]
      have e3 : v * 2 ^ (7 * k) = (v % 128) * 2 ^ (7 * k) + v / 128 * 128 * 2 ^ (7 * k) := by rw [← Nat.add_mul]; congr 1; omega
      rw [ih (v / 128) (by omega) (k + 1) _ (.inr (by omega)) (by rw [e2]; omega) (by omega)]
      rw [show (v % 128 + 128) % 128 = v % 128 from by omega, e2, e3]
      simp
      omega

theorem ur_err (r : List UInt8) : ∀ k a, (ur r k a).2.2 = 0 ∨ (ur r k a).2.2 = 20 ∨ (ur r k a).2.2 = 21 := by
  induction r with
  | nil => intro k a; right; left; rfl
  | cons c r ih =>
    intro k a
    unfold ur
    split
    · right; right; rfl
    · split
      · left; rfl
      · exact ih _ _
theorem ur_bad (r : List UInt8) : ∀ k a, (ur r k a).2.2 ≠ 0 → (ur r k a).1 = 0 ∧ (ur r k a).2.1 = 0 := by
  induction r with
  | nil => intro k a _; exact ⟨rfl, rfl⟩
  | cons c r ih =>
    intro k a
    unfold ur
    split
    · intro _; exact ⟨rfl, rfl⟩
    · split
      · intro h; exact absurd rfl h
      · exact ih _ _
/-- what is read has just those bytes -/
theorem ur_back (r : List UInt8) : ∀ k a, k ≤ 9 → (ur r k a).2.2 = 0 → ∃ v, (ur r k a).1 = a + v * 2 ^ (7 * k) ∧ (ur r k a).2.1 = k + (uv v).length ∧ r.take (uv v).length = uv v ∧ (uv v).length ≤ r.length ∧ (k = 0 ∨ 0 < v) ∧ v * 2 ^ (7 * k) < 18446744073709551616 := by
  induction r with
  | nil => intro k a _ h; cases h
  | cons c r ih =>
    intro k a hk
    have hc := c.toNat_lt
    unfold ur
    split
    · intro h; cases h
    · rename_i h1
      split
      · rename_i h2
        intro _
        have e0 : UInt8.ofNat c.toNat = c := UInt8.toNat_inj.1 (by rw [ofNat_toNat hc])
        refine ⟨c.toNat, rfl, by rw [uv_small h2]; rfl, by rw [uv_small h2, e0]; rfl, by rw [uv_small h2]; simp, by omega, ?_⟩
        by_cases h9 : k = 9
        · subst h9
          rw [show 2 ^ (7 * 9) = 9223372036854775808 from rfl]
          omega
        · have hp : 2 ^ (7 * k) ≤ 2 ^ 56 := Nat.pow_le_pow_right (by omega) (by omega)
          have : c.toNat * 2 ^ (7 * k) ≤ 127 * 2 ^ 56 := Nat.mul_le_mul (by omega) hp
          omega
      · rename_i h2
        intro h
        have hk9 : k ≠ 9 := by omega
        obtain ⟨v, e1, e2, e3, e4, e5, e6⟩ := ih (k + 1) _ (by omega) h
        have hv0 : 0 < v := by omega
        have hv : ¬ (c.toNat % 128 + v * 128 < 128) := by omega
        have hm : (c.toNat % 128 + v * 128) % 128 = c.toNat % 128 := by omega
        have hd : (c.toNat % 128 + v * 128) / 128 = v := by omega
        have hcc : UInt8.ofNat (c.toNat % 128 + 128) = c := UInt8.toNat_inj.1 (by rw [ofNat_toNat (by omega)]; omega)
        have hu : uv (c.toNat % 128 + v * 128) = c :: uv v := by rw [uv_big hv, hm, hd, hcc]
        have p1 : 2 ^ (7 * (k + 1)) = 2 ^ (7 * k) * 128 := by rw [show 7 * (k + 1) = 7 * k + 7 from by omega, Nat.pow_add]
        have p2 : v * 2 ^ (7 * (k + 1)) = v * 128 * 2 ^ (7 * k) := by rw [p1, Nat.mul_comm (2 ^ (7 * k)), Nat.mul_assoc]
        have p3 : (c.toNat % 128 + v * 128) * 2 ^ (7 * k) = c.toNat % 128 * 2 ^ (7 * k) + v * 128 * 2 ^ (7 * k) := Nat.add_mul _ _ _
        refine ⟨c.toNat % 128 + v * 128, by rw [e1, p2, p3]; omega, by rw [e2, hu]; simp; omega, by rw [hu]; simp [e3], by rw [hu]; simp; omega, .inr (by omega), ?_⟩
        have hq : 0 < 2 ^ (7 * k) := Nat.two_pow_pos _
        have hk8 : k ≤ 8 := by omega
        -- the number below fits, with its lowest digit
        rw [p2] at e6
        rw [p3]
        have hp : 2 ^ (7 * k) ∣ 18446744073709551616 := by
          have : (18446744073709551616 : Nat) = 2 ^ (7 * k) * 2 ^ (64 - 7 * k) := by rw [← Nat.pow_add, show 7 * k + (64 - 7 * k) = 64 from by omega]
          exact ⟨_, this⟩
        obtain ⟨q, hq2⟩ := hp
        rw [hq2, Nat.mul_comm (2 ^ (7 * k)) q] at e6 ⊢
        have h128 : ∃ t, q = 128 * t ∨ k = 9 := by
          by_cases h : k ≤ 8
          · have : (18446744073709551616 : Nat) = 2 ^ (7 * k) * (128 * 2 ^ (57 - 7 * k)) := by
              rw [show (128 : Nat) = 2 ^ 7 from rfl, ← Nat.pow_add, ← Nat.pow_add, show 7 * k + (7 + (57 - 7 * k)) = 64 from by omega]
            rw [this] at hq2
            exact ⟨2 ^ (57 - 7 * k), .inl (Nat.eq_of_mul_eq_mul_left hq hq2).symm⟩
          · exact ⟨0, .inr (by omega)⟩
        obtain ⟨t, rfl | h⟩ := h128
        · have h3 : v * 128 < 128 * t := Nat.lt_of_mul_lt_mul_right e6
          rw [← Nat.add_mul]
          exact Nat.mul_lt_mul_of_pos_right (by omega) hq
        · omega
end Go.Proofs.Ytbilppcfijpblaa
