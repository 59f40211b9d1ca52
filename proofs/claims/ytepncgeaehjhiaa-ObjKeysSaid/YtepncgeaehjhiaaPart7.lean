/-
  Several texts in one:
  Plain laws of package codec: numbers as bytes, and read back; signed ones; the sum of bytes. Conditions: none; no program in sight.
  Package codec and its reference: numbers and texts laid into bytes, and read: what each call does. Conditions: lengths that memory bears.
  Package codec and its reference: numbers, signed ones and texts read: what each call answers. Conditions: lengths that memory bears.
  Bytes made a text: what the conversion yields. Conditions: none; no program in sight.
  Package codec and its reference: Int and Text: what each call answers. Conditions: lengths that memory bears.
  Plain laws of the sum of bytes: step by step, four at a time, and that a turned bit turns it. Conditions: none; no program in sight.
  Package codec and its reference: the sum of bytes. Conditions: lengths that memory bears.
  Package codec and its reference: frames laid. Conditions: lengths that memory bears.
-/
import Derived.Laws.BitsAllLaws
import Derived.Test.YtepncgeaehjhiaaPart6
import Derived.Test.YtepncgeaehjhiaaPart1
import Derived.Laws.BytesString
import Derived.Deep.MidRow

namespace Go.Proofs.Ytepncgeaehjhiaa

/-- a number's bytes, seven bits each, the lowest first -/
def uv (v : Nat) : List UInt8 := if v < 128 then [UInt8.ofNat v] else UInt8.ofNat (v % 128 + 128) :: uv (v / 128)
termination_by v
decreasing_by omega
theorem uv_small {v : Nat} (h : v < 128) : uv v = [UInt8.ofNat v] := by rw [uv, if_pos h]
theorem uv_big {v : Nat} (h : ¬ v < 128) : uv v = UInt8.ofNat (v % 128 + 128) :: uv (v / 128) := by rw [uv, if_neg h]
theorem uv_ne (v : Nat) : uv v ≠ [] := by
  by_cases h : v < 128
  · rw [uv_small h]; simp
  · rw [uv_big h]; simp
theorem uv_len (n : Nat) : ∀ v, v < 128 ^ (n + 1) → (uv v).length ≤ n + 1 := by
  induction n with
  | zero => intro v h; rw [uv_small (by omega)]; simp
  | succ n ih =>
    intro v h
    by_cases hv : v < 128
    · rw [uv_small hv]; simp
    · rw [uv_big hv]
      have := ih (v / 128) (by rw [Nat.pow_succ] at h; omega)
      simp
      omega
theorem uv_len10 {v : Nat} (h : v < 18446744073709551616) : (uv v).length ≤ 10 := uv_len 9 v (by omega)
theorem uv_len1 (v : Nat) : 1 ≤ (uv v).length := by
  have := uv_ne v
  rcases hl : uv v with _ | ⟨a, r⟩
  · exact absurd hl this
  · simp

/-- the signed numbers as numbers: 0, -1, 1, -2 .. -/
def zz (x : Int) : Nat := if 0 ≤ x then 2 * x.toNat else 2 * (-(x + 1)).toNat + 1
def uz (v : Nat) : Int := if v % 2 = 0 then ((v / 2 : Nat) : Int) else -((v / 2 : Nat) : Int) - 1
theorem uz_zz (x : Int) : uz (zz x) = x := by unfold uz zz; split <;> split <;> omega
theorem zz_uz (v : Nat) : zz (uz v) = v := by unfold uz zz; split <;> split <;> omega
theorem zz_lt {x : Int} (h1 : -9223372036854775808 ≤ x) (h2 : x ≤ 9223372036854775807) : zz x < 18446744073709551616 := by unfold zz; split <;> omega
theorem uz_ge {v : Nat} (h : v < 18446744073709551616) : -9223372036854775808 ≤ uz v ∧ uz v ≤ 9223372036854775807 := by unfold uz; split <;> omega

/-- reading a number: what it is, how many bytes it has, and the error -/
def ur : List UInt8 → Nat → Nat → Nat × Nat × Nat
  | [], _, _ => (0, 0, 20)
  | c :: r, k, a => if (k = 9 ∧ 1 < c.toNat) ∨ (0 < k ∧ c.toNat = 0) then (0, 0, 21) else if c.toNat < 128 then (a + c.toNat * 2 ^ (7 * k), k + 1, 0) else ur r (k + 1) (a + c.toNat % 128 * 2 ^ (7 * k))
/-- the same from a place of some bytes on, with the place behind it -/
def uintR (l : List UInt8) (at_ : Int) : Nat × Nat × Nat :=
  if 0 ≤ at_ ∧ at_ ≤ l.length then (if (ur (l.drop at_.toNat) 0 0).2.2 = 0 then ((ur (l.drop at_.toNat) 0 0).1, at_.toNat + (ur (l.drop at_.toNat) 0 0).2.1, 0) else (0, 0, (ur (l.drop at_.toNat) 0 0).2.2)) else (0, 0, 20)

theorem ofNat_toNat {v : Nat} (h : v < 256) : (UInt8.ofNat v).toNat = v := by rw [UInt8.toNat_ofNat']; exact Nat.mod_eq_of_lt h

theorem ur_uv (r : List UInt8) : ∀ v k a, (k = 0 ∨ 0 < v) → v * 2 ^ (7 * k) < 18446744073709551616 → k ≤ 9 → ur (uv v ++ r) k a = (a + v * 2 ^ (7 * k), k + (uv v).length, 0) := by
  intro v
  induction v using Nat.strongRecOn with
  | _ v ih =>
    intro k a h0 h1 hk
    have h9 : k = 9 → v < 2 := by
      rintro rfl
      rw [show 2 ^ (7 * 9) = 9223372036854775808 from rfl] at h1
      omega
    by_cases hv : v < 128
    · rw [uv_small hv]
      show ur (UInt8.ofNat v :: r) k a = _
      unfold ur
      rw [ofNat_toNat (by omega), if_neg (by omega), if_pos hv]
      rfl
    · rw [uv_big hv]
      show ur (UInt8.ofNat (v % 128 + 128) :: (uv (v / 128) ++ r)) k a = _
      unfold ur
      rw [ofNat_toNat (by omega), if_neg (by omega), if_neg (by omega)]
      have e1 : 2 ^ (7 * (k + 1)) = 2 ^ (7 * k) * 128 := by rw [show 7 * (k + 1) = 7 * k + 7 from by omega, Nat.pow_add]
      have e2 : v / 128 * 2 ^ (7 * (k + 1)) = v / 128 * 128 * 2 ^ (7 * k) := by rw [e1, Nat.mul_comm (2 ^ (7 * k)), Nat.mul_assoc]
      have e3 : v * 2 ^ (7 * k) = (v % 128) * 2 ^ (7 * k) + v / 128 * 128 * 2 ^ (7 * k) := by rw [← Nat.add_mul]; congr 1; omega
      rw [ih (v / 128) (by omega) (k + 1) _ (.inr (by omega)) (by rw [e2]; omega) (by omega)]
      rw [show (v % 128 + 128) % 128 = v % 128 from by omega, e2, e3]
      simp
      omega

theorem ur_err (r : List UInt8) : ∀ k a, (ur r k a).2.2 = 0 ∨ (ur r k a).2.2 = 20 ∨ (ur r k a).2.2 = 21 := by
  induction r with
  | nil => intro k a; right; left; rfl
  | cons c r ih =>
    intro k a
    unfold ur
    split
    · right; right; rfl
    · split
      · left; rfl
      · exact ih _ _
theorem ur_bad (r : List UInt8) : ∀ k a, (ur r k a).2.2 ≠ 0 → (ur r k a).1 = 0 ∧ (ur r k a).2.1 = 0 := by
  induction r with
  | nil => intro k a _; exact ⟨rfl, rfl⟩
  | cons c r ih =>
    intro k a
    unfold ur
    split
    · intro _; exact ⟨rfl, rfl⟩
    · split
      · intro h; exact absurd rfl h
      · exact ih _ _
/-- what is read has just those bytes -/
theorem ur_back (r : List UInt8) : ∀ k a, k ≤ 9 → (ur r k a).2.2 = 0 → ∃ v, (ur r k a).1 = a + v * 2 ^ (7 * k) ∧ (ur r k a).2.1 = k + (uv v).length ∧ r.take (uv v).length = uv v ∧ (uv v).length ≤ r.length ∧ (k = 0 ∨ 0 < v) ∧ v * 2 ^ (7 * k) < 18446744073709551616 := by
  induction r with
  | nil => intro k a _ h; cases h
  | cons c r ih =>
    intro k a hk
    have hc := c.toNat_lt
    unfold ur
    split
    · intro h; cases h
    · rename_i h1
      split
      · rename_i h2
        intro _
        have e0 : UInt8.ofNat c.toNat = c := UInt8.toNat_inj.1 (by rw [ofNat_toNat hc])
        refine ⟨c.toNat, rfl, by rw [uv_small h2]; rfl, by rw [uv_small h2, e0]; rfl, by rw [uv_small h2]; simp, by omega, ?_⟩
        by_cases h9 : k = 9
        · subst h9
          rw [show 2 ^ (7 * 9) = 9223372036854775808 from rfl]
          omega
        · have hp : 2 ^ (7 * k) ≤ 2 ^ 56 := Nat.pow_le_pow_right (by omega) (by omega)
          have : c.toNat * 2 ^ (7 * k) ≤ 127 * 2 ^ 56 := Nat.mul_le_mul (by omega) hp
          omega
      · rename_i h2
        intro h
        have hk9 : k ≠ 9 := by omega
        obtain ⟨v, e1, e2, e3, e4, e5, e6⟩ := ih (k + 1) _ (by omega) h
        have hv0 : 0 < v := by omega
        have hv : ¬ (c.toNat % 128 + v * 128 < 128) := by omega
        have hm : (c.toNat % 128 + v * 128) % 128 = c.toNat % 128 := by omega
        have hd : (c.toNat % 128 + v * 128) / 128 = v := by omega
        have hcc : UInt8.ofNat (c.toNat % 128 + 128) = c := UInt8.toNat_inj.1 (by rw [ofNat_toNat (by omega)]; omega)
        have hu : uv (c.toNat % 128 + v * 128) = c :: uv v := by rw [uv_big hv, hm, hd, hcc]
        have p1 : 2 ^ (7 * (k + 1)) = 2 ^ (7 * k) * 128 := by rw [show 7 * (k + 1) = 7 * k + 7 from by omega, Nat.pow_add]
        have p2 : v * 2 ^ (7 * (k + 1)) = v * 128 * 2 ^ (7 * k) := by rw [p1, Nat.mul_comm (2 ^ (7 * k)), Nat.mul_assoc]
        have p3 : (c.toNat % 128 + v * 128) * 2 ^ (7 * k) = c.toNat % 128 * 2 ^ (7 * k) + v * 128 * 2 ^ (7 * k) := Nat.add_mul _ _ _
        refine ⟨c.toNat % 128 + v * 128, by rw [e1, p2, p3]; omega, by rw [e2, hu]; simp; omega, by rw [hu]; simp [e3], by rw [hu]; simp; omega, .inr (by omega), ?_⟩
        have hq : 0 < 2 ^ (7 * k) := Nat.two_pow_pos _
        have hk8 : k ≤ 8 := by omega
        -- the number below fits, with its lowest digit
        rw [p2] at e6
        rw [p3]
        have hp : 2 ^ (7 * k) ∣ 18446744073709551616 := by
          have : (18446744073709551616 : Nat) = 2 ^ (7 * k) * 2 ^ (64 - 7 * k) := by rw [← Nat.pow_add, show 7 * k + (64 - 7 * k) = 64 from by omega]
          exact ⟨_, this⟩
        obtain ⟨q, hq2⟩ := hp
        rw [hq2, Nat.mul_comm (2 ^ (7 * k)) q] at e6 ⊢
        have h128 : ∃ t, q = 128 * t ∨ k = 9 := by
          by_cases h : k ≤ 8
          · have : (18446744073709551616 : Nat) = 2 ^ (7 * k) * (128 * 2 ^ (57 - 7 * k)) := by
              rw [show (128 : Nat) = 2 ^ 7 from rfl, ← Nat.pow_add, ← Nat.pow_add, show 7 * k + (7 + (57 - 7 * k)) = 64 from by omega]
            rw [this] at hq2
            exact ⟨2 ^ (57 - 7 * k), .inl (Nat.eq_of_mul_eq_mul_left hq hq2).symm⟩
          · exact ⟨0, .inr (by omega)⟩
        obtain ⟨t, rfl | h⟩ := h128
        · have h3 : v * 128 < 128 * t := Nat.lt_of_mul_lt_mul_right e6
          rw [← Nat.add_mul]
          exact Nat.mul_lt_mul_of_pos_right (by omega) hq
        · omega
end Go.Proofs.Ytepncgeaehjhiaa

namespace Go.Proofs.Ytepncgeaehjhiaa
open Go.RowKit

theorem or128 (u : Nat) : bits .or .u8 ((u : Int) % 256) 128 = ((u % 128 + 128 : Nat) : Int) := by
  have e : ((u : Int) % 256) = ((u % 256 : Nat) : Int) := by simp
  have h1 := u8_or_nat (u % 256) 128 (by omega) (by omega)
  rw [show ((128 : Nat) : Int) = 128 from rfl] at h1
  rw [e, h1]
  congr 1
  have h2 : (u % 256) ||| 128 = (u % 128) ||| 128 := by
    apply Nat.eq_of_testBit_eq
    intro i
    rw [Nat.testBit_or, Nat.testBit_or, show (256 : Nat) = 2 ^ 8 from rfl, show (128 : Nat) = 2 ^ 7 from rfl, Nat.testBit_mod_two_pow, Nat.testBit_mod_two_pow, Nat.testBit_two_pow]
    by_cases h7 : i = 7
    · subst h7; simp
    · by_cases h8 : i < 7
      · have : i < 8 := by omega
        simp [h8, this]
      · have : ¬ i < 8 := by omega
        simp [h8, this]
  rw [h2, Nat.or_comm, nat_join 7 128 (u % 128) (by decide) (by omega)]
  omega
theorem or128' (u : Nat) (hu : u < 18446744073709551616) : bits .or .u64 (bits .and .u64 (u : Int) 127) 128 % 256 = ((u % 128 + 128 : Nat) : Int) := by
  have h0 := u64_and_nat u 127 hu (by omega)
  rw [show ((127 : Nat) : Int) = 127 from rfl, nat_mask7] at h0
  have h1 := u64_or_nat (u % 128) 128 (by omega) (by omega)
  rw [show ((128 : Nat) : Int) = 128 from rfl] at h1
  rw [h0, h1, Nat.or_comm, nat_join 7 128 (u % 128) (by decide) (by omega)]
  omega

set_option maxRecDepth 100000 in
set_option maxHeartbeats 1000000 in
theorem putUint_any (A : Option Addr) (m c : Nat) (l : List UInt8) (v : Nat) (vz : Int) (w : World) (h : RB w A m l) (hvz : vz = v) (hm : m ≤ 140737488355300) (hv : v < 18446744073709551616) :
    Calls Try.prog 49 #[.slice A m c, .int .u64 vz] w (NewB w (m + (uv v).length) (l ++ uv v)) := by
  subst hvz
  have hown : OB (w.alloc (.cells #[] 5)) w.heap.size 5 (some ⟨w.heap.size, 0, none⟩) 0 0 [] := Own.made w w.heap.size 5 1 (Nat.le_refl _)
  have hr : RB (w.alloc (.cells #[] 5)) A m l := h.grew ((Chg.refl _ w).alloc _)
  have hl10 := uv_len10 hv
  go_enter Try.func49, Try.ntmps49
  go_wp2_with (at_builtin; refine wpList_appB rfl _ _ rfl w.heap.size _ 0 0 [] rfl hown (by simp) A m c l rfl hr (by omega) ?_; intro A1 c1 w1 h1)
  simp only [Nat.zero_add, List.nil_append] at h1
  have hg1 : Grew w w1 := h1.grew ((Chg.refl _ w).alloc _) (head_ge (Nat.le_refl _))
  have ho1 := h1.ob
  clear h1 hown hr h
  go_loopw [1, 5] (fun sv so wr => ∃ (u M C : Nat) (B : Option Addr) (r : List UInt8), sv = .int .u64 (u : Int) ∧ so = .slice B M C ∧ u < 18446744073709551616 ∧ Hid (r ++ uv u = l ++ uv v) ∧ M + (uv u).length = m + (uv v).length ∧ OB wr w.heap.size 5 B M C r ∧ Grew w wr) (fun sv _ _ => (intOf sv).toNat)
  case atStart => exact ⟨v, m, c1, A1, l, rfl, rfl, hv, rfl, rfl, ho1, hg1⟩
  case round =>
    clear ho1 hg1 w1
    obtain ⟨u, M, C, B, r, rfl, rfl, hu, Hr, hM, ho, hg⟩ := hrel
    have hs := hg.size
    have hu1 := uv_len1 u
    have HM := Lib.hid hM
    have hM2 : M + 1 ≤ 140737488355328 := by omega
    clear hM
    by_cases hlt : u < 128
    · have hn := RB.new wr [UInt8.ofNat u] 1 #[.int .u8 (u : Int)] 5 rfl (by simp [byt, ofNat_toNat (show u < 256 by omega)])
      have ho2 := ho.grew ((Chg.refl _ wr).alloc (.cells #[.int .u8 (u : Int)] 5))
      
      go_wp2_with (at_builtin; refine wpList_appB rfl _ _ rfl w.heap.size B M C r rfl ho2 (by simp; omega) _ 1 1 [UInt8.ofNat u] rfl hn (by omega) ?_; intro A2 c2 w2 h2)
      go_ret
      have hb := h2.ob
      have hr1 := Hr.out
      have hM1 := HM.out
      rw [uv_small hlt] at hr1 hM1
      rw [hr1] at hb
      have hM3 : M + 1 = m + (uv v).length := by simpa using hM1
      rw [hM3] at hb
      refine ⟨A2, c2, ?_, hb.raise ?_, h2.grew (hg.alloc _) fun ad e => (Own.blk_lt ho ad e).1⟩
      · rw [← hM3]; simp
      · exact fun ad e => (Own.blk_lt hb ad e).1
    · have hn := RB.new wr [UInt8.ofNat (u % 128 + 128)] 1 #[.int .u8 ((u % 128 + 128 : Nat) : Int)] 5 rfl (by simp [byt]; omega)
      have ho2 := ho.grew ((Chg.refl _ wr).alloc (.cells #[.int .u8 ((u % 128 + 128 : Nat) : Int)] 5))
      have he := or128 u
      go_wp2_with (at_builtin; refine wpList_appB rfl _ _ rfl w.heap.size B M C r rfl ho2 (by simp; omega) _ 1 1 [UInt8.ofNat (u % 128 + 128)] rfl hn (by omega) ?_; intro A2 c2 w2 h2)
      go_roundw
      case rel =>
        refine ⟨u / 128, M + 1, c2, A2, r ++ [UInt8.ofNat (u % 128 + 128)], by simp, rfl, by omega, ?_, ?_, h2.ob, h2.grew (hg.alloc _) fun ad e => (Own.blk_lt ho ad e).1⟩
        · show _ = _
          have hr1 := Hr.out
          rw [uv_big hlt] at hr1
          rw [List.append_assoc]
          exact hr1
        · have hM1 := HM.out
          rw [uv_big hlt] at hM1
          simp at hM1
          omega
      case measure => simp [intOf]; omega

theorem xor_ones (a : Nat) (h : a < 18446744073709551616) : a ^^^ 18446744073709551615 = 18446744073709551615 - a := by
  have e : 18446744073709551615 - a = 2 ^ 64 - (a + 1) := by omega
  rw [e]
  apply Nat.eq_of_testBit_eq
  intro i
  rw [Nat.testBit_xor, show (18446744073709551615 : Nat) = 2 ^ 64 - 1 from rfl, Nat.testBit_two_pow_sub_one, Nat.testBit_two_pow_sub_succ (by omega)]
  by_cases hi : i < 64
  · simp [hi]
  · have : a.testBit i = false := Nat.testBit_lt_two_pow (Nat.lt_of_lt_of_le h (Nat.pow_le_pow_right (show 2 > 0 by omega) (show 64 ≤ i by omega)))
    simp [hi, this]
theorem zz_walk (x : Int) (h1 : -9223372036854775808 ≤ x) (h2 : x ≤ 9223372036854775807) :
    bits .xor .u64 (IntKind.u64.wrap (IntKind.u64.wrap x * 2)) (IntKind.u64.wrap (x / 9223372036854775808)) = (zz x : Int) := by
  by_cases h0 : 0 ≤ x
  · have e1 : IntKind.u64.wrap (IntKind.u64.wrap x * 2) = ((2 * x.toNat : Nat) : Int) := by simp only [IntKind.wrap_u64]; omega
    have e2 : IntKind.u64.wrap (x / 9223372036854775808) = ((0 : Nat) : Int) := by simp only [IntKind.wrap_u64]; omega
    rw [e1, e2, u64_xor_nat _ _ (by omega) (by omega), Nat.xor_zero]
    unfold zz
    rw [if_pos h0]
  · obtain ⟨n, rfl⟩ : ∃ n : Nat, x = -(n : Int) - 1 := ⟨(-(x + 1)).toNat, by omega⟩
    have hn : n < 9223372036854775808 := by omega
    have e1 : IntKind.u64.wrap (IntKind.u64.wrap (-(n : Int) - 1) * 2) = ((18446744073709551615 - (2 * n + 1) : Nat) : Int) := by simp only [IntKind.wrap_u64]; omega
    have e2 : IntKind.u64.wrap ((-(n : Int) - 1) / 9223372036854775808) = ((18446744073709551615 : Nat) : Int) := by simp only [IntKind.wrap_u64]; omega
    rw [e1, e2, u64_xor_nat _ _ (by omega) (by omega), xor_ones _ (by omega)]
    unfold zz
    rw [if_neg h0]
    omega

end Go.Proofs.Ytepncgeaehjhiaa

namespace Go.Proofs.Ytepncgeaehjhiaa
open Go.RowKit

/-- what a reading of a number ends in -/
def uintEnd (r : Nat × Nat × Nat) : Ending := .returned (.tuple #[.int .u64 (r.1 : Int), .int .i64 (r.2.1 : Int), .int .i64 (r.2.2 : Int)])
def UintPost (w : World) (r : Nat × Nat × Nat) (e : Ending) (w' : World) : Prop := e = uintEnd r ∧ w' = w

theorem or_walk (a x k : Nat) (ha : a < 9223372036854775808) (ha2 : a < 2 ^ (7 * k)) (hk : k ≤ 9) (hx : x < 256) (h9 : k = 9 → x ≤ 1) :
    bits .or .u64 (a : Int) (IntKind.u64.wrap (IntKind.u64.wrap (bits .and .u8 (x : Int) 127) * 2 ^ (7 * k))) = ((a + x % 128 * 2 ^ (7 * k) : Nat) : Int) := by
  have h1 := u8_and_nat x 127 hx (by omega)
  rw [show ((127 : Nat) : Int) = 127 from rfl, nat_mask7] at h1
  have hb : x % 128 * 2 ^ (7 * k) < 18446744073709551616 := by
    by_cases h : k = 9
    · subst h
      have := h9 rfl
      rw [show 2 ^ (7 * 9) = 9223372036854775808 from rfl]
      omega
    · have hp : 2 ^ (7 * k) ≤ 2 ^ 56 := Nat.pow_le_pow_right (by omega) (by omega)
      have : x % 128 * 2 ^ (7 * k) ≤ 127 * 2 ^ 56 := Nat.mul_le_mul (by omega) hp
      omega
  have e1 : IntKind.u64.wrap ((x % 128 : Nat) : Int) = ((x % 128 : Nat) : Int) := by simp only [IntKind.wrap_u64]; omega
  have e2 : (((x % 128 : Nat) : Int) * 2 ^ (7 * k)) = ((x % 128 * 2 ^ (7 * k) : Nat) : Int) := by simp
  have e3 : IntKind.u64.wrap ((x % 128 * 2 ^ (7 * k) : Nat) : Int) = ((x % 128 * 2 ^ (7 * k) : Nat) : Int) := by simp only [IntKind.wrap_u64]; omega
  rw [h1, e1, e2, e3, u64_or_nat _ _ (by omega) hb, Nat.or_comm, nat_join (7 * k) _ _ (Nat.mul_mod_left _ _) ha2]
  congr 1
  omega

set_option maxRecDepth 100000 in
set_option maxHeartbeats 2000000 in
theorem uint_any (A : Option Addr) (m c : Nat) (l : List UInt8) (at_ : Int) (w : World) (h : RB w A m l) (hm : m ≤ 140737488355328) :
    Calls Try.prog 46 #[.slice A m c, .int .i64 at_] w (UintPost w (uintR l at_)) := by
  have hll := h.1
  by_cases h0 : at_ < 0
  · have hd : decide (at_ < 0) = true := by simpa using h0
    have hr : uintR l at_ = (0, 0, 20) := by unfold uintR; rw [if_neg (by omega)]
    rw [hr]
    clear hr
    go_enter Try.func46, Try.ntmps46
    go_wp2
    go_ret3
    exact ⟨by simp [uintEnd], rfl⟩
  · have hd : decide (at_ < 0) = false := by simpa using h0
    obtain ⟨t, rfl⟩ := Int.eq_ofNat_of_zero_le (by omega : 0 ≤ at_)
    by_cases h1 : m < t
    · have hr : uintR l t = (0, 0, 20) := by unfold uintR; rw [if_neg (by omega)]
      rw [hr]
      clear hr
      go_enter Try.func46, Try.ntmps46
      go_wp2
      go_ret3
      exact ⟨by simp [uintEnd], rfl⟩
    · have ht : t ≤ m := by omega
      have hr : uintR l t = (if (ur (l.drop t) 0 0).2.2 = 0 then ((ur (l.drop t) 0 0).1, t + (ur (l.drop t) 0 0).2.1, 0) else (0, 0, (ur (l.drop t) 0 0).2.2)) := by
        unfold uintR
        rw [if_pos (by omega)]
        simp
      have Hr := Lib.hid hr
      clear hr hll
      go_enter Try.func46, Try.ntmps46
      go_wp2
      go_loop [7, 8] (fun sv sk => ∃ (a k : Nat), sv = .int .u64 (a : Int) ∧ sk = .int .i64 (k : Int) ∧ k ≤ 9 ∧ t + k ≤ m ∧ a < 2 ^ (7 * k) ∧ Hid (ur (l.drop t) 0 0 = ur (l.drop (t + k)) k a)) (fun _ sk => m - (intOf sk).toNat)
      case atStart => exact ⟨0, 0, rfl, rfl, by omega, by omega, by simp, rfl⟩
      case round =>
        obtain ⟨a, k, rfl, rfl, hk9, htk, ha, Hu⟩ := hrel
        have ha2 : a < 9223372036854775808 := by
          have : 2 ^ (7 * k) ≤ 2 ^ 63 := Nat.pow_le_pow_right (by omega) (by omega)
          omega
        have Ha := Lib.hid ha
        clear ha
        by_cases hlt : t + k < m
        · obtain ⟨ad, x, rfl, hx, hc⟩ := h.at_ (k := t + k) hlt
          have hx8 := x.toNat_lt
          have hdr : l.drop (t + k) = x :: l.drop (t + k + 1) := by
            have h3 := List.getElem?_eq_some_iff.1 hx
            rw [← h3.2, List.getElem_cons_drop]
          have hur : Hid (ur (l.drop (t + k)) k a = if (k = 9 ∧ 1 < x.toNat) ∨ (0 < k ∧ x.toNat = 0) then (0, 0, 21) else if x.toNat < 128 then (a + x.toNat * 2 ^ (7 * k), k + 1, 0) else ur (l.drop (t + k + 1)) (k + 1) (a + x.toNat % 128 * 2 ^ (7 * k))) := by
            show _ = _
            rw [hdr]
            rfl
          clear hx hdr
          by_cases he : (k = 9 ∧ 1 < x.toNat) ∨ (0 < k ∧ x.toNat = 0)
          · have hres : Hid (uintR l t = (0, 0, 21)) := by
              show _ = _
              rw [Hr.out, Hu.out, hur.out, if_pos he]
              rfl
            clear Hr Hu hur Ha
            rcases he with ⟨h4, h5⟩ | ⟨h5, h6⟩
            · have h7 : ((k : Int) == 9) = true := by simp; omega
              clear h4
              go_wp2
              go_ret3
              rw [hres.out]
              exact ⟨by simp [uintEnd], rfl⟩
            · have h7 : ((x.toNat : Int) == 0) = true := by simpa using h6
              have h8 : (x.toNat : Int) ≤ 1 := by omega
              clear h6
              by_cases hk : k = 9
              · have h9 : ((k : Int) == 9) = true := by simp; omega
                clear hk
                go_wp2
                go_ret3
                rw [hres.out]
                exact ⟨by simp [uintEnd], rfl⟩
              · have hk' : ((k : Int) == 9) = false := by simp; omega
                go_wp2
                go_ret3
                rw [hres.out]
                exact ⟨by simp [uintEnd], rfl⟩
          · have hur2 := hur.out
            rw [if_neg he] at hur2
            have Hur := Lib.hid hur2
            clear hur hur2
            have hwalk := or_walk a x.toNat k ha2 Ha.out hk9 hx8 (by omega)
            have hg1 : k = 9 → x.toNat = 1 := by omega
            have hg2 : 0 < k → x.toNat ≠ 0 := by omega
            clear he
            by_cases hb : x.toNat < 128
            · have hres : Hid (uintR l t = (a + x.toNat * 2 ^ (7 * k), t + (k + 1), 0)) := by
                show _ = _
                rw [Hr.out, Hu.out, Hur.out, if_pos hb]
                rfl
              rw [Nat.mod_eq_of_lt hb] at hwalk
              have Hw := Lib.hid hwalk
              clear Hr Hu Hur Ha hwalk
              have hfin : ∀ q : Int, q = (t : Int) + k + 1 → Ending.returned (.tuple #[.int .u64 (bits .or .u64 (a : Int) (IntKind.u64.wrap (IntKind.u64.wrap (bits .and .u8 (x.toNat : Int) 127) * 2 ^ (7 * k)))), .int .i64 q, .int .i64 0]) = uintEnd (uintR l t) := by
                rintro q rfl
                rw [Hw.out, hres.out]
                unfold uintEnd
                simp
                omega
              have Hfin := Lib.hid hfin
              clear hfin hres Hw
              by_cases hk : k = 9
              · have hx1 := hg1 hk
                have h9 : ((k : Int) == 9) = true := by simp; omega
                have hk0 : 0 < k := by omega
                clear hk
                have hx2 : (x.toNat : Int) ≤ 1 := by omega
                have hx3 : ((x.toNat : Int) == 0) = false := by simp; omega
                clear hg1 hg2 hx1
                go_wp2
                go_ret3
                exact ⟨Hfin.out _ (by omega), rfl⟩
              · have hk' : ((k : Int) == 9) = false := by simp; omega
                by_cases hk0 : k = 0
                · have hk1 : ¬ 0 < k := by omega
                  clear hg1 hg2 hk hk0
                  go_wp2
                  go_ret3
                  exact ⟨Hfin.out _ (by omega), rfl⟩
                · have hx4 := hg2 (by omega)
                  have hx3 : ((x.toNat : Int) == 0) = false := by simp; omega
                  have hk1 : 0 < k := by omega
                  clear hg1 hg2 hx4 hk hk0
                  go_wp2
                  go_ret3
                  exact ⟨Hfin.out _ (by omega), rfl⟩
            · have hk : k ≠ 9 := by rintro rfl; have := hg1 rfl; omega
              have hk' : ((k : Int) == 9) = false := by simp; omega
              have hx3 : ((x.toNat : Int) == 0) = false := by simp; omega
              have hk8 : k ≤ 8 := by omega
              have Hw := Lib.hid hwalk
              have hu2 : Hid (ur (l.drop t) 0 0 = ur (l.drop (t + (k + 1))) (k + 1) (a + x.toNat % 128 * 2 ^ (7 * k))) := by
                show _ = _
                rw [Hu.out, Hur.out, if_neg hb]
                rfl
              have hnew : Hid (a + x.toNat % 128 * 2 ^ (7 * k) < 2 ^ (7 * (k + 1))) := by
                show _ < _
                have := Ha.out
                have e1 : 2 ^ (7 * (k + 1)) = 128 * 2 ^ (7 * k) := by rw [show 7 * (k + 1) = 7 + 7 * k from by omega, Nat.pow_add]
                have e2 : x.toNat % 128 * 2 ^ (7 * k) ≤ 127 * 2 ^ (7 * k) := Nat.mul_le_mul_right _ (by omega)
                rw [e1]
                omega
              clear hg1 hg2 hwalk Hu Hur Hr Ha hk
              have hfin : ∃ a' k' : Nat, Value.int IntKind.u64 (bits .or .u64 (a : Int) (IntKind.u64.wrap (IntKind.u64.wrap (bits .and .u8 (x.toNat : Int) 127) * 2 ^ (7 * k)))) = .int .u64 (a' : Int) ∧ Value.int .i64 ((k : Int) + 1) = .int .i64 (k' : Int) ∧ k' ≤ 9 ∧ t + k' ≤ m ∧ a' < 2 ^ (7 * k') ∧ Hid (ur (l.drop t) 0 0 = ur (l.drop (t + k')) k' a') :=
                ⟨_, k + 1, by rw [Hw.out], by simp, by omega, by omega, hnew.out, hu2⟩
              have Hfin := Lib.hid hfin
              clear hfin Hw hnew hu2
              go_wp2
              all_goals exact ⟨Hfin.out, by simp [intOf]; omega⟩
        · have hkm : t + k = m := by omega
          have hres : Hid (uintR l t = (0, 0, 20)) := by
            show _ = _
            rw [Hr.out, Hu.out, List.drop_of_length_le (by have := h.1; omega)]
            rfl
          clear Hr Hu Ha hkm
          go_wp2
          go_ret3
          rw [hres.out]
          exact ⟨by simp [uintEnd], rfl⟩

end Go.Proofs.Ytepncgeaehjhiaa

namespace Go.Proofs.Ytepncgeaehjhiaa
open Go.RowKit

theorem byte_back {v : Nat} (h : v < 256) : (UInt8.ofNat v).toNat = v := by rw [UInt8.toNat_ofNat']; exact Nat.mod_eq_of_lt h
theorem foldl_push (l : List UInt8) : ∀ s : ByteArray, (l.map fun c => (c.toNat : Int)).foldl (fun r n => r.push (UInt8.ofNat n.toNat)) s = ⟨s.data ++ l.toArray⟩ := by
  induction l with
  | nil => intro s; simp
  | cons c l ih =>
    intro s
    rw [List.map_cons, List.foldl_cons, ih]
    congr 1
    have : UInt8.ofNat ((c.toNat : Int)).toNat = c := UInt8.toNat_inj.1 (by rw [Int.toNat_natCast, byte_back c.toNat_lt])
    rw [this]
    simp [ByteArray.push]
theorem run_conv_RB {P : Program} {w : World} {src dst e : TypeId} (hs : P.underlying src = some (.slice e)) (he : P.underlying e = some (.int .u8)) (hd : P.underlying dst = some .string)
    {A : Option Addr} {n c : Nat} {l : List UInt8} (h : RB w A n l) : (convert src dst (.slice A n c)).run P w = .ok (.string ⟨l.toArray⟩) w := by
  rw [run_convert_bytes_string w src dst e A n c hs he hd]
  have hf := firstCells_rd (P := P) w 1 n c A (l.map byt) (by simpa using h.1) h.2
  rcases A with _ | ad
  · have hl : l = [] := by
      rcases l with _ | ⟨x, r⟩
      · rfl
      · obtain ⟨ad, e, _⟩ := h.2 0 (byt x) rfl
        cases e
    subst hl
    rfl
  · simp only [Builtin.firstCells, Nat.mul_one] at hf
    have := run_bytesToString (P := P) w ad n c (l.map fun c => (c.toNat : Int)) (by rw [hf]; simp [byt])
    rw [this, foldl_push]
    simp

end Go.Proofs.Ytepncgeaehjhiaa

namespace Go.Proofs.Ytepncgeaehjhiaa
open Go.RowKit

theorem uintR_bad (l : List UInt8) (at_ : Int) (h : (uintR l at_).2.2 ≠ 0) : (uintR l at_).1 = 0 ∧ (uintR l at_).2.1 = 0 := by
  unfold uintR at *
  split at h <;> rename_i h1
  · rw [if_pos h1]
    split at h <;> rename_i h2
    · exact absurd rfl h
    · rw [if_neg h2]
      exact ⟨rfl, rfl⟩
  · rw [if_neg h1]
    exact ⟨rfl, rfl⟩
theorem uintR_err (l : List UInt8) (at_ : Int) : (uintR l at_).2.2 = 0 ∨ (uintR l at_).2.2 = 20 ∨ (uintR l at_).2.2 = 21 := by
  unfold uintR
  split
  · split
    · exact .inl rfl
    · exact ur_err _ _ _
  · exact .inr (.inl rfl)
theorem uintR_ok (l : List UInt8) (at_ : Int) (h : (uintR l at_).2.2 = 0) : ∃ t : Nat, at_ = t ∧ t ≤ l.length ∧ (uintR l at_).1 < 18446744073709551616 ∧ (uintR l at_).2.1 = t + (uv (uintR l at_).1).length ∧
    (l.drop t).take (uv (uintR l at_).1).length = uv (uintR l at_).1 ∧ t + (uv (uintR l at_).1).length ≤ l.length := by
  unfold uintR at *
  split at h <;> rename_i h1
  · rw [if_pos h1]
    split at h <;> rename_i h2
    · rw [if_pos h2]
      obtain ⟨v, e1, e2, e3, e4, _, e6⟩ := ur_back (l.drop at_.toNat) 0 0 (by omega) h2
      simp only [Nat.mul_zero, Nat.pow_zero, Nat.mul_one, Nat.zero_add] at e1 e2 e6
      rw [e1, e2]
      rw [List.length_drop] at e4
      exact ⟨at_.toNat, by omega, by omega, e6, rfl, e3, by omega⟩
    · exact absurd h h2
  · cases h
theorem uintR_lt (l : List UInt8) (at_ : Int) : (uintR l at_).1 < 18446744073709551616 := by
  by_cases h : (uintR l at_).2.2 = 0
  · exact (uintR_ok l at_ h).choose_spec.2.2.1
  · rw [(uintR_bad l at_ h).1]; omega
theorem uintR_to (l : List UInt8) (at_ : Int) : (uintR l at_).2.1 ≤ l.length := by
  by_cases h : (uintR l at_).2.2 = 0
  · obtain ⟨t, _, _, _, e, _, h2⟩ := uintR_ok l at_ h
    omega
  · rw [(uintR_bad l at_ h).2]; omega

theorem xor_neg (n : Nat) (h : n < 9223372036854775808) : bits .xor .i64 (n : Int) (-1) = -(n : Int) - 1 := by
  show IntKind.i64.wrap ((BitVec.ofInt 64 (n : Int) ^^^ BitVec.ofInt 64 (-1)).toNat : Int) = _
  have h1 : (BitVec.ofInt 64 (-1)).toNat = 18446744073709551615 := by decide
  have h2 : (BitVec.ofInt 64 (n : Int)).toNat = n := by rw [BitVec.ofInt_natCast, BitVec.toNat_ofNat]; exact Nat.mod_eq_of_lt (by omega)
  rw [BitVec.toNat_xor, h1, h2, xor_ones _ (by omega), IntKind.wrap_i64]
  omega
theorem xor_none (n : Nat) (h : n < 9223372036854775808) : bits .xor .i64 (n : Int) 0 = (n : Int) := by
  show IntKind.i64.wrap ((BitVec.ofInt 64 (n : Int) ^^^ BitVec.ofInt 64 0).toNat : Int) = _
  have h2 : (BitVec.ofInt 64 (n : Int)).toNat = n := by rw [BitVec.ofInt_natCast, BitVec.toNat_ofNat]; exact Nat.mod_eq_of_lt (by omega)
  rw [BitVec.toNat_xor, h2, show (BitVec.ofInt 64 0).toNat = 0 from rfl, Nat.xor_zero, IntKind.wrap_i64]
  omega
theorem and1 (v : Nat) (h : v < 18446744073709551616) : bits .and .u64 (v : Int) 1 = ((v % 2 : Nat) : Int) := by
  have := u64_and_nat v 1 h (by omega)
  rw [show ((1 : Nat) : Int) = 1 from rfl] at this
  rw [this, nat_mask1]
theorem uz_walk (v : Nat) (h : v < 18446744073709551616) : bits .xor .i64 ((v : Int) / 2) (wrap64 (-wrap64 (bits .and .u64 (v : Int) 1))) = uz v := by
  rw [and1 v h]
  have e : (v : Int) / 2 = ((v / 2 : Nat) : Int) := by simp
  rw [e]
  rcases Nat.mod_two_eq_zero_or_one v with h2 | h2
  · rw [h2, show wrap64 (-wrap64 ((0 : Nat) : Int)) = 0 from by unfold wrap64; decide, xor_none _ (by omega)]
    unfold uz
    rw [if_pos h2]
  · rw [h2, show wrap64 (-wrap64 ((1 : Nat) : Int)) = -1 from by unfold wrap64; decide, xor_neg _ (by omega)]
    unfold uz
    rw [if_neg (by omega)]

/-- what a reading of a signed number ends in -/
def IntPost (w : World) (r : Nat × Nat × Nat) (e : Ending) (w' : World) : Prop := e = .returned (.tuple #[.int .i64 (uz r.1), .int .i64 (r.2.1 : Int), .int .i64 (r.2.2 : Int)]) ∧ w' = w

theorem RB.dropO {w : World} {A : Option Addr} {n : Nat} {l : List UInt8} (h : RB w A n l) (i : Nat) : RB w (A.map fun x => x.add i) (n - i) (l.drop i) := by
  refine ⟨by rw [List.length_drop, h.1], ?_⟩
  rw [List.map_drop]
  exact h.2.drop i

/-- a text that is read: its bytes, the place behind it, the error -/
def textOf (l : List UInt8) (r : Nat × Nat × Nat) : List UInt8 × Nat × Nat := if r.2.2 ≠ 0 then ([], 0, r.2.2) else if l.length - r.2.1 < r.1 then ([], 0, 20) else ((l.drop r.2.1).take r.1, r.2.1 + r.1, 0)
def textR (l : List UInt8) (at_ : Int) : List UInt8 × Nat × Nat := textOf l (uintR l at_)
def textEnd (r : List UInt8 × Nat × Nat) : Ending := .returned (.tuple #[.string ⟨r.1.toArray⟩, .int .i64 (r.2.1 : Int), .int .i64 (r.2.2 : Int)])
def TextPost (w : World) (r : List UInt8 × Nat × Nat) (e : Ending) (w' : World) : Prop := e = textEnd r ∧ w' = w

end Go.Proofs.Ytepncgeaehjhiaa

namespace Go.Proofs.Ytepncgeaehjhiaa

/-- one step of the sum -/
def cs (c : Nat) : Nat := if c % 2 = 1 then (c / 2) ^^^ 3988292384 else c / 2
def cs4 (c : Nat) : Nat := cs (cs (cs (cs c)))
/-- a byte more -/
def crcB (c x : Nat) : Nat := cs4 (cs4 (c ^^^ x))
def crcL (c : Nat) (l : List UInt8) : Nat := l.foldl (fun c x => crcB c x.toNat) c
/-- the sum of bytes -/
def crc (l : List UInt8) : Nat := crcL 4294967295 l ^^^ 4294967295

theorem cs_lt {c : Nat} (h : c < 4294967296) : cs c < 4294967296 := by
  unfold cs
  split
  · exact Nat.xor_lt_two_pow (n := 32) (by omega) (by decide)
  · omega
theorem cs4_lt {c : Nat} (h : c < 4294967296) : cs4 c < 4294967296 := cs_lt (cs_lt (cs_lt (cs_lt h)))
theorem xor_lt32 {a b : Nat} (h : a < 4294967296) (h2 : b < 4294967296) : a ^^^ b < 4294967296 := Nat.xor_lt_two_pow (n := 32) h h2
theorem crcB_lt {c x : Nat} (h : c < 4294967296) (h2 : x < 4294967296) : crcB c x < 4294967296 := cs4_lt (cs4_lt (xor_lt32 h h2))
theorem crcL_lt (l : List UInt8) : ∀ {c : Nat}, c < 4294967296 → crcL c l < 4294967296 := by
  induction l with
  | nil => intro c h; exact h
  | cons x l ih => intro c h; exact ih (crcB_lt h (by have := x.toNat_lt; omega))
theorem crc_lt (l : List UInt8) : crc l < 4294967296 := xor_lt32 (crcL_lt l (by decide)) (by decide)
theorem xor_half (a b : Nat) : (a ^^^ b) / 2 = (a / 2) ^^^ (b / 2) := by
  apply Nat.eq_of_testBit_eq
  intro i
  rw [Nat.testBit_div_two, Nat.testBit_xor, Nat.testBit_xor, Nat.testBit_div_two, Nat.testBit_div_two]
theorem xor_par (a b : Nat) : (a ^^^ b) % 2 = (a + b) % 2 := by
  have h : (a ^^^ b).testBit 0 = ((a.testBit 0) ^^ (b.testBit 0)) := Nat.testBit_xor a b 0
  rw [Nat.testBit_zero, Nat.testBit_zero, Nat.testBit_zero] at h
  rcases Nat.mod_two_eq_zero_or_one a with h1 | h1 <;> rcases Nat.mod_two_eq_zero_or_one b with h2 | h2 <;> rcases Nat.mod_two_eq_zero_or_one (a ^^^ b) with h3 | h3 <;>
    first
      | omega
      | (rw [h1, h2, h3] at h; exact absurd h (by decide))
theorem cs_xor (a b : Nat) : cs (a ^^^ b) = cs a ^^^ cs b := by
  unfold cs
  rw [xor_par, xor_half]
  rcases Nat.mod_two_eq_zero_or_one a with h1 | h1 <;> rcases Nat.mod_two_eq_zero_or_one b with h2 | h2
  · rw [if_neg (by omega), if_neg (by omega), if_neg (by omega)]
  · rw [if_pos (by omega), if_neg (by omega), if_pos (by omega), Nat.xor_assoc]
  · rw [if_pos (by omega), if_pos (by omega), if_neg (by omega), Nat.xor_assoc, Nat.xor_assoc, Nat.xor_comm (b / 2)]
  · rw [if_neg (by omega), if_pos (by omega), if_pos (by omega)]
    have : ∀ p q r : Nat, (p ^^^ r) ^^^ (q ^^^ r) = p ^^^ q := fun p q r => by
      rw [Nat.xor_assoc, ← Nat.xor_assoc r q r, Nat.xor_comm r q, Nat.xor_assoc q r r, Nat.xor_self, Nat.xor_zero]
    rw [this]
theorem cs4_xor (a b : Nat) : cs4 (a ^^^ b) = cs4 a ^^^ cs4 b := by unfold cs4; simp only [cs_xor]
theorem cs_double (q : Nat) : cs (2 * q) = q := by unfold cs; rw [if_neg (by omega)]; omega
theorem cs4_16 (q : Nat) : cs4 (16 * q) = q := by
  unfold cs4
  rw [show 16 * q = 2 * (2 * (2 * (2 * q))) from by omega]
  simp only [cs_double]
/-- four steps at once, by a table of sixteen -/
theorem cs4_tab (c : Nat) : cs4 c = (c / 16) ^^^ cs4 (c % 16) := by
  have h : c = (16 * (c / 16)) ^^^ (c % 16) := by
    have h1 := nat_join 4 (16 * (c / 16)) (c % 16) (by omega) (by omega)
    have h2 : (16 * (c / 16)) ^^^ (c % 16) = (16 * (c / 16)) ||| (c % 16) := by
      apply Nat.eq_of_testBit_eq
      intro i
      rw [Nat.testBit_xor, Nat.testBit_or]
      by_cases hi : i < 4
      · have : (16 * (c / 16)).testBit i = false := by
          rw [show 16 * (c / 16) = (c / 16) * 2 ^ 4 from by omega, Nat.testBit_mul_two_pow]
          simp; omega
        simp [this]
      · have : (c % 16).testBit i = false := Nat.testBit_lt_two_pow (Nat.lt_of_lt_of_le (Nat.mod_lt _ (by omega)) (Nat.pow_le_pow_right (show 2 > 0 by omega) (show 4 ≤ i by omega)))
        simp [this]
    rw [h2, h1]
    omega
  conv => lhs; rw [h]
  rw [cs4_xor, cs4_16]

theorem cs_zero {c : Nat} (h : c < 4294967296) (h0 : cs c = 0) : c = 0 := by
  unfold cs at h0
  split at h0
  · have : c / 2 = 3988292384 := by
      have h1 := congrArg (· ^^^ 3988292384) h0
      simp only [Nat.xor_assoc, Nat.xor_self, Nat.xor_zero, Nat.zero_xor] at h1
      exact h1
    omega
  · omega
theorem cs4_zero {c : Nat} (h : c < 4294967296) (h0 : cs4 c = 0) : c = 0 :=
  cs_zero h (cs_zero (cs_lt h) (cs_zero (cs_lt (cs_lt h)) (cs_zero (cs_lt (cs_lt (cs_lt h))) h0)))
theorem xor_eq_zero {a b : Nat} (h : a ^^^ b = 0) : a = b := by
  have h1 := congrArg (· ^^^ b) h
  simp only [Nat.xor_assoc, Nat.xor_self, Nat.xor_zero, Nat.zero_xor] at h1
  exact h1
theorem crcB_diff (c d x y : Nat) : crcB c x ^^^ crcB d y = cs4 (cs4 ((c ^^^ d) ^^^ (x ^^^ y))) := by
  unfold crcB
  rw [← cs4_xor, ← cs4_xor]
  congr 2
  rw [Nat.xor_assoc, ← Nat.xor_assoc x d y, Nat.xor_comm x d, Nat.xor_assoc d x y, ← Nat.xor_assoc]
theorem crcB_inj {c d x : Nat} (hc : c < 4294967296) (hd : d < 4294967296) (h : crcB c x = crcB d x) : c = d := by
  have h1 := crcB_diff c d x x
  rw [h, Nat.xor_self, Nat.xor_self, Nat.xor_zero] at h1
  exact xor_eq_zero (cs4_zero (xor_lt32 hc hd) (cs4_zero (cs4_lt (xor_lt32 hc hd)) h1.symm))
theorem crcB_inj2 {c x y : Nat} (hx : x < 4294967296) (hy : y < 4294967296) (h : crcB c x = crcB c y) : x = y := by
  have h1 := crcB_diff c c x y
  rw [h, Nat.xor_self, Nat.xor_self, Nat.zero_xor] at h1
  exact xor_eq_zero (cs4_zero (xor_lt32 hx hy) (cs4_zero (cs4_lt (xor_lt32 hx hy)) h1.symm))
theorem crcL_inj (l : List UInt8) : ∀ {c d : Nat}, c < 4294967296 → d < 4294967296 → crcL c l = crcL d l → c = d := by
  induction l with
  | nil => intro c d _ _ h; exact h
  | cons x l ih =>
    intro c d hc hd h
    have hx := x.toNat_lt
    exact crcB_inj hc hd (ih (crcB_lt hc (by omega)) (crcB_lt hd (by omega)) h)
theorem crcL_append (c : Nat) (a b : List UInt8) : crcL c (a ++ b) = crcL (crcL c a) b := by unfold crcL; rw [List.foldl_append]
/-- one byte that differs makes another sum -/
theorem crc_turned (a b : List UInt8) (x y : UInt8) (h : x ≠ y) : crc (a ++ x :: b) ≠ crc (a ++ y :: b) := by
  intro e
  unfold crc at e
  have e1 : crcL 4294967295 (a ++ x :: b) = crcL 4294967295 (a ++ y :: b) := by
    have h1 := congrArg (· ^^^ 4294967295) e
    simp only [Nat.xor_assoc, Nat.xor_self, Nat.xor_zero] at h1
    exact h1
  rw [crcL_append, crcL_append] at e1
  have hc := crcL_lt a (c := 4294967295) (by decide)
  generalize crcL 4294967295 a = c at e1 hc
  have hx := x.toNat_lt
  have hy := y.toNat_lt
  have e2 : crcB c x.toNat = crcB c y.toNat := crcL_inj b (crcB_lt hc (by omega)) (crcB_lt hc (by omega)) e1
  exact h (UInt8.toNat_inj.1 (crcB_inj2 (by omega) (by omega) e2))
end Go.Proofs.Ytepncgeaehjhiaa

namespace Go.Proofs.Ytepncgeaehjhiaa
open Go.RowKit

theorem and1u32 (v : Nat) (h : v < 4294967296) : bits .and .u32 (v : Int) 1 = ((v % 2 : Nat) : Int) := by
  have := u32_and_nat v 1 h (by omega)
  rw [show ((1 : Nat) : Int) = 1 from rfl] at this
  rw [this, nat_mask1]
theorem and15u32 (v : Nat) (h : v < 4294967296) : bits .and .u32 (v : Int) 15 = ((v % 16 : Nat) : Int) := by
  have := u32_and_nat v 15 h (by omega)
  rw [show ((15 : Nat) : Int) = 15 from rfl] at this
  rw [this, nat_mask4]
theorem xorP (v : Nat) (h : v < 4294967296) : bits .xor .u32 ((v : Int) / 2) 3988292384 = ((v / 2 ^^^ 3988292384 : Nat) : Int) := by
  have := u32_xor_nat (v / 2) 3988292384 (by omega) (by omega)
  rw [show ((3988292384 : Nat) : Int) = 3988292384 from rfl] at this
  rw [← this]
  simp

/-- so many steps -/
def csN : Nat → Nat → Nat
  | 0, x => x
  | n + 1, x => csN n (cs x)
/-- the table: a word's four steps, of each number below sixteen -/
def tabV (n : Nat) : Value := .int .u32 (cs4 n : Int)
def tabA : Array Value := #[tabV 0, tabV 1, tabV 2, tabV 3, tabV 4, tabV 5, tabV 6, tabV 7, tabV 8, tabV 9, tabV 10, tabV 11, tabV 12, tabV 13, tabV 14, tabV 15]

/-- the table as it is filled: the first n words, then noughts -/
def tabN (n : Nat) : Array Value := ((List.range 16).map fun i => if i < n then tabV i else .int .u32 0).toArray
theorem tabN_set (n : Nat) (_ : n < 16) : (tabN n).setIfInBounds n (tabV n) = tabN (n + 1) := by
  apply Array.ext
  · simp [tabN]
  · intro i h1 h2
    have h0 : i < (tabN n).size := by simpa using h1
    simp only [tabN, List.size_toArray, List.length_map, List.length_range] at h2
    rw [Array.getElem_setIfInBounds h0]
    split
    · rename_i e
      subst e
      simp [tabN]
    · rename_i e
      simp only [tabN, List.getElem_toArray, List.getElem_map, List.getElem_range]
      by_cases h3 : i < n
      · rw [if_pos h3, if_pos (by omega)]
      · rw [if_neg h3, if_neg (by omega)]

theorem Blk.newAt {w : World} {B : Nat} {cs cs' : Array Value} {t : TypeId} (hB : B = w.heap.size) (hc : cs' = cs) : Blk (w.alloc (.cells cs' t)) B t cs := by
  subst hB; subst hc
  exact Blk.new w t _
theorem Blk.there {w : World} {g : Nat} {t : TypeId} {cs : Array Value} (h : Blk w g t cs) : w.there g 0 cs.size := fun j hj => by
  rw [Nat.zero_add]
  exact ⟨by rw [h.cell, Array.getElem?_eq_getElem hj]; rfl, h.frozen j⟩
def setAll (cs : Array Value) (o : Nat) : List Value → Array Value
  | [] => cs
  | v :: vs => setAll (cs.setIfInBounds o v) (o + 1) vs
theorem Blk.setCells {g : Nat} {t : TypeId} (vs : List Value) : ∀ {w : World} {cs : Array Value} (o : Nat), Blk w g t cs → Blk (w.setCells g o vs) g t (setAll cs o vs) := by
  induction vs with
  | nil => intro w cs o h; exact h
  | cons v vs ih => intro w cs o h; exact ih (o + 1) (h.set o v)
theorem Chg.setCells {S : Nat → Prop} {a : World} {g : Nat} (hg : a.heap.size ≤ g ∨ S g) (vs : List Value) : ∀ {b : World} (o : Nat), Chg S a b → Chg S a (b.setCells g o vs) := by
  induction vs with
  | nil => intro b o h; exact h
  | cons v vs ih => intro b o h; exact ih (o + 1) (h.setCell (p := ⟨g, o, none⟩) hg v)

/-- a whole row stored over a block known whole; the world behind it is a name -/
theorem wpList_store_blk {P : Program} {ops : Array Oper} {rest : List Oper} {op : Oper} {a : Act} {w : World} {Q : Exit → Act → World → Prop} (hgd : op.guard = none) (ty : TypeId) (x y : Operand) (ho : op.op = .store ty x y)
    (g : Nat) (cells old : Array Value) (t : TypeId) (hx : a.eval x = .pointer (some ⟨g, 0, none⟩)) (hy : a.eval y = .agg cells) (hb : Blk w g t old) (hsz : old.size = cells.size)
    (hall : setAll old 0 cells.toList = cells) (hi : (P.info? ty).map (·.size) = some cells.size) (h1 : cells.all (·.oneCell') = true)
    (h : ∀ w', Blk w' g t cells → Chg (fun k => k = g) w w' → wpList P ops Q rest (a.put op.dst undef) w') : wpList P ops Q (op :: rest) a w := by
  refine wpList_store_mid hgd ty x y ho g 0 cells hx hy (by rw [← hsz]; exact hb.there) hi h1 (h _ ?_ (Chg.setCells (S := fun k => k = g) (.inr rfl) _ _ (Chg.refl _ w)))
  have := Blk.setCells cells.toList 0 hb
  rwa [hall] at this

set_option maxRecDepth 100000 in
set_option maxHeartbeats 1000000 in
theorem table_any (w : World) : Calls Try.prog 77 #[] w fun e w' => e = .returned (.agg tabA) ∧ Grew w w' := by
  go_enter Try.func77, Try.ntmps77
  go_wp2
  go_loopw [5] (fun si wr => ∃ i : Nat, si = .int .i64 (i : Int) ∧ i ≤ 16 ∧ Blk wr (w.heap.size + 1) 102 (tabN i) ∧ Blk wr w.heap.size 102 (tabN 0) ∧ Grew w wr) (fun si _ => 16 - (intOf si).toNat)
  case atStart => exact ⟨0, rfl, by omega, by refine Blk.newAt (w := w.alloc (.cells (tabN 0) 102)) ?_ rfl; simp, (Blk.newAt (w := w) (cs' := tabN 0) rfl rfl).alloc (.cells (tabN 0) 102), ((Chg.refl _ w).alloc _).alloc _⟩
  case round =>
    obtain ⟨i, rfl, hi, hb, hb0, hg⟩ := hrel
    by_cases hlt : i < 16
    · go_wp2
      obtain ⟨wo, rfl⟩ : ∃ wo : World, wo = wr := ⟨_, rfl⟩
      go_loop [3, 4] (fun sc sk => ∃ (k u : Nat), sk = .int .i64 (k : Int) ∧ sc = .int .u32 (u : Int) ∧ k ≤ 4 ∧ u < 4294967296 ∧ Hid (csN (4 - k) u = cs4 i)) (fun _ sk => 4 - (intOf sk).toNat)
      case atStart => exact ⟨0, i, rfl, by simp, by omega, by omega, rfl⟩
      case round =>
        obtain ⟨k, u, rfl, rfl, hk, hu, Hu⟩ := hrel
        by_cases hlt2 : k < 4
        · have Hu2 : Hid (csN (4 - (k + 1)) (cs u) = cs4 i) := by
            show _ = _
            rw [← Hu.out, show 4 - k = (4 - (k + 1)) + 1 from by omega]
            rfl
          have hcs := cs_lt hu
          have ha := and1u32 u hu
          have Ha := Lib.hid ha
          clear ha Hu
          by_cases h2 : u % 2 = 1
          · have h3 : (bits .and .u32 (u : Int) 1 == 0) = false := by rw [Ha.out, h2]; rfl
            have he : bits .xor .u32 ((u : Int) / 2) 3988292384 = (cs u : Int) := by rw [xorP u hu]; unfold cs; rw [if_pos h2]
            clear h2 Ha
            go_wp2
            go_round
            case rel => exact ⟨k + 1, cs u, by go_num, by simp, by omega, hcs, Hu2⟩
            case measure => simp [intOf]; omega
          · have h3 : (bits .and .u32 (u : Int) 1 == 0) = true := by rw [Ha.out, show u % 2 = 0 from by omega]; rfl
            have he : cs u = u / 2 := by unfold cs; rw [if_neg h2]
            have He := Lib.hid he
            clear h2 Ha he
            go_wp2
            go_round
            case rel => exact ⟨k + 1, cs u, by go_num, by rw [He.out]; simp, by omega, hcs, Hu2⟩
            case measure => simp [intOf]; omega
        · obtain rfl : k = 4 := by omega
          have hu8 := Hu.out
          have Hu4 : Hid (u = cs4 i) := hu8
          have hci : wo.cell? ⟨w.heap.size + 1, i, none⟩ = some (.int .u32 0) := by
            rw [hb.cell]
            simp [tabN, hlt]
          have hfi := hb.frozen i
          clear Hu hu8
          have hbs := hb.set i (tabV i)
          rw [tabN_set i hlt] at hbs
          unfold tabV at hbs
          rw [← Hu4.out] at hbs
          have hb0s := hb0.far (p := ⟨w.heap.size + 1, i, none⟩) (show w.heap.size ≠ w.heap.size + 1 by omega) (.int .u32 (u : Int))
          have hgs := hg.setCell (p := ⟨w.heap.size + 1, i, none⟩) (.inl (show w.heap.size ≤ w.heap.size + 1 by omega)) (.int .u32 (u : Int))
          have Hbs := Lib.hid hbs
          have Hb0s := Lib.hid hb0s
          clear hbs hb0s Hu4
          go_wp2
          go_roundw
          case rel => exact ⟨i + 1, by go_num, by omega, Hbs.out, Hb0s.out, hgs⟩
          case measure => simp [intOf]; omega
    · obtain rfl : i = 16 := by omega
      rw [show tabN 16 = tabA from rfl] at hb
      have ht := hb0.there
      go_wp2_with (first | (refine wpList_load_row rfl 102 _ rfl (w.heap.size + 1) rfl 102 tabA (0, 0) _ hb Try.underlying102 rfl (by kernel_rfl) ?_) | (refine wpList_store_mid rfl 102 _ _ rfl w.heap.size 0 tabA rfl rfl (by exact ht) (by kernel_rfl) (by kernel_rfl) ?_))
      have hbr := Blk.setCells tabA.toList 0 hb0
      rw [show setAll (tabN 0) 0 tabA.toList = tabA from rfl] at hbr
      exact bodyPost_ret (results_cell_row rfl _ _ w.heap.size 102 tabA (0, 0) _ rfl hbr Try.underlying102 rfl (by kernel_rfl)) rfl ⟨rfl, Chg.setCells (.inl (Nat.le_refl _)) _ _ hg⟩

set_option maxRecDepth 100000 in
set_option maxHeartbeats 1000000 in
theorem sum_any (A : Option Addr) (m c : Nat) (l : List UInt8) (w : World) (h : RB w A m l) (hm : m ≤ 140737488355328) :
    Calls Try.prog 59 #[.slice A m c] w fun e w' => e = .returned (.int .u32 (crc l : Int)) ∧ Grew w w' := by
  go_enter Try.func59, Try.ntmps59
  go_wp2_with fail
  refine (table_any _).mono ?_
  rintro e w1 ⟨rfl, hg1⟩
  have h1 := h.grew hg1
  have hb0 : Blk (w1.alloc (.cells (tabN 0) 102)) w1.heap.size 102 (tabN 0) := Blk.newAt rfl rfl
  have ht := hb0.there
  go_wp2_with (refine wpList_store_blk rfl 102 _ _ rfl w1.heap.size tabA (tabN 0) 102 rfl rfl (by exact hb0) rfl rfl (by kernel_rfl) (by kernel_rfl) ?_; intro w2 hb hc2)
  have hg2 : Grew w1 w2 := ((Chg.refl _ w1).alloc (.cells (tabN 0) 102)).step hc2 (by rintro k hk rfl; omega)
  have h2 := h1.grew hg2
  have hg := hg1.trans hg2
  clear hg1 hg2 hc2 h1 hb0 ht h
  generalize w1.heap.size = g at hb ⊢
  go_loop [4, 10] (fun sc si => ∃ (i x : Nat), si = .int .i64 (i : Int) ∧ sc = .int .u32 (x : Int) ∧ i ≤ m ∧ x < 4294967296 ∧ Hid (crcL x (l.drop i) = crcL 4294967295 l)) (fun _ si => m - (intOf si).toNat)
  case atStart => exact ⟨0, 4294967295, rfl, rfl, by omega, by omega, rfl⟩
  case round =>
    obtain ⟨i, x, rfl, rfl, hi, hx, Hx⟩ := hrel
    by_cases hlt : i < m
    · obtain ⟨ad, y, rfl, hy, hc⟩ := h2.at_ hlt
      have hy8 := y.toNat_lt
      have hdr : l.drop i = y :: l.drop (i + 1) := by
        have h3 := List.getElem?_eq_some_iff.1 hy
        rw [← h3.2, List.getElem_cons_drop]
      have hx2 := Hx.out
      rw [hdr] at hx2
      have Hx2 := Lib.hid hx2
      clear hx2 hdr hy Hx
      have hxor : bits .xor .u32 (x : Int) (y.toNat : Int) = ((x ^^^ y.toNat : Nat) : Int) := u32_xor_nat _ _ hx (by omega)
      have hz : x ^^^ y.toNat < 4294967296 := xor_lt32 hx (by omega)
      have Hz : Hid (crcL (cs4 (cs4 (x ^^^ y.toNat))) (l.drop (i + 1)) = crcL 4294967295 l) := Hx2.out
      generalize x ^^^ y.toNat = z at hxor hz Hz
      clear Hx2
      have four : ∀ z : Nat, z < 4294967296 → ∃ q p r : Nat, q < 16 ∧ bits .and .u32 (z : Int) 15 = (q : Int) ∧ w2.cell? ⟨g, q, none⟩ = some (.int .u32 (p : Int)) ∧ bits .xor .u32 ((z : Int) / 16) (p : Int) = (r : Int) ∧ r < 4294967296 ∧ r = cs4 z := by
        intro z hz
        have hp : cs4 (z % 16) < 4294967296 := cs4_lt (by omega)
        refine ⟨z % 16, cs4 (z % 16), cs4 z, by omega, and15u32 z hz, ?_, ?_, cs4_lt hz, rfl⟩
        · rw [hb.cell]
          have hall : ∀ q, q < 16 → tabA[q]? = some (tabV q) := by
            intro q hq
            have : q = 0 ∨ q = 1 ∨ q = 2 ∨ q = 3 ∨ q = 4 ∨ q = 5 ∨ q = 6 ∨ q = 7 ∨ q = 8 ∨ q = 9 ∨ q = 10 ∨ q = 11 ∨ q = 12 ∨ q = 13 ∨ q = 14 ∨ q = 15 := by omega
            rcases this with rfl | rfl | rfl | rfl | rfl | rfl | rfl | rfl | rfl | rfl | rfl | rfl | rfl | rfl | rfl | rfl <;> rfl
          exact hall _ (by omega)
        · have h5 := u32_xor_nat (z / 16) (cs4 (z % 16)) (by omega) hp
          rw [← cs4_tab] at h5
          rw [← h5]
          simp
      obtain ⟨q1, p1, r1, hq1, ha1, hc1, hx1, hr1, e1⟩ := four z hz
      obtain ⟨q2, p2, r2, hq2, ha2, hc2, hx2, hr2, e2⟩ := four r1 hr1
      have Hz2 : Hid (crcL r2 (l.drop (i + 1)) = crcL 4294967295 l) := by
        show _ = _
        rw [e2, e1]
        exact Hz.out
      clear four e1 e2 Hz
      go_wp2
      go_round
      case rel => exact ⟨i + 1, r2, by go_num, by simp, by omega, hr2, Hz2⟩
      case measure => simp [intOf]; omega
    · have hd : l.drop i = [] := List.drop_of_length_le (by have := h2.1; omega)
      have hx2 := Hx.out
      rw [hd] at hx2
      have hfin : Hid (bits .xor .u32 IntKind.u32.max (x : Int) = (crc l : Int)) := by
        show _ = _
        have := u32_xor_nat 4294967295 x (by omega) hx
        rw [show ((4294967295 : Nat) : Int) = IntKind.u32.max from rfl, Nat.xor_comm] at this
        rw [this]
        unfold crc
        rw [← hx2]
        rfl
      clear hx2 hd Hx
      go_wp2
      go_ret
      exact ⟨by simp [hfin.out], hg⟩

end Go.Proofs.Ytepncgeaehjhiaa

namespace Go.Proofs.Ytepncgeaehjhiaa
open Go.RowKit

/-- a sum's bytes -/
def four (s : Nat) : List UInt8 := [UInt8.ofNat (s / 16777216), UInt8.ofNat (s / 65536), UInt8.ofNat (s / 256), UInt8.ofNat s]
/-- a record's frame -/
def frameB (l : List UInt8) : List UInt8 := uv l.length ++ four (crc l) ++ l
/-- new bytes and an error -/
def BytesE (w : World) (n : Nat) (l : List UInt8) (er : Nat) (e : Ending) (w' : World) : Prop :=
  ∃ A c, e = .returned (.tuple #[.slice A n c, .int .i64 (er : Int)]) ∧ OB w' w.heap.size 5 A n c l ∧ Grew w w'

theorem byt_ofNat (n : Nat) : byt (UInt8.ofNat n) = .int .u8 ((n : Int) % 256) := by
  unfold byt
  rw [UInt8.toNat_ofNat']
  simp

/-- a sum's bytes as the walk lays them -/
def fourC (s : Nat) : Array Value := #[.int .u8 ((s : Int) / 16777216), .int .u8 ((s : Int) / 65536 % 256), .int .u8 ((s : Int) / 256 % 256), .int .u8 ((s : Int) % 256)]
theorem fourC_eq (s : Nat) (h : s < 4294967296) : fourC s = ((four s).map byt).toArray := by
  show _ = #[byt (UInt8.ofNat (s / 16777216)), byt (UInt8.ofNat (s / 65536)), byt (UInt8.ofNat (s / 256)), byt (UInt8.ofNat s)]
  rw [byt_ofNat, byt_ofNat, byt_ofNat, byt_ofNat]
  have e1 : (((s / 16777216 : Nat)) : Int) % 256 = (s : Int) / 16777216 := by omega
  have e2 : (((s / 65536 : Nat)) : Int) % 256 = (s : Int) / 65536 % 256 := by omega
  have e3 : (((s / 256 : Nat)) : Int) % 256 = (s : Int) / 256 % 256 := by omega
  rw [e1, e2, e3]
  rfl

set_option maxRecDepth 100000 in
set_option maxHeartbeats 1000000 in
theorem frame_no (A : Option Addr) (m c : Nat) (w : World) (hm : m ≤ 9223372036854775807) (h : 65536 < m) :
    Calls Try.prog 48 #[.slice A m c] w fun e w' => e = .returned (.tuple #[.slice none 0 0, .int .i64 23]) ∧ w' = w := by
  go_enter Try.func48, Try.ntmps48
  go_wp2_with fail
  go_ret2
  exact ⟨by simp, rfl⟩
set_option maxRecDepth 100000 in
set_option maxHeartbeats 1000000 in
theorem frame_any (A : Option Addr) (m c : Nat) (l : List UInt8) (w : World) (h : RB w A m l) (hm : m ≤ 65536) :
    Calls Try.prog 48 #[.slice A m c] w (BytesE w ((uv m).length + 4 + m) (frameB l) 0) := by
  have hl10 := uv_len10 (v := m) (by omega)
  have hcr := crc_lt l
  have hfb : frameB l = uv m ++ four (crc l) ++ l := by unfold frameB; rw [h.1]
  rw [hfb]
  clear hfb
  have hsum := sum_any A m c l w h (by omega)
  generalize crc l = s at hcr hsum ⊢
  have Hsum := Lib.hid hsum
  clear hsum
  go_enter Try.func48, Try.ntmps48
  go_wp2_with fail
  refine Hsum.out.mono ?_
  rintro e w1 ⟨rfl, hg1⟩
  go_wp2_with fail
  refine (putUint_any none 0 0 [] m _ _ ⟨rfl, Rd.nil _ _⟩ ?_ (by omega) (by omega)).mono ?_
  · simp
  rintro e w2 ⟨B, C, rfl, ho2, hg2⟩
  rw [List.nil_append] at ho2
  have h2 := (h.grew hg1).grew hg2
  have hs1 := hg1.size
  have hs2 := hg2.size
  rw [Nat.zero_add] at ho2
  have hf4 : RB (w2.alloc (.cells (fourC s) 5)) (some ⟨w2.heap.size, 0, none⟩) 4 (four s) := RB.new w2 (four s) 4 _ _ rfl (fourC_eq s hcr)
  have ho2a := ho2.grew ((Chg.refl _ w2).alloc (.cells (fourC s) 5))
  unfold fourC at hf4 ho2a
  have hr3 := h2.grew ((Chg.refl _ w2).alloc (.cells (fourC s) 5))
  unfold fourC at hr3
  go_wp2_with (first | (at_builtin; refine wpList_appB rfl _ _ rfl w1.heap.size B _ C _ rfl ho2a (by simp; omega) _ 4 4 (four s) rfl hf4 (by omega) ?_; intro A3 c3 w3 h3; have ho3 := h3.ob; have hg3 := h3.grew (hg2.alloc _) (fun ad e => (Own.blk_lt ho2 ad e).1); have hs3 := hg3.size; have hr4 := (h.grew hg1).grew hg3) | (at_builtin; refine wpList_appB rfl _ _ rfl w1.heap.size A3 _ c3 _ rfl ho3 hs3 A m c l rfl hr4 (by omega) ?_; intro A4 c4 w4 h4))
  go_ret2
  exact ⟨A4, c4, by simp, h4.ob.mono hs1, hg1.trans (h4.grew hg3 fun ad e => (Own.blk_lt ho3 ad e).1)⟩

end Go.Proofs.Ytepncgeaehjhiaa
