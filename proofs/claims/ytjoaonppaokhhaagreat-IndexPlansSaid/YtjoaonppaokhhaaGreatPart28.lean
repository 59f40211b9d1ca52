/-
  Several texts in one:
  Plain laws of package codec: numbers as bytes, and read back; signed ones; the sum of bytes. Conditions: none; no program in sight.
  Package codec and its reference: numbers and texts laid into bytes, and read: what each call does. Conditions: lengths that memory bears.
-/
import Derived.Laws.BitsAllLaws
import Derived.Test.YtjoaonppaokhhaaGreatPart27

namespace Go.Proofs.YtjoaonppaokhhaaGreat

/-- a number's bytes, seven bits each, the lowest first -/
def uv (v : Nat) : List UInt8 := if v < 128 then [UInt8.ofNat v] else UInt8.ofNat (v % 128 + 128) :: uv (v / 128)
termination_by v
decreasing_by omega
theorem uv_small {v : Nat} (h : v < 128) : uv v = [UInt8.ofNat v] := by rw [uv, if_pos h]
theorem uv_big {v : Nat} (h : ¬ v < 128) : uv v = UInt8.ofNat (v % 128 + 128) :: uv (v / 128) := by rw [uv, if_neg h]
theorem uv_ne (v : Nat) : uv v ≠ [] := by
  by_cases h : v < 128
  · rw [uv_small h]; simp
  · rw [uv_big h]; simp
theorem uv_len (n : Nat) : ∀ v, v < 128 ^ (n + 1) → (uv v).length ≤ n + 1 := by
  induction n with
  | zero => intro v h; rw [uv_small (by omega)]; simp
  | succ n ih =>
    intro v h
    by_cases hv : v < 128
    · rw [uv_small hv]; simp
    · rw [uv_big hv]
      have := ih (v / 128) (by rw [Nat.pow_succ] at h; omega)
      simp
      omega
theorem uv_len10 {v : Nat} (h : v < 18446744073709551616) : (uv v).length ≤ 10 := uv_len 9 v (by omega)
theorem uv_len1 (v : Nat) : 1 ≤ (uv v).length := by
  have := uv_ne v
  rcases hl : uv v with _ | ⟨a, r⟩
  · exact absurd hl this
  · simp

/-- the signed numbers as numbers: 0, -1, 1, -2 .. -/
def zz (x : Int) : Nat := if 0 ≤ x then 2 * x.toNat else 2 * (-(x + 1)).toNat + 1
def uz (v : Nat) : Int := if v % 2 = 0 then ((v / 2 : Nat) : Int) else -((v / 2 : Nat) : Int) - 1
theorem uz_zz (x : Int) : uz (zz x) = x := by unfold uz zz; split <;> split <;> omega
theorem zz_uz (v : Nat) : zz (uz v) = v := by unfold uz zz; split <;> split <;> omega
theorem zz_lt {x : Int} (h1 : -9223372036854775808 ≤ x) (h2 : x ≤ 9223372036854775807) : zz x < 18446744073709551616 := by unfold zz; split <;> omega
theorem uz_ge {v : Nat} (h : v < 18446744073709551616) : -9223372036854775808 ≤ uz v ∧ uz v ≤ 9223372036854775807 := by unfold uz; split <;> omega

/-- reading a number: what it is, how many bytes it has, and the error -/
def ur : List UInt8 → Nat → Nat → Nat × Nat × Nat
  | [], _, _ => (0, 0, 20)
  | c :: r, k, a => if (k = 9 ∧ 1 < c.toNat) ∨ (0 < k ∧ c.toNat = 0) then (0, 0, 21) else if c.toNat < 128 then (a + c.toNat * 2 ^ (7 * k), k + 1, 0) else ur r (k + 1) (a + c.toNat % 128 * 2 ^ (7 * k))
/-- the same from a place of some bytes on, with the place behind it -/
def uintR (l : List UInt8) (at_ : Int) : Nat × Nat × Nat :=
  if 0 ≤ at_ ∧ at_ ≤ l.length then (if (ur (l.drop at_.toNat) 0 0).2.2 = 0 then ((ur (l.drop at_.toNat) 0 0).1, at_.toNat + (ur (l.drop at_.toNat) 0 0).2.1, 0) else (0, 0, (ur (l.drop at_.toNat) 0 0).2.2)) else (0, 0, 20)

theorem ofNat_toNat {v : Nat} (h : v < 256) : (UInt8.ofNat v).toNat = v := by rw [UInt8.toNat_ofNat']; exact Nat.mod_eq_of_lt h

theorem ur_uv (r : List UInt8) : ∀ v k a, (k = 0 ∨ 0 < v) → v * 2 ^ (7 * k) < 18446744073709551616 → k ≤ 9 → ur (uv v ++ r) k a = (a + v * 2 ^ (7 * k), k + (uv v).length, 0) := by
  intro v
  induction v using Nat.strongRecOn with
  | _ v ih =>
    intro k a h0 h1 hk
    have h9 : k = 9 → v < 2 := by
      rintro rfl
      rw [show 2 ^ (7 * 9) = 9223372036854775808 from rfl] at h1
      omega
    by_cases hv : v < 128
    · rw [uv_small hv]
      show ur (UInt8.ofNat v :: r) k a = _
      unfold ur
      rw [ofNat_toNat (by omega), if_neg (by omega), if_pos hv]
      rfl
    · rw [uv_big hv]
      show ur (UInt8.ofNat (v % 128 + 128) :: (uv (v / 128) ++ r)) k a = _
      unfold ur
      rw [ofNat_toNat (by omega), if_neg (by omega), if_neg (by omega)]
      have e1 : 2 ^ (7 * (k + 1)) = 2 ^ (7 * k) * 128 := by rw [show 7 * (k + 1) = 7 * k + 7 from by omega, Nat.pow_add]
      have e2 : v / 128 * 2 ^ (7 * (k + 1)) = v / 128 * 128 * 2 ^ (7 * k) := by rw [e1, Nat.mul_comm (2 ^ (7 * k)), Nat.mul_assoc]
      have e3 : v * 2 ^ (7 * k) = (v % 128) * 2 ^ (7 * k) + v / 128 * 128 * 2 ^ (7 * k) := by rw [← Nat.add_mul]; congr 1; omega
      rw [ih (v / 128) (by omega) (k + 1) _ (.inr (by omega)) (by rw [e2]; omega) (by omega)]
      rw [show (v % 128 + 128) % 128 = v % 128 from by omega, e2, e3]
      simp
      omega

theorem ur_err (r : List UInt8) : ∀ k a, (ur r k a).2.2 = 0 ∨ (ur r k a).2.2 = 20 ∨ (ur r k a).2.2 = 21 := by
  induction r with
  | nil => intro k a; right; left; rfl
  | cons c r ih =>
    intro k a
    unfold ur
    split
    · right; right; rfl
    · split
      · left; rfl
      · exact ih _ _
theorem ur_bad (r : List UInt8) : ∀ k a, (ur r k a).2.2 ≠ 0 → (ur r k a).1 = 0 ∧ (ur r k a).2.1 = 0 := by
  induction r with
  | nil => intro k a _; exact ⟨rfl, rfl⟩
  | cons c r ih =>
    intro k a
    unfold ur
    split
    · intro _; exact ⟨rfl, rfl⟩
    · split
      · intro h; exact absurd rfl h
      · exact ih _ _
/-- what is read has just those bytes -/
theorem ur_back (r : List UInt8) : ∀ k a, k ≤ 9 → (ur r k a).2.2 = 0 → ∃ v, (ur r k a).1 = a + v * 2 ^ (7 * k) ∧ (ur r k a).2.1 = k + (uv v).length ∧ r.take (uv v).length = uv v ∧ (uv v).length ≤ r.length ∧ (k = 0 ∨ 0 < v) ∧ v * 2 ^ (7 * k) < 18446744073709551616 := by
  induction r with
  | nil => intro k a _ h; cases h
  | cons c r ih =>
    intro k a hk
    have hc := c.toNat_lt
    unfold ur
    split
    · intro h; cases h
    · rename_i h1
      split
      · rename_i h2
        intro _
        have e0 : UInt8.ofNat c.toNat = c := UInt8.toNat_inj.1 (by rw [ofNat_toNat hc])
        refine ⟨c.toNat, rfl, by rw [uv_small h2]; rfl, by rw [uv_small h2, e0]; rfl, by rw [uv_small h2]; simp, by omega, ?_⟩
        by_cases h9 : k = 9
        · subst h9
          rw [show 2 ^ (7 * 9) = 9223372036854775808 from rfl]
          omega
        · have hp : 2 ^ (7 * k) ≤ 2 ^ 56 := Nat.pow_le_pow_right (by omega) (by omega)
          have : c.toNat * 2 ^ (7 * k) ≤ 127 * 2 ^ 56 := Nat.mul_le_mul (by omega) hp
          omega
      · rename_i h2
        intro h
        have hk9 : k ≠ 9 := by omega
        obtain ⟨v, e1, e2, e3, e4, e5, e6⟩ := ih (k + 1) _ (by omega) h
        have hv0 : 0 < v := by omega
        have hv : ¬ (c.toNat % 128 + v * 128 < 128) := by omega
        have hm : (c.toNat % 128 + v * 128) % 128 = c.toNat % 128 := by omega
        have hd : (c.toNat % 128 + v * 128) / 128 = v := by omega
        have hcc : UInt8.ofNat (c.toNat % 128 + 128) = c := UInt8.toNat_inj.1 (by rw [ofNat_toNat (by omega)]; omega)
        have hu : uv (c.toNat % 128 + v * 128) = c :: uv v := by rw [uv_big hv, hm, hd, hcc]
        have p1 : 2 ^ (7 * (k + 1)) = 2 ^ (7 * k) * 128 := by rw [show 7 * (k + 1) = 7 * k + 7 from by omega, Nat.pow_add]
        have p2 : v * 2 ^ (7 * (k + 1)) = v * 128 * 2 ^ (7 * k) := by rw [p1, Nat.mul_comm (2 ^ (7 * k)), Nat.mul_assoc]
        have p3 : (c.toNat % 128 + v * 128) * 2 ^ (7 * k) = c.toNat % 128 * 2 ^ (7 * k) + v * 128 * 2 ^ (7 * k) := Nat.add_mul _ _ _
        refine ⟨c.toNat % 128 + v * 128, by rw [e1, p2, p3]; omega, by rw [e2, hu]; simp; omega, by rw [hu]; simp [e3], by rw [hu]; simp; omega, .inr (by omega), ?_⟩
        have hq : 0 < 2 ^ (7 * k) := Nat.two_pow_pos _
        have hk8 : k ≤ 8 := by omega
        -- the number below fits, with its lowest digit
        rw [p2] at e6
        rw [p3]
        have hp : 2 ^ (7 * k) ∣ 18446744073709551616 := by
          have : (18446744073709551616 : Nat) = 2 ^ (7 * k) * 2 ^ (64 - 7 * k) := by rw [← Nat.pow_add, show 7 * k + (64 - 7 * k) = 64 from by omega]
          exact ⟨_, this⟩
        obtain ⟨q, hq2⟩ := hp
        rw [hq2, Nat.mul_comm (2 ^ (7 * k)) q] at e6 ⊢
        have h128 : ∃ t, q = 128 * t ∨ k = 9 := by
          by_cases h : k ≤ 8
          · have : (18446744073709551616 : Nat) = 2 ^ (7 * k) * (128 * 2 ^ (57 - 7 * k)) := by
              rw [show (128 : Nat) = 2 ^ 7 from rfl, ← Nat.pow_add, ← Nat.pow_add, show 7 * k + (7 + (57 - 7 * k)) = 64 from by omega]
            rw [this] at hq2
            exact ⟨2 ^ (57 - 7 * k), .inl (Nat.eq_of_mul_eq_mul_left hq hq2).symm⟩
          · exact ⟨0, .inr (by omega)⟩
        obtain ⟨t, rfl | h⟩ := h128
        · have h3 : v * 128 < 128 * t := Nat.lt_of_mul_lt_mul_right e6
          rw [← Nat.add_mul]
          exact Nat.mul_lt_mul_of_pos_right (by omega) hq
        · omega
end Go.Proofs.YtjoaonppaokhhaaGreat

namespace Go.Proofs.YtjoaonppaokhhaaGreat
open Go.RowKit

theorem or128 (u : Nat) : bits .or .u8 ((u : Int) % 256) 128 = ((u % 128 + 128 : Nat) : Int) := by
  have e : ((u : Int) % 256) = ((u % 256 : Nat) : Int) := by simp
  have h1 := u8_or_nat (u % 256) 128 (by omega) (by omega)
  rw [show ((128 : Nat) : Int) = 128 from rfl] at h1
  rw [e, h1]
  congr 1
  have h2 : (u % 256) ||| 128 = (u % 128) ||| 128 := by
    apply Nat.eq_of_testBit_eq
    intro i
    rw [Nat.testBit_or, Nat.testBit_or, show (256 : Nat) = 2 ^ 8 from rfl, show (128 : Nat) = 2 ^ 7 from rfl, Nat.testBit_mod_two_pow, Nat.testBit_mod_two_pow, Nat.testBit_two_pow]
    by_cases h7 : i = 7
    · subst h7; simp
    · by_cases h8 : i < 7
      · have : i < 8 := by omega
        simp [h8, this]
      · have : ¬ i < 8 := by omega
        simp [h8, this]
  rw [h2, Nat.or_comm, nat_join 7 128 (u % 128) (by decide) (by omega)]
  omega
theorem or128' (u : Nat) (hu : u < 18446744073709551616) : bits .or .u64 (bits .and .u64 (u : Int) 127) 128 % 256 = ((u % 128 + 128 : Nat) : Int) := by
  have h0 := u64_and_nat u 127 hu (by omega)
  rw [show ((127 : Nat) : Int) = 127 from rfl, nat_mask7] at h0
  have h1 := u64_or_nat (u % 128) 128 (by omega) (by omega)
  rw [show ((128 : Nat) : Int) = 128 from rfl] at h1
  rw [h0, h1, Nat.or_comm, nat_join 7 128 (u % 128) (by decide) (by omega)]
  omega

set_option maxRecDepth 100000 in
set_option maxHeartbeats 1000000 in
theorem putUint_any (A : Option Addr) (m c : Nat) (l : List UInt8) (v : Nat) (vz : Int) (w : World) (h : RB w A m l) (hvz : vz = v) (hm : m ≤ 140737488355300) (hv : v < 18446744073709551616) :
    Calls Tryz.prog 65 #[.slice A m c, .int .u64 vz] w (NewB w (m + (uv v).length) (l ++ uv v)) := by
  subst hvz
  have hown : OB (w.alloc (.cells #[] 5)) w.heap.size 5 (some ⟨w.heap.size, 0, none⟩) 0 0 [] := Own.made w w.heap.size 5 1 (Nat.le_refl _)
  have hr : RB (w.alloc (.cells #[] 5)) A m l := h.grew ((Chg.refl _ w).alloc _)
  have hl10 := uv_len10 hv
  go_enter Tryz.func65, Tryz.ntmps65
  go_wp2_with (at_builtin; refine wpList_appB rfl _ _ rfl w.heap.size _ 0 0 [] rfl hown (by simp) A m c l rfl hr (by omega) ?_; intro A1 c1 w1 h1)
  simp only [Nat.zero_add, List.nil_append] at h1
  have hg1 : Grew w w1 := h1.grew ((Chg.refl _ w).alloc _) (head_ge (Nat.le_refl _))
  have ho1 := h1.ob
  clear h1 hown hr h
  go_loopw [1, 5] (fun sv so wr => ∃ (u M C : Nat) (B : Option Addr) (r : List UInt8), sv = .int .u64 (u : Int) ∧ so = .slice B M C ∧ u < 18446744073709551616 ∧ Hid (r ++ uv u = l ++ uv v) ∧ M + (uv u).length = m + (uv v).length ∧ OB wr w.heap.size 5 B M C r ∧ Grew w wr) (fun sv _ _ => (intOf sv).toNat)
  case atStart => exact ⟨v, m, c1, A1, l, rfl, rfl, hv, rfl, rfl, ho1, hg1⟩
  case round =>
    clear ho1 hg1 w1
    obtain ⟨u, M, C, B, r, rfl, rfl, hu, Hr, hM, ho, hg⟩ := hrel
    have hs := hg.size
    have hu1 := uv_len1 u
    have HM := Lib.hid hM
    have hM2 : M + 1 ≤ 140737488355328 := by omega
    clear hM
    by_cases hlt : u < 128
    · have hn := RB.new wr [UInt8.ofNat u] 1 #[.int .u8 (u : Int)] 5 rfl (by simp [byt, ofNat_toNat (show u < 256 by omega)])
      have ho2 := ho.grew ((Chg.refl _ wr).alloc (.cells #[.int .u8 (u : Int)] 5))
      
      go_wp2_with (at_builtin; refine wpList_appB rfl _ _ rfl w.heap.size B M C r rfl ho2 (by simp; omega) _ 1 1 [UInt8.ofNat u] rfl hn (by omega) ?_; intro A2 c2 w2 h2)
      go_ret
      have hb := h2.ob
      have hr1 := Hr.out
      have hM1 := HM.out
      rw [uv_small hlt] at hr1 hM1
      rw [hr1] at hb
      have hM3 : M + 1 = m + (uv v).length := by simpa using hM1
      rw [hM3] at hb
      refine ⟨A2, c2, ?_, hb.raise ?_, h2.grew (hg.alloc _) fun ad e => (Own.blk_lt ho ad e).1⟩
      · rw [← hM3]; simp
      · exact fun ad e => (Own.blk_lt hb ad e).1
    · have hn := RB.new wr [UInt8.ofNat (u % 128 + 128)] 1 #[.int .u8 ((u % 128 + 128 : Nat) : Int)] 5 rfl (by simp [byt]; omega)
      have ho2 := ho.grew ((Chg.refl _ wr).alloc (.cells #[.int .u8 ((u % 128 + 128 : Nat) : Int)] 5))
      have he := or128 u
      go_wp2_with (at_builtin; refine wpList_appB rfl _ _ rfl w.heap.size B M C r rfl ho2 (by simp; omega) _ 1 1 [UInt8.ofNat (u % 128 + 128)] rfl hn (by omega) ?_; intro A2 c2 w2 h2)
      go_roundw
      case rel =>
        refine ⟨u / 128, M + 1, c2, A2, r ++ [UInt8.ofNat (u % 128 + 128)], by simp, rfl, by omega, ?_, ?_, h2.ob, h2.grew (hg.alloc _) fun ad e => (Own.blk_lt ho ad e).1⟩
        · show _ = _
          have hr1 := Hr.out
          rw [uv_big hlt] at hr1
          rw [List.append_assoc]
          exact hr1
        · have hM1 := HM.out
          rw [uv_big hlt] at hM1
          simp at hM1
          omega
      case measure => simp [intOf]; omega

set_option maxRecDepth 100000 in
set_option maxHeartbeats 1000000 in
theorem refPutUint_any (A : Option Addr) (m c : Nat) (l : List UInt8) (v : Nat) (vz : Int) (w : World) (h : RB w A m l) (hvz : vz = v) (hm : m ≤ 140737488355300) (hv : v < 18446744073709551616) :
    Calls Tryz.prog 55 #[.slice A m c, .int .u64 vz] w (NewB w (m + (uv v).length) (l ++ uv v)) := by
  subst hvz
  have hown : OB (w.alloc (.cells #[] 5)) w.heap.size 5 (some ⟨w.heap.size, 0, none⟩) 0 0 [] := Own.made w w.heap.size 5 1 (Nat.le_refl _)
  have hr : RB (w.alloc (.cells #[] 5)) A m l := h.grew ((Chg.refl _ w).alloc _)
  have hl10 := uv_len10 hv
  go_enter Tryz.func55, Tryz.ntmps55
  go_wp2_with (at_builtin; refine wpList_appB rfl _ _ rfl w.heap.size _ 0 0 [] rfl hown (by simp) A m c l rfl hr (by omega) ?_; intro A1 c1 w1 h1)
  simp only [Nat.zero_add, List.nil_append] at h1
  have hg1 : Grew w w1 := h1.grew ((Chg.refl _ w).alloc _) (head_ge (Nat.le_refl _))
  have ho1 := h1.ob
  clear h1 hown hr h
  go_loopw [1, 5] (fun sv so wr => ∃ (u M C : Nat) (B : Option Addr) (r : List UInt8), sv = .int .u64 (u : Int) ∧ so = .slice B M C ∧ u < 18446744073709551616 ∧ Hid (r ++ uv u = l ++ uv v) ∧ M + (uv u).length = m + (uv v).length ∧ OB wr w.heap.size 5 B M C r ∧ Grew w wr) (fun sv _ _ => (intOf sv).toNat)
  case atStart => exact ⟨v, m, c1, A1, l, rfl, rfl, hv, rfl, rfl, ho1, hg1⟩
  case round =>
    clear ho1 hg1 w1
    obtain ⟨u, M, C, B, r, rfl, rfl, hu, Hr, hM, ho, hg⟩ := hrel
    have hs := hg.size
    have hu1 := uv_len1 u
    have HM := Lib.hid hM
    have hM2 : M + 1 ≤ 140737488355328 := by omega
    clear hM
    by_cases hlt : u < 128
    · have hn := RB.new wr [UInt8.ofNat u] 1 #[.int .u8 (u : Int)] 5 rfl (by simp [byt, ofNat_toNat (show u < 256 by omega)])
      have ho2 := ho.grew ((Chg.refl _ wr).alloc (.cells #[.int .u8 (u : Int)] 5))
      
      go_wp2_with (at_builtin; refine wpList_appB rfl _ _ rfl w.heap.size B M C r rfl ho2 (by simp; omega) _ 1 1 [UInt8.ofNat u] rfl hn (by omega) ?_; intro A2 c2 w2 h2)
      go_ret
      have hb := h2.ob
      have hr1 := Hr.out
      have hM1 := HM.out
      rw [uv_small hlt] at hr1 hM1
      rw [hr1] at hb
      have hM3 : M + 1 = m + (uv v).length := by simpa using hM1
      rw [hM3] at hb
      refine ⟨A2, c2, ?_, hb.raise ?_, h2.grew (hg.alloc _) fun ad e => (Own.blk_lt ho ad e).1⟩
      · rw [← hM3]; simp
      · exact fun ad e => (Own.blk_lt hb ad e).1
    · have hn := RB.new wr [UInt8.ofNat (u % 128 + 128)] 1 #[.int .u8 ((u % 128 + 128 : Nat) : Int)] 5 rfl (by simp [byt]; omega)
      have ho2 := ho.grew ((Chg.refl _ wr).alloc (.cells #[.int .u8 ((u % 128 + 128 : Nat) : Int)] 5))
      have he := or128' u hu
      go_wp2_with (at_builtin; refine wpList_appB rfl _ _ rfl w.heap.size B M C r rfl ho2 (by simp; omega) _ 1 1 [UInt8.ofNat (u % 128 + 128)] rfl hn (by omega) ?_; intro A2 c2 w2 h2)
      go_roundw
      case rel =>
        refine ⟨u / 128, M + 1, c2, A2, r ++ [UInt8.ofNat (u % 128 + 128)], by simp, rfl, by omega, ?_, ?_, h2.ob, h2.grew (hg.alloc _) fun ad e => (Own.blk_lt ho ad e).1⟩
        · show _ = _
          have hr1 := Hr.out
          rw [uv_big hlt] at hr1
          rw [List.append_assoc]
          exact hr1
        · have hM1 := HM.out
          rw [uv_big hlt] at hM1
          simp at hM1
          omega
      case measure => simp [intOf]; omega

theorem xor_ones (a : Nat) (h : a < 18446744073709551616) : a ^^^ 18446744073709551615 = 18446744073709551615 - a := by
  have e : 18446744073709551615 - a = 2 ^ 64 - (a + 1) := by omega
  rw [e]
  apply Nat.eq_of_testBit_eq
  intro i
  rw [Nat.testBit_xor, show (18446744073709551615 : Nat) = 2 ^ 64 - 1 from rfl, Nat.testBit_two_pow_sub_one, Nat.testBit_two_pow_sub_succ (by omega)]
  by_cases hi : i < 64
  · simp [hi]
  · have : a.testBit i = false := Nat.testBit_lt_two_pow (Nat.lt_of_lt_of_le h (Nat.pow_le_pow_right (show 2 > 0 by omega) (show 64 ≤ i by omega)))
    simp [hi, this]
theorem zz_walk (x : Int) (h1 : -9223372036854775808 ≤ x) (h2 : x ≤ 9223372036854775807) :
    bits .xor .u64 (IntKind.u64.wrap (IntKind.u64.wrap x * 2)) (IntKind.u64.wrap (x / 9223372036854775808)) = (zz x : Int) := by
  by_cases h0 : 0 ≤ x
  · have e1 : IntKind.u64.wrap (IntKind.u64.wrap x * 2) = ((2 * x.toNat : Nat) : Int) := by simp only [IntKind.wrap_u64]; omega
    have e2 : IntKind.u64.wrap (x / 9223372036854775808) = ((0 : Nat) : Int) := by simp only [IntKind.wrap_u64]; omega
    rw [e1, e2, u64_xor_nat _ _ (by omega) (by omega), Nat.xor_zero]
    unfold zz
    rw [if_pos h0]
  · obtain ⟨n, rfl⟩ : ∃ n : Nat, x = -(n : Int) - 1 := ⟨(-(x + 1)).toNat, by omega⟩
    have hn : n < 9223372036854775808 := by omega
    have e1 : IntKind.u64.wrap (IntKind.u64.wrap (-(n : Int) - 1) * 2) = ((18446744073709551615 - (2 * n + 1) : Nat) : Int) := by simp only [IntKind.wrap_u64]; omega
    have e2 : IntKind.u64.wrap ((-(n : Int) - 1) / 9223372036854775808) = ((18446744073709551615 : Nat) : Int) := by simp only [IntKind.wrap_u64]; omega
    rw [e1, e2, u64_xor_nat _ _ (by omega) (by omega), xor_ones _ (by omega)]
    unfold zz
    rw [if_neg h0]
    omega

set_option maxHeartbeats 400000 in
theorem sign_any (x : Int) (w : World) (h1 : -9223372036854775808 ≤ x) (h2 : x ≤ 9223372036854775807) :
    Calls Tryz.prog 93 #[.int .i64 x] w fun e w' => e = .returned (.int .u64 (zz x : Int)) ∧ w' = w := by
  have hz := zz_walk x h1 h2
  have Hz := Lib.hid hz
  clear hz
  go_enter Tryz.func93, Tryz.ntmps93
  go_wp2
  go_ret
  refine ⟨?_, rfl⟩
  rw [← Hz.out]
  simp

set_option maxHeartbeats 400000 in
theorem putInt_any (A : Option Addr) (m c : Nat) (l : List UInt8) (x : Int) (w : World) (h : RB w A m l) (hm : m ≤ 140737488355300) (h1 : -9223372036854775808 ≤ x) (h2 : x ≤ 9223372036854775807) :
    Calls Tryz.prog 66 #[.slice A m c, .int .i64 x] w (NewB w (m + (uv (zz x)).length) (l ++ uv (zz x))) := by
  have hz := zz_lt h1 h2
  go_enter Tryz.func66, Tryz.ntmps66
  go_wp2_with fail
  refine (sign_any x _ h1 h2).mono ?_
  rintro e w1 ⟨rfl, rfl⟩
  go_wp2_with fail
  refine (putUint_any A m c l (zz x) _ _ h ?_ hm hz).mono ?_
  · rfl
  rintro e w2 ⟨B, C, rfl, ho, hg⟩
  go_wp2
  go_ret
  exact ⟨B, C, by simp, ho, hg⟩

set_option maxHeartbeats 400000 in
theorem refPutInt_any (A : Option Addr) (m c : Nat) (l : List UInt8) (x : Int) (w : World) (h : RB w A m l) (hm : m ≤ 140737488355300) (h1 : -9223372036854775808 ≤ x) (h2 : x ≤ 9223372036854775807) :
    Calls Tryz.prog 54 #[.slice A m c, .int .i64 x] w (NewB w (m + (uv (zz x)).length) (l ++ uv (zz x))) := by
  have hz := zz_lt h1 h2
  by_cases h0 : 0 ≤ x
  all_goals
    go_enter Tryz.func54, Tryz.ntmps54
    go_wp2_with fail
    refine (refPutUint_any A m c l (zz x) _ _ h ?_ hm hz).mono ?_
    · unfold zz
      split <;> omega
    rintro e w2 ⟨B, C, rfl, ho, hg⟩
    go_wp2
    go_ret
    exact ⟨B, C, by simp, ho, hg⟩

set_option maxHeartbeats 400000 in
theorem putText_any (A : Option Addr) (m c : Nat) (l : List UInt8) (s : ByteArray) (w : World) (h : RB w A m l) (hm : m + s.size ≤ 140737488355300) :
    Calls Tryz.prog 68 #[.slice A m c, .string s] w (NewB w (m + (uv s.size).length + s.size) (l ++ uv s.size ++ s.data.toList)) := by
  have hl10 := uv_len10 (v := s.size) (by omega)
  go_enter Tryz.func68, Tryz.ntmps68
  go_wp2_with fail
  refine (putUint_any A m c l s.size _ _ h ?_ (by omega) (by omega)).mono ?_
  · simp
  rintro e w2 ⟨B, C, rfl, ho, hg⟩
  have hs := hg.size
  go_wp2_with (at_builtin; refine wpList_appS rfl _ _ rfl w.heap.size B _ C _ rfl ho hs s rfl (by omega) ?_; intro A2 c2 w3 h2)
  go_ret
  have hb := h2.ob
  exact ⟨A2, c2, by simp, hb, h2.grew hg fun ad e => (Own.blk_lt ho ad e).1⟩

set_option maxHeartbeats 400000 in
theorem refPutText_any (A : Option Addr) (m c : Nat) (l : List UInt8) (s : ByteArray) (w : World) (h : RB w A m l) (hm : m + s.size ≤ 140737488355300) :
    Calls Tryz.prog 57 #[.slice A m c, .string s] w (NewB w (m + (uv s.size).length + s.size) (l ++ uv s.size ++ s.data.toList)) := by
  have hl10 := uv_len10 (v := s.size) (by omega)
  go_enter Tryz.func57, Tryz.ntmps57
  go_wp2_with fail
  refine (refPutUint_any A m c l s.size _ _ h ?_ (by omega) (by omega)).mono ?_
  · simp
  rintro e w2 ⟨B, C, rfl, ho, hg⟩
  have hs := hg.size
  go_wp2_with (at_builtin; refine wpList_appS rfl _ _ rfl w.heap.size B _ C _ rfl ho hs s rfl (by omega) ?_; intro A2 c2 w3 h2)
  go_ret
  have hb := h2.ob
  exact ⟨A2, c2, by simp, hb, h2.grew hg fun ad e => (Own.blk_lt ho ad e).1⟩
end Go.Proofs.YtjoaonppaokhhaaGreat
