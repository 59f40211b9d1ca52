/-
  Several texts in one:
  Package codec and its reference: numbers and texts laid into bytes, and read: what each call does. Conditions: lengths that memory bears.
-/
import Derived.Test.YtepncgeaehjhiaaGreatPart25

namespace Go.Proofs.YtepncgeaehjhiaaGreat
open Go.RowKit

theorem or128 (u : Nat) : bits .or .u8 ((u : Int) % 256) 128 = ((u % 128 + 128 : Nat) : Int) := by
  have e : ((u : Int) % 256) = ((u % 256 : Nat) : Int) := by simp
  have h1 := u8_or_nat (u % 256) 128 (by omega) (by omega)
  rw [show ((128 : Nat) : Int) = 128 from rfl] at h1
  rw [e, h1]
  congr 1
  have h2 : (u % 256) ||| 128 = (u % 128) ||| 128 := by
    apply Nat.eq_of_testBit_eq
    intro i
    rw [Nat.testBit_or, Nat.testBit_or, show (256 : Nat) = 2 ^ 8 from rfl, show (128 : Nat) = 2 ^ 7 from rfl, Nat.testBit_mod_two_pow, Nat.testBit_mod_two_pow, Nat.testBit_two_pow]
    by_cases h7 : i = 7
    · subst h7; simp
    · by_cases h8 : i < 7
      · have : i < 8 := by omega
        simp [h8, this]
      · have : ¬ i < 8 := by omega
        simp [h8, this]
  rw [h2, Nat.or_comm, nat_join 7 128 (u % 128) (by decide) (by omega)]
  omega
theorem or128' (u : Nat) (hu : u < 18446744073709551616) : bits .or .u64 (bits .and .u64 (u : Int) 127) 128 % 256 = ((u % 128 + 128 : Nat) : Int) := by
  have h0 := u64_and_nat u 127 hu (by omega)
  rw [show ((127 : Nat) : Int) = 127 from rfl, nat_mask7] at h0
  have h1 := u64_or_nat (u % 128) 128 (by omega) (by omega)
  rw [show ((128 : Nat) : Int) = 128 from rfl] at h1
  rw [h0, h1, Nat.or_comm, nat_join 7 128 (u % 128) (by decide) (by omega)]
  omega

set_option maxRecDepth 100000 in
set_option maxHeartbeats 1000000 in
theorem putUint_any (A : Option Addr) (m c : Nat) (l : List UInt8) (v : Nat) (vz : Int) (w : World) (h : RB w A m l) (hvz : vz = v) (hm : m ≤ 140737488355300) (hv : v < 18446744073709551616) :
    Calls Tryz.prog 74 #[.slice A m c, .int .u64 vz] w (NewB w (m + (uv v).length) (l ++ uv v)) := by
  subst hvz
  have hown : OB (w.alloc (.cells #[] 5)) w.heap.size 5 (some ⟨w.heap.size, 0, none⟩) 0 0 [] := Own.made w w.heap.size 5 1 (Nat.le_refl _)
  have hr : RB (w.alloc (.cells #[] 5)) A m l := h.grew ((Chg.refl _ w).alloc _)
  have hl10 := uv_len10 hv
  go_enter Tryz.func74, Tryz.ntmps74
  go_wp2_with (at_builtin; refine wpList_appB rfl _ _ rfl w.heap.size _ 0 0 [] rfl hown (by simp) A m c l rfl hr (by omega) ?_; intro A1 c1 w1 h1)
  simp only [Nat.zero_add, List.nil_append] at h1
  have hg1 : Grew w w1 := h1.grew ((Chg.refl _ w).alloc _) (head_ge (Nat.le_refl _))
  have ho1 := h1.ob
  clear h1 hown hr h
  go_loopw [1, 5] (fun sv so wr => ∃ (u M C : Nat) (B : Option Addr) (r : List UInt8), sv = .int .u64 (u : Int) ∧ so = .slice B M C ∧ u < 18446744073709551616 ∧ Hid (r ++ uv u = l ++ uv v) ∧ M + (uv u).length = m + (uv v).length ∧ OB wr w.heap.size 5 B M C r ∧ Grew w wr) (fun sv _ _ => (intOf sv).toNat)
  case atStart => exact ⟨v, m, c1, A1, l, rfl, rfl, hv, rfl, rfl, ho1, hg1⟩
  case round =>
    clear ho1 hg1 w1
    obtain ⟨u, M, C, B, r, rfl, rfl, hu, Hr, hM, ho, hg⟩ := hrel
    have hs := hg.size
    have hu1 := uv_len1 u
    have HM := Lib.hid hM
    have hM2 : M + 1 ≤ 140737488355328 := by omega
    clear hM
    by_cases hlt : u < 128
    · have hn := RB.new wr [UInt8.ofNat u] 1 #[.int .u8 (u : Int)] 5 rfl (by simp [byt, ofNat_toNat (show u < 256 by omega)])
      have ho2 := ho.grew ((Chg.refl _ wr).alloc (.cells #[.int .u8 (u : Int)] 5))
      
      go_wp2_with (at_builtin; refine wpList_appB rfl _ _ rfl w.heap.size B M C r rfl ho2 (by simp; omega) _ 1 1 [UInt8.ofNat u] rfl hn (by omega) ?_; intro A2 c2 w2 h2)
      go_ret
      have hb := h2.ob
      have hr1 := Hr.out
      have hM1 := HM.out
      rw [uv_small hlt] at hr1 hM1
      rw [hr1] at hb
      have hM3 : M + 1 = m + (uv v).length := by simpa using hM1
      rw [hM3] at hb
      refine ⟨A2, c2, ?_, hb.raise ?_, h2.grew (hg.alloc _) fun ad e => (Own.blk_lt ho ad e).1⟩
      · rw [← hM3]; simp
      · exact fun ad e => (Own.blk_lt hb ad e).1
    · have hn := RB.new wr [UInt8.ofNat (u % 128 + 128)] 1 #[.int .u8 ((u % 128 + 128 : Nat) : Int)] 5 rfl (by simp [byt]; omega)
      have ho2 := ho.grew ((Chg.refl _ wr).alloc (.cells #[.int .u8 ((u % 128 + 128 : Nat) : Int)] 5))
      have he := or128 u
      go_wp2_with (at_builtin; refine wpList_appB rfl _ _ rfl w.heap.size B M C r rfl ho2 (by simp; omega) _ 1 1 [UInt8.ofNat (u % 128 + 128)] rfl hn (by omega) ?_; intro A2 c2 w2 h2)
      go_roundw
      case rel =>
        refine ⟨u / 128, M + 1, c2, A2, r ++ [UInt8.ofNat (u % 128 + 128)], by simp, rfl, by omega, ?_, ?_, h2.ob, h2.grew (hg.alloc _) fun ad e => (Own.blk_lt ho ad e).1⟩
        · show _ = _
          have hr1 := Hr.out
          rw [uv_big hlt] at hr1
          rw [List.append_assoc]
          exact hr1
        · have hM1 := HM.out
          rw [uv_big hlt] at hM1
          simp at hM1
          omega
      case measure => simp [intOf]; omega

set_option maxRecDepth 100000 in
set_option maxHeartbeats 1000000 in
theorem refPutUint_any (A : Option Addr) (m c : Nat) (l : List UInt8) (v : Nat) (vz : Int) (w : World) (h : RB w A m l) (hvz : vz = v) (hm : m ≤ 140737488355300) (hv : v < 18446744073709551616) :
    Calls Tryz.prog 59 #[.slice A m c, .int .u64 vz] w (NewB w (m + (uv v).length) (l ++ uv v)) := by
  subst hvz
  have hown : OB (w.alloc (.cells #[] 5)) w.heap.size 5 (some ⟨w.heap.size, 0, none⟩) 0 0 [] := Own.made w w.heap.size 5 1 (Nat.le_refl _)
  have hr : RB (w.alloc (.cells #[] 5)) A m l := h.grew ((Chg.refl _ w).alloc _)
  have hl10 := uv_len10 hv
  go_enter Tryz.func59, Tryz.ntmps59
  go_wp2_with (at_builtin; refine wpList_appB rfl _ _ rfl w.heap.size _ 0 0 [] rfl hown (by simp) A m c l rfl hr (by omega) ?_; intro A1 c1 w1 h1)
  simp only [Nat.zero_add, List.nil_append] at h1
  have hg1 : Grew w w1 := h1.grew ((Chg.refl _ w).alloc _) (head_ge (Nat.le_refl _))
  have ho1 := h1.ob
  clear h1 hown hr h
  go_loopw [1, 5] (fun sv so wr => ∃ (u M C : Nat) (B : Option Addr) (r : List UInt8), sv = .int .u64 (u : Int) ∧ so = .slice B M C ∧ u < 18446744073709551616 ∧ Hid (r ++ uv u = l ++ uv v) ∧ M + (uv u).length = m + (uv v).length ∧ OB wr w.heap.size 5 B M C r ∧ Grew w wr) (fun sv _ _ => (intOf sv).toNat)
  case atStart => exact ⟨v, m, c1, A1, l, rfl, rfl, hv, rfl, rfl, ho1, hg1⟩
  case round =>
    clear ho1 hg1 w1
    obtain ⟨u, M, C, B, r, rfl, rfl, hu, Hr, hM, ho, hg⟩ := hrel
    have hs := hg.size
    have hu1 := uv_len1 u
    have HM := Lib.hid hM
    have hM2 : M + 1 ≤ 140737488355328 := by omega
    clear hM
    by_cases hlt : u < 128
    · have hn := RB.new wr [UInt8.ofNat u] 1 #[.int .u8 (u : Int)] 5 rfl (by simp [byt, ofNat_toNat (show u < 256 by omega)])
      have ho2 := ho.grew ((Chg.refl _ wr).alloc (.cells #[.int .u8 (u : Int)] 5))
      
      go_wp2_with (at_builtin; refine wpList_appB rfl _ _ rfl w.heap.size B M C r rfl ho2 (by simp; omega) _ 1 1 [UInt8.ofNat u] rfl hn (by omega) ?_; intro A2 c2 w2 h2)
      go_ret
      have hb := h2.ob
      have hr1 := Hr.out
      have hM1 := HM.out
      rw [uv_small hlt] at hr1 hM1
      rw [hr1] at hb
      have hM3 : M + 1 = m + (uv v).length := by simpa using hM1
      rw [hM3] at hb
      refine ⟨A2, c2, ?_, hb.raise ?_, h2.grew (hg.alloc _) fun ad e => (Own.blk_lt ho ad e).1⟩
      · rw [← hM3]; simp
      · exact fun ad e => (Own.blk_lt hb ad e).1
    · have hn := RB.new wr [UInt8.ofNat (u % 128 + 128)] 1 #[.int .u8 ((u % 128 + 128 : Nat) : Int)] 5 rfl (by simp [byt]; omega)
      have ho2 := ho.grew ((Chg.refl _ wr).alloc (.cells #[.int .u8 ((u % 128 + 128 : Nat) : Int)] 5))
      have he := or128' u hu
      go_wp2_with (at_builtin; refine wpList_appB rfl _ _ rfl w.heap.size B M C r rfl ho2 (by simp; omega) _ 1 1 [UInt8.ofNat (u % 128 + 128)] rfl hn (by omega) ?_; intro A2 c2 w2 h2)
      go_roundw
      case rel =>
        refine ⟨u / 128, M + 1, c2, A2, r ++ [UInt8.ofNat (u % 128 + 128)], by simp, rfl, by omega, ?_, ?_, h2.ob, h2.grew (hg.alloc _) fun ad e => (Own.blk_lt ho ad e).1⟩
        · show _ = _
          have hr1 := Hr.out
          rw [uv_big hlt] at hr1
          rw [List.append_assoc]
          exact hr1
        · have hM1 := HM.out
          rw [uv_big hlt] at hM1
          simp at hM1
          omega
      case measure => simp [intOf]; omega

theorem xor_ones (a : Nat) (h : a < 18446744073709551616) : a ^^^ 18446744073709551615 = 18446744073709551615 - a := by
  have e : 18446744073709551615 - a = 2 ^ 64 - (a + 1) := by omega
  rw [e]
  apply Nat.eq_of_testBit_eq
  intro i
  rw [Nat.testBit_xor, show (18446744073709551615 : Nat) = 2 ^ 64 - 1 from rfl, Nat.testBit_two_pow_sub_one, Nat.testBit_two_pow_sub_succ (by omega)]
  by_cases hi : i < 64
  · simp [hi]
  · have : a.testBit i = false := Nat.testBit_lt_two_pow (Nat.lt_of_lt_of_le h (Nat.pow_le_pow_right (show 2 > 0 by omega) (show 64 ≤ i by omega)))
    simp [hi, this]
theorem zz_walk (x : Int) (h1 : -9223372036854775808 ≤ x) (h2 : x ≤ 9223372036854775807) :
    bits .xor .u64 (IntKind.u64.wrap (IntKind.u64.wrap x * 2)) (IntKind.u64.wrap (x / 9223372036854775808)) = (zz x : Int) := by
  by_cases h0 : 0 ≤ x
  · have e1 : IntKind.u64.wrap (IntKind.u64.wrap x * 2) = ((2 * x.toNat : Nat) : Int) := by simp only [IntKind.wrap_u64]; omega
    have e2 : IntKind.u64.wrap (x / 9223372036854775808) = ((0 : Nat) : Int) := by simp only [IntKind.wrap_u64]; omega
    rw [e1, e2, u64_xor_nat _ _ (by omega) (by omega), Nat.xor_zero]
    unfold zz
    rw [if_pos h0]
  · obtain ⟨n, rfl⟩ : ∃ n : Nat, x = -(n : Int) - 1 := ⟨(-(x + 1)).toNat, by omega⟩
    have hn : n < 9223372036854775808 := by omega
    have e1 : IntKind.u64.wrap (IntKind.u64.wrap (-(n : Int) - 1) * 2) = ((18446744073709551615 - (2 * n + 1) : Nat) : Int) := by simp only [IntKind.wrap_u64]; omega
    have e2 : IntKind.u64.wrap ((-(n : Int) - 1) / 9223372036854775808) = ((18446744073709551615 : Nat) : Int) := by simp only [IntKind.wrap_u64]; omega
    rw [e1, e2, u64_xor_nat _ _ (by omega) (by omega), xor_ones _ (by omega)]
    unfold zz
    rw [if_neg h0]
    omega

end Go.Proofs.YtepncgeaehjhiaaGreat
