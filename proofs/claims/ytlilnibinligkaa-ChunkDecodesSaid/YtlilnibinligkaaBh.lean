/-
  The reference of bits, Whole: it answers wholeB. Conditions: lengths that memory bears.
-/
import Derived.Test.YtlilnibinligkaaLa
import Derived.Test.YtlilnibinligkaaBv
namespace Go.Proofs.Ytlilnibinligkaa
open Go.RowKit

theorem bit_walk (x s : Nat) (hx : x < 256) : (bits .and .u8 ((x : Int) / 2 ^ s) 1 == 1) = x.testBit s := by
  have h0 : ((x : Int) / 2 ^ s) = ((x / 2 ^ s : Nat) : Int) := by simp
  have hle : x / 2 ^ s ≤ x := Nat.div_le_self _ _
  have h1 := u8_and_nat (x / 2 ^ s) 1 (by omega) (by omega)
  rw [show ((1 : Nat) : Int) = 1 from rfl] at h1
  rw [h0, h1, nat_mask1, Nat.testBit_eq_decide_div_mod_eq, Bool.eq_iff_iff]
  generalize x / 2 ^ s = q
  simp
  omega

set_option maxHeartbeats 1000000 in
theorem refWhole_any (A : Option Addr) (m c : Nat) (l : List UInt8) (n : Int) (w : World) (h : RB w A m l) (hm : m ≤ 140737488355328) (hn : n ≤ 9223372036854775807) :
    Calls Try.prog 44 #[.slice A m c, .int .i64 n] w fun e w' => e = .returned (.bool (wholeB l n)) ∧ w' = w := by
  by_cases h0 : n < 0
  · have hf : wholeB l n = false := by
      rw [Bool.eq_false_iff, ne_eq, wholeB_iff]
      omega
    have hd : decide (n < 0) = true := by simp; omega
    go_enter Try.func44, Try.ntmps44
    go_wp2
    go_ret
    exact ⟨by simp [hf], rfl⟩
  · have hd : decide (n < 0) = false := by simp; omega
    obtain ⟨k, rfl⟩ := Int.eq_ofNat_of_zero_le (by omega : 0 ≤ n)
    by_cases h1 : m = k / 8 + (k % 8 + 7) / 8
    · have h1a : ((m : Int) != (k : Int) / 8 + ((k : Int) % 8 + 7) / 8) = false := by simp; omega
      have Hm : Hid (m = (k + 7) / 8) := by show _ = _; omega
      have h1b : (k : Int) ≤ 8 * m := by omega
      clear h1
      go_enter Try.func44, Try.ntmps44
      go_wp2
      go_loop [5] (fun i => ∃ j : Nat, k ≤ j ∧ j ≤ 8 * m ∧ i = .int .i64 j ∧ Hid (∀ i, k ≤ i → i < j → bit l i = false)) (fun i => 8 * m - (intOf i).toNat)
      case atStart => exact ⟨k, by omega, by omega, rfl, fun i h1 h2 => by omega⟩
      case round =>
        obtain ⟨j, hj1, hj2, rfl, hbit⟩ := hrel
        by_cases hlt : j < 8 * m
        · obtain ⟨ad, x, rfl, hx, hc⟩ := h.at_ (k := j / 8) (by omega)
          have hjm : (j : Int) / 8 < m := by omega
          have hw := bit_walk x.toNat (7 - j % 8) x.toNat_lt
          have hb : Hid (bit l j = x.toNat.testBit (7 - j % 8)) := by
            show _ = _
            unfold bit
            rw [List.getD_eq_getElem?_getD, hx]
            rfl
          have Hw := Lib.hid hw
          clear hw hx
          go_wp2
          · have hq : (bits .and .u8 ((x.toNat : Int) / 2 ^ (7 - j % 8)) 1 == 1) = true := by assumption
            go_ret
            have hf : wholeB l k = false := by
              rw [Bool.eq_false_iff, ne_eq, wholeB_iff]
              rintro ⟨_, _, h3⟩
              have h4 := h3 j (by simpa using hj1) (by rw [h.1]; omega)
              rw [hb.out, ← Hw.out, hq] at h4
              cases h4
            exact ⟨by simp [hf], rfl⟩
          · have hq : (bits .and .u8 ((x.toNat : Int) / 2 ^ (7 - j % 8)) 1 == 1) = false := by assumption
            go_round
            case rel =>
              refine ⟨j + 1, by omega, by omega, by go_num, fun i h1 h2 => ?_⟩
              by_cases h3 : i = j
              · subst h3
                rw [hb.out, ← Hw.out, hq]
              · exact hbit.out i h1 (by omega)
            case measure => simp [intOf]; omega
        · have hjm : 8 * m ≤ j := by omega
          go_wp2
          go_ret
          have hf : wholeB l k = true := by
            rw [wholeB_iff]
            have h5 := h.1
            have h6 := Hm.out
            refine ⟨by omega, by simp; omega, fun i h1 h2 => hbit.out i (by simpa using h1) (by omega)⟩
          exact ⟨by simp [hf], rfl⟩
    · have h1a : ((m : Int) != (k : Int) / 8 + ((k : Int) % 8 + 7) / 8) = true := by simp; omega
      have hf : wholeB l k = false := by
        rw [Bool.eq_false_iff, ne_eq, wholeB_iff]
        have := h.1
        simp
        omega
      go_enter Try.func44, Try.ntmps44
      go_wp2
      go_ret
      exact ⟨by simp, rfl⟩
end Go.Proofs.Ytlilnibinligkaa
