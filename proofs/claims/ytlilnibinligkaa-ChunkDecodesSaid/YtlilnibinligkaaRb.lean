/-
  The reference of chunk: a tape of bits in the words of its bits (TapIs), step, edges: what each call does. Conditions: lengths that memory bears.
-/
import Derived.Test.YtlilnibinligkaaRa
namespace Go.Proofs.Ytlilnibinligkaa
open Go.RowKit

/-- a tape of the call's own, in the words of its bits -/
def TapIs (w : World) (base g : Nat) (bs : List Bool) : Prop :=
  base ≤ g ∧ ∃ A m c, Blk w g 48 #[.slice A m c, .int .i64 (bs.length : Int)] ∧ OB w base 5 A m c (pack bs)
theorem TapIs.grew {base g : Nat} {a b : World} {bs : List Bool} (h : TapIs a base g bs) (hg : Grew a b) : TapIs b base g bs := by
  obtain ⟨h0, A, m, c, h1, h2⟩ := h
  exact ⟨h0, A, m, c, h1.grew hg, h2.grew hg⟩
theorem TapIs.drewN {base g : Nat} {a : World} {bs : List Bool} (h : TapIs a base g bs) (k : Nat) : TapIs (a.drewN k) base g bs := h
theorem TapIs.new (w : World) (base : Nat) (hb : base ≤ w.heap.size) : TapIs (w.alloc (.cells #[.slice none 0 0, .int .i64 0] 48)) base w.heap.size [] :=
  ⟨hb, none, 0, 0, Blk.new w _ _, Own.nil _ _ _ _⟩

def PutT (w : World) (base g : Nat) (bs : List Bool) (e : Ending) (w' : World) : Prop := e = .returned (.tuple #[]) ∧ TapIs w' base g bs ∧ RChg base g w w'

theorem put_tape (g : Nat) (bs : List Bool) (v k : Nat) (vz kz : Int) (base : Nat) (w : World) (h : TapIs w base g bs) (hvz : vz = (v : Int)) (hkz : kz = (k : Int)) (hv : v < 18446744073709551616) (hk : k ≤ 64) (hN : bs.length ≤ 140737488355200) :
    Calls Try.prog 27 #[.pointer (some ⟨g, 0, none⟩), .int .u64 vz, .int .i64 kz] w (PutT w base g (bs ++ toBits v k)) := by
  subst hvz; subst hkz
  obtain ⟨h0, A, m, c, h1, h2⟩ := h
  have hlt := h1.lt
  refine (tput_any g A m c bs v k base w h1 h2 (by omega) hv hk (by omega)).mono ?_
  rintro e w' ⟨B, M, C, rfl, h3, h4, h5⟩
  refine ⟨rfl, ⟨h0, B, M, C, by simpa using h3, h4⟩, h5.mono fun x hx hs => ?_⟩
  rcases hs with rfl | ⟨ad, rfl, rfl⟩
  · exact ⟨h0, .inl rfl⟩
  · refine ⟨(Own.blk_lt h2 ad rfl).1, .inr ?_⟩
    rcases h2.2 with ⟨e, _⟩ | ⟨g2, cap, cur, e, hb, hg, _⟩
    · injection e with e; cases e
    · injection e with e
      injection e with e
      subst e
      exact ⟨cur, _, hg⟩

theorem and_low (U k m : Nat) (hU : U < 18446744073709551616) (hm : m = 2 ^ k - 1) (hk : k ≤ 63) : bits .and .u64 (U : Int) (m : Int) = ((U % 2 ^ k : Nat) : Int) := by
  have h1 : 2 ^ k ≤ 2 ^ 63 := Nat.pow_le_pow_right (by omega) hk
  have h0 := Nat.two_pow_pos k
  rw [u64_and_nat U m hU (by omega), hm, Nat.and_two_pow_sub_one_eq_mod]

set_option maxRecDepth 100000 in
set_option maxHeartbeats 2000000 in
theorem step_any (g : Nat) (bs : List Bool) (z : Int) (base : Nat) (w : World) (h : TapIs w base g bs) (hz : -9223372036854775808 ≤ z ∧ z ≤ 9223372036854775807) (hN : bs.length ≤ 140737488355000) :
    Calls Try.prog 28 #[.pointer (some ⟨g, 0, none⟩), .int .i64 z] w (PutT w base g (bs ++ zB z)) := by
  have hU := wrap_u64 z
  have hUl : u64 z < 18446744073709551616 := by unfold u64; omega
  by_cases c0 : z = 0
  · subst c0
    have hzb : zB 0 = toBits 0 1 := by decide
    go_enter Try.func28, Try.ntmps28
    go_wp2_with fail
    refine (put_tape g bs 0 1 _ _ base _ h rfl rfl (by omega) (by omega) (by omega)).mono ?_
    rintro e w1 ⟨rfl, hr1, hc1⟩
    go_wp2
    refine bodyPost_ret (results_none rfl _ _ _) rfl ?_
    exact ⟨rfl, by rw [hzb]; exact hr1, hc1⟩
  · have e0 : (z == 0) = false := by simpa using c0
    have key : ∀ (a b k : Nat), cls z = (a, b, k) → zB z = toBits a b ++ toBits (u64 z % 2 ^ k) k := fun a b k hc => by
      unfold zB
      rw [hc]
      simp only
      rw [toBits_mod]
    by_cases c1 : -64 ≤ z ∧ z ≤ 63
    · have hzb := key 2 2 7 (by unfold cls; rw [if_neg c0, if_pos c1])
      have ha : bits .and .u64 ((u64 z : Nat) : Int) 127 = ((u64 z % 2 ^ 7 : Nat) : Int) := and_low (u64 z) 7 127 hUl (by decide) (by omega)
      have ham : u64 z % 2 ^ 7 < 18446744073709551616 := Nat.lt_of_le_of_lt (Nat.mod_le _ _) hUl
      generalize u64 z % 2 ^ 7 = u at *
      generalize u64 z = U at *
      have Hzb := Lib.hid hzb
      obtain ⟨c1, d1⟩ := c1
      clear key hzb c0
      go_enter Try.func28, Try.ntmps28
      go_wp2_with fail
      refine (put_tape g bs 2 2 _ _ base _ h rfl rfl (by omega) (by omega) (by omega)).mono ?_
      rintro e w1 ⟨rfl, hr1, hc1⟩
      go_wp2_with fail
      refine (put_tape g _ u 7 _ _ base _ hr1 rfl rfl ham (by omega) (by simp; omega)).mono ?_
      rintro e w2 ⟨rfl, hr2, hc2⟩
      go_wp2
      refine bodyPost_ret (results_none rfl _ _ _) rfl ?_
      exact ⟨rfl, by rw [Hzb.out, ← List.append_assoc]; exact hr2, hc1.trans hc2⟩
    · by_cases c2 : -256 ≤ z ∧ z ≤ 255
      · have hzb := key 6 3 9 (by unfold cls; rw [if_neg c0, if_neg c1, if_pos c2])
        have ha : bits .and .u64 ((u64 z : Nat) : Int) 511 = ((u64 z % 2 ^ 9 : Nat) : Int) := and_low (u64 z) 9 511 hUl (by decide) (by omega)
        have ham : u64 z % 2 ^ 9 < 18446744073709551616 := Nat.lt_of_le_of_lt (Nat.mod_le _ _) hUl
        generalize u64 z % 2 ^ 9 = u at *
        generalize u64 z = U at *
        have Hzb := Lib.hid hzb
        obtain ⟨c2, d2⟩ := c2
        have hx : z < -64 ∨ 63 < z := by omega
        clear key hzb c0 c1
        rcases hx with hx | hx
        all_goals
          go_enter Try.func28, Try.ntmps28
          go_wp2_with fail
          refine (put_tape g bs 6 3 _ _ base _ h rfl rfl (by omega) (by omega) (by omega)).mono ?_
          rintro e w1 ⟨rfl, hr1, hc1⟩
          go_wp2_with fail
          refine (put_tape g _ u 9 _ _ base _ hr1 rfl rfl ham (by omega) (by simp; omega)).mono ?_
          rintro e w2 ⟨rfl, hr2, hc2⟩
          go_wp2
          refine bodyPost_ret (results_none rfl _ _ _) rfl ?_
          exact ⟨rfl, by rw [Hzb.out, ← List.append_assoc]; exact hr2, hc1.trans hc2⟩
      · by_cases c3 : -2048 ≤ z ∧ z ≤ 2047
        · have hzb := key 14 4 12 (by unfold cls; rw [if_neg c0, if_neg c1, if_neg c2, if_pos c3])
          have ha : bits .and .u64 ((u64 z : Nat) : Int) 4095 = ((u64 z % 2 ^ 12 : Nat) : Int) := and_low (u64 z) 12 4095 hUl (by decide) (by omega)
          have ham : u64 z % 2 ^ 12 < 18446744073709551616 := Nat.lt_of_le_of_lt (Nat.mod_le _ _) hUl
          generalize u64 z % 2 ^ 12 = u at *
          generalize u64 z = U at *
          have Hzb := Lib.hid hzb
          obtain ⟨c3, d3⟩ := c3
          have hx : z < -256 ∨ 255 < z := by omega
          clear key hzb c0 c1 c2
          rcases hx with hx | hx
          all_goals
            go_enter Try.func28, Try.ntmps28
            go_wp2_with fail
            refine (put_tape g bs 14 4 _ _ base _ h rfl rfl (by omega) (by omega) (by omega)).mono ?_
            rintro e w1 ⟨rfl, hr1, hc1⟩
            go_wp2_with fail
            refine (put_tape g _ u 12 _ _ base _ hr1 rfl rfl ham (by omega) (by simp; omega)).mono ?_
            rintro e w2 ⟨rfl, hr2, hc2⟩
            go_wp2
            refine bodyPost_ret (results_none rfl _ _ _) rfl ?_
            exact ⟨rfl, by rw [Hzb.out, ← List.append_assoc]; exact hr2, hc1.trans hc2⟩
        · have hzb := key 15 4 64 (by unfold cls; rw [if_neg c0, if_neg c1, if_neg c2, if_neg c3])
          rw [Nat.mod_eq_of_lt (show u64 z < 2 ^ 64 by omega)] at hzb
          generalize u64 z = U at *
          have Hzb := Lib.hid hzb
          have hx : z < -2048 ∨ 2047 < z := by omega
          clear key hzb c0 c1 c2 c3
          rcases hx with hx | hx
          all_goals
            go_enter Try.func28, Try.ntmps28
            go_wp2_with fail
            refine (put_tape g bs 15 4 _ _ base _ h rfl rfl (by omega) (by omega) (by omega)).mono ?_
            rintro e w1 ⟨rfl, hr1, hc1⟩
            go_wp2_with fail
            refine (put_tape g _ U 64 _ _ base _ hr1 rfl rfl hUl (by omega) (by simp; omega)).mono ?_
            rintro e w2 ⟨rfl, hr2, hc2⟩
            go_wp2
            refine bodyPost_ret (results_none rfl _ _ _) rfl ?_
            exact ⟨rfl, by rw [Hzb.out, ← List.append_assoc]; exact hr2, hc1.trans hc2⟩

/-- all the noughts ahead of the highest 1 -/
def lzz (x : Nat) : Nat := sF (fun a => x.testBit (63 - a)) 64 0
theorem lzz_bit {x : Nat} (h0 : x ≠ 0) (h : x < 2 ^ 64) : lzz x < 64 ∧ x.testBit (63 - lzz x) = true := by
  obtain ⟨j, hj, hb⟩ := exists_bit h0 h
  obtain ⟨g1, g2, g3, g4⟩ := sF_spec (fun a => x.testBit (63 - a)) 64 0
  have hlt : lzz x < 64 := by
    unfold lzz
    rcases Nat.lt_or_ge (sF (fun a => x.testBit (63 - a)) 64 0) 64 with h' | h'
    · exact h'
    · have := g3 (63 - j) (by omega) (by omega)
      simp only [show 63 - (63 - j) = j by omega] at this
      rw [hb] at this
      cases this
  exact ⟨hlt, g4 (by unfold lzz at hlt; omega)⟩
theorem lzz_above {x j : Nat} (hj : j < lzz x) : x.testBit (63 - j) = false := (sF_spec (fun a => x.testBit (63 - a)) 64 0).2.2.1 j (by omega) hj
theorem lz_min {x : Nat} (h0 : x ≠ 0) (h : x < 2 ^ 64) : lz x = min (lzz x) 31 := by
  obtain ⟨h1, h2⟩ := lzz_bit h0 h
  have h3 := lz_le x
  have h4 := (sF_spec (fun a => x.testBit (63 - a)) 31 0).2.2.2
  have h5 : lz x < 31 → x.testBit (63 - lz x) = true := fun h => h4 (by unfold lz at h; omega)
  rcases Nat.lt_trichotomy (lz x) (lzz x) with h6 | h6 | h6
  · by_cases h7 : lz x < 31
    · have := lzz_above h6
      rw [h5 h7] at this
      cases this
    · omega
  · omega
  · have := lz_above h6
    rw [h2] at this
    cases this

set_option maxRecDepth 100000 in
set_option maxHeartbeats 1000000 in
theorem edges_any (x : Nat) (w : World) (hx : x < 18446744073709551616) (h0 : x ≠ 0) :
    Calls Try.prog 29 #[.int .u64 (x : Int)] w fun e w' => e = .returned (.tuple #[.int .i64 (lz x : Int), .int .i64 (tz x : Int)]) ∧ w = w' := by
  obtain ⟨hl, hlb⟩ := lzz_bit h0 hx
  obtain ⟨ht, htb⟩ := tz_bit h0 hx
  have hmin := Lib.hid (lz_min h0 hx)
  go_enter Try.func29, Try.ntmps29
  go_wp2
  go_loop [4] (fun i => ∃ a : Nat, a ≤ lzz x ∧ i = .int .i64 a) (fun i => 64 - (intOf i).toNat)
  case atStart => exact ⟨0, Nat.zero_le _, rfl⟩
  case round =>
    obtain ⟨a, ha, rfl⟩ := hrel
    have hs := shr_bit (b := 63 - a) hx
    by_cases hal : a < lzz x
    · rw [lzz_above hal] at hs
      go_wp2
      exact ⟨⟨a + 1, by omega, by go_num⟩, by simp [intOf]; omega⟩
    · have hout : a = lzz x := by omega
      rw [hout, hlb, ← hout] at hs
      have Hout := Lib.hid hout
      clear hal hout
      go_wp2
      go_loop [5] (fun i => ∃ b : Nat, b ≤ tz x ∧ i = .int .i64 b) (fun i => 64 - (intOf i).toNat)
      case atStart => exact ⟨0, Nat.zero_le _, rfl⟩
      case round =>
        obtain ⟨b, hbl, rfl⟩ := hrel
        have hs2 := shr_bit (b := b) hx
        by_cases hbt : b < tz x
        · rw [tz_below hbt] at hs2
          go_wp2
          exact ⟨⟨b + 1, by omega, by go_num⟩, by simp [intOf]; omega⟩
        · have hbe : b = tz x := by omega
          rw [hbe, htb, ← hbe] at hs2
          have Hbe := Lib.hid hbe
          clear hbe hbt
          go_wp2
          all_goals
            go_ret2
            refine ⟨?_, rfl⟩
            rw [hmin.out, ← Hout.out, ← Hbe.out]
            simp
            try omega
end Go.Proofs.Ytlilnibinligkaa
