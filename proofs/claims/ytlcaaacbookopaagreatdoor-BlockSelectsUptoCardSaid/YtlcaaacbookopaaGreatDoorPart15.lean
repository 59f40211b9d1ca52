/-
  Several texts in one:
  The form of labels: names, texts (UTF-8), lists. Conditions: none.
-/
import Derived.Test.YtlcaaacbookopaaGreatDoorPart14

namespace Go.Proofs.YtlcaaacbookopaaGreatDoor
open Go.RowKit

/-- a text's bytes are UTF-8: 'more' bytes are to come, the next of them from lo to hi -/
def vld : Nat → Nat → Nat → List UInt8 → Bool
  | 0, _, _, [] => true
  | _ + 1, _, _, [] => false
  | 0, _, _, c :: r =>
    if c.toNat < 128 then vld 0 128 191 r
    else if 194 ≤ c.toNat ∧ c.toNat ≤ 223 then vld 1 128 191 r
    else if 224 ≤ c.toNat ∧ c.toNat ≤ 239 then vld 2 (if c.toNat = 224 then 160 else 128) (if c.toNat = 237 then 159 else 191) r
    else if 240 ≤ c.toNat ∧ c.toNat ≤ 244 then vld 3 (if c.toNat = 240 then 144 else 128) (if c.toNat = 244 then 143 else 191) r
    else false
  | m + 1, lo, hi, c :: r => if c.toNat < lo ∨ hi < c.toNat then false else vld m 128 191 r

theorem vld_zero (c : UInt8) (r : List UInt8) (lo hi : Nat) : vld 0 lo hi (c :: r) = if c.toNat < 128 then vld 0 128 191 r
    else if 194 ≤ c.toNat ∧ c.toNat ≤ 223 then vld 1 128 191 r
    else if 224 ≤ c.toNat ∧ c.toNat ≤ 239 then vld 2 (if c.toNat = 224 then 160 else 128) (if c.toNat = 237 then 159 else 191) r
    else if 240 ≤ c.toNat ∧ c.toNat ≤ 244 then vld 3 (if c.toNat = 240 then 144 else 128) (if c.toNat = 244 then 143 else 191) r
    else false := by rw [vld]
theorem vld_succ (m lo hi : Nat) (c : UInt8) (r : List UInt8) : vld (m + 1) lo hi (c :: r) = if c.toNat < lo ∨ hi < c.toNat then false else vld m 128 191 r := by rw [vld]
theorem byte_at (x : ByteArray) {k : Nat} (hk : k < x.size) : ∃ c : UInt8, x.data.toList.drop k = c :: x.data.toList.drop (k + 1) ∧ ∀ h, x[k]'h = c := by
  have hl : x.data.toList.length = x.size := by rw [Array.length_toList]; rfl
  refine ⟨x[k], ?_, fun _ => rfl⟩
  rw [List.drop_eq_getElem_cons (by omega)]
  congr 1
set_option maxRecDepth 100000 in
set_option maxHeartbeats 4000000 in
theorem valid_any (x : ByteArray) (w : World) (hs : x.size ≤ 256) : Calls Tryz.prog 88 #[.string x] w fun e w' => e = .returned (.bool (vld 0 128 191 x.data.toList)) ∧ w = w' := by
  obtain ⟨n, hn⟩ : ∃ n, x.size = n := ⟨_, rfl⟩
  have hn256 : n ≤ 256 := by omega
  clear hs
  obtain ⟨b, hb⟩ : ∃ b, vld 0 128 191 x.data.toList = b := ⟨_, rfl⟩
  rw [hb]
  have hb0 : Hid (b = vld 0 128 191 (x.data.toList.drop 0)) := hb.symm
  clear hb
  go_enter Tryz.func88, Tryz.ntmps88
  go_wp2
  refine wp_scope_fall (fun l a' wr => w = wr ∧ ((l = 0 ∧ ∃ (k : Nat), k ≤ n ∧ Hid (b = vld 0 128 191 (x.data.toList.drop k)) ∧ a'.tmps.size = 75 ∧ a'.defers = [] ∧ a'.tmps.getD 0 undef = .string x ∧ a'.tmps.getD 3 undef = .int .i64 (k : Int)) ∨
      (l = 1 ∧ ∃ (k m lo hi : Nat), k ≤ n ∧ m ≤ 3 ∧ lo ≤ 255 ∧ hi ≤ 255 ∧ Hid (b = vld m lo hi (x.data.toList.drop k)) ∧ a'.tmps.size = 75 ∧ a'.defers = [] ∧ a'.tmps.getD 0 undef = .string x ∧ a'.tmps.getD 3 undef = .int .i64 (k : Int) ∧ a'.tmps.getD 4 undef = .int .i64 (m : Int) ∧ a'.tmps.getD 5 undef = .int .u8 (lo : Int) ∧ a'.tmps.getD 6 undef = .int .u8 (hi : Int))))
    (fun l a' _ => if l = 0 then 2 * (n - (intOf (a'.tmps.getD 3 undef)).toNat) else 2 * (n - (intOf (a'.tmps.getD 3 undef)).toNat) + 1) 0 ?b0 ?h0 ?_ ?_ ?_
  case h0 => exact rfl
  · rintro a' wr ⟨rfl, ⟨_, k, hk, hv, hfr⟩ | ⟨h, _⟩⟩
    rotate_left
    · cases h
    obtain ⟨fs, fd, f0, f3⟩ := hfr
    obtain ⟨u, hu⟩ : ∃ u : Nat → Value, a' = { tmps := #[.string x, u 1, u 2, .int .i64 (k : Int), u 4, u 5, u 6, u 7, u 8, u 9, u 10, u 11, u 12, u 13, u 14, u 15, u 16, u 17, u 18, u 19, u 20, u 21, u 22, u 23, u 24, u 25, u 26, u 27, u 28, u 29, u 30, u 31, u 32, u 33, u 34, u 35, u 36, u 37, u 38, u 39, u 40, u 41, u 42, u 43, u 44, u 45, u 46, u 47, u 48, u 49, u 50, u 51, u 52, u 53, u 54, u 55, u 56, u 57, u 58, u 59, u 60, u 61, u 62, u 63, u 64, u 65, u 66, u 67, u 68, u 69, u 70, u 71, u 72, u 73, u 74], defers := [] } := ⟨fun i => a'.tmps.getD i undef, (frame_lit a' 75 fs fd).trans (by show ({ tmps := #[a'.tmps.getD 0 undef, a'.tmps.getD 1 undef, a'.tmps.getD 2 undef, a'.tmps.getD 3 undef, a'.tmps.getD 4 undef, a'.tmps.getD 5 undef, a'.tmps.getD 6 undef, a'.tmps.getD 7 undef, a'.tmps.getD 8 undef, a'.tmps.getD 9 undef, a'.tmps.getD 10 undef, a'.tmps.getD 11 undef, a'.tmps.getD 12 undef, a'.tmps.getD 13 undef, a'.tmps.getD 14 undef, a'.tmps.getD 15 undef, a'.tmps.getD 16 undef, a'.tmps.getD 17 undef, a'.tmps.getD 18 undef, a'.tmps.getD 19 undef, a'.tmps.getD 20 undef, a'.tmps.getD 21 undef, a'.tmps.getD 22 undef, a'.tmps.getD 23 undef, a'.tmps.getD 24 undef, a'.tmps.getD 25 undef, a'.tmps.getD 26 undef, a'.tmps.getD 27 undef, a'.tmps.getD 28 undef, a'.tmps.getD 29 undef, a'.tmps.getD 30 undef, a'.tmps.getD 31 undef, a'.tmps.getD 32 undef, a'.tmps.getD 33 undef, a'.tmps.getD 34 undef, a'.tmps.getD 35 undef, a'.tmps.getD 36 undef, a'.tmps.getD 37 undef, a'.tmps.getD 38 undef, a'.tmps.getD 39 undef, a'.tmps.getD 40 undef, a'.tmps.getD 41 undef, a'.tmps.getD 42 undef, a'.tmps.getD 43 undef, a'.tmps.getD 44 undef, a'.tmps.getD 45 undef, a'.tmps.getD 46 undef, a'.tmps.getD 47 undef, a'.tmps.getD 48 undef, a'.tmps.getD 49 undef, a'.tmps.getD 50 undef, a'.tmps.getD 51 undef, a'.tmps.getD 52 undef, a'.tmps.getD 53 undef, a'.tmps.getD 54 undef, a'.tmps.getD 55 undef, a'.tmps.getD 56 undef, a'.tmps.getD 57 undef, a'.tmps.getD 58 undef, a'.tmps.getD 59 undef, a'.tmps.getD 60 undef, a'.tmps.getD 61 undef, a'.tmps.getD 62 undef, a'.tmps.getD 63 undef, a'.tmps.getD 64 undef, a'.tmps.getD 65 undef, a'.tmps.getD 66 undef, a'.tmps.getD 67 undef, a'.tmps.getD 68 undef, a'.tmps.getD 69 undef, a'.tmps.getD 70 undef, a'.tmps.getD 71 undef, a'.tmps.getD 72 undef, a'.tmps.getD 73 undef, a'.tmps.getD 74 undef], defers := [] } : Act) = _; rw [f0, f3])⟩
    clear fs fd f0 f3
    subst hu
    obtain ⟨k', hk'⟩ : ∃ k', k' = k := ⟨_, rfl⟩
    by_cases hlt : k < n
    rotate_left
    · obtain rfl : k = n := by omega
      have hlen : x.data.toList.length = x.size := by rw [Array.length_toList]; rfl
      have hv2 := hv.out
      rw [List.drop_of_length_le (by omega), show vld 0 128 191 [] = true by rw [vld]] at hv2
      have hv2 := Lib.hid hv2
      clear hv
      go_wp2
      rw [ExJ.ret]
      go_ret
      exact ⟨by rw [hv2.out]; rfl, rfl⟩
    obtain ⟨c, hd, hx⟩ := byte_at x (k := k) (by omega)
    obtain ⟨zn, hzn⟩ : ∃ zn : Nat, c.toNat = zn := ⟨_, rfl⟩
    have hzb : zn ≤ 255 := by have := c.toNat_lt; omega
    have hz : ∀ h, ((x[k]'h).toNat : Int) = (zn : Int) := fun h => by rw [hx h, hzn]
    have hv1 := hv.out
    rw [hd, vld_zero, hzn] at hv1
    clear hv hd hzn hx hk'
    rcases (show zn < 128 ∨ (194 ≤ zn ∧ zn ≤ 223) ∨ zn = 224 ∨ zn = 237 ∨ (224 ≤ zn ∧ zn ≤ 239 ∧ zn ≠ 224 ∧ zn ≠ 237) ∨ zn = 240 ∨ zn = 244 ∨ (240 ≤ zn ∧ zn ≤ 244 ∧ zn ≠ 240 ∧ zn ≠ 244) ∨ (128 ≤ zn ∧ zn ≤ 193) ∨ 245 ≤ zn by omega) with hc | hc | rfl | rfl | hc | rfl | rfl | hc | hc | hc
    · rw [if_pos hc] at hv1
      have hv1 := Lib.hid hv1
      have t1 : decide ((zn : Int) < 128) = true := decide_eq_true (by omega)
      clear hc
      go_wp2
      go_step3
      exact ⟨⟨rfl, .inl ⟨rfl, k + 1, by omega, hv1, rfl, rfl, rfl, by first | rfl | (simp <;> omega)⟩⟩, by simp [intOf] <;> omega⟩
    · rw [if_neg (by omega), if_pos (by omega)] at hv1
      have t1 : decide ((zn : Int) < 128) = false := decide_eq_false (by omega)
      have t2 : decide ((194 : Int) ≤ (zn : Int)) = true := decide_eq_true (by omega)
      have t3 : decide ((zn : Int) ≤ 223) = true := decide_eq_true (by omega)
      clear hc
      have hv : Hid (b = vld 1 128 191 (x.data.toList.drop (k + 1))) := hv1
      clear hv1
      by_cases hl2 : k + 1 < n
      · obtain ⟨c2, hd2, hy⟩ := byte_at x (k := k + 1) (by omega)
        obtain ⟨yn, hyn⟩ : ∃ yn : Nat, c2.toNat = yn := ⟨_, rfl⟩
        have hyb : yn ≤ 255 := by have := c2.toNat_lt; omega
        have hz2 : ∀ h, ((x[k + 1]'h).toNat : Int) = (yn : Int) := fun h => by rw [hy h, hyn]
        have hv2 := hv.out
        rw [hd2, vld_succ, hyn] at hv2
        by_cases hbad : yn < 128 ∨ 191 < yn
        · rw [if_pos hbad] at hv2
          have hv2 := Lib.hid hv2
          clear hv hd2 hyn hy
          by_cases hb1 : yn < 128
          · have u1 : decide ((yn : Int) < 128) = true := decide_eq_true (by omega)
            clear hbad
            go_wp2
            go_step3
            go_wp2
            rw [ExJ.ret]
            go_ret
            exact ⟨by rw [hv2.out]; rfl, rfl⟩
          · have u1 : decide ((yn : Int) < 128) = false := decide_eq_false (by omega)
            have u2 : decide ((191 : Int) < (yn : Int)) = true := decide_eq_true (by omega)
            clear hbad
            go_wp2
            go_step3
            go_wp2
            rw [ExJ.ret]
            go_ret
            exact ⟨by rw [hv2.out]; rfl, rfl⟩
        · rw [if_neg hbad] at hv2
          have hv2 := Lib.hid hv2
          have u1 : decide ((yn : Int) < 128) = false := decide_eq_false (by omega)
          have u2 : decide ((191 : Int) < (yn : Int)) = false := decide_eq_false (by omega)
          clear hv hd2 hyn hy
          go_wp2
          go_step3
          go_wp2
          go_step3
          exact ⟨⟨rfl, .inr ⟨rfl, k + 2, 0, 128, 191, by omega, by omega, by omega, by omega, hv2, rfl, rfl, rfl, by simp <;> first | rfl | omega, by first | rfl | (simp <;> omega), rfl, rfl⟩⟩, by simp [intOf] <;> omega⟩
      · obtain hke : k + 1 = n := by omega
        have hlen : x.data.toList.length = x.size := by rw [Array.length_toList]; rfl
        have hv2 := hv.out
        rw [List.drop_of_length_le (by omega), show vld (0 + 1) 128 191 [] = false by rw [vld]] at hv2
        have hv2 := Lib.hid hv2
        have u0 : ((k : Int) + 1 == (n : Int)) = true := by simp; omega
        clear hv
        go_wp2
        go_step3
        go_wp2
        rw [ExJ.ret]
        go_ret
        exact ⟨by rw [hv2.out]; rfl, rfl⟩
    · simp only [Nat.reduceLT, Nat.reduceLeDiff, Nat.reduceEqDiff, and_true, and_false, and_self, if_true, if_false] at hv1
      have hv : Hid (b = vld 2 160 191 (x.data.toList.drop (k + 1))) := hv1
      clear hv1
      by_cases hl2 : k + 1 < n
      · obtain ⟨c2, hd2, hy⟩ := byte_at x (k := k + 1) (by omega)
        obtain ⟨yn, hyn⟩ : ∃ yn : Nat, c2.toNat = yn := ⟨_, rfl⟩
        have hyb : yn ≤ 255 := by have := c2.toNat_lt; omega
        have hz2 : ∀ h, ((x[k + 1]'h).toNat : Int) = (yn : Int) := fun h => by rw [hy h, hyn]
        have hv2 := hv.out
        rw [hd2, vld_succ, hyn] at hv2
        by_cases hbad : yn < 160 ∨ 191 < yn
        · rw [if_pos hbad] at hv2
          have hv2 := Lib.hid hv2
          clear hv hd2 hyn hy
          by_cases hb1 : yn < 160
          · have u1 : decide ((yn : Int) < 160) = true := decide_eq_true (by omega)
            clear hbad
            go_wp2
            go_step3
            go_wp2
            rw [ExJ.ret]
            go_ret
            exact ⟨by rw [hv2.out]; rfl, rfl⟩
          · have u1 : decide ((yn : Int) < 160) = false := decide_eq_false (by omega)
            have u2 : decide ((191 : Int) < (yn : Int)) = true := decide_eq_true (by omega)
            clear hbad
            go_wp2
            go_step3
            go_wp2
            rw [ExJ.ret]
            go_ret
            exact ⟨by rw [hv2.out]; rfl, rfl⟩
        · rw [if_neg hbad] at hv2
          have hv2 := Lib.hid hv2
          have u1 : decide ((yn : Int) < 160) = false := decide_eq_false (by omega)
          have u2 : decide ((191 : Int) < (yn : Int)) = false := decide_eq_false (by omega)
          clear hv hd2 hyn hy
          go_wp2
          go_step3
          go_wp2
          go_step3
          exact ⟨⟨rfl, .inr ⟨rfl, k + 2, 1, 128, 191, by omega, by omega, by omega, by omega, hv2, rfl, rfl, rfl, by simp <;> first | rfl | omega, by first | rfl | (simp <;> omega), rfl, rfl⟩⟩, by simp [intOf] <;> omega⟩
      · obtain hke : k + 1 = n := by omega
        have hlen : x.data.toList.length = x.size := by rw [Array.length_toList]; rfl
        have hv2 := hv.out
        rw [List.drop_of_length_le (by omega), show vld (1 + 1) 160 191 [] = false by rw [vld]] at hv2
        have hv2 := Lib.hid hv2
        have u0 : ((k : Int) + 1 == (n : Int)) = true := by simp; omega
        clear hv
        go_wp2
        go_step3
        go_wp2
        rw [ExJ.ret]
        go_ret
        exact ⟨by rw [hv2.out]; rfl, rfl⟩
    · simp only [Nat.reduceLT, Nat.reduceLeDiff, Nat.reduceEqDiff, and_true, and_false, and_self, if_true, if_false] at hv1
      have hv : Hid (b = vld 2 128 159 (x.data.toList.drop (k + 1))) := hv1
      clear hv1
      by_cases hl2 : k + 1 < n
      · obtain ⟨c2, hd2, hy⟩ := byte_at x (k := k + 1) (by omega)
        obtain ⟨yn, hyn⟩ : ∃ yn : Nat, c2.toNat = yn := ⟨_, rfl⟩
        have hyb : yn ≤ 255 := by have := c2.toNat_lt; omega
        have hz2 : ∀ h, ((x[k + 1]'h).toNat : Int) = (yn : Int) := fun h => by rw [hy h, hyn]
        have hv2 := hv.out
        rw [hd2, vld_succ, hyn] at hv2
        by_cases hbad : yn < 128 ∨ 159 < yn
        · rw [if_pos hbad] at hv2
          have hv2 := Lib.hid hv2
          clear hv hd2 hyn hy
          by_cases hb1 : yn < 128
          · have u1 : decide ((yn : Int) < 128) = true := decide_eq_true (by omega)
            clear hbad
            go_wp2
            go_step3
            go_wp2
            rw [ExJ.ret]
            go_ret
            exact ⟨by rw [hv2.out]; rfl, rfl⟩
          · have u1 : decide ((yn : Int) < 128) = false := decide_eq_false (by omega)
            have u2 : decide ((159 : Int) < (yn : Int)) = true := decide_eq_true (by omega)
            clear hbad
            go_wp2
            go_step3
            go_wp2
            rw [ExJ.ret]
            go_ret
            exact ⟨by rw [hv2.out]; rfl, rfl⟩
        · rw [if_neg hbad] at hv2
          have hv2 := Lib.hid hv2
          have u1 : decide ((yn : Int) < 128) = false := decide_eq_false (by omega)
          have u2 : decide ((159 : Int) < (yn : Int)) = false := decide_eq_false (by omega)
          clear hv hd2 hyn hy
          go_wp2
          go_step3
          go_wp2
          go_step3
          exact ⟨⟨rfl, .inr ⟨rfl, k + 2, 1, 128, 191, by omega, by omega, by omega, by omega, hv2, rfl, rfl, rfl, by simp <;> first | rfl | omega, by first | rfl | (simp <;> omega), rfl, rfl⟩⟩, by simp [intOf] <;> omega⟩
      · obtain hke : k + 1 = n := by omega
        have hlen : x.data.toList.length = x.size := by rw [Array.length_toList]; rfl
        have hv2 := hv.out
        rw [List.drop_of_length_le (by omega), show vld (1 + 1) 128 159 [] = false by rw [vld]] at hv2
        have hv2 := Lib.hid hv2
        have u0 : ((k : Int) + 1 == (n : Int)) = true := by simp; omega
        clear hv
        go_wp2
        go_step3
        go_wp2
        rw [ExJ.ret]
        go_ret
        exact ⟨by rw [hv2.out]; rfl, rfl⟩
    · rw [if_neg (by omega), if_neg (by omega), if_pos (by omega), if_neg (by omega), if_neg (by omega)] at hv1
      have t1 : decide ((zn : Int) < 128) = false := decide_eq_false (by omega)
      have t2 : decide ((194 : Int) ≤ (zn : Int)) = true := decide_eq_true (by omega)
      have t3 : decide ((zn : Int) ≤ 223) = false := decide_eq_false (by omega)
      have t4 : decide ((224 : Int) ≤ (zn : Int)) = true := decide_eq_true (by omega)
      have t5 : decide ((zn : Int) ≤ 239) = true := decide_eq_true (by omega)
      have n224 : ((zn : Int) == 224) = false := by simp; omega
      have n237 : ((zn : Int) == 237) = false := by simp; omega
      clear hc
      have hv : Hid (b = vld 2 128 191 (x.data.toList.drop (k + 1))) := hv1
      clear hv1
      by_cases hl2 : k + 1 < n
      · obtain ⟨c2, hd2, hy⟩ := byte_at x (k := k + 1) (by omega)
        obtain ⟨yn, hyn⟩ : ∃ yn : Nat, c2.toNat = yn := ⟨_, rfl⟩
        have hyb : yn ≤ 255 := by have := c2.toNat_lt; omega
        have hz2 : ∀ h, ((x[k + 1]'h).toNat : Int) = (yn : Int) := fun h => by rw [hy h, hyn]
        have hv2 := hv.out
        rw [hd2, vld_succ, hyn] at hv2
        by_cases hbad : yn < 128 ∨ 191 < yn
        · rw [if_pos hbad] at hv2
          have hv2 := Lib.hid hv2
          clear hv hd2 hyn hy
          by_cases hb1 : yn < 128
          · have u1 : decide ((yn : Int) < 128) = true := decide_eq_true (by omega)
            clear hbad
            go_wp2
            go_step3
            go_wp2
            rw [ExJ.ret]
            go_ret
            exact ⟨by rw [hv2.out]; rfl, rfl⟩
          · have u1 : decide ((yn : Int) < 128) = false := decide_eq_false (by omega)
            have u2 : decide ((191 : Int) < (yn : Int)) = true := decide_eq_true (by omega)
            clear hbad
            go_wp2
            go_step3
            go_wp2
            rw [ExJ.ret]
            go_ret
            exact ⟨by rw [hv2.out]; rfl, rfl⟩
        · rw [if_neg hbad] at hv2
          have hv2 := Lib.hid hv2
          have u1 : decide ((yn : Int) < 128) = false := decide_eq_false (by omega)
          have u2 : decide ((191 : Int) < (yn : Int)) = false := decide_eq_false (by omega)
          clear hv hd2 hyn hy
          go_wp2
          go_step3
          go_wp2
          go_step3
          exact ⟨⟨rfl, .inr ⟨rfl, k + 2, 1, 128, 191, by omega, by omega, by omega, by omega, hv2, rfl, rfl, rfl, by simp <;> first | rfl | omega, by first | rfl | (simp <;> omega), rfl, rfl⟩⟩, by simp [intOf] <;> omega⟩
      · obtain hke : k + 1 = n := by omega
        have hlen : x.data.toList.length = x.size := by rw [Array.length_toList]; rfl
        have hv2 := hv.out
        rw [List.drop_of_length_le (by omega), show vld (1 + 1) 128 191 [] = false by rw [vld]] at hv2
        have hv2 := Lib.hid hv2
        have u0 : ((k : Int) + 1 == (n : Int)) = true := by simp; omega
        clear hv
        go_wp2
        go_step3
        go_wp2
        rw [ExJ.ret]
        go_ret
        exact ⟨by rw [hv2.out]; rfl, rfl⟩
    · simp only [Nat.reduceLT, Nat.reduceLeDiff, Nat.reduceEqDiff, and_false, and_self, if_true, if_false] at hv1
      have hv : Hid (b = vld 3 144 191 (x.data.toList.drop (k + 1))) := hv1
      clear hv1
      by_cases hl2 : k + 1 < n
      · obtain ⟨c2, hd2, hy⟩ := byte_at x (k := k + 1) (by omega)
        obtain ⟨yn, hyn⟩ : ∃ yn : Nat, c2.toNat = yn := ⟨_, rfl⟩
        have hyb : yn ≤ 255 := by have := c2.toNat_lt; omega
        have hz2 : ∀ h, ((x[k + 1]'h).toNat : Int) = (yn : Int) := fun h => by rw [hy h, hyn]
        have hv2 := hv.out
        rw [hd2, vld_succ, hyn] at hv2
        by_cases hbad : yn < 144 ∨ 191 < yn
        · rw [if_pos hbad] at hv2
          have hv2 := Lib.hid hv2
          clear hv hd2 hyn hy
          by_cases hb1 : yn < 144
          · have u1 : decide ((yn : Int) < 144) = true := decide_eq_true (by omega)
            clear hbad
            go_wp2
            go_step3
            go_wp2
            rw [ExJ.ret]
            go_ret
            exact ⟨by rw [hv2.out]; rfl, rfl⟩
          · have u1 : decide ((yn : Int) < 144) = false := decide_eq_false (by omega)
            have u2 : decide ((191 : Int) < (yn : Int)) = true := decide_eq_true (by omega)
            clear hbad
            go_wp2
            go_step3
            go_wp2
            rw [ExJ.ret]
            go_ret
            exact ⟨by rw [hv2.out]; rfl, rfl⟩
        · rw [if_neg hbad] at hv2
          have hv2 := Lib.hid hv2
          have u1 : decide ((yn : Int) < 144) = false := decide_eq_false (by omega)
          have u2 : decide ((191 : Int) < (yn : Int)) = false := decide_eq_false (by omega)
          clear hv hd2 hyn hy
          go_wp2
          go_step3
          go_wp2
          go_step3
          exact ⟨⟨rfl, .inr ⟨rfl, k + 2, 2, 128, 191, by omega, by omega, by omega, by omega, hv2, rfl, rfl, rfl, by simp <;> first | rfl | omega, by first | rfl | (simp <;> omega), rfl, rfl⟩⟩, by simp [intOf] <;> omega⟩
      · obtain hke : k + 1 = n := by omega
        have hlen : x.data.toList.length = x.size := by rw [Array.length_toList]; rfl
        have hv2 := hv.out
        rw [List.drop_of_length_le (by omega), show vld (2 + 1) 144 191 [] = false by rw [vld]] at hv2
        have hv2 := Lib.hid hv2
        have u0 : ((k : Int) + 1 == (n : Int)) = true := by simp; omega
        clear hv
        go_wp2
        go_step3
        go_wp2
        rw [ExJ.ret]
        go_ret
        exact ⟨by rw [hv2.out]; rfl, rfl⟩
    · simp only [Nat.reduceLT, Nat.reduceLeDiff, Nat.reduceEqDiff, and_false, and_self, if_true, if_false] at hv1
      have hv : Hid (b = vld 3 128 143 (x.data.toList.drop (k + 1))) := hv1
      clear hv1
      by_cases hl2 : k + 1 < n
      · obtain ⟨c2, hd2, hy⟩ := byte_at x (k := k + 1) (by omega)
        obtain ⟨yn, hyn⟩ : ∃ yn : Nat, c2.toNat = yn := ⟨_, rfl⟩
        have hyb : yn ≤ 255 := by have := c2.toNat_lt; omega
        have hz2 : ∀ h, ((x[k + 1]'h).toNat : Int) = (yn : Int) := fun h => by rw [hy h, hyn]
        have hv2 := hv.out
        rw [hd2, vld_succ, hyn] at hv2
        by_cases hbad : yn < 128 ∨ 143 < yn
        · rw [if_pos hbad] at hv2
          have hv2 := Lib.hid hv2
          clear hv hd2 hyn hy
          by_cases hb1 : yn < 128
          · have u1 : decide ((yn : Int) < 128) = true := decide_eq_true (by omega)
            clear hbad
            go_wp2
            go_step3
            go_wp2
            rw [ExJ.ret]
            go_ret
            exact ⟨by rw [hv2.out]; rfl, rfl⟩
          · have u1 : decide ((yn : Int) < 128) = false := decide_eq_false (by omega)
            have u2 : decide ((143 : Int) < (yn : Int)) = true := decide_eq_true (by omega)
            clear hbad
            go_wp2
            go_step3
            go_wp2
            rw [ExJ.ret]
            go_ret
            exact ⟨by rw [hv2.out]; rfl, rfl⟩
        · rw [if_neg hbad] at hv2
          have hv2 := Lib.hid hv2
          have u1 : decide ((yn : Int) < 128) = false := decide_eq_false (by omega)
          have u2 : decide ((143 : Int) < (yn : Int)) = false := decide_eq_false (by omega)
          clear hv hd2 hyn hy
          go_wp2
          go_step3
          go_wp2
          go_step3
          exact ⟨⟨rfl, .inr ⟨rfl, k + 2, 2, 128, 191, by omega, by omega, by omega, by omega, hv2, rfl, rfl, rfl, by simp <;> first | rfl | omega, by first | rfl | (simp <;> omega), rfl, rfl⟩⟩, by simp [intOf] <;> omega⟩
      · obtain hke : k + 1 = n := by omega
        have hlen : x.data.toList.length = x.size := by rw [Array.length_toList]; rfl
        have hv2 := hv.out
        rw [List.drop_of_length_le (by omega), show vld (2 + 1) 128 143 [] = false by rw [vld]] at hv2
        have hv2 := Lib.hid hv2
        have u0 : ((k : Int) + 1 == (n : Int)) = true := by simp; omega
        clear hv
        go_wp2
        go_step3
        go_wp2
        rw [ExJ.ret]
        go_ret
        exact ⟨by rw [hv2.out]; rfl, rfl⟩
    · rw [if_neg (by omega), if_neg (by omega), if_neg (by omega), if_pos (by omega), if_neg (by omega), if_neg (by omega)] at hv1
      have t1 : decide ((zn : Int) < 128) = false := decide_eq_false (by omega)
      have t2 : decide ((194 : Int) ≤ (zn : Int)) = true := decide_eq_true (by omega)
      have t3 : decide ((zn : Int) ≤ 223) = false := decide_eq_false (by omega)
      have t4 : decide ((224 : Int) ≤ (zn : Int)) = true := decide_eq_true (by omega)
      have t5 : decide ((zn : Int) ≤ 239) = false := decide_eq_false (by omega)
      have t6 : decide ((240 : Int) ≤ (zn : Int)) = true := decide_eq_true (by omega)
      have t7 : decide ((zn : Int) ≤ 244) = true := decide_eq_true (by omega)
      have n240 : ((zn : Int) == 240) = false := by simp; omega
      have n244 : ((zn : Int) == 244) = false := by simp; omega
      clear hc
      have hv : Hid (b = vld 3 128 191 (x.data.toList.drop (k + 1))) := hv1
      clear hv1
      by_cases hl2 : k + 1 < n
      · obtain ⟨c2, hd2, hy⟩ := byte_at x (k := k + 1) (by omega)
        obtain ⟨yn, hyn⟩ : ∃ yn : Nat, c2.toNat = yn := ⟨_, rfl⟩
        have hyb : yn ≤ 255 := by have := c2.toNat_lt; omega
        have hz2 : ∀ h, ((x[k + 1]'h).toNat : Int) = (yn : Int) := fun h => by rw [hy h, hyn]
        have hv2 := hv.out
        rw [hd2, vld_succ, hyn] at hv2
        by_cases hbad : yn < 128 ∨ 191 < yn
        · rw [if_pos hbad] at hv2
          have hv2 := Lib.hid hv2
          clear hv hd2 hyn hy
          by_cases hb1 : yn < 128
          · have u1 : decide ((yn : Int) < 128) = true := decide_eq_true (by omega)
            clear hbad
            go_wp2
            go_step3
            go_wp2
            rw [ExJ.ret]
            go_ret
            exact ⟨by rw [hv2.out]; rfl, rfl⟩
          · have u1 : decide ((yn : Int) < 128) = false := decide_eq_false (by omega)
            have u2 : decide ((191 : Int) < (yn : Int)) = true := decide_eq_true (by omega)
            clear hbad
            go_wp2
            go_step3
            go_wp2
            rw [ExJ.ret]
            go_ret
            exact ⟨by rw [hv2.out]; rfl, rfl⟩
        · rw [if_neg hbad] at hv2
          have hv2 := Lib.hid hv2
          have u1 : decide ((yn : Int) < 128) = false := decide_eq_false (by omega)
          have u2 : decide ((191 : Int) < (yn : Int)) = false := decide_eq_false (by omega)
          clear hv hd2 hyn hy
          go_wp2
          go_step3
          go_wp2
          go_step3
          exact ⟨⟨rfl, .inr ⟨rfl, k + 2, 2, 128, 191, by omega, by omega, by omega, by omega, hv2, rfl, rfl, rfl, by simp <;> first | rfl | omega, by first | rfl | (simp <;> omega), rfl, rfl⟩⟩, by simp [intOf] <;> omega⟩
      · obtain hke : k + 1 = n := by omega
        have hlen : x.data.toList.length = x.size := by rw [Array.length_toList]; rfl
        have hv2 := hv.out
        rw [List.drop_of_length_le (by omega), show vld (2 + 1) 128 191 [] = false by rw [vld]] at hv2
        have hv2 := Lib.hid hv2
        have u0 : ((k : Int) + 1 == (n : Int)) = true := by simp; omega
        clear hv
        go_wp2
        go_step3
        go_wp2
        rw [ExJ.ret]
        go_ret
        exact ⟨by rw [hv2.out]; rfl, rfl⟩
    · rw [if_neg (by omega), if_neg (by omega), if_neg (by omega), if_neg (by omega)] at hv1
      have hv1 := Lib.hid hv1
      have t1 : decide ((zn : Int) < 128) = false := decide_eq_false (by omega)
      have t2 : decide ((194 : Int) ≤ (zn : Int)) = false := decide_eq_false (by omega)
      have t4 : decide ((224 : Int) ≤ (zn : Int)) = false := decide_eq_false (by omega)
      have t6 : decide ((240 : Int) ≤ (zn : Int)) = false := decide_eq_false (by omega)
      clear hc
      go_wp2
      rw [ExJ.ret]
      go_ret
      exact ⟨by rw [hv1.out]; rfl, rfl⟩
    · rw [if_neg (by omega), if_neg (by omega), if_neg (by omega), if_neg (by omega)] at hv1
      have hv1 := Lib.hid hv1
      have t1 : decide ((zn : Int) < 128) = false := decide_eq_false (by omega)
      have t2 : decide ((194 : Int) ≤ (zn : Int)) = true := decide_eq_true (by omega)
      have t3 : decide ((zn : Int) ≤ 223) = false := decide_eq_false (by omega)
      have t4 : decide ((224 : Int) ≤ (zn : Int)) = true := decide_eq_true (by omega)
      have t5 : decide ((zn : Int) ≤ 239) = false := decide_eq_false (by omega)
      have t6 : decide ((240 : Int) ≤ (zn : Int)) = true := decide_eq_true (by omega)
      have t7 : decide ((zn : Int) ≤ 244) = false := decide_eq_false (by omega)
      clear hc
      go_wp2
      rw [ExJ.ret]
      go_ret
      exact ⟨by rw [hv1.out]; rfl, rfl⟩
  · rintro l a' wr hl ⟨rfl, ⟨rfl, _⟩ | ⟨rfl, k, m, lo, hi, hk, hm, hlo, hhi, hv, hfr⟩⟩
    · exact absurd rfl hl
    refine ⟨_, rfl, ?_⟩
    obtain ⟨fs, fd, f0, f3, f4, f5, f6⟩ := hfr
    obtain ⟨u, hu⟩ : ∃ u : Nat → Value, a' = { tmps := #[.string x, u 1, u 2, .int .i64 (k : Int), .int .i64 (m : Int), .int .u8 (lo : Int), .int .u8 (hi : Int), u 7, u 8, u 9, u 10, u 11, u 12, u 13, u 14, u 15, u 16, u 17, u 18, u 19, u 20, u 21, u 22, u 23, u 24, u 25, u 26, u 27, u 28, u 29, u 30, u 31, u 32, u 33, u 34, u 35, u 36, u 37, u 38, u 39, u 40, u 41, u 42, u 43, u 44, u 45, u 46, u 47, u 48, u 49, u 50, u 51, u 52, u 53, u 54, u 55, u 56, u 57, u 58, u 59, u 60, u 61, u 62, u 63, u 64, u 65, u 66, u 67, u 68, u 69, u 70, u 71, u 72, u 73, u 74], defers := [] } := ⟨fun i => a'.tmps.getD i undef, (frame_lit a' 75 fs fd).trans (by show ({ tmps := #[a'.tmps.getD 0 undef, a'.tmps.getD 1 undef, a'.tmps.getD 2 undef, a'.tmps.getD 3 undef, a'.tmps.getD 4 undef, a'.tmps.getD 5 undef, a'.tmps.getD 6 undef, a'.tmps.getD 7 undef, a'.tmps.getD 8 undef, a'.tmps.getD 9 undef, a'.tmps.getD 10 undef, a'.tmps.getD 11 undef, a'.tmps.getD 12 undef, a'.tmps.getD 13 undef, a'.tmps.getD 14 undef, a'.tmps.getD 15 undef, a'.tmps.getD 16 undef, a'.tmps.getD 17 undef, a'.tmps.getD 18 undef, a'.tmps.getD 19 undef, a'.tmps.getD 20 undef, a'.tmps.getD 21 undef, a'.tmps.getD 22 undef, a'.tmps.getD 23 undef, a'.tmps.getD 24 undef, a'.tmps.getD 25 undef, a'.tmps.getD 26 undef, a'.tmps.getD 27 undef, a'.tmps.getD 28 undef, a'.tmps.getD 29 undef, a'.tmps.getD 30 undef, a'.tmps.getD 31 undef, a'.tmps.getD 32 undef, a'.tmps.getD 33 undef, a'.tmps.getD 34 undef, a'.tmps.getD 35 undef, a'.tmps.getD 36 undef, a'.tmps.getD 37 undef, a'.tmps.getD 38 undef, a'.tmps.getD 39 undef, a'.tmps.getD 40 undef, a'.tmps.getD 41 undef, a'.tmps.getD 42 undef, a'.tmps.getD 43 undef, a'.tmps.getD 44 undef, a'.tmps.getD 45 undef, a'.tmps.getD 46 undef, a'.tmps.getD 47 undef, a'.tmps.getD 48 undef, a'.tmps.getD 49 undef, a'.tmps.getD 50 undef, a'.tmps.getD 51 undef, a'.tmps.getD 52 undef, a'.tmps.getD 53 undef, a'.tmps.getD 54 undef, a'.tmps.getD 55 undef, a'.tmps.getD 56 undef, a'.tmps.getD 57 undef, a'.tmps.getD 58 undef, a'.tmps.getD 59 undef, a'.tmps.getD 60 undef, a'.tmps.getD 61 undef, a'.tmps.getD 62 undef, a'.tmps.getD 63 undef, a'.tmps.getD 64 undef, a'.tmps.getD 65 undef, a'.tmps.getD 66 undef, a'.tmps.getD 67 undef, a'.tmps.getD 68 undef, a'.tmps.getD 69 undef, a'.tmps.getD 70 undef, a'.tmps.getD 71 undef, a'.tmps.getD 72 undef, a'.tmps.getD 73 undef, a'.tmps.getD 74 undef], defers := [] } : Act) = _; rw [f0, f3, f4, f5, f6])⟩
    clear fs fd f0 f3 f4 f5 f6
    subst hu
    rcases m with _ | m
    · have hv0 : Hid (b = vld 0 128 191 (x.data.toList.drop k)) := by
        have h9 := hv.out
        cases hd : x.data.toList.drop k with
        | nil => rw [hd] at h9; rw [vld] at h9; exact h9
        | cons c r => rw [hd, vld_zero] at h9; show b = _; rw [vld_zero]; exact h9
      clear hv
      go_wp2
      go_step3
      exact ⟨⟨rfl, .inl ⟨rfl, k, hk, hv0, rfl, rfl, rfl, rfl⟩⟩, by simp [intOf] <;> omega⟩
    · have m0 : (((m : Int) + 1) == 0) = false := by simp; omega
      by_cases hl2 : k < n
      · obtain ⟨c2, hd2, hy⟩ := byte_at x (k := k) (by omega)
        obtain ⟨yn, hyn⟩ : ∃ yn : Nat, c2.toNat = yn := ⟨_, rfl⟩
        have hyb : yn ≤ 255 := by have := c2.toNat_lt; omega
        have hz2 : ∀ h, ((x[k]'h).toNat : Int) = (yn : Int) := fun h => by rw [hy h, hyn]
        have hv2 := hv.out
        rw [hd2, vld_succ, hyn] at hv2
        by_cases hbad : yn < lo ∨ hi < yn
        · rw [if_pos hbad] at hv2
          have hv2 := Lib.hid hv2
          clear hv hd2 hyn hy
          by_cases hb1 : yn < lo
          · have u1 : decide (yn < lo) = true := decide_eq_true (by omega)
            clear hbad
            go_wp2
            rw [ExJ.ret]
            go_ret
            exact ⟨by rw [hv2.out]; rfl, rfl⟩
          · have u1 : decide (yn < lo) = false := decide_eq_false (by omega)
            have u2 : decide (hi < yn) = true := decide_eq_true (by omega)
            clear hbad
            go_wp2
            rw [ExJ.ret]
            go_ret
            exact ⟨by rw [hv2.out]; rfl, rfl⟩
        · rw [if_neg hbad] at hv2
          have hv2 := Lib.hid hv2
          have u1 : decide (yn < lo) = false := decide_eq_false (by omega)
          have u2 : decide (hi < yn) = false := decide_eq_false (by omega)
          clear hv hd2 hyn hy
          go_wp2
          go_step3
          exact ⟨⟨rfl, .inr ⟨rfl, k + 1, m, 128, 191, by omega, by omega, by omega, by omega, hv2, rfl, rfl, rfl, by simp <;> first | rfl | omega, by first | rfl | (simp <;> omega), rfl, rfl⟩⟩, by simp [intOf] <;> omega⟩
      · obtain hke : k = n := by omega
        have hlen : x.data.toList.length = x.size := by rw [Array.length_toList]; rfl
        have hv2 := hv.out
        rw [List.drop_of_length_le (by omega), show vld (m + 1) lo hi [] = false by rw [vld]] at hv2
        have hv2 := Lib.hid hv2
        have u0 : ((k : Int) == (n : Int)) = true := by simp; omega
        clear hv
        go_wp2
        rw [ExJ.ret]
        go_ret
        exact ⟨by rw [hv2.out]; rfl, rfl⟩
  · intro hp
    go_wp2
    go_step3
    rename_i K hK
    show K _ _
    refine hK _ _ (hp _ _ ⟨?_, .inl ⟨?_, 0, by omega, hb0, ?_, ?_, ?_, ?_⟩⟩) <;> first | trivial | rfl | simp
end Go.Proofs.YtlcaaacbookopaaGreatDoor
