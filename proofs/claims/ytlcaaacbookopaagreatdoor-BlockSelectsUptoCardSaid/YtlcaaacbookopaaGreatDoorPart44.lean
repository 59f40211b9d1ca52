/-
  Several texts in one:
  The document's char: how many bytes the character at a place has. Conditions: texts of at most 256 bytes.
  The document's form of a label's value, and of a list of labels. Conditions: none.
-/
import Derived.Test.YtlcaaacbookopaaGreatDoorPart38
import Derived.Test.YtlcaaacbookopaaGreatDoorPart43

namespace Go.Proofs.YtlcaaacbookopaaGreatDoor
open Go.RowKit

theorem val3_short : ∀ (n v : Nat) (r : List UInt8), r.length < n → val3 n v r = none
  | 0, _, _, h => by omega
  | _ + 1, _, [], _ => rfl
  | n + 1, v, c :: r, h => by
    rw [val3]
    cases hc : con c with
    | false => rfl
    | true => exact val3_short n _ r (by simp only [List.length_cons] at h; omega)
theorem con_iff {c : UInt8} : con c = true ↔ 128 ≤ c.toNat ∧ c.toNat ≤ 191 := by
  unfold con
  rw [Bool.and_eq_true, decide_eq_true_iff, decide_eq_true_iff]
theorem and63all : (List.range 256).all (fun y => bits .and .u8 (y : Int) 63 == ((y % 64 : Nat) : Int)) = true := by decide +kernel
theorem and63 (y : Nat) (h : y ≤ 255) : bits .and .u8 (y : Int) 63 = ((y % 64 : Nat) : Int) := beq_iff_eq.1 (List.all_eq_true.1 and63all y (List.mem_range.2 (by omega)))
theorem and192all : (List.range 256).all (fun y => (bits .and .u8 (y : Int) 192 != 128) == !(decide (128 ≤ y) && decide (y ≤ 191))) = true := by decide +kernel
theorem and192 (y : Nat) (h : y ≤ 255) : (bits .and .u8 (y : Int) 192 != 128) = !(decide (128 ≤ y) && decide (y ≤ 191)) := beq_iff_eq.1 (List.all_eq_true.1 and192all y (List.mem_range.2 (by omega)))
theorem and192nall : (List.range 256).all (fun y => bits .and .u8 (y : Int) 192 == ((y &&& 192 : Nat) : Int)) = true := by decide +kernel
theorem and192n (y : Nat) (h : y ≤ 255) : bits .and .u8 (y : Int) 192 = ((y &&& 192 : Nat) : Int) := beq_iff_eq.1 (List.all_eq_true.1 and192nall y (List.mem_range.2 (by omega)))
theorem or64 (u q : Nat) (hu : u ≤ 262144) (hq : q < 64) : bits .or .i32 ((u : Int) * 64) (q : Int) = ((u * 64 + q : Nat) : Int) := by
  have h1 : (u : Int) * 64 = ((u * 64 : Nat) : Int) := by omega
  rw [h1]
  have h2 : u * 64 ||| q = u * 64 + q := by
    rw [Nat.mul_comm, show (64 : Nat) = 2 ^ 6 from rfl, Nat.two_pow_add_eq_or_of_lt (i := 6) hq]
  show IntKind.i32.wrap ((BitVec.ofInt 32 ((u * 64 : Nat) : Int) ||| BitVec.ofInt 32 (q : Int)).toNat : Int) = _
  have h3 : (BitVec.ofInt 32 ((u * 64 : Nat) : Int) ||| BitVec.ofInt 32 (q : Int)).toNat = u * 64 + q := by
    rw [BitVec.toNat_or, BitVec.ofInt_natCast, BitVec.ofInt_natCast, BitVec.toNat_ofNat, BitVec.toNat_ofNat, Nat.mod_eq_of_lt (by omega), Nat.mod_eq_of_lt (by omega), h2]
  rw [h3]
  simp only [IntKind.wrap_i32]
  omega

set_option maxRecDepth 100000 in
set_option maxHeartbeats 8000000 in
theorem char3_any (x : ByteArray) (k : Nat) (w : World) (hk : k < x.size) (hs : x.size ≤ 256) : Calls Tryz.prog 133 #[.string x, .int .i64 (k : Int)] w fun e w' => e = .returned (.int .i64 (chr3 (x.data.toList.drop k) : Int)) ∧ w = w' := by
  have hlen0 : x.data.toList.length = x.size := by rw [Array.length_toList]; rfl
  obtain ⟨n, hn⟩ : ∃ n, x.size = n := ⟨_, rfl⟩
  rw [hn] at hlen0 hs
  have hkn : k < n := by omega
  obtain ⟨c, hd, hx⟩ := byte_at x (k := k) hk
  obtain ⟨zn, hzn⟩ : ∃ zn : Nat, c.toNat = zn := ⟨_, rfl⟩
  have hzb : zn ≤ 255 := by have := c.toNat_lt; omega
  have hz : ∀ h, ((x[k]'h).toNat : Int) = (zn : Int) := fun h => by rw [hx h, hzn]
  obtain ⟨m, hm0⟩ : ∃ m, chr3 (x.data.toList.drop k) = m := ⟨_, rfl⟩
  rw [hm0]
  have hm := hm0.symm
  rw [hd, chr3, hzn] at hm
  clear hm0 hx hzn hk
  rcases (show zn < 128 ∨ (192 ≤ zn ∧ zn < 224) ∨ (224 ≤ zn ∧ zn < 240) ∨ (240 ≤ zn ∧ zn < 248) ∨ (128 ≤ zn ∧ zn < 192) ∨ 248 ≤ zn by omega) with h | h | h | h | h | h
  all_goals (first | rw [if_pos (by omega)] at hm | rw [if_neg (by omega), if_pos (by omega)] at hm | rw [if_neg (by omega), if_neg (by omega), if_pos (by omega)] at hm | rw [if_neg (by omega), if_neg (by omega), if_neg (by omega), if_pos (by omega)] at hm | rw [if_neg (by omega), if_neg (by omega), if_neg (by omega), if_neg (by omega)] at hm)
  · subst hm
    have t1 : decide ((zn : Int) < 128) = true := decide_eq_true (by omega)
    clear hd h
    go_enter Tryz.func133, Tryz.ntmps133
    go_wp2
    go_ret
    exact ⟨by simp, rfl⟩
  · have hv0 : zn - 192 = zn % 32 := by omega
    rw [hv0] at hm
    have t1 : decide ((zn : Int) < 128) = false := decide_eq_false (by omega)
    have t2 : decide ((192 : Int) ≤ (zn : Int)) = true := decide_eq_true (by omega)
    have t3 : decide ((zn : Int) < 224) = true := decide_eq_true (by omega)
    by_cases hlen : n < k + 2
    · have t9 : decide ((n : Int) < (k : Int) + 2) = true := decide_eq_true (by omega)
      have hm0 : m = 0 := by
        rw [hm]
        refine more3_none (val3_short _ _ _ ?_)
        rw [List.length_drop, hlen0]
        omega
      clear hm hd
      subst hm0
      go_enter Tryz.func133, Tryz.ntmps133
      go_wp2
      go_ret
      exact ⟨by simp, rfl⟩
    have t9 : decide ((n : Int) < (k : Int) + 2) = false := decide_eq_false (by omega)
    replace hm := Lib.hid hm
    have hlen : k + 2 ≤ n := by omega
    have hv1 : zn % 32 < 64 := by omega
    clear hd hv0 h
    go_enter Tryz.func133, Tryz.ntmps133
    go_wp2
    go_loopw [8, 9] (fun v i wr => ∃ (j u : Nat), i = .int .i64 (j : Int) ∧ v = .int .i32 (u : Int) ∧ 1 ≤ j ∧ j ≤ 2 ∧ Hid (u < 64 ^ j ∧ val3 1 (zn % 32) (x.data.toList.drop (k + 1)) = val3 (2 - j) u (x.data.toList.drop (k + j))) ∧ w = wr) (fun _ i _ => 2 - (intOf i).toNat)
    case atStart => exact ⟨1, zn % 32, rfl, by go_num, by omega, by omega, ⟨by omega, rfl⟩, rfl⟩
    case round =>
      obtain ⟨j, u, rfl, rfl, h1j, hjN, hv, rfl⟩ := hrel
      obtain ⟨hub, hval⟩ := hv.out
      by_cases hlt : j < 2
      · obtain ⟨d, hdd, hy0⟩ := byte_at x (k := k + j) (by omega)
        obtain ⟨yn, hyn⟩ : ∃ yn : Nat, d.toNat = yn := ⟨_, rfl⟩
        have hyb : yn ≤ 255 := by have := d.toNat_lt; omega
        have hy : ∀ h, ((x[k + j]'h).toNat : Int) = (yn : Int) := fun h => by rw [hy0 h, hyn]
        have hp3 : 64 ^ j ≤ 64 ^ 3 := Nat.pow_le_pow_right (by omega) (by omega)
        have hu3 : u ≤ 262144 := by omega
        have hp := Nat.pow_succ 64 j
        have e1 : bits .and .u8 (yn : Int) 63 = ((yn % 64 : Nat) : Int) := and63 yn hyb
        have e2 : bits .or .i32 ((u : Int) * 64) ((yn % 64 : Nat) : Int) = ((u * 64 + yn % 64 : Nat) : Int) := or64 u (yn % 64) (by omega) (by omega)
        obtain ⟨q, hq⟩ : ∃ q, yn % 64 = q := ⟨_, rfl⟩
        have hqb : q < 64 := by omega
        obtain ⟨z, ez, e0⟩ : ∃ z : Nat, bits .and .u8 (yn : Int) 192 = (z : Int) ∧ ((z : Int) != 128) = !con d := by
          refine ⟨yn &&& 192, and192n yn hyb, ?_⟩
          rw [← and192n yn hyb, and192 yn hyb, ← hyn]
          rfl
        rw [hq] at e1 e2
        rw [hdd] at hval
        cases hc : con d with
        | false =>
          replace e0 : ((z : Int) != 128) = true := by rw [e0, hc]; rfl
          have hm0 : m = 0 := by
            rw [hm.out]
            refine more3_none ?_
            rw [hval, show 2 - j = (2 - j - 1) + 1 by omega, val3, hc]
            rfl
          subst hm0
          clear hval hdd hyn hy0 hv hub hp hp3 hm hc
          go_wp2
          go_ret
          exact ⟨by simp, rfl⟩
        | true =>
          replace e0 : ((z : Int) != 128) = false := by rw [e0, hc]; rfl
          have hcd : 128 ≤ yn ∧ yn ≤ 191 := by
            rw [← hyn]
            exact con_iff.1 hc
          have hv' : Hid (u * 64 + q < 64 ^ (j + 1) ∧ val3 1 (zn % 32) (x.data.toList.drop (k + 1)) = val3 (2 - (j + 1)) (u * 64 + q) (x.data.toList.drop (k + (j + 1)))) := by
            refine ⟨by omega, ?_⟩
            rw [hval, show 2 - j = (2 - (j + 1)) + 1 by omega, val3_go hc, show d.toNat - 128 = q by omega]
            rfl
          clear hval hdd hyn hy0 hv hub hp hp3 hm hc hcd hq
          go_wp2
          go_roundw
          case rel => exact ⟨j + 1, u * 64 + q, by go_num, by go_num, by omega, by omega, hv', trivial⟩
          case measure => simp [intOf]; omega
      · obtain rfl : j = 2 := by omega
        have hub4 : u < 4096 := hub
        have hval : val3 1 (zn % 32) (x.data.toList.drop (k + 1)) = some u := by rw [hval, Nat.sub_self, val3]
        by_cases k1 : u < 128
        · have s1 : decide ((u : Int) < 128) = true := decide_eq_true (by omega)
          have hm0 : m = 0 := by
            rw [hm.out]
            exact more3_off hval (okV_false (by omega))
          subst hm0
          clear hval hv hub hm k1
          go_wp2
          go_ret
          exact ⟨by simp, rfl⟩
        have s1 : decide ((u : Int) < 128) = false := decide_eq_false (by omega)
        by_cases k2 : 1114111 < u
        · have s2 : decide ((1114111 : Int) < (u : Int)) = true := decide_eq_true (by omega)
          have hm0 : m = 0 := by
            rw [hm.out]
            exact more3_off hval (okV_false (by omega))
          subst hm0
          clear hval hv hub hm k1 k2
          go_wp2
          go_ret
          exact ⟨by simp, rfl⟩
        have s2 : decide ((1114111 : Int) < (u : Int)) = false := decide_eq_false (by omega)
        by_cases k3 : 55296 ≤ u
        · have s3 : decide ((55296 : Int) ≤ (u : Int)) = true := decide_eq_true (by omega)
          by_cases k4 : u ≤ 57343
          · have s4 : decide ((u : Int) ≤ 57343) = true := decide_eq_true (by omega)
            have hm0 : m = 0 := by
              rw [hm.out]
              exact more3_off hval (okV_false (by omega))
            subst hm0
            clear hval hv hub hm k1 k2 k3 k4
            go_wp2
            go_ret
            exact ⟨by simp, rfl⟩
          · have s4 : decide ((u : Int) ≤ 57343) = false := decide_eq_false (by omega)
            have hm0 : m = 2 := by
              rw [hm.out]
              exact more3_of hval (okV_true (by omega))
            subst hm0
            clear hval hv hub hub4 hm k1 k2 k3 k4
            go_wp2
            go_ret
            exact ⟨by simp, rfl⟩
        · have s3 : decide ((55296 : Int) ≤ (u : Int)) = false := decide_eq_false (by omega)
          have hm0 : m = 2 := by
            rw [hm.out]
            exact more3_of hval (okV_true (by omega))
          subst hm0
          clear hval hv hub hub4 hm k1 k2 k3
          go_wp2
          go_ret
          exact ⟨by simp, rfl⟩
  · have hv0 : zn - 224 = zn % 16 := by omega
    rw [hv0] at hm
    have t1 : decide ((zn : Int) < 128) = false := decide_eq_false (by omega)
    have t2 : decide ((192 : Int) ≤ (zn : Int)) = true := decide_eq_true (by omega)
    have t3 : decide ((zn : Int) < 224) = false := decide_eq_false (by omega)
    have t4 : decide ((224 : Int) ≤ (zn : Int)) = true := decide_eq_true (by omega)
    have t5 : decide ((zn : Int) < 240) = true := decide_eq_true (by omega)
    by_cases hlen : n < k + 3
    · have t9 : decide ((n : Int) < (k : Int) + 3) = true := decide_eq_true (by omega)
      have hm0 : m = 0 := by
        rw [hm]
        refine more3_none (val3_short _ _ _ ?_)
        rw [List.length_drop, hlen0]
        omega
      clear hm hd
      subst hm0
      go_enter Tryz.func133, Tryz.ntmps133
      go_wp2
      go_ret
      exact ⟨by simp, rfl⟩
    have t9 : decide ((n : Int) < (k : Int) + 3) = false := decide_eq_false (by omega)
    replace hm := Lib.hid hm
    have hlen : k + 3 ≤ n := by omega
    have hv1 : zn % 16 < 64 := by omega
    clear hd hv0 h
    go_enter Tryz.func133, Tryz.ntmps133
    go_wp2
    go_loopw [8, 9] (fun v i wr => ∃ (j u : Nat), i = .int .i64 (j : Int) ∧ v = .int .i32 (u : Int) ∧ 1 ≤ j ∧ j ≤ 3 ∧ Hid (u < 64 ^ j ∧ val3 2 (zn % 16) (x.data.toList.drop (k + 1)) = val3 (3 - j) u (x.data.toList.drop (k + j))) ∧ w = wr) (fun _ i _ => 3 - (intOf i).toNat)
    case atStart => exact ⟨1, zn % 16, rfl, by go_num, by omega, by omega, ⟨by omega, rfl⟩, rfl⟩
    case round =>
      obtain ⟨j, u, rfl, rfl, h1j, hjN, hv, rfl⟩ := hrel
      obtain ⟨hub, hval⟩ := hv.out
      by_cases hlt : j < 3
      · obtain ⟨d, hdd, hy0⟩ := byte_at x (k := k + j) (by omega)
        obtain ⟨yn, hyn⟩ : ∃ yn : Nat, d.toNat = yn := ⟨_, rfl⟩
        have hyb : yn ≤ 255 := by have := d.toNat_lt; omega
        have hy : ∀ h, ((x[k + j]'h).toNat : Int) = (yn : Int) := fun h => by rw [hy0 h, hyn]
        have hp3 : 64 ^ j ≤ 64 ^ 3 := Nat.pow_le_pow_right (by omega) (by omega)
        have hu3 : u ≤ 262144 := by omega
        have hp := Nat.pow_succ 64 j
        have e1 : bits .and .u8 (yn : Int) 63 = ((yn % 64 : Nat) : Int) := and63 yn hyb
        have e2 : bits .or .i32 ((u : Int) * 64) ((yn % 64 : Nat) : Int) = ((u * 64 + yn % 64 : Nat) : Int) := or64 u (yn % 64) (by omega) (by omega)
        obtain ⟨q, hq⟩ : ∃ q, yn % 64 = q := ⟨_, rfl⟩
        have hqb : q < 64 := by omega
        obtain ⟨z, ez, e0⟩ : ∃ z : Nat, bits .and .u8 (yn : Int) 192 = (z : Int) ∧ ((z : Int) != 128) = !con d := by
          refine ⟨yn &&& 192, and192n yn hyb, ?_⟩
          rw [← and192n yn hyb, and192 yn hyb, ← hyn]
          rfl
        rw [hq] at e1 e2
        rw [hdd] at hval
        cases hc : con d with
        | false =>
          replace e0 : ((z : Int) != 128) = true := by rw [e0, hc]; rfl
          have hm0 : m = 0 := by
            rw [hm.out]
            refine more3_none ?_
            rw [hval, show 3 - j = (3 - j - 1) + 1 by omega, val3, hc]
            rfl
          subst hm0
          clear hval hdd hyn hy0 hv hub hp hp3 hm hc
          go_wp2
          go_ret
          exact ⟨by simp, rfl⟩
        | true =>
          replace e0 : ((z : Int) != 128) = false := by rw [e0, hc]; rfl
          have hcd : 128 ≤ yn ∧ yn ≤ 191 := by
            rw [← hyn]
            exact con_iff.1 hc
          have hv' : Hid (u * 64 + q < 64 ^ (j + 1) ∧ val3 2 (zn % 16) (x.data.toList.drop (k + 1)) = val3 (3 - (j + 1)) (u * 64 + q) (x.data.toList.drop (k + (j + 1)))) := by
            refine ⟨by omega, ?_⟩
            rw [hval, show 3 - j = (3 - (j + 1)) + 1 by omega, val3_go hc, show d.toNat - 128 = q by omega]
            rfl
          clear hval hdd hyn hy0 hv hub hp hp3 hm hc hcd hq
          go_wp2
          go_roundw
          case rel => exact ⟨j + 1, u * 64 + q, by go_num, by go_num, by omega, by omega, hv', trivial⟩
          case measure => simp [intOf]; omega
      · obtain rfl : j = 3 := by omega
        have hub4 : u < 262144 := hub
        have hval : val3 2 (zn % 16) (x.data.toList.drop (k + 1)) = some u := by rw [hval, Nat.sub_self, val3]
        by_cases k1 : u < 2048
        · have s1 : decide ((u : Int) < 2048) = true := decide_eq_true (by omega)
          have hm0 : m = 0 := by
            rw [hm.out]
            exact more3_off hval (okV_false (by omega))
          subst hm0
          clear hval hv hub hm k1
          go_wp2
          go_ret
          exact ⟨by simp, rfl⟩
        have s1 : decide ((u : Int) < 2048) = false := decide_eq_false (by omega)
        by_cases k2 : 1114111 < u
        · have s2 : decide ((1114111 : Int) < (u : Int)) = true := decide_eq_true (by omega)
          have hm0 : m = 0 := by
            rw [hm.out]
            exact more3_off hval (okV_false (by omega))
          subst hm0
          clear hval hv hub hm k1 k2
          go_wp2
          go_ret
          exact ⟨by simp, rfl⟩
        have s2 : decide ((1114111 : Int) < (u : Int)) = false := decide_eq_false (by omega)
        by_cases k3 : 55296 ≤ u
        · have s3 : decide ((55296 : Int) ≤ (u : Int)) = true := decide_eq_true (by omega)
          by_cases k4 : u ≤ 57343
          · have s4 : decide ((u : Int) ≤ 57343) = true := decide_eq_true (by omega)
            have hm0 : m = 0 := by
              rw [hm.out]
              exact more3_off hval (okV_false (by omega))
            subst hm0
            clear hval hv hub hm k1 k2 k3 k4
            go_wp2
            go_ret
            exact ⟨by simp, rfl⟩
          · have s4 : decide ((u : Int) ≤ 57343) = false := decide_eq_false (by omega)
            have hm0 : m = 3 := by
              rw [hm.out]
              exact more3_of hval (okV_true (by omega))
            subst hm0
            clear hval hv hub hub4 hm k1 k2 k3 k4
            go_wp2
            go_ret
            exact ⟨by simp, rfl⟩
        · have s3 : decide ((55296 : Int) ≤ (u : Int)) = false := decide_eq_false (by omega)
          have hm0 : m = 3 := by
            rw [hm.out]
            exact more3_of hval (okV_true (by omega))
          subst hm0
          clear hval hv hub hub4 hm k1 k2 k3
          go_wp2
          go_ret
          exact ⟨by simp, rfl⟩
  · have hv0 : zn - 240 = zn % 8 := by omega
    rw [hv0] at hm
    have t1 : decide ((zn : Int) < 128) = false := decide_eq_false (by omega)
    have t2 : decide ((192 : Int) ≤ (zn : Int)) = true := decide_eq_true (by omega)
    have t3 : decide ((zn : Int) < 224) = false := decide_eq_false (by omega)
    have t4 : decide ((224 : Int) ≤ (zn : Int)) = true := decide_eq_true (by omega)
    have t5 : decide ((zn : Int) < 240) = false := decide_eq_false (by omega)
    have t6 : decide ((240 : Int) ≤ (zn : Int)) = true := decide_eq_true (by omega)
    have t7 : decide ((zn : Int) < 248) = true := decide_eq_true (by omega)
    by_cases hlen : n < k + 4
    · have t9 : decide ((n : Int) < (k : Int) + 4) = true := decide_eq_true (by omega)
      have hm0 : m = 0 := by
        rw [hm]
        refine more3_none (val3_short _ _ _ ?_)
        rw [List.length_drop, hlen0]
        omega
      clear hm hd
      subst hm0
      go_enter Tryz.func133, Tryz.ntmps133
      go_wp2
      go_ret
      exact ⟨by simp, rfl⟩
    have t9 : decide ((n : Int) < (k : Int) + 4) = false := decide_eq_false (by omega)
    replace hm := Lib.hid hm
    have hlen : k + 4 ≤ n := by omega
    have hv1 : zn % 8 < 64 := by omega
    clear hd hv0 h
    go_enter Tryz.func133, Tryz.ntmps133
    go_wp2
    go_loopw [8, 9] (fun v i wr => ∃ (j u : Nat), i = .int .i64 (j : Int) ∧ v = .int .i32 (u : Int) ∧ 1 ≤ j ∧ j ≤ 4 ∧ Hid (u < 64 ^ j ∧ val3 3 (zn % 8) (x.data.toList.drop (k + 1)) = val3 (4 - j) u (x.data.toList.drop (k + j))) ∧ w = wr) (fun _ i _ => 4 - (intOf i).toNat)
    case atStart => exact ⟨1, zn % 8, rfl, by go_num, by omega, by omega, ⟨by omega, rfl⟩, rfl⟩
    case round =>
      obtain ⟨j, u, rfl, rfl, h1j, hjN, hv, rfl⟩ := hrel
      obtain ⟨hub, hval⟩ := hv.out
      by_cases hlt : j < 4
      · obtain ⟨d, hdd, hy0⟩ := byte_at x (k := k + j) (by omega)
        obtain ⟨yn, hyn⟩ : ∃ yn : Nat, d.toNat = yn := ⟨_, rfl⟩
        have hyb : yn ≤ 255 := by have := d.toNat_lt; omega
        have hy : ∀ h, ((x[k + j]'h).toNat : Int) = (yn : Int) := fun h => by rw [hy0 h, hyn]
        have hp3 : 64 ^ j ≤ 64 ^ 3 := Nat.pow_le_pow_right (by omega) (by omega)
        have hu3 : u ≤ 262144 := by omega
        have hp := Nat.pow_succ 64 j
        have e1 : bits .and .u8 (yn : Int) 63 = ((yn % 64 : Nat) : Int) := and63 yn hyb
        have e2 : bits .or .i32 ((u : Int) * 64) ((yn % 64 : Nat) : Int) = ((u * 64 + yn % 64 : Nat) : Int) := or64 u (yn % 64) (by omega) (by omega)
        obtain ⟨q, hq⟩ : ∃ q, yn % 64 = q := ⟨_, rfl⟩
        have hqb : q < 64 := by omega
        obtain ⟨z, ez, e0⟩ : ∃ z : Nat, bits .and .u8 (yn : Int) 192 = (z : Int) ∧ ((z : Int) != 128) = !con d := by
          refine ⟨yn &&& 192, and192n yn hyb, ?_⟩
          rw [← and192n yn hyb, and192 yn hyb, ← hyn]
          rfl
        rw [hq] at e1 e2
        rw [hdd] at hval
        cases hc : con d with
        | false =>
          replace e0 : ((z : Int) != 128) = true := by rw [e0, hc]; rfl
          have hm0 : m = 0 := by
            rw [hm.out]
            refine more3_none ?_
            rw [hval, show 4 - j = (4 - j - 1) + 1 by omega, val3, hc]
            rfl
          subst hm0
          clear hval hdd hyn hy0 hv hub hp hp3 hm hc
          go_wp2
          go_ret
          exact ⟨by simp, rfl⟩
        | true =>
          replace e0 : ((z : Int) != 128) = false := by rw [e0, hc]; rfl
          have hcd : 128 ≤ yn ∧ yn ≤ 191 := by
            rw [← hyn]
            exact con_iff.1 hc
          have hv' : Hid (u * 64 + q < 64 ^ (j + 1) ∧ val3 3 (zn % 8) (x.data.toList.drop (k + 1)) = val3 (4 - (j + 1)) (u * 64 + q) (x.data.toList.drop (k + (j + 1)))) := by
            refine ⟨by omega, ?_⟩
            rw [hval, show 4 - j = (4 - (j + 1)) + 1 by omega, val3_go hc, show d.toNat - 128 = q by omega]
            rfl
          clear hval hdd hyn hy0 hv hub hp hp3 hm hc hcd hq
          go_wp2
          go_roundw
          case rel => exact ⟨j + 1, u * 64 + q, by go_num, by go_num, by omega, by omega, hv', trivial⟩
          case measure => simp [intOf]; omega
      · obtain rfl : j = 4 := by omega
        have hub4 : u < 16777216 := hub
        have hval : val3 3 (zn % 8) (x.data.toList.drop (k + 1)) = some u := by rw [hval, Nat.sub_self, val3]
        by_cases k1 : u < 65536
        · have s1 : decide ((u : Int) < 65536) = true := decide_eq_true (by omega)
          have hm0 : m = 0 := by
            rw [hm.out]
            exact more3_off hval (okV_false (by omega))
          subst hm0
          clear hval hv hub hm k1
          go_wp2
          go_ret
          exact ⟨by simp, rfl⟩
        have s1 : decide ((u : Int) < 65536) = false := decide_eq_false (by omega)
        by_cases k2 : 1114111 < u
        · have s2 : decide ((1114111 : Int) < (u : Int)) = true := decide_eq_true (by omega)
          have hm0 : m = 0 := by
            rw [hm.out]
            exact more3_off hval (okV_false (by omega))
          subst hm0
          clear hval hv hub hm k1 k2
          go_wp2
          go_ret
          exact ⟨by simp, rfl⟩
        have s2 : decide ((1114111 : Int) < (u : Int)) = false := decide_eq_false (by omega)
        by_cases k3 : 55296 ≤ u
        · have s3 : decide ((55296 : Int) ≤ (u : Int)) = true := decide_eq_true (by omega)
          by_cases k4 : u ≤ 57343
          · have s4 : decide ((u : Int) ≤ 57343) = true := decide_eq_true (by omega)
            have hm0 : m = 0 := by
              rw [hm.out]
              exact more3_off hval (okV_false (by omega))
            subst hm0
            clear hval hv hub hm k1 k2 k3 k4
            go_wp2
            go_ret
            exact ⟨by simp, rfl⟩
          · have s4 : decide ((u : Int) ≤ 57343) = false := decide_eq_false (by omega)
            have hm0 : m = 4 := by
              rw [hm.out]
              exact more3_of hval (okV_true (by omega))
            subst hm0
            clear hval hv hub hub4 hm k1 k2 k3 k4
            go_wp2
            go_ret
            exact ⟨by simp, rfl⟩
        · have s3 : decide ((55296 : Int) ≤ (u : Int)) = false := decide_eq_false (by omega)
          have hm0 : m = 4 := by
            rw [hm.out]
            exact more3_of hval (okV_true (by omega))
          subst hm0
          clear hval hv hub hub4 hm k1 k2 k3
          go_wp2
          go_ret
          exact ⟨by simp, rfl⟩
  · subst hm
    have t1 : decide ((zn : Int) < 128) = false := decide_eq_false (by omega)
    have t2 : decide ((192 : Int) ≤ (zn : Int)) = false := decide_eq_false (by omega)
    have t4 : decide ((224 : Int) ≤ (zn : Int)) = false := decide_eq_false (by omega)
    have t6 : decide ((240 : Int) ≤ (zn : Int)) = false := decide_eq_false (by omega)
    clear hd h
    go_enter Tryz.func133, Tryz.ntmps133
    go_wp2
    go_ret
    exact ⟨by simp, rfl⟩
  · subst hm
    have t1 : decide ((zn : Int) < 128) = false := decide_eq_false (by omega)
    have t2 : decide ((192 : Int) ≤ (zn : Int)) = true := decide_eq_true (by omega)
    have t3 : decide ((zn : Int) < 224) = false := decide_eq_false (by omega)
    have t4 : decide ((224 : Int) ≤ (zn : Int)) = true := decide_eq_true (by omega)
    have t5 : decide ((zn : Int) < 240) = false := decide_eq_false (by omega)
    have t6 : decide ((240 : Int) ≤ (zn : Int)) = true := decide_eq_true (by omega)
    have t7 : decide ((zn : Int) < 248) = false := decide_eq_false (by omega)
    clear hd h
    go_enter Tryz.func133, Tryz.ntmps133
    go_wp2
    go_ret
    exact ⟨by simp, rfl⟩
end Go.Proofs.YtlcaaacbookopaaGreatDoor

namespace Go.Proofs.YtlcaaacbookopaaGreatDoor
open Go.RowKit

set_option maxRecDepth 100000 in
set_option maxHeartbeats 4000000 in
theorem valid3_any (x : ByteArray) (w : World) : Calls Tryz.prog 116 #[.string x] w fun e w' => e = .returned (.bool (txtB x)) ∧ w = w' := by
  obtain ⟨n, hn⟩ : ∃ n, x.size = n := ⟨_, rfl⟩
  obtain ⟨b, hb⟩ : ∃ b, txtB x = b := ⟨_, rfl⟩
  rw [hb]
  unfold txtB at hb
  rw [hn] at hb
  by_cases h0 : n = 0
  · have e0 : decide ((n : Int) < 1) = true := decide_eq_true (by omega)
    rw [decide_eq_false (p := 0 < n) (by omega), Bool.false_and, Bool.false_and] at hb
    subst hb
    clear h0
    go_enter Tryz.func116, Tryz.ntmps116
    go_wp2
    go_ret
    exact ⟨by simp, rfl⟩
  have e0 : decide ((n : Int) < 1) = false := decide_eq_false (by omega)
  rw [decide_eq_true (p := 0 < n) (by omega), Bool.true_and] at hb
  by_cases h256 : 256 < n
  · have e1 : decide ((256 : Int) < (n : Int)) = true := decide_eq_true (by omega)
    rw [decide_eq_false (p := n ≤ 256) (by omega), Bool.false_and] at hb
    subst hb
    clear h0 h256
    go_enter Tryz.func116, Tryz.ntmps116
    go_wp2
    go_ret
    exact ⟨by simp, rfl⟩
  have e1 : decide ((256 : Int) < (n : Int)) = false := decide_eq_false (by omega)
  rw [decide_eq_true (p := n ≤ 256) (by omega), Bool.true_and] at hb
  have hs : n ≤ 256 := by omega
  have hb0 : Hid (b = vld 0 128 191 (x.data.toList.drop 0)) := hb.symm
  have hlen : Hid (x.data.toList.length = n) := (data_len x).trans hn
  clear h0 h256 hb
  go_enter Tryz.func116, Tryz.ntmps116
  go_wp2
  go_loopw [3] (fun i wr => ∃ j : Nat, i = .int .i64 (j : Int) ∧ j ≤ n ∧ Hid (b = vld 0 128 191 (x.data.toList.drop j)) ∧ w = wr) (fun i _ => n - (intOf i).toNat)
  case atStart => exact ⟨0, rfl, by omega, hb0, rfl⟩
  case round =>
    obtain ⟨j, rfl, hj, hv, rfl⟩ := hrel
    by_cases hlt : j < n
    · obtain ⟨c, hd, _⟩ := byte_at x (k := j) (by omega)
      have hc := char3_any x j w (by omega) (by omega)
      have hle := chr3_le (x.data.toList.drop j)
      have hv1 := hv.out
      rw [hd, chr3_vld, ← hd] at hv1
      rw [List.length_drop, hlen.out] at hle
      obtain ⟨m, hm⟩ : ∃ m, chr3 (x.data.toList.drop j) = m := ⟨_, rfl⟩
      rw [hm] at hv1 hle hc
      rw [List.drop_drop] at hv1
      clear hv hd hm
      by_cases hm0 : m = 0
      · subst hm0
        have hbf : b = false := hv1
        subst hbf
        clear hv1
        go_wp2_with fail
        refine hc.mono ?_
        rintro e w1 ⟨rfl, rfl⟩
        go_wp2
        go_ret
        exact ⟨by simp, rfl⟩
      · rw [decide_eq_true (p := m ≠ 0) hm0, Bool.true_and] at hv1
        replace hv1 := Lib.hid hv1
        have em : ((m : Int) == 0) = false := by simp; omega
        go_wp2_with fail
        refine hc.mono ?_
        rintro e w1 ⟨rfl, rfl⟩
        go_wp2
        go_roundw
        case rel => exact ⟨j + m, by go_num, by omega, hv1, trivial⟩
        case measure => simp [intOf]; omega
    · obtain rfl : j = n := by omega
      have hv1 := hv.out
      rw [List.drop_of_length_le (by rw [hlen.out]; omega), vld_nil] at hv1
      subst hv1
      clear hv
      go_wp2
      go_ret
      exact ⟨by simp, rfl⟩

set_option maxRecDepth 100000 in
set_option maxHeartbeats 4000000 in
theorem chk3_any (A : Option Addr) (n c : Nat) (ls : List Lab) (w : World) (h : RE elLb w A n ls) (hn : n ≤ 9223372036854775807) :
    Calls Tryz.prog 97 #[.slice A n c] w fun e w' => e = .returned (.int .i64 (chkL ls : Int)) ∧ Grew w w' := by
  have hln := h.1
  unfold chkL
  rw [hln]
  by_cases h16 : 16 < n
  · rw [if_pos h16]
    have e0 : decide ((16 : Int) < (n : Int)) = true := decide_eq_true (by omega)
    clear h16
    go_enter Tryz.func97, Tryz.ntmps97
    go_wp2
    go_ret
    exact ⟨by simp, Chg.refl _ _⟩
  rw [if_neg h16]
  have e0 : decide ((16 : Int) < (n : Int)) = false := decide_eq_false (by omega)
  have hn16 : n ≤ 16 := by omega
  obtain ⟨z, hz⟩ : ∃ z, chkG none ls = z := ⟨_, rfl⟩
  rw [hz]
  have hz0 : Hid (z = chkG (prevL ls 0) (ls.drop 0)) := hz.symm
  clear h16 hz
  go_enter Tryz.func97, Tryz.ntmps97
  go_wp2
  go_loopw [3] (fun i wr => ∃ k : Nat, k ≤ n ∧ i = .int .i64 (k : Int) ∧ Hid (z = chkG (prevL ls k) (ls.drop k)) ∧ Grew w wr) (fun i _ => n - (intOf i).toNat)
  case atStart => exact ⟨0, by omega, rfl, hz0, Chg.refl _ _⟩
  case round =>
    obtain ⟨k, hk, rfl, hc, hg⟩ := hrel
    by_cases hlt : k < n
    · obtain ⟨ad, x, rfl, hx, x0, x1⟩ := (h.grew hg).lb hlt
      have hxd : ls.drop k = x :: ls.drop (k + 1) := by
        obtain ⟨h1, h2⟩ := List.getElem?_eq_some_iff.1 hx
        rw [List.drop_eq_getElem_cons h1, h2]
      have hv := hc.out
      rw [hxd, chkG_cons] at hv
      have hpn : prevL ls (k + 1) = some x.1 := by
        unfold prevL
        rw [if_neg (by omega), Nat.add_sub_cancel, hx]
        rfl
      rw [← hpn] at hv
      have hN := fun w => name3_any x.1 w
      have hV := fun w => valid3_any x.2 w
      clear hc hxd hpn
      go_wp2_with fail
      refine (hN _).mono ?_
      rintro e w1 ⟨rfl, rfl⟩
      cases hnm : nameL x.1
      · rw [hnm, if_pos rfl] at hv
        replace hv := Lib.hid hv
        clear hN hV
        go_wp2
        go_ret
        exact ⟨by rw [hv.out]; simp, hg⟩
      rw [hnm, if_neg (by simp)] at hv
      go_wp2_with fail
      refine (hV _).mono ?_
      rintro e w1 ⟨rfl, rfl⟩
      clear hN hV
      cases hvl : txtB x.2
      · rw [hvl, if_pos rfl] at hv
        replace hv := Lib.hid hv
        go_wp2
        go_ret
        exact ⟨by rw [hv.out]; simp, hg⟩
      rw [hvl, if_neg (by simp)] at hv
      clear hvl hnm
      rcases k with _ | k
      · rw [show upB x.1 (prevL ls 0) = false from rfl, if_neg (by simp)] at hv
        replace hv := Lib.hid hv
        clear hx
        go_wp2_with fail
        refine wp_region_text [(9, 2), (3, 1)] (by kernel_rfl) (by kernel_rfl) ?_
        simp only [instr, chk, look, Nat.reduceBEq, if_true, if_false, Nat.reduceEqDiff, List.cons_append, List.nil_append]
        go_wp2_with fail
        refine OnlyN.normal ?_
        go_wp2
        go_roundw
        case rel => exact ⟨1, by omega, by go_num, hv, hg.drew⟩
        case measure => simp [intOf]; omega
      · obtain ⟨pd, y, hpe, hy, y0, y1⟩ := (h.grew hg).lb (show k < n by omega)
        injection hpe with hpe
        subst hpe
        have hpl : prevL ls (k + 1) = some y.1 := by
          unfold prevL
          rw [if_neg (by omega), Nat.add_sub_cancel, hy]
          rfl
        rw [hpl] at hv
        have hleq := leqT x.1 y.1
        rw [show upB x.1 (some y.1) = decide (x.1.data.toList ≤ y.1.data.toList) from rfl] at hv
        generalize decide (x.1.data.toList ≤ y.1.data.toList) = b at *
        clear hx hy hpl
        cases b
        · rw [if_neg (by simp)] at hv
          replace hv := Lib.hid hv
          go_wp2_with fail
          refine wp_region_text [(9, 2), (3, 1)] (by kernel_rfl) (by kernel_rfl) ?_
          simp only [instr, chk, look, Nat.reduceBEq, if_true, if_false, Nat.reduceEqDiff, List.cons_append, List.nil_append]
          go_wp2_with fail
          refine OnlyN.normal ?_
          go_wp2
          go_roundw
          case rel => exact ⟨k + 1 + 1, by omega, by go_num, hv, hg.drew⟩
          case measure => simp [intOf]; omega
        · rw [if_pos rfl] at hv
          replace hv := Lib.hid hv
          go_wp2_with fail
          refine wp_region_text [(9, 2), (3, 1)] (by kernel_rfl) (by kernel_rfl) ?_
          simp only [instr, chk, look, Nat.reduceBEq, if_true, if_false, Nat.reduceEqDiff, List.cons_append, List.nil_append]
          go_wp2_with fail
          refine OnlyN.normal ?_
          go_wp2
          go_ret
          exact ⟨by rw [hv.out]; simp, hg.drew⟩
    · obtain rfl : k = n := by omega
      have hv := hc.out
      rw [List.drop_of_length_le (by omega), chkG] at hv
      replace hv := Lib.hid hv
      clear hc
      go_wp2
      go_ret
      exact ⟨by rw [hv.out]; simp, hg⟩
end Go.Proofs.YtlcaaacbookopaaGreatDoor
