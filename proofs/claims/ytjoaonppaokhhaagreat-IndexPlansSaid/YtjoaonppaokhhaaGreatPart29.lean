/-
  Several texts in one:
  Package codec and its reference: numbers, signed ones and texts read: what each call answers. Conditions: lengths that memory bears.
  Bytes made a text: what the conversion yields. Conditions: none; no program in sight.
-/
import Derived.Test.YtjoaonppaokhhaaGreatPart28
import Derived.Test.YtjoaonppaokhhaaGreatPart1
import Derived.Laws.BytesString

namespace Go.Proofs.YtjoaonppaokhhaaGreat
open Go.RowKit

/-- what a reading of a number ends in -/
def uintEnd (r : Nat × Nat × Nat) : Ending := .returned (.tuple #[.int .u64 (r.1 : Int), .int .i64 (r.2.1 : Int), .int .i64 (r.2.2 : Int)])
def UintPost (w : World) (r : Nat × Nat × Nat) (e : Ending) (w' : World) : Prop := e = uintEnd r ∧ w' = w

theorem or_walk (a x k : Nat) (ha : a < 9223372036854775808) (ha2 : a < 2 ^ (7 * k)) (hk : k ≤ 9) (hx : x < 256) (h9 : k = 9 → x ≤ 1) :
    bits .or .u64 (a : Int) (IntKind.u64.wrap (IntKind.u64.wrap (bits .and .u8 (x : Int) 127) * 2 ^ (7 * k))) = ((a + x % 128 * 2 ^ (7 * k) : Nat) : Int) := by
  have h1 := u8_and_nat x 127 hx (by omega)
  rw [show ((127 : Nat) : Int) = 127 from rfl, nat_mask7] at h1
  have hb : x % 128 * 2 ^ (7 * k) < 18446744073709551616 := by
    by_cases h : k = 9
    · subst h
      have := h9 rfl
      rw [show 2 ^ (7 * 9) = 9223372036854775808 from rfl]
      omega
    · have hp : 2 ^ (7 * k) ≤ 2 ^ 56 := Nat.pow_le_pow_right (by omega) (by omega)
      have : x % 128 * 2 ^ (7 * k) ≤ 127 * 2 ^ 56 := Nat.mul_le_mul (by omega) hp
      omega
  have e1 : IntKind.u64.wrap ((x % 128 : Nat) : Int) = ((x % 128 : Nat) : Int) := by simp only [IntKind.wrap_u64]; omega
  have e2 : (((x % 128 : Nat) : Int) * 2 ^ (7 * k)) = ((x % 128 * 2 ^ (7 * k) : Nat) : Int) := by simp
  have e3 : IntKind.u64.wrap ((x % 128 * 2 ^ (7 * k) : Nat) : Int) = ((x % 128 * 2 ^ (7 * k) : Nat) : Int) := by simp only [IntKind.wrap_u64]; omega
  rw [h1, e1, e2, e3, u64_or_nat _ _ (by omega) hb, Nat.or_comm, nat_join (7 * k) _ _ (Nat.mul_mod_left _ _) ha2]
  congr 1
  omega

set_option maxRecDepth 100000 in
set_option maxHeartbeats 2000000 in
theorem uint_any (A : Option Addr) (m c : Nat) (l : List UInt8) (at_ : Int) (w : World) (h : RB w A m l) (hm : m ≤ 140737488355328) :
    Calls Tryz.prog 98 #[.slice A m c, .int .i64 at_] w (UintPost w (uintR l at_)) := by
  have hll := h.1
  by_cases h0 : at_ < 0
  · have hd : decide (at_ < 0) = true := by simpa using h0
    have hr : uintR l at_ = (0, 0, 20) := by unfold uintR; rw [if_neg (by omega)]
    rw [hr]
    clear hr
    go_enter Tryz.func98, Tryz.ntmps98
    go_wp2
    go_ret3
    exact ⟨by simp [uintEnd], rfl⟩
  · have hd : decide (at_ < 0) = false := by simpa using h0
    obtain ⟨t, rfl⟩ := Int.eq_ofNat_of_zero_le (by omega : 0 ≤ at_)
    by_cases h1 : m < t
    · have hr : uintR l t = (0, 0, 20) := by unfold uintR; rw [if_neg (by omega)]
      rw [hr]
      clear hr
      go_enter Tryz.func98, Tryz.ntmps98
      go_wp2
      go_ret3
      exact ⟨by simp [uintEnd], rfl⟩
    · have ht : t ≤ m := by omega
      have hr : uintR l t = (if (ur (l.drop t) 0 0).2.2 = 0 then ((ur (l.drop t) 0 0).1, t + (ur (l.drop t) 0 0).2.1, 0) else (0, 0, (ur (l.drop t) 0 0).2.2)) := by
        unfold uintR
        rw [if_pos (by omega)]
        simp
      have Hr := Lib.hid hr
      clear hr hll
      go_enter Tryz.func98, Tryz.ntmps98
      go_wp2
      go_loop [7, 8] (fun sv sk => ∃ (a k : Nat), sv = .int .u64 (a : Int) ∧ sk = .int .i64 (k : Int) ∧ k ≤ 9 ∧ t + k ≤ m ∧ a < 2 ^ (7 * k) ∧ Hid (ur (l.drop t) 0 0 = ur (l.drop (t + k)) k a)) (fun _ sk => m - (intOf sk).toNat)
      case atStart => exact ⟨0, 0, rfl, rfl, by omega, by omega, by simp, rfl⟩
      case round =>
        obtain ⟨a, k, rfl, rfl, hk9, htk, ha, Hu⟩ := hrel
        have ha2 : a < 9223372036854775808 := by
          have : 2 ^ (7 * k) ≤ 2 ^ 63 := Nat.pow_le_pow_right (by omega) (by omega)
          omega
        have Ha := Lib.hid ha
        clear ha
        by_cases hlt : t + k < m
        · obtain ⟨ad, x, rfl, hx, hc⟩ := h.at_ (k := t + k) hlt
          have hx8 := x.toNat_lt
          have hdr : l.drop (t + k) = x :: l.drop (t + k + 1) := by
            have h3 := List.getElem?_eq_some_iff.1 hx
            rw [← h3.2, List.getElem_cons_drop]
          have hur : Hid (ur (l.drop (t + k)) k a = if (k = 9 ∧ 1 < x.toNat) ∨ (0 < k ∧ x.toNat = 0) then (0, 0, 21) else if x.toNat < 128 then (a + x.toNat * 2 ^ (7 * k), k + 1, 0) else ur (l.drop (t + k + 1)) (k + 1) (a + x.toNat % 128 * 2 ^ (7 * k))) := by
            show _ = _
            rw [hdr]
            rfl
          clear hx hdr
          by_cases he : (k = 9 ∧ 1 < x.toNat) ∨ (0 < k ∧ x.toNat = 0)
          · have hres : Hid (uintR l t = (0, 0, 21)) := by
              show _ = _
              rw [Hr.out, Hu.out, hur.out, if_pos he]
              rfl
            clear Hr Hu hur Ha
            rcases he with ⟨h4, h5⟩ | ⟨h5, h6⟩
            · have h7 : ((k : Int) == 9) = true := by simp; omega
              clear h4
              go_wp2
              go_ret3
              rw [hres.out]
              exact ⟨by simp [uintEnd], rfl⟩
            · have h7 : ((x.toNat : Int) == 0) = true := by simpa using h6
              have h8 : (x.toNat : Int) ≤ 1 := by omega
              clear h6
              by_cases hk : k = 9
              · have h9 : ((k : Int) == 9) = true := by simp; omega
                clear hk
                go_wp2
                go_ret3
                rw [hres.out]
                exact ⟨by simp [uintEnd], rfl⟩
              · have hk' : ((k : Int) == 9) = false := by simp; omega
                go_wp2
                go_ret3
                rw [hres.out]
                exact ⟨by simp [uintEnd], rfl⟩
          · have hur2 := hur.out
            rw [if_neg he] at hur2
            have Hur := Lib.hid hur2
            clear hur hur2
            have hwalk := or_walk a x.toNat k ha2 Ha.out hk9 hx8 (by omega)
            have hg1 : k = 9 → x.toNat = 1 := by omega
            have hg2 : 0 < k → x.toNat ≠ 0 := by omega
            clear he
            by_cases hb : x.toNat < 128
            · have hres : Hid (uintR l t = (a + x.toNat * 2 ^ (7 * k), t + (k + 1), 0)) := by
                show _ = _
                rw [Hr.out, Hu.out, Hur.out, if_pos hb]
                rfl
              rw [Nat.mod_eq_of_lt hb] at hwalk
              have Hw := Lib.hid hwalk
              clear Hr Hu Hur Ha hwalk
              have hfin : ∀ q : Int, q = (t : Int) + k + 1 → Ending.returned (.tuple #[.int .u64 (bits .or .u64 (a : Int) (IntKind.u64.wrap (IntKind.u64.wrap (bits .and .u8 (x.toNat : Int) 127) * 2 ^ (7 * k)))), .int .i64 q, .int .i64 0]) = uintEnd (uintR l t) := by
                rintro q rfl
                rw [Hw.out, hres.out]
                unfold uintEnd
                simp
                omega
              have Hfin := Lib.hid hfin
              clear hfin hres Hw
              by_cases hk : k = 9
              · have hx1 := hg1 hk
                have h9 : ((k : Int) == 9) = true := by simp; omega
                have hk0 : 0 < k := by omega
                clear hk
                have hx2 : (x.toNat : Int) ≤ 1 := by omega
                have hx3 : ((x.toNat : Int) == 0) = false := by simp; omega
                clear hg1 hg2 hx1
                go_wp2
                go_ret3
                exact ⟨Hfin.out _ (by omega), rfl⟩
              · have hk' : ((k : Int) == 9) = false := by simp; omega
                by_cases hk0 : k = 0
                · have hk1 : ¬ 0 < k := by omega
                  clear hg1 hg2 hk hk0
                  go_wp2
                  go_ret3
                  exact ⟨Hfin.out _ (by omega), rfl⟩
                · have hx4 := hg2 (by omega)
                  have hx3 : ((x.toNat : Int) == 0) = false := by simp; omega
                  have hk1 : 0 < k := by omega
                  clear hg1 hg2 hx4 hk hk0
                  go_wp2
                  go_ret3
                  exact ⟨Hfin.out _ (by omega), rfl⟩
            · have hk : k ≠ 9 := by rintro rfl; have := hg1 rfl; omega
              have hk' : ((k : Int) == 9) = false := by simp; omega
              have hx3 : ((x.toNat : Int) == 0) = false := by simp; omega
              have hk8 : k ≤ 8 := by omega
              have Hw := Lib.hid hwalk
              have hu2 : Hid (ur (l.drop t) 0 0 = ur (l.drop (t + (k + 1))) (k + 1) (a + x.toNat % 128 * 2 ^ (7 * k))) := by
                show _ = _
                rw [Hu.out, Hur.out, if_neg hb]
                rfl
              have hnew : Hid (a + x.toNat % 128 * 2 ^ (7 * k) < 2 ^ (7 * (k + 1))) := by
                show _ < _
                have := Ha.out
                have e1 : 2 ^ (7 * (k + 1)) = 128 * 2 ^ (7 * k) := by rw [show 7 * (k + 1) = 7 + 7 * k from by omega, Nat.pow_add]
                have e2 : x.toNat % 128 * 2 ^ (7 * k) ≤ 127 * 2 ^ (7 * k) := Nat.mul_le_mul_right _ (by omega)
                rw [e1]
                omega
              clear hg1 hg2 hwalk Hu Hur Hr Ha hk
              have hfin : ∃ a' k' : Nat, Value.int IntKind.u64 (bits .or .u64 (a : Int) (IntKind.u64.wrap (IntKind.u64.wrap (bits .and .u8 (x.toNat : Int) 127) * 2 ^ (7 * k)))) = .int .u64 (a' : Int) ∧ Value.int .i64 ((k : Int) + 1) = .int .i64 (k' : Int) ∧ k' ≤ 9 ∧ t + k' ≤ m ∧ a' < 2 ^ (7 * k') ∧ Hid (ur (l.drop t) 0 0 = ur (l.drop (t + k')) k' a') :=
                ⟨_, k + 1, by rw [Hw.out], by simp, by omega, by omega, hnew.out, hu2⟩
              have Hfin := Lib.hid hfin
              clear hfin Hw hnew hu2
              go_wp2
              all_goals exact ⟨Hfin.out, by simp [intOf]; omega⟩
        · have hkm : t + k = m := by omega
          have hres : Hid (uintR l t = (0, 0, 20)) := by
            show _ = _
            rw [Hr.out, Hu.out, List.drop_of_length_le (by have := h.1; omega)]
            rfl
          clear Hr Hu Ha hkm
          go_wp2
          go_ret3
          rw [hres.out]
          exact ⟨by simp [uintEnd], rfl⟩

set_option maxRecDepth 100000 in
set_option maxHeartbeats 2000000 in
theorem refUint_any (A : Option Addr) (m c : Nat) (l : List UInt8) (at_ : Int) (w : World) (h : RB w A m l) (hm : m ≤ 140737488355328) :
    Calls Tryz.prog 90 #[.slice A m c, .int .i64 at_] w (UintPost w (uintR l at_)) := by
  have hll := h.1
  by_cases h0 : at_ < 0
  · have hd : decide (at_ < 0) = true := by simpa using h0
    have hr : uintR l at_ = (0, 0, 20) := by unfold uintR; rw [if_neg (by omega)]
    rw [hr]
    clear hr
    go_enter Tryz.func90, Tryz.ntmps90
    go_wp2
    go_ret3
    exact ⟨by simp [uintEnd], rfl⟩
  · have hd : decide (at_ < 0) = false := by simpa using h0
    obtain ⟨t, rfl⟩ := Int.eq_ofNat_of_zero_le (by omega : 0 ≤ at_)
    by_cases h1 : m < t
    · have hr : uintR l t = (0, 0, 20) := by unfold uintR; rw [if_neg (by omega)]
      rw [hr]
      clear hr
      go_enter Tryz.func90, Tryz.ntmps90
      go_wp2
      go_ret3
      exact ⟨by simp [uintEnd], rfl⟩
    · have ht : t ≤ m := by omega
      have hr : uintR l t = (if (ur (l.drop t) 0 0).2.2 = 0 then ((ur (l.drop t) 0 0).1, t + (ur (l.drop t) 0 0).2.1, 0) else (0, 0, (ur (l.drop t) 0 0).2.2)) := by
        unfold uintR
        rw [if_pos (by omega)]
        simp
      have Hr := Lib.hid hr
      clear hr hll
      go_enter Tryz.func90, Tryz.ntmps90
      go_wp2
      go_loop [7, 8] (fun sv sk => ∃ (a k : Nat), sv = .int .u64 (a : Int) ∧ sk = .int .i64 (k : Int) ∧ k ≤ 9 ∧ t + k ≤ m ∧ a < 2 ^ (7 * k) ∧ Hid (ur (l.drop t) 0 0 = ur (l.drop (t + k)) k a)) (fun _ sk => m - (intOf sk).toNat)
      case atStart => exact ⟨0, 0, rfl, rfl, by omega, by omega, by simp, rfl⟩
      case round =>
        obtain ⟨a, k, rfl, rfl, hk9, htk, ha, Hu⟩ := hrel
        have ha2 : a < 9223372036854775808 := by
          have : 2 ^ (7 * k) ≤ 2 ^ 63 := Nat.pow_le_pow_right (by omega) (by omega)
          omega
        have Ha := Lib.hid ha
        clear ha
        by_cases hlt : t + k < m
        · obtain ⟨ad, x, rfl, hx, hc⟩ := h.at_ (k := t + k) hlt
          have hx8 := x.toNat_lt
          have hdr : l.drop (t + k) = x :: l.drop (t + k + 1) := by
            have h3 := List.getElem?_eq_some_iff.1 hx
            rw [← h3.2, List.getElem_cons_drop]
          have hur : Hid (ur (l.drop (t + k)) k a = if (k = 9 ∧ 1 < x.toNat) ∨ (0 < k ∧ x.toNat = 0) then (0, 0, 21) else if x.toNat < 128 then (a + x.toNat * 2 ^ (7 * k), k + 1, 0) else ur (l.drop (t + k + 1)) (k + 1) (a + x.toNat % 128 * 2 ^ (7 * k))) := by
            show _ = _
            rw [hdr]
            rfl
          clear hx hdr
          by_cases he : (k = 9 ∧ 1 < x.toNat) ∨ (0 < k ∧ x.toNat = 0)
          · have hres : Hid (uintR l t = (0, 0, 21)) := by
              show _ = _
              rw [Hr.out, Hu.out, hur.out, if_pos he]
              rfl
            clear Hr Hu hur Ha
            rcases he with ⟨h4, h5⟩ | ⟨h5, h6⟩
            · have h7 : ((k : Int) == 9) = true := by simp; omega
              clear h4
              go_wp2
              go_ret3
              rw [hres.out]
              exact ⟨by simp [uintEnd], rfl⟩
            · have h7 : ((x.toNat : Int) == 0) = true := by simpa using h6
              have h8 : (x.toNat : Int) ≤ 1 := by omega
              clear h6
              by_cases hk : k = 9
              · have h9 : ((k : Int) == 9) = true := by simp; omega
                clear hk
                go_wp2
                go_ret3
                rw [hres.out]
                exact ⟨by simp [uintEnd], rfl⟩
              · have hk' : ((k : Int) == 9) = false := by simp; omega
                go_wp2
                go_ret3
                rw [hres.out]
                exact ⟨by simp [uintEnd], rfl⟩
          · have hur2 := hur.out
            rw [if_neg he] at hur2
            have Hur := Lib.hid hur2
            clear hur hur2
            have hwalk := or_walk a x.toNat k ha2 Ha.out hk9 hx8 (by omega)
            have hg1 : k = 9 → x.toNat = 1 := by omega
            have hg2 : 0 < k → x.toNat ≠ 0 := by omega
            clear he
            by_cases hb : x.toNat < 128
            · have hres : Hid (uintR l t = (a + x.toNat * 2 ^ (7 * k), t + (k + 1), 0)) := by
                show _ = _
                rw [Hr.out, Hu.out, Hur.out, if_pos hb]
                rfl
              rw [Nat.mod_eq_of_lt hb] at hwalk
              have Hw := Lib.hid hwalk
              clear Hr Hu Hur Ha hwalk
              have hfin : ∀ q : Int, q = (t : Int) + k + 1 → Ending.returned (.tuple #[.int .u64 (bits .or .u64 (a : Int) (IntKind.u64.wrap (IntKind.u64.wrap (bits .and .u8 (x.toNat : Int) 127) * 2 ^ (7 * k)))), .int .i64 q, .int .i64 0]) = uintEnd (uintR l t) := by
                rintro q rfl
                rw [Hw.out, hres.out]
                unfold uintEnd
                simp
                omega
              have Hfin := Lib.hid hfin
              clear hfin hres Hw
              by_cases hk : k = 9
              · have hx1 := hg1 hk
                have h9 : ((k : Int) == 9) = true := by simp; omega
                have hk0 : 0 < k := by omega
                clear hk
                have hx2 : (x.toNat : Int) ≤ 1 := by omega
                have hx3 : ((x.toNat : Int) == 0) = false := by simp; omega
                clear hg1 hg2 hx1
                go_wp2
                go_ret3
                exact ⟨Hfin.out _ (by omega), rfl⟩
              · have hk' : ((k : Int) == 9) = false := by simp; omega
                by_cases hk0 : k = 0
                · have hk1 : ¬ 0 < k := by omega
                  clear hg1 hg2 hk hk0
                  go_wp2
                  go_ret3
                  exact ⟨Hfin.out _ (by omega), rfl⟩
                · have hx4 := hg2 (by omega)
                  have hx3 : ((x.toNat : Int) == 0) = false := by simp; omega
                  have hk1 : 0 < k := by omega
                  clear hg1 hg2 hx4 hk hk0
                  go_wp2
                  go_ret3
                  exact ⟨Hfin.out _ (by omega), rfl⟩
            · have hk : k ≠ 9 := by rintro rfl; have := hg1 rfl; omega
              have hk' : ((k : Int) == 9) = false := by simp; omega
              have hx3 : ((x.toNat : Int) == 0) = false := by simp; omega
              have hk8 : k ≤ 8 := by omega
              have Hw := Lib.hid hwalk
              have hu2 : Hid (ur (l.drop t) 0 0 = ur (l.drop (t + (k + 1))) (k + 1) (a + x.toNat % 128 * 2 ^ (7 * k))) := by
                show _ = _
                rw [Hu.out, Hur.out, if_neg hb]
                rfl
              have hnew : Hid (a + x.toNat % 128 * 2 ^ (7 * k) < 2 ^ (7 * (k + 1))) := by
                show _ < _
                have := Ha.out
                have e1 : 2 ^ (7 * (k + 1)) = 128 * 2 ^ (7 * k) := by rw [show 7 * (k + 1) = 7 + 7 * k from by omega, Nat.pow_add]
                have e2 : x.toNat % 128 * 2 ^ (7 * k) ≤ 127 * 2 ^ (7 * k) := Nat.mul_le_mul_right _ (by omega)
                rw [e1]
                omega
              clear hg1 hg2 hwalk Hu Hur Hr Ha hk
              have hfin : ∃ a' k' : Nat, Value.int IntKind.u64 (bits .or .u64 (a : Int) (IntKind.u64.wrap (IntKind.u64.wrap (bits .and .u8 (x.toNat : Int) 127) * 2 ^ (7 * k)))) = .int .u64 (a' : Int) ∧ Value.int .i64 ((k : Int) + 1) = .int .i64 (k' : Int) ∧ k' ≤ 9 ∧ t + k' ≤ m ∧ a' < 2 ^ (7 * k') ∧ Hid (ur (l.drop t) 0 0 = ur (l.drop (t + k')) k' a') :=
                ⟨_, k + 1, by rw [Hw.out], by simp, by omega, by omega, hnew.out, hu2⟩
              have Hfin := Lib.hid hfin
              clear hfin Hw hnew hu2
              go_wp2
              all_goals exact ⟨Hfin.out, by simp [intOf]; omega⟩
        · have hkm : t + k = m := by omega
          have hres : Hid (uintR l t = (0, 0, 20)) := by
            show _ = _
            rw [Hr.out, Hu.out, List.drop_of_length_le (by have := h.1; omega)]
            rfl
          clear Hr Hu Ha hkm
          go_wp2
          go_ret3
          rw [hres.out]
          exact ⟨by simp [uintEnd], rfl⟩
end Go.Proofs.YtjoaonppaokhhaaGreat

namespace Go.Proofs.YtjoaonppaokhhaaGreat
open Go.RowKit

theorem byte_back {v : Nat} (h : v < 256) : (UInt8.ofNat v).toNat = v := by rw [UInt8.toNat_ofNat']; exact Nat.mod_eq_of_lt h
theorem foldl_push (l : List UInt8) : ∀ s : ByteArray, (l.map fun c => (c.toNat : Int)).foldl (fun r n => r.push (UInt8.ofNat n.toNat)) s = ⟨s.data ++ l.toArray⟩ := by
  induction l with
  | nil => intro s; simp
  | cons c l ih =>
    intro s
    rw [List.map_cons, List.foldl_cons, ih]
    congr 1
    have : UInt8.ofNat ((c.toNat : Int)).toNat = c := UInt8.toNat_inj.1 (by rw [Int.toNat_natCast, byte_back c.toNat_lt])
    rw [this]
    simp [ByteArray.push]
theorem run_conv_RB {P : Program} {w : World} {src dst e : TypeId} (hs : P.underlying src = some (.slice e)) (he : P.underlying e = some (.int .u8)) (hd : P.underlying dst = some .string)
    {A : Option Addr} {n c : Nat} {l : List UInt8} (h : RB w A n l) : (convert src dst (.slice A n c)).run P w = .ok (.string ⟨l.toArray⟩) w := by
  rw [run_convert_bytes_string w src dst e A n c hs he hd]
  have hf := firstCells_rd (P := P) w 1 n c A (l.map byt) (by simpa using h.1) h.2
  rcases A with _ | ad
  · have hl : l = [] := by
      rcases l with _ | ⟨x, r⟩
      · rfl
      · obtain ⟨ad, e, _⟩ := h.2 0 (byt x) rfl
        cases e
    subst hl
    rfl
  · simp only [Builtin.firstCells, Nat.mul_one] at hf
    have := run_bytesToString (P := P) w ad n c (l.map fun c => (c.toNat : Int)) (by rw [hf]; simp [byt])
    rw [this, foldl_push]
    simp

end Go.Proofs.YtjoaonppaokhhaaGreat
