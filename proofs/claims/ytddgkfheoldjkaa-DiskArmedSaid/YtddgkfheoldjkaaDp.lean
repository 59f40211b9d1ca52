/-
  The law DiskArmed, walked. Conditions: none.
-/
import Derived.Test.YtddgkfheoldjkaaDk
import Derived.Test.YtddgkfheoldjkaaLo
import Derived.OpenShut
namespace Go.Proofs.Ytddgkfheoldjkaa
open Go.RowKit

/-- an armed disk behind j writes of one byte -/
def ArmAt (base d mm n : Nat) (kp : Int) (j : Nat) (w : World) : Prop :=
  (j = 0 ∧ Dsk (fun k => base ≤ k) w d mm #[] 0 true true (n : Int) kp 0) ∨
  (0 < j ∧ ∃ g A c l, Dsk (fun k => base ≤ k) w d mm #[entF ⟨#[102]⟩ g 0] 1 true true ((n : Int) - (j : Int)) kp j ∧ Fil (fun k => base ≤ k) w g A c l 0 ∧ l.length = j)

set_option maxHeartbeats 1000000 in
theorem arm_step {base d mm n : Nat} {kp : Int} {j : Nat} {w : World} (h : Hid (ArmAt base d mm n kp j w)) (hj : j < n) (hn : n ≤ 20) (hO : base ≤ w.heap.size) (A : Option Addr) (cap : Nat) (l : List UInt8) (hr : RB w A 1 l) (hA : ∀ ad, A = some ad → ad.block ≠ d) :
    Calls Try.prog 8 #[.pointer (some ⟨d, 0, none⟩), .string ⟨#[102]⟩, .slice A 1 cap] w fun e w' => e = .returned (.int .i64 0) ∧ Hid (ArmAt base d mm n kp (j + 1) w') ∧ ∃ S, Chg S w w' ∧ ∀ k, S k → base ≤ k := by
  rcases h.out with ⟨rfl, hD⟩ | ⟨h0, g, A0, c0, l0, hD, hF, hl0⟩
  · refine (append_new (O := fun k => base ≤ k) (fun k hk => by omega) hD (by intro _; omega) (by omega) (by omega) 102 (.inr (.inr (.inr (.inl rfl)))) (find_none _) (by simp) A 1 cap l hr (by omega) (fun ad e _ => hA ad e)).mono ?_
    rintro e w3 ⟨rfl, g, A3, c3, hD3, hF3, hc3, _, _⟩
    exact ⟨rfl, .inr ⟨by omega, g, A3, c3, l, hD3, hF3, hr.1⟩, _, hc3, fun k hk => by
      have hk : k = d ∨ k = mm := hk
      have h1 : base ≤ d := hD.od
      have h2 : base ≤ mm := hD.om
      omega⟩
  · refine (append_old (O := fun k => base ≤ k) (fun k hk => by omega) hD (by intro _; omega) (by omega) (by omega) 102 (.inr (.inr (.inr (.inl rfl)))) (find_here _ _ _) hF A 1 cap l hr (by omega) (fun ad e _ => hA ad e)).mono ?_
    rintro e w3 ⟨rfl, A3, c3, hD3, hF3, hc3⟩
    have e1 : (n : Int) - (j : Int) - 1 = (n : Int) - ((j + 1 : Nat) : Int) := by omega
    rw [e1] at hD3
    exact ⟨rfl, .inr ⟨by omega, g, A3, c3, l0 ++ l, hD3, hF3, by rw [List.length_append, hl0, hr.1]⟩, _, hc3, fun k hk => by
      have h1 : base ≤ d := hD.od
      have h2 : base ≤ g := hF.og
      rcases hk with hk | hk | ⟨ad, e, hk⟩
      · omega
      · omega
      · have : base ≤ ad.block := hF.oA ad e
        omega⟩
theorem arm_up {base d mm n : Nat} {kp : Int} {j : Nat} {w : World} (h : Hid (ArmAt base d mm n kp j w)) : Calls Try.prog 17 #[.pointer (some ⟨d, 0, none⟩)] w fun e w' => e = .returned (.bool true) ∧ w = w' := by
  rcases h.out with ⟨rfl, hD⟩ | ⟨h0, g, A0, c0, l0, hD, hF, hl0⟩
  · exact up_any hD
  · exact up_any hD
theorem arm_alloc {base d mm n : Nat} {kp : Int} {j : Nat} {w : World} (h : Hid (ArmAt base d mm n kp j w)) (o : Obj) : Hid (ArmAt base d mm n kp j (w.alloc o)) := by
  rcases h.out with ⟨rfl, hD⟩ | ⟨h0, g, A0, c0, l0, hD, hF, hl0⟩
  · exact .inl ⟨rfl, hD.grew ((Chg.refl _ w).alloc _)⟩
  · exact .inr ⟨h0, g, A0, c0, l0, hD.grew ((Chg.refl _ w).alloc _), hF.grew ((Chg.refl _ w).alloc _), hl0⟩
theorem arm_lt {base d mm n : Nat} {kp : Int} {j : Nat} {w : World} (h : Hid (ArmAt base d mm n kp j w)) : d < w.heap.size := by
  rcases h.out with ⟨rfl, hD⟩ | ⟨h0, g, A0, c0, l0, hD, hF, hl0⟩
  · exact hD.hd.lt
  · exact hD.hd.lt

theorem find_other {x y : ByteArray} (hxy : x ≠ y) (g born : Nat) : Instr.findNow .string (.string y) (#[entF x g born] : Array MapEntry).toList 0 = some none := by
  have : (y == x) = false := by
    cases h : (y == x) with
    | false => rfl
    | true => exact absurd ((MapKept.bytes_beq y x).1 h).symm hxy
  simp [Instr.findNow, Instr.sameNow, entF, this]
theorem find_fg (g : Nat) : Instr.findNow .string (.string ⟨#[103]⟩) (#[entF ⟨#[102]⟩ g 0] : Array MapEntry).toList 0 = some none := find_other (by intro h; injection h with h; simp at h) g 0

set_option maxRecDepth 100000 in
set_option maxHeartbeats 8000000 in
theorem walk_diskArmed (z kp : Int) (w : World) (_ : (Lit.int .i64 z).wf = true) (hkp : (Lit.int .i64 kp).wf = true) :
    Calls Try.prog 4 #[.int .i64 z, .int .i64 kp] w fun e w' => e = .returned (.bool true) ∧ Grew w w' := by
  have hkb := Go.bounds_i64 hkp
  clear hkp
  go_enter Try.func4, Try.ntmps4
  go_wp2_with fail
  refine (new_any w).mono ?_
  rintro e w1 ⟨d, mm, rfl, hD, hg⟩
  go_wp2_with fail
  refine (low_any _ _).mono ?_
  rintro e w2 ⟨r, hr, rfl, rfl⟩
  obtain ⟨k20, hk⟩ : ∃ k20, k20 = r % 20 := ⟨_, rfl⟩
  have hkl : k20 < 20 := by rw [hk]; exact Nat.mod_lt _ (by omega)
  have hkz : (r : Int) % 20 = (k20 : Int) := by rw [hk]; simp
  clear hk
  obtain ⟨n, hnz, hn1, hn20⟩ : ∃ n : Nat, (1 : Int) + (k20 : Int) = (n : Int) ∧ 1 ≤ n ∧ n ≤ 20 := ⟨1 + k20, by omega, by omega, by omega⟩
  go_wp2_with fail
  refine (arm_any hD n kp).mono ?_
  rintro e w2 ⟨rfl, hD2, hc2⟩
  have hG2 : Grew w w2 := grow1 hg hc2 hD.od
  have Ha : Hid (ArmAt w.heap.size d mm n kp 0 w2) := .inl ⟨rfl, hD2⟩
  clear hD hg hc2 hD2 hkl
  go_wp2
  go_loopw [7] (fun si wr => ∃ j : Nat, si = .int .i64 (j : Int) ∧ j ≤ n ∧ Grew w wr ∧ Hid (ArmAt w.heap.size d mm n kp j wr)) (fun si _ => n - (intOf si).toNat)
  case atStart => exact ⟨0, rfl, by omega, hG2, Ha⟩
  case round =>
    clear Ha hG2
    obtain ⟨j, rfl, hj, hG, Ha⟩ := hrel
    by_cases hlt : j < n
    · have hdl := arm_lt Ha
      have hgs := hG.size
      go_wp2_with fail
      refine (arm_step (arm_alloc Ha _) hlt hn20 (by simp; omega) _ 1 [UInt8.ofNat j] (RB.newAt rfl rfl (by simp [byt]; omega)) (fun ad e => by injection e with e; subst e; show wr.heap.size ≠ d; omega)).mono ?_
      rintro e w3 ⟨rfl, Ha3, S, hc3, hS⟩
      have hG3 : Grew w w3 := grow_of (hG.alloc _) hc3 hS
      clear Ha hG hc3 hS hdl hgs
      go_wp2_with fail
      refine (arm_up Ha3).mono ?_
      rintro e w4 ⟨rfl, rfl⟩
      go_wp2
      go_roundw
      case rel => exact ⟨j + 1, by go_num, by omega, hG3, Ha3⟩
      case measure => simp [intOf]; omega
    · obtain rfl : j = n := by omega
      obtain ⟨g, A0, c0, l0, hD0, hF0, hl0⟩ : ∃ g A c l, Dsk (fun k => w.heap.size ≤ k) wr d mm #[entF ⟨#[102]⟩ g 0] 1 true true 0 kp j ∧ Fil (fun k => w.heap.size ≤ k) wr g A c l 0 ∧ l.length = j := by
        rcases Ha.out with ⟨e, _⟩ | ⟨_, g, A, c, l, h1, h2, h3⟩
        · omega
        · rw [Int.sub_self] at h1
          exact ⟨g, A, c, l, h1, h2, h3⟩
      clear Ha hlt hj
      go_wp2_with fail
      refine (sync_cut hD0 (by omega) (by omega) (by omega) (.inr (.inr (.inr (.inl rfl)))) hF0 (by omega) (by omega)).mono ?_
      rintro e w3 ⟨rfl, A3, c3, hD3, hF3, hc3⟩
      have hG3 : Grew w w3 := grow3 hG hc3 hD0.od hF0.og hF0.oA
      clear hG hD0 hF0 hc3 hl0
      go_wp2_with fail
      refine (up_any hD3).mono ?_
      rintro e w4 ⟨rfl, rfl⟩
      go_wp2_with fail
      refine (append_off hD3 _ _ _ _).mono ?_
      rintro e w4 ⟨rfl, hg4⟩
      have hD4 := hD3.grew hg4
      have hG4 := hG3.trans hg4
      clear hD3 hF3 hg4 hG3
      go_wp2_with fail
      refine (writes_any hD4).mono ?_
      rintro e w5 ⟨rfl, rfl⟩
      go_wp2_with fail
      refine (on_any hD4).mono ?_
      rintro e w5 ⟨rfl, hD5, hc5⟩
      have hG5 : Grew w w5 := grow1 hG4 hc5 hD4.od
      clear hD4 hG4 hc5
      have hdl := hD5.hd.lt
      have hgs := hG5.size
      go_wp2_with fail
      refine (append_new (O := fun k => w.heap.size ≤ k) (fun k hk => by simp at hk; omega) (hD5.grew ((Chg.refl _ w5).alloc _)) (by simp) (by omega) (by omega) 103 (.inr (.inr (.inr (.inr rfl)))) (find_fg g) (by simp) _ 1 1 [1] (RB.newAt rfl rfl rfl) (by omega) (fun ad e _ => by injection e with e; subst e; show w5.heap.size ≠ d; omega)).mono ?_
      rintro e w6 ⟨rfl, g6, A6, c6, hD6, hF6, hc6, _, _⟩
      have hG6 : Grew w w6 := grow2 (hG5.alloc _) hc6 hD5.od hD5.om
      clear hD5 hG5 hc6 hF6
      go_wp2_with fail
      refine (up_any hD6).mono ?_
      rintro e w7 ⟨rfl, rfl⟩
      go_wp2_with fail
      refine (awake_any _).mono ?_
      rintro e w7 ⟨rfl, hg7⟩
      go_wp2
      go_ret
      exact ⟨by simp, hG6.trans hg7⟩
end Go.Proofs.Ytddgkfheoldjkaa
