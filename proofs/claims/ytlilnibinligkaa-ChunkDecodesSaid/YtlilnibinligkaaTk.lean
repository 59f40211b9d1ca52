/-
  Package bits: Left and Take of a cursor that stands at the head of any block: what each call does, told by lists of bits. Conditions: lengths that memory bears.
-/
import Derived.Test.YtlilnibinligkaaLa
import Derived.Test.YtlilnibinligkaaKx
import Derived.Test.YtlilnibinligkaaTs
namespace Go.Proofs.Ytlilnibinligkaa
open Go.RowKit

set_option maxHeartbeats 400000 in
theorem left_at (g : Nat) (t : TypeId) (cs : Array Value) (N a : Nat) (w : World) (hb : Blk w g t cs) (h1 : cs[1]? = some (.int .i64 (N : Int))) (h2 : cs[2]? = some (.int .i64 (a : Int))) (hN : N ≤ 9223372036854775807) (ha : a ≤ 9223372036854775807) :
    Calls Try.prog 45 #[.pointer (some ⟨g, 0, none⟩)] w fun e w' => e = .returned (.int .i64 ((N : Int) - a)) ∧ ∃ j, w' = w.drewN j := by
  have hc1 : w.cell? ⟨g, 1, none⟩ = some (.int .i64 (N : Int)) := by rw [hb.cell]; exact h1
  have hc2 : w.cell? ⟨g, 2, none⟩ = some (.int .i64 (a : Int)) := by rw [hb.cell]; exact h2
  have hz : IntKind.i64.wrap ((N : Int) - a) = (N : Int) - a := IntWalk.i64_in _ (by omega)
  clear h1 h2
  go_enter Try.func45, Try.ntmps45
  go_wp2
  go_quiet (fail)
  go_wp2
  go_ret
  exact ⟨by simp, nq, rfl⟩

theorem take_walk (v x s : Nat) (hv : v < 9223372036854775808) (hx : x < 256) :
    bits .or .u64 (IntKind.u64.wrap ((v : Int) * 2)) (IntKind.u64.wrap (bits .and .u8 ((x : Int) / 2 ^ s) 1)) = ((2 * v + x / 2 ^ s % 2 : Nat) : Int) := by
  have h0 : ((x : Int) / 2 ^ s) = ((x / 2 ^ s : Nat) : Int) := by simp
  have hle : x / 2 ^ s ≤ x := Nat.div_le_self _ _
  have h1 := u8_and_nat (x / 2 ^ s) 1 (by omega) (by omega)
  rw [show ((1 : Nat) : Int) = 1 from rfl] at h1
  rw [h0, h1, nat_mask1]
  generalize x / 2 ^ s = q
  have h2 : IntKind.u64.wrap ((v : Int) * 2) = ((2 * v : Nat) : Int) := by simp only [IntKind.wrap_u64]; omega
  have h3 : IntKind.u64.wrap (((q % 2 : Nat)) : Int) = ((q % 2 : Nat) : Int) := by simp only [IntKind.wrap_u64]; omega
  rw [h2, h3, u64_or_nat _ _ (by omega) (by omega), nat_join 1 (2 * v) (q % 2) (by simp) (by omega)]

/-- what a Take of k bits at place a of the bits bs leaves: the number and whether there are so many; the place in the block -/
def TkPost (w : World) (g : Nat) (t : TypeId) (cs : Array Value) (bs : List Bool) (a k : Nat) (e : Ending) (w' : World) : Prop :=
  e = .returned (.tuple #[.int .u64 ((tk bs k (a, false)).1 : Int), .bool (!(tk bs k (a, false)).2.2)]) ∧ Blk w' g t (cs.setIfInBounds 2 (.int .i64 ((tk bs k (a, false)).2.1 : Int))) ∧ Chg (fun x => x = g) w w'

theorem set_self {cs : Array Value} {i : Nat} {v : Value} (h : cs[i]? = some v) : cs.setIfInBounds i v = cs := by
  refine Array.ext_getElem? fun j => ?_
  rw [Array.getElem?_setIfInBounds]
  split
  · rename_i e
    subst e
    obtain ⟨hlt, _⟩ := Array.getElem?_eq_some_iff.1 h
    rw [if_pos hlt, h]
  · rfl

set_option maxRecDepth 100000 in
set_option maxHeartbeats 2000000 in
theorem take_at (g : Nat) (t : TypeId) (cs : Array Value) (A : Option Addr) (m c : Nat) (l : List UInt8) (a k : Nat) (w : World) (hb : Blk w g t cs) (h0 : cs[0]? = some (.slice A m c)) (h1 : cs[1]? = some (.int .i64 ((8 * m : Nat) : Int))) (h2 : cs[2]? = some (.int .i64 (a : Int)))
    (hr : RB w A m l) (hA : ∀ ad, A = some ad → 0 < m → ad.block ≠ g) (hk : k ≤ 64) (hm : m ≤ 140737488355328) (ha : a ≤ 8 * m) :
    Calls Try.prog 43 #[.pointer (some ⟨g, 0, none⟩), .int .i64 (k : Int)] w (TkPost w g t cs (bitsOf l (8 * m)) a k) := by
  have hlen : (bitsOf l (8 * m)).length = 8 * m := by simp [bitsOf]
  by_cases hle : a + k ≤ 8 * m
  · have htk : tk (bitsOf l (8 * m)) k (a, false) = (val (((bitsOf l (8 * m)).drop a).take k), a + k, false) := by unfold tk; rw [if_pos (by rw [hlen]; exact hle)]
    unfold TkPost
    rw [htk]
    obtain ⟨N, hN⟩ : ∃ N, N = 8 * m := ⟨_, rfl⟩
    have hN2 : N ≤ 8 * m := by omega
    rw [← hN] at h1 hle ⊢
    clear htk hlen hN ha
    have H0 := Lib.hid h0
    have H1 := Lib.hid h1
    have H2 := Lib.hid h2
    clear h0 h1 h2
    have hd : decide ((N : Int) - a < k) = false := by simp; omega
    go_enter Try.func43, Try.ntmps43
    go_wp2
    refine wp_scope_label 0 (fun a' wr => ∃ (j : Nat), j ≤ k ∧ Blk wr g t (cs.setIfInBounds 2 (.int .i64 ((a + j : Nat) : Int))) ∧ RB wr A m l ∧ Chg (fun x => x = g) w wr ∧ ∃ v, Hid (v = val (((bitsOf l N).drop a).take j)) ∧ v < 2 ^ j ∧
       ∃ u2 u3 u4 u5 u7 u8 u9 u10 u11 u12 u13 u14 u15 u16 u17 u18 u19 u20 u21 u22 u23 u24 u25 u26 u27 u28 u29 u30 u31 u32 u33 u34 u35 u36 u37 u38 u39 u40 u41 u42 u43 u44 u45 : Value, a' = { tmps := #[.pointer (some ⟨g, 0, none⟩), .int .i64 ((k : Int) - j), u2, u3, u4, u5, .int .u64 (v : Int), u7, u8, u9, u10, u11, u12, u13, u14, u15, u16, u17, u18, u19, u20, u21, u22, u23, u24, u25, u26, u27, u28, u29, u30, u31, u32, u33, u34, u35, u36, u37, u38, u39, u40, u41, u42, u43, u44, u45], defers := [] }) (fun a' _ => (intOf (a'.tmps.getD 1 undef)).toNat) rfl ?_ ?_
    · clear hb hr
      rintro a' wr ⟨j, hj, hb, hr, hchg, v, Hv, hv, u2, u3, u4, u5, u7, u8, u9, u10, u11, u12, u13, u14, u15, u16, u17, u18, u19, u20, u21, u22, u23, u24, u25, u26, u27, u28, u29, u30, u31, u32, u33, u34, u35, u36, u37, u38, u39, u40, u41, u42, u43, u44, u45, rfl⟩
      by_cases hjk : j = k
      · subst hjk
        go_wp2
        simp only [Exit.jump]
        go_ret2
        refine ⟨?_, hb, hchg⟩
        rw [← Hv.out]
        simp
      · have hj1 : ((k : Int) - j == 0) = false := by simp; omega
        have hc0 : wr.cell? ⟨g, 0, none⟩ = some (.slice A m c) := by rw [hb.cell, Array.getElem?_setIfInBounds_ne (by decide)]; exact H0.out
        have hc2 : wr.cell? ⟨g, 2, none⟩ = some (.int .i64 ((a + j : Nat) : Int)) := by
          rw [hb.cell, Array.getElem?_setIfInBounds]
          simp [(Array.getElem?_eq_some_iff.1 H2.out).1]
        have hf2 := hb.frozen 2
        obtain ⟨ad, x, rfl, hx, hc⟩ := hr.at_ (k := (a + j) / 8) (by omega)
        go_wp2
        go_region
        go_wp2
        go_step3
        have hv2 : v < 9223372036854775808 := by
          have : 2 ^ j ≤ 2 ^ 63 := Nat.pow_le_pow_right (by omega) (by omega)
          omega
        have hbv : x.toNat / 2 ^ (7 - (a + j) % 8) % 2 = (bit l (a + j)).toNat := by
          rw [getD_or, List.getD_eq_getElem?_getD, hx]
          rfl
        rw [take_walk v x.toNat (7 - (a + j) % 8) hv2 x.toNat_lt, hbv, show (k : Int) - j - 1 = (k : Int) - ((j + 1 : Nat) : Int) from by omega]
        refine ⟨rfl, ⟨j + 1, by omega, ?_, RB.setFar hr (p := ⟨g, 2, none⟩) hA _, ?_, 2 * v + (bit l (a + j)).toNat, ?_, ?_, _, _, _, _, _, _, _, _, _, _, _, _, _, _, _, _, _, _, _, _, _, _, _, _, _, _, _, _, _, _, _, _, _, _, _, _, _, _, _, _, _, _, _, rfl⟩, ?_⟩
        · have := hb.set 2 (.int .i64 ((a : Int) + j + 1))
          rw [Array.setIfInBounds_setIfInBounds] at this
          rw [show ((a + (j + 1) : Nat) : Int) = (a : Int) + j + 1 from by simp; omega]
          exact this
        · exact Chg.drew (hchg.setCell (p := ⟨g, 2, none⟩) (.inr rfl) _)
        · show _ = _
          rw [take_bitsOf_succ _ _ _ _ (by omega), ← Hv.out]
        · rw [Nat.pow_succ]
          cases bit l (a + j) <;> simp <;> omega
        · simp [intOf]; omega
    · intro hp
      go_wp2_with (go_at_call 45; refine (left_at g t cs N a _ hb H1.out H2.out (by omega) (by omega)).mono ?_; rintro e w' ⟨rfl, j, rfl⟩)
      go_step3
      go_step
      go_step
      refine hp _ _ ⟨0, by omega, ?_, hr.drewN j, (Chg.refl _ w).drewN j, 0, rfl, by simp, _, _, _, _, _, _, _, _, _, _, _, _, _, _, _, _, _, _, _, _, _, _, _, _, _, _, _, _, _, _, _, _, _, _, _, _, _, _, _, _, _, _, _, rfl⟩
      have : cs.setIfInBounds 2 (.int .i64 ((a + 0 : Nat) : Int)) = cs := set_self H2.out
      rw [this]
      exact hb.drewN j
  · have htk : tk (bitsOf l (8 * m)) k (a, false) = (0, a, true) := by unfold tk; rw [if_neg (by rw [hlen]; exact hle)]
    unfold TkPost
    rw [htk]
    dsimp only
    rw [set_self h2]
    obtain ⟨N, hN⟩ : ∃ N, N = 8 * m := ⟨_, rfl⟩
    have hN2 : N ≤ 8 * m := by omega
    rw [← hN] at h1 hle ha
    clear htk hlen hN
    have H1 := Lib.hid h1
    have H2 := Lib.hid h2
    clear h0 h1 h2
    have hd : decide ((N : Int) - a < k) = true := by simp; omega
    go_enter Try.func43, Try.ntmps43
    go_wp2
    go_step3
    go_wp2_with (go_at_call 45; refine (left_at g t cs N a _ (by first | exact hb | exact hb.drewN _) H1.out H2.out (by omega) (by omega)).mono ?_; rintro e w' ⟨rfl, j, rfl⟩)
    rw [Exit.noGoto_ret]
    go_ret2
    exact ⟨by simp, hb.drewN j, (Chg.refl _ w).drewN j⟩
end Go.Proofs.Ytlilnibinligkaa
