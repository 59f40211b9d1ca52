/-
  Append behind a file's bytes, with power and without; Sync; Rename. Conditions: names of one letter; lengths within the file's bound.
-/
import Derived.Test.YtddgkfheoldjkaaDg
namespace Go.Proofs.Ytddgkfheoldjkaa
open Go.RowKit

theorem find_here (x : ByteArray) (g born : Nat) : Instr.findNow .string (.string x) (#[entF x g born] : Array MapEntry).toList 0 = some (some (0, .pointer (some ⟨g, 0, none⟩))) := by
  have : (x == x) = true := (MapKept.bytes_beq x x).2 rfl
  simp [Instr.findNow, Instr.sameNow, entF, this]
def AppOld (O : Nat → Prop) (w : World) (d m : Nat) (es : Array MapEntry) (clock : Nat) (armed : Bool) (left keep : Int) (n : Nat) (g : Nat) (A : Option Addr) (l : List UInt8) (sy : Nat) (w' : World) : Prop :=
  ∃ A' c, Dsk O w' d m es clock true armed (left - 1) keep (n + 1) ∧ Fil O w' g A' c l sy ∧ Chg (fun k => k = d ∨ k = g ∨ ∃ ad, A = some ad ∧ k = ad.block) w w'

set_option maxHeartbeats 1000000 in
theorem append_old {O : Nat → Prop} {w : World} {d m : Nat} {es : Array MapEntry} {clock : Nat} {armed : Bool} {left keep : Int} {n : Nat} (hO : ∀ k, w.heap.size ≤ k → O k) (hD : Dsk O w d m es clock true armed left keep n) (hna : armed = true → left ≠ 0) (hle : -1000000 ≤ left ∧ left ≤ 1000000) (hn : n ≤ 1000000)
    (c : UInt8) (hc : isNm c) {i g : Nat} (h : Instr.findNow .string (.string ⟨#[c]⟩) es.toList 0 = some (some (i, .pointer (some ⟨g, 0, none⟩)))) {A0 : Option Addr} {cap0 sy : Nat} {l0 : List UInt8} (hF : Fil O w g A0 cap0 l0 sy) (A : Option Addr) (k cap : Nat) (l : List UInt8) (hr : RB w A k l) (hk : l0.length + k ≤ 4194304) (hAd : ∀ ad, A = some ad → 0 < k → ad.block ≠ d) :
    Calls Try.prog 8 #[.pointer (some ⟨d, 0, none⟩), .string ⟨#[c]⟩, .slice A k cap] w fun e w' => e = .returned (.int .i64 0) ∧ AppOld O w d m es clock armed left keep n g A0 (l0 ++ l) sy w' := by
  have hmf : ∀ (fn : Fn) (first cp : Array Value) (w : World), (Instr.makeFunc fn first cp).run Try.prog w = .ok (.func fn first cp) w := fun _ _ _ _ => rfl
  obtain ⟨W, hW, hgW, b1, b2, b3, hzW⟩ := three_boxes w (.pointer (some ⟨d, 0, none⟩)) (.string ⟨#[c]⟩) (.slice A k cap) 23 9 22
  have hdl := hD.hd.lt
  go_enter Try.func8, Try.ntmps8
  go_wp2_with fail
  rw [← hW]
  have hDW := hD.grew hgW
  have hFW := hF.grew hgW
  have hrW := hr.grew hgW
  clear hW
  refine (write_ok hDW hna hle hn _ _ _ entA2 entA1 _ _ _ (app_old hDW c hc h (hFW.hg.cell 0) (b2.cell 0) (b1.cell 0) (b3.cell 0) hk) (R := fun w1 w' => OldF O w1 d m es clock true armed (left - 1) keep (n + 1) g A0 (l0 ++ l) sy (.returned (.tuple #[])) w') ?_).mono ?_
  · intro w1 hc1 hD1
    have hO1 : ∀ k, w1.heap.size ≤ k → O k := fun k hk => hO k (by have := hc1.size; omega)
    have ne1 := b1.ne_type hDW.hd (by decide)
    have ne2 := b2.ne_type hDW.hd (by decide)
    have ne3 := b3.ne_type hDW.hd (by decide)
    have hF1 := hFW.chg hc1 (hFW.hg.ne_type hDW.hd (by decide)) (hFW.hA.ne_blk hDW.hd (by decide))
    have b31 := b3.chg hc1 ne3
    refine (do_old hO1 hD1 ⟨#[c]⟩ h hF1 ((b2.chg hc1 ne2).cell 0) ((b1.chg hc1 ne1).cell 0) (b31.cell 0) (hF1.hA.ne_blk b31 (by decide)) (hrW.far hc1 hAd) hk).mono ?_
    intro e w' he
    have := he.1
    subst this
    exact ⟨rfl, he⟩
  rintro e w' ⟨rfl, w1, hc1, hD1, ⟨_, A', c', h1, h2, h3⟩⟩
  go_wp2
  go_ret
  refine ⟨by simp, A', c', h1, h2, ?_⟩
  exact ((Chg.of_grew hgW).trans (hc1.mono fun j _ e => .inl e)).trans (h3.mono fun j _ e => .inr e)

theorem append_off {O : Nat → Prop} {w : World} {d m : Nat} {es : Array MapEntry} {clock : Nat} {armed : Bool} {left keep : Int} {n : Nat} (hD : Dsk O w d m es clock false armed left keep n) (x : ByteArray) (A : Option Addr) (k cap : Nat) :
    Calls Try.prog 8 #[.pointer (some ⟨d, 0, none⟩), .string x, .slice A k cap] w fun e w' => e = .returned (.int .i64 60) ∧ Grew w w' := by
  have hmf : ∀ (fn : Fn) (first cp : Array Value) (w : World), (Instr.makeFunc fn first cp).run Try.prog w = .ok (.func fn first cp) w := fun _ _ _ _ => rfl
  obtain ⟨W, hW, hgW, b1, b2, b3, hzW⟩ := three_boxes w (.pointer (some ⟨d, 0, none⟩)) (.string x) (.slice A k cap) 23 9 22
  have hdl := hD.hd.lt
  go_enter Try.func8, Try.ntmps8
  go_wp2_with fail
  rw [← hW]
  have hDW := hD.grew hgW
  clear hW
  refine (write_off hDW _ _ _).mono ?_
  rintro e w' ⟨rfl, rfl⟩
  go_wp2
  go_ret
  exact ⟨by simp, hgW⟩

/-- what a disk of one file is when the power has gone -/
def Gone (O : Nat → Prop) (w : World) (d m : Nat) (x : ByteArray) (g born clock : Nat) (left keep : Int) (n : Nat) (A : Option Addr) (l : List UInt8) (sy : Nat) (w' : World) : Prop :=
  ∃ A' c, Dsk O w' d m #[entF x g born] clock false false left keep n ∧ Fil O w' g A' c (l.take (stayN l.length sy keep)) (stayN l.length sy keep) ∧ Chg (fun k => k = d ∨ k = g ∨ ∃ ad, A = some ad ∧ k = ad.block) w w'

set_option maxHeartbeats 1000000 in
theorem append_cut {O : Nat → Prop} {w : World} {d m : Nat} {c : UInt8} {g born clock : Nat} {keep : Int} {n : Nat} (hO : ∀ k, w.heap.size ≤ k → O k) (hD : Dsk O w d m #[entF ⟨#[c]⟩ g born] clock true true 0 keep n) (hn : n ≤ 1000000) (hbn : born < clock) (hkp : keep ≤ 9223372036854775807)
    (hc : isNm c) {A0 : Option Addr} {cap0 sy : Nat} {l0 : List UInt8} (hF : Fil O w g A0 cap0 l0 sy) (hsy : sy ≤ l0.length) (A : Option Addr) (k cap : Nat) (l : List UInt8) (hr : RB w A k l) (hk : l0.length + k ≤ 4194304) (hAd : ∀ ad, A = some ad → 0 < k → ad.block ≠ d) :
    Calls Try.prog 8 #[.pointer (some ⟨d, 0, none⟩), .string ⟨#[c]⟩, .slice A k cap] w fun e w' => e = .returned (.int .i64 60) ∧ Gone O w d m ⟨#[c]⟩ g born clock 0 keep (n + 1) A0 (l0 ++ l) sy w' := by
  have hmf : ∀ (fn : Fn) (first cp : Array Value) (w : World), (Instr.makeFunc fn first cp).run Try.prog w = .ok (.func fn first cp) w := fun _ _ _ _ => rfl
  obtain ⟨W, hW, hgW, b1, b2, b3, hzW⟩ := three_boxes w (.pointer (some ⟨d, 0, none⟩)) (.string ⟨#[c]⟩) (.slice A k cap) 23 9 22
  have hdl := hD.hd.lt
  have h := find_here ⟨#[c]⟩ g born
  go_enter Try.func8, Try.ntmps8
  go_wp2_with fail
  rw [← hW]
  have hDW := hD.grew hgW
  have hFW := hF.grew hgW
  have hrW := hr.grew hgW
  clear hW
  have hll : l.length = k := hr.1
  refine (write_cut hDW hn _ _ _ entA2 entA1 _ _ _ (app_old hDW c hc h (hFW.hg.cell 0) (b2.cell 0) (b1.cell 0) (b3.cell 0) hk) (R := fun w1 w' => OldF O w1 d m #[entF ⟨#[c]⟩ g born] clock true true 0 keep (n + 1) g A0 (l0 ++ l) sy (.returned (.tuple #[])) w')
    (T := fun w2 w' => ∃ A' c', Dsk O w' d m #[entF ⟨#[c]⟩ g born] clock false false 0 keep (n + 1) ∧ Fil O w' g A' c' ((l0 ++ l).take (stayN (l0 ++ l).length sy keep)) (stayN (l0 ++ l).length sy keep) ∧ Chg (fun k => k = g ∨ k = d) w2 w') ?_ ?_ ?_).mono ?_
  · intro w1 hc1 hD1
    have hO1 : ∀ k, w1.heap.size ≤ k → O k := fun k hk => hO k (by have := hc1.size; omega)
    have ne1 := b1.ne_type hDW.hd (by decide)
    have ne2 := b2.ne_type hDW.hd (by decide)
    have ne3 := b3.ne_type hDW.hd (by decide)
    have hF1 := hFW.chg hc1 (hFW.hg.ne_type hDW.hd (by decide)) (hFW.hA.ne_blk hDW.hd (by decide))
    have b31 := b3.chg hc1 ne3
    refine (do_old hO1 hD1 ⟨#[c]⟩ h hF1 ((b2.chg hc1 ne2).cell 0) ((b1.chg hc1 ne1).cell 0) (b31.cell 0) (hF1.hA.ne_blk b31 (by decide)) (hrW.far hc1 hAd) hk).mono ?_
    intro e w' he
    have := he.1
    subst this
    exact ⟨rfl, he⟩
  · rintro w1 w2 ⟨_, A', c', h1, h2, h3⟩
    exact h1.c4
  · rintro w1 w2 ⟨_, A', c', h1, h2, h3⟩
    refine (cut_one h1 hbn h2 (by rw [List.length_append]; omega) (by rw [List.length_append]; omega) keep hkp).mono ?_
    rintro e w' ⟨rfl, k1, k2, k3⟩
    exact ⟨rfl, A', c', k1, k2, k3⟩
  rintro e w' ⟨rfl, w1, w2, hc1, hD1, ⟨_, A', c', h1, h2, h3⟩, B, c2, k1, k2, k3⟩
  go_wp2
  go_ret
  refine ⟨by simp, B, c2, k1, k2, ?_⟩
  exact (((Chg.of_grew hgW).trans (hc1.mono fun j _ e => .inl e)).trans (h3.mono fun j _ e => .inr e)).trans (k3.mono fun j _ e => e.elim (fun e => .inr (.inl e)) .inl)
end Go.Proofs.Ytddgkfheoldjkaa
