/-
  awake: what every program answers. Conditions: none.
-/
import Derived.Test.YtddgkfheoldjkaaDj
namespace Go.Proofs.Ytddgkfheoldjkaa
open Go.RowKit

theorem list_off {O : Nat → Prop} {w : World} {d m : Nat} {es : Array MapEntry} {clock : Nat} {armed : Bool} {left keep : Int} {n : Nat} (hD : Dsk O w d m es clock false armed left keep n) (x : ByteArray) :
    Calls Try.prog 21 #[.pointer (some ⟨d, 0, none⟩), .string x] w fun e w' => e = .returned (.slice none 0 0) ∧ w = w' := by
  have c1 := hD.c1
  go_enter Try.func21, Try.ntmps21
  go_wp2
  go_ret
  exact ⟨by simp, rfl⟩

section
variable {O : Nat → Prop} {w w' : World} {g : Nat} {A : Option Addr} {c : Nat} {l : List UInt8} {sy : Nat}
theorem Fil.al (h : Fil O w g A c l sy) : ∀ ad, A = some ad → ad.block < w.heap.size := fun ad e => (Own.blk_lt h.hA ad e).2
end

theorem grow_of {S : Nat → Prop} {w w1 w2 : World} (hg : Grew w w1) (hc : Chg S w1 w2) (hS : ∀ k, S k → w.heap.size ≤ k) : Grew w w2 := hg.step hc fun k hk h => absurd (hS k h) (by omega)
theorem grow1 {a : Nat} {w w1 w2 : World} (hg : Grew w w1) (hc : Chg (fun k => k = a) w1 w2) (h : w.heap.size ≤ a) : Grew w w2 := grow_of hg hc fun k e => by
  have e : k = a := e
  omega
theorem grow2 {a b : Nat} {w w1 w2 : World} (hg : Grew w w1) (hc : Chg (fun k => k = a ∨ k = b) w1 w2) (h : w.heap.size ≤ a) (h' : w.heap.size ≤ b) : Grew w w2 := grow_of hg hc fun k e => by
  have e : k = a ∨ k = b := e
  omega
theorem grow3 {a b : Nat} {A : Option Addr} {w w1 w2 : World} (hg : Grew w w1) (hc : Chg (fun k => k = a ∨ k = b ∨ ∃ ad, A = some ad ∧ k = ad.block) w1 w2) (h : w.heap.size ≤ a) (h' : w.heap.size ≤ b) (h'' : ∀ ad, A = some ad → w.heap.size ≤ ad.block) : Grew w w2 := grow_of hg hc fun k e => by
  rcases e with e | e | ⟨ad, e, e2⟩
  · omega
  · omega
  · have := h'' ad e
    omega
theorem find_none (x : ByteArray) : Instr.findNow .string (.string x) (#[] : Array MapEntry).toList 0 = some none := rfl

set_option maxRecDepth 100000 in
set_option maxHeartbeats 4000000 in
theorem awake_any (w : World) : Calls Try.prog 7 #[] w fun e w' => e = .returned (.bool true) ∧ Grew w w' := by
  go_enter Try.func7, Try.ntmps7
  go_wp2_with fail
  refine (new_any w).mono ?_
  rintro e w1 ⟨d, m, rfl, hD, hg⟩
  have hO : ∀ k, w1.heap.size ≤ k → w.heap.size ≤ k := fun k hk => Nat.le_trans hg.size hk
  go_wp2_with fail
  refine (append_new (O := fun k => w.heap.size ≤ k) (fun k hk => by have := hg.size; simp at hk; omega) (hD.grew ((Chg.refl _ w1).alloc _)) (by simp) (by omega) (by omega) 97 (.inl rfl) (find_none _) (by simp) _ 2 2 [1, 2] (RB.newAt rfl rfl rfl) (by omega) ?_).mono ?_
  · rintro ad e _
    injection e with e
    subst e
    have := hD.hd.lt
    show w1.heap.size ≠ d
    omega
  have hG1 := hg
  rintro e w2 ⟨rfl, g, A2, c2, hD2', hF2, hc2, _, _⟩
  have hD2 : Dsk (fun k => w.heap.size ≤ k) w2 d m #[entF ⟨#[97]⟩ g 0] 1 true false (-1) 0 1 := hD2'
  have hG2 : Grew w w2 := grow2 (hG1.alloc _) hc2 hD.od hD.om
  clear hD2' hc2 hD hg
  go_wp2_with fail
  refine (sync_ok hD2 (by simp) (by omega) (by omega) 97 (.inl rfl) (find_here _ _ _) hF2).mono ?_
  rintro e w3 ⟨rfl, hD3, hF3, hc3⟩
  have hG3 : Grew w w3 := grow2 hG2 hc3 hD2.od hF2.og
  clear hD2 hF2 hc3
  go_wp2_with fail
  refine (append_old (O := fun k => w.heap.size ≤ k) (fun k hk => by have := hG3.size; simp at hk; omega) (hD3.grew ((Chg.refl _ w3).alloc _)) (by simp) (by omega) (by omega) 97 (.inl rfl) (find_here _ _ _) (hF3.grew ((Chg.refl _ w3).alloc _)) _ 2 2 [3, 4] (RB.newAt rfl rfl rfl) (by simp) ?_).mono ?_
  · rintro ad e _
    injection e with e
    subst e
    have := hD3.hd.lt
    show w3.heap.size ≠ d
    omega
  rintro e w4 ⟨rfl, A4, c4, hD4, hF4, hc4⟩
  have hG4 : Grew w w4 := grow3 (hG3.alloc _) hc4 hD3.od hF3.og hF3.oA
  clear hD3 hF3 hc4
  go_wp2_with fail
  refine (off_any hD4 (by omega) hF4 (by simp) (by simp) 1 (by omega)).mono ?_
  rintro e w5 ⟨rfl, hD5, hF5, hc5⟩
  have hG5 : Grew w w5 := grow2 hG4 hc5 hF4.og hD4.od
  have hF5 : Fil (fun k => w.heap.size ≤ k) w5 g A4 c4 [1, 2, 3] 3 := hF5
  clear hD4 hF4 hc5
  go_wp2_with fail
  refine (append_off hD5 _ _ _ _).mono ?_
  rintro e w6 ⟨rfl, hg6⟩
  have hD6 := hD5.grew hg6
  have hF6 := hF5.grew hg6
  have hG6 := hG5.trans hg6
  clear hD5 hF5 hg6
  go_wp2_with fail
  refine (on_any hD6).mono ?_
  rintro e w7 ⟨rfl, hD7, hc7⟩
  have hF7 := hF6.chg hc7 (hF6.hg.ne_type hD6.hd (by decide)) (hF6.hA.ne_blk hD6.hd (by decide))
  have hG7 : Grew w w7 := grow1 hG6 hc7 hD6.od
  clear hD6 hF6 hc7
  go_wp2_with fail
  refine (read_ok hD7 97 (.inl rfl) (find_here _ _ _) hF7 (by simp)).mono ?_
  rintro e w8 ⟨X, cx, rfl, hX, hg8⟩
  have hdl := hD7.hd.lt
  have hgl := hF7.hg.lt
  have hal := hF7.al
  have hD8 := hD7.grew hg8
  have hF8 := hF7.grew hg8
  have hG8 := hG7.trans hg8
  have hXb := Own.blk_lt hX
  clear hD7 hF7 hg8
  go_wp2_with fail
  refine (arm_any hD8 0 0).mono ?_
  rintro e w9 ⟨rfl, hD9, hc9⟩
  have hF9 := hF8.chg hc9 (hF8.hg.ne_type hD8.hd (by decide)) (hF8.hA.ne_blk hD8.hd (by decide))
  have hG9 : Grew w w9 := grow1 hG8 hc9 hD8.od
  have hX9 := hX.chg hc9 (fun ad e he => by have := (hXb ad e).1; omega)
  clear hD8 hF8 hc9 hX
  go_wp2_with fail
  refine (rename_cut hD9 (by omega) (by omega) (by omega) (.inl rfl) (.inr (.inl rfl)) hF9 (by simp) (by simp)).mono ?_
  rintro e w10 ⟨rfl, A10, c10, hD10, hF10, hc10⟩
  have hG10 : Grew w w10 := grow3 hG9 hc10 hD9.od hF9.og hF9.oA
  have hX10 := hX9.chg hc10 (fun ad e he => by
    have := (hXb ad e).1
    rcases he with he | he | ⟨ad', e', he⟩
    · omega
    · omega
    · have := hal ad' e'
      omega)
  clear hD9 hF9 hc10 hX9
  go_wp2_with fail
  refine (up_any hD10).mono ?_
  rintro e w11 ⟨rfl, rfl⟩
  go_wp2_with fail
  refine (sameBytes_any X _ 3 3 cx 3 [1, 2, 3] [1, 2, 3] _ (by exact (hX10.grew ((Chg.refl _ w10).alloc _)).rb) (by exact RB.newAt rfl rfl rfl) (by omega) (by omega)).mono ?_
  rintro e w12 ⟨rfl, k, rfl⟩
  have hg12 : Grew w10 ((w10.alloc (.cells #[.int .u8 1, .int .u8 2, .int .u8 3] 5)).drewN k) := ((Chg.refl _ w10).alloc _).drewN k
  have hD12 := hD10.grew hg12
  have hG12 := hG10.trans hg12
  go_wp2_with fail
  refine (writes_any hD12).mono ?_
  rintro e w13 ⟨rfl, rfl⟩
  go_wp2_with fail
  refine (list_off hD12 _).mono ?_
  rintro e w13 ⟨rfl, rfl⟩
  go_wp2
  go_ret
  exact ⟨by simp, hG12⟩
end Go.Proofs.Ytddgkfheoldjkaa
