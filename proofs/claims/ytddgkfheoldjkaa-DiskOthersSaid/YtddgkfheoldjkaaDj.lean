/-
  Read. Conditions: names of one letter; lengths within the file's bound.
-/
import Derived.Test.YtddgkfheoldjkaaDi
namespace Go.Proofs.Ytddgkfheoldjkaa
open Go.RowKit

set_option maxHeartbeats 1000000 in
theorem read_ok {O : Nat → Prop} {w : World} {d m : Nat} {es : Array MapEntry} {clock : Nat} {armed : Bool} {left keep : Int} {n : Nat} (hD : Dsk O w d m es clock true armed left keep n) (c : UInt8) (hc : isNm c) {i g : Nat} (h : Instr.findNow .string (.string ⟨#[c]⟩) es.toList 0 = some (some (i, .pointer (some ⟨g, 0, none⟩))))
    {A : Option Addr} {cap sy : Nat} {l : List UInt8} (hF : Fil O w g A cap l sy) (hl : l.length ≤ 4194304) :
    Calls Try.prog 13 #[.pointer (some ⟨d, 0, none⟩), .string ⟨#[c]⟩] w fun e w' => ∃ A' c', e = .returned (.tuple #[.slice A' l.length c', .int .i64 0]) ∧ OB w' w.heap.size 5 A' l.length c' l ∧ Grew w w' := by
  have hT := there_yes hD c hc h
  have c1 := hD.c1
  have hg1 : Grew w (w.alloc (.cells #[] 5)) := (Chg.refl _ w).alloc _
  have hlk := look_disk (hD.grew hg1).hm h
  simp only [lookV] at hlk
  have c0 := (hD.grew hg1).c0
  have hF1 := hF.grew hg1
  have g0 : (w.alloc (.cells #[] 5)).cell? ⟨g, 0, none⟩ = some (.slice A l.length cap) := hF1.hg.cell 0
  have hown : OB (w.alloc (.cells #[] 5)) w.heap.size 5 (some ⟨w.heap.size, 0, none⟩) 0 0 [] := Own.made w w.heap.size 5 1 (Nat.le_refl _)
  have hr := hF1.hA.rb
  go_enter Try.func13, Try.ntmps13
  go_wp2_with fail
  refine hT.mono ?_
  rintro e w1 ⟨rfl, rfl⟩
  go_wp2_with (at_builtin; refine wpList_appB rfl _ _ rfl w.heap.size _ 0 0 [] rfl hown (by simp) A l.length cap l rfl hr (by omega) ?_; intro A' c' w' h1)
  go_ret2
  have h2 := h1.ob
  have h3 := h1.grew hg1 (head_ge (Nat.le_refl _))
  simp only [Nat.zero_add, List.nil_append] at h2
  exact ⟨A', c', by simp, h2, h3⟩
set_option maxHeartbeats 1000000 in
theorem read_none {O : Nat → Prop} {w : World} {d m : Nat} {es : Array MapEntry} {clock : Nat} {armed : Bool} {left keep : Int} {n : Nat} (hD : Dsk O w d m es clock true armed left keep n) (c : UInt8) (hc : isNm c) (h : Instr.findNow .string (.string ⟨#[c]⟩) es.toList 0 = some none) :
    Calls Try.prog 13 #[.pointer (some ⟨d, 0, none⟩), .string ⟨#[c]⟩] w fun e w' => e = .returned (.tuple #[.slice none 0 0, .int .i64 62]) ∧ w = w' := by
  have hT := there_no hD c hc h
  have c1 := hD.c1
  go_enter Try.func13, Try.ntmps13
  go_wp2_with fail
  refine hT.mono ?_
  rintro e w1 ⟨rfl, rfl⟩
  go_wp2
  go_ret2
  exact ⟨by simp, rfl⟩
set_option maxHeartbeats 1000000 in
theorem read_off {O : Nat → Prop} {w : World} {d m : Nat} {es : Array MapEntry} {clock : Nat} {armed : Bool} {left keep : Int} {n : Nat} (hD : Dsk O w d m es clock false armed left keep n) (x : ByteArray) :
    Calls Try.prog 13 #[.pointer (some ⟨d, 0, none⟩), .string x] w fun e w' => e = .returned (.tuple #[.slice none 0 0, .int .i64 60]) ∧ w = w' := by
  have c1 := hD.c1
  go_enter Try.func13, Try.ntmps13
  go_wp2
  go_ret2
  exact ⟨by simp, rfl⟩
end Go.Proofs.Ytddgkfheoldjkaa
