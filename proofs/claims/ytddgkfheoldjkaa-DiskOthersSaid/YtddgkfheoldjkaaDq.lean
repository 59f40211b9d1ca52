/-
  The names of a disk of one file, sorted. Conditions: one file.
-/
import Derived.Test.YtddgkfheoldjkaaDk
import Derived.Test.YtddgkfheoldjkaaRw
namespace Go.Proofs.Ytddgkfheoldjkaa
open Go.RowKit

def elNm : El ByteArray := ⟨fun s => [.string s], 1, fun _ => rfl, by
  intro x u hu
  simp at hu
  subst hu
  rfl⟩
theorem infoNm : (Try.prog.info? 9).map (fun i => (i.zero, i.size, i.bytes)) = some (some (.string ⟨#[]⟩), 1, 16) := by kernel_rfl

set_option maxHeartbeats 1000000 in
theorem insertion_one (A : Option Addr) (c : Nat) (w : World) : Calls Try.prog 38 #[.slice A 1 c, .int .i64 0, .int .i64 1] w fun e w' => e = .returned (.tuple #[]) ∧ w = w' := by
  go_enter Try.func38, Try.ntmps38
  go_wp2
  refine wp_loop_rounds 1 ?_
  rw [rounds_succ]
  go_wp2
  go_end0
  exact ⟨rfl, rfl⟩
set_option maxHeartbeats 1000000 in
theorem pdq_one (A : Option Addr) (c : Nat) (k : Int) (w : World) : Calls Try.prog 36 #[.slice A 1 c, .int .i64 0, .int .i64 1, .int .i64 k] w fun e w' => e = .returned (.tuple #[]) ∧ w = w' := by
  go_enter Try.func36, Try.ntmps36
  go_wp2
  refine wp_loop_rounds 1 ?_
  rw [rounds_succ]
  go_wp2_with fail
  refine (insertion_one A c w).mono ?_
  rintro e w1 ⟨rfl, rfl⟩
  go_wp2
  refine bodyPost_ret (results_none rfl _ _ _) rfl ?_
  exact ⟨rfl, rfl⟩
set_option maxRecDepth 1000000 in
set_option maxHeartbeats 8000000 in
theorem len64_one (w : World) : Calls Try.prog 48 #[.int .u64 1] w fun e w' => (∃ k, e = .returned (.int .i64 k)) ∧ w = w' := by
  go_enter Try.func48, Try.ntmps48
  go_wp2
  go_ret
  exact ⟨⟨_, rfl⟩, rfl⟩
set_option maxHeartbeats 2000000 in
theorem len_one (w : World) : Calls Try.prog 37 #[.int .u64 1] w fun e w' => (∃ k, e = .returned (.int .i64 k)) ∧ w = w' := by
  go_enter Try.func37, Try.ntmps37
  go_wp2_with fail
  refine (len64_one w).mono ?_
  rintro e w1 ⟨⟨k, rfl⟩, rfl⟩
  go_wp2
  go_ret
  exact ⟨⟨k, by simp⟩, rfl⟩
set_option maxHeartbeats 1000000 in
theorem sort_one (A : Option Addr) (c : Nat) (w : World) : Calls Try.prog 34 #[.slice A 1 c] w fun e w' => e = .returned (.tuple #[]) ∧ w = w' := by
  go_enter Try.func34, Try.ntmps34
  go_wp2_with fail
  refine (len_one w).mono ?_
  rintro e w1 ⟨⟨k, rfl⟩, rfl⟩
  go_wp2_with fail
  refine (pdq_one A c _ w).mono ?_
  rintro e w1 ⟨rfl, rfl⟩
  go_wp2
  go_end0
  exact ⟨rfl, rfl⟩

/-! ### HasPrefix "" -/
set_option maxHeartbeats 1000000 in
theorem prefix_in (w : World) : Calls Try.prog 35 #[.string ⟨#[97]⟩, .string ⟨#[]⟩] w fun e w' => e = .returned (.bool true) ∧ w = w' := by
  go_enter Try.func35, Try.ntmps35
  go_wp2
  go_ret
  exact ⟨by simp, rfl⟩
set_option maxHeartbeats 1000000 in
theorem prefix_one (w : World) : Calls Try.prog 33 #[.string ⟨#[97]⟩, .string ⟨#[]⟩] w fun e w' => e = .returned (.bool true) ∧ w = w' := by
  go_enter Try.func33, Try.ntmps33
  go_wp2_with fail
  refine (prefix_in w).mono ?_
  rintro e w1 ⟨rfl, rfl⟩
  go_wp2
  go_ret
  exact ⟨by simp, rfl⟩

/-! ### List -/
set_option maxHeartbeats 1000000 in
theorem list_one {O : Nat → Prop} {w : World} {d m : Nat} {g born clock : Nat} {armed : Bool} {left keep : Int} {n : Nat} (hD : Dsk O w d m #[entF ⟨#[97]⟩ g born] clock true armed left keep n) (hbn : born < clock) :
    Calls Try.prog 21 #[.pointer (some ⟨d, 0, none⟩), .string ⟨#[]⟩] w fun e w' => ∃ A c, e = .returned (.slice A 1 c) ∧ RE elNm w' A 1 [⟨#[97]⟩] ∧ Grew w w' := by
  have c0 := hD.c0
  have c1 := hD.c1
  have hg1 : Grew w (w.alloc (.mapIter (some m) clock #[] clock)) := (Chg.refl _ w).alloc _
  have hi1 : IterB (w.alloc (.mapIter (some m) clock #[] clock)) w.heap.size m clock #[] clock := heap_alloc_new w _
  have hrange := run_range_b (P := Try.prog) Try.underlying45 hD.hm
  have hD1 := hD.grew hg1
  have hnext := fun ty => run_next_one (P := Try.prog) ty hi1 hD1.hm hbn
  have hi2 : IterB (setB (w.alloc (.mapIter (some m) clock #[] clock)) w.heap.size (.mapIter (some m) clock #[born] clock)) w.heap.size m clock #[born] clock := setB_here hi1.lt _
  have hg2 : Grew w (setB (w.alloc (.mapIter (some m) clock #[] clock)) w.heap.size (.mapIter (some m) clock #[born] clock)) := Chg.setB hg1 (.inl (Nat.le_refl _)) _
  have hD2 := hD.grew hg2
  have hentry := run_entry_one (P := Try.prog) (x := entF ⟨#[97]⟩ g born) hi2 hD2.hm
  simp only [entF] at hnext hentry
  have hP := prefix_one
  go_enter Try.func21, Try.ntmps21
  go_wp2
  refine wp_loop_rounds 2 ?_
  rw [rounds_succ]
  go_wp2_with fail
  refine (hP _).mono ?_
  rintro e w1 ⟨rfl, rfl⟩
  generalize setB (w.alloc (.mapIter (some m) clock #[] clock)) w.heap.size (.mapIter (some m) clock #[born] clock) = w2 at *
  have hsrc : RE elNm (w2.alloc (.cells #[.string ⟨#[97]⟩] 9)) (some ⟨w2.heap.size, 0, none⟩) 1 [⟨#[97]⟩] := RE.newAt rfl rfl rfl
  have hown : OE elNm (w2.alloc (.cells #[.string ⟨#[97]⟩] 9)) 0 9 none 0 0 [] := Own.nil _ _ _ _
  go_wp2_with (at_builtin; refine wpList_appE rfl _ _ 42 9 infoNm rfl Try.underlying42 rfl 0 none 0 0 [] rfl hown (Nat.zero_le _) _ 1 1 [⟨#[97]⟩] rfl hsrc (by decide) (by decide) ?_; intro A3 c3 w3 h3)
  have hg3 : Grew w2 w3 := ((Chg.refl _ w2).alloc _).step h3.chg (fun k _ ⟨ad, e, _⟩ => by cases e)
  have hD3 := hD2.grew hg3
  have hi3 := hi2.chg hg3 (fun e => e)
  have hnx := fun ty => run_next_end (P := Try.prog) ty (x := entF ⟨#[97]⟩ g born) hi3 hD3.hm hbn
  have hG3 := hg2.trans hg3
  have ho3 := h3.oe
  clear hsrc hown h3 hg3 hD2 hi2 hentry hnext
  rw [rounds_succ]
  go_wp2_with fail
  refine (sort_one _ _ _).mono ?_
  rintro e w4 ⟨rfl, rfl⟩
  go_wp2
  go_ret
  exact ⟨A3, c3, by simp, by have := ho3.re (by decide); exact this, hG3⟩
end Go.Proofs.Ytddgkfheoldjkaa
