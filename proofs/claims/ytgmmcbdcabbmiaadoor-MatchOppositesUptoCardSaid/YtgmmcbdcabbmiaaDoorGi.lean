/-
  Labels and matchers copied; a number without its sign; the opposite of a kind. Conditions: lengths that memory bears.
-/
import Derived.Test.YtgmmcbdcabbmiaaDoorGg
namespace Go.Proofs.YtgmmcbdcabbmiaaDoor
open Go.RowKit

theorem infoLb : (Tryd.prog.info? 54).map (fun i => (i.zero, i.size, i.bytes)) = some (some (.agg #[.string ⟨#[]⟩, .string ⟨#[]⟩]), 2, 32) := by kernel_rfl
theorem infoMa : (Tryd.prog.info? 28).map (fun i => (i.zero, i.size, i.bytes)) = some (some (.agg #[.int .i64 0, .string ⟨#[]⟩, .string ⟨#[]⟩]), 3, 40) := by kernel_rfl
def NewLb (w : World) (n : Nat) (l : List (ByteArray × ByteArray)) (e : Ending) (w' : World) : Prop := ∃ A c, e = .returned (.slice A n c) ∧ OE elLb w' w.heap.size 54 A n c l ∧ Grew w w'
def NewMa (w : World) (n : Nat) (l : List Mat) (e : Ending) (w' : World) : Prop := ∃ A c, e = .returned (.slice A n c) ∧ OE elMa w' w.heap.size 28 A n c l ∧ Grew w w'
theorem head_of (a : Nat) : ∀ ad, some (⟨a, 0, none⟩ : Addr) = some ad → a ≤ ad.block := fun ad e => by
  injection e with e
  subst e
  exact Nat.le_refl _

set_option maxHeartbeats 400000 in
theorem copyLabels_any (A : Option Addr) (n c : Nat) (l : List (ByteArray × ByteArray)) (w : World) (h : RE elLb w A n l) (hn : n ≤ 4398046511104) :
    Calls Tryd.prog 10 #[.slice A n c] w (NewLb w n l) := by
  have hown : OE elLb (w.alloc (.cells #[] 54)) w.heap.size 54 (some ⟨w.heap.size, 0, none⟩) 0 0 [] := OE.made w w.heap.size 54 (Nat.le_refl _)
  have hr : RE elLb (w.alloc (.cells #[] 54)) A n l := h.grew ((Chg.refl _ w).alloc _)
  go_enter Tryd.func10, Tryd.ntmps10
  go_wp2_with (at_builtin; refine wpList_appE rfl _ _ 26 54 infoLb rfl Tryd.underlying26 rfl w.heap.size _ 0 0 [] rfl hown (by simp) A n c l rfl hr (by unfold maxLen; omega) (by omega) ?_; intro A' c' w' h1)
  go_ret
  simp only [Nat.zero_add, List.nil_append] at h1
  exact ⟨A', c', by simp, h1.oe, h1.grew ((Chg.refl _ w).alloc _) (head_of _)⟩
set_option maxHeartbeats 400000 in
theorem copyMatchers_any (A : Option Addr) (n c : Nat) (l : List Mat) (w : World) (h : RE elMa w A n l) (hn : n ≤ 3298534883328) :
    Calls Tryd.prog 13 #[.slice A n c] w (NewMa w n l) := by
  have hown : OE elMa (w.alloc (.cells #[] 28)) w.heap.size 28 (some ⟨w.heap.size, 0, none⟩) 0 0 [] := OE.made w w.heap.size 28 (Nat.le_refl _)
  have hr : RE elMa (w.alloc (.cells #[] 28)) A n l := h.grew ((Chg.refl _ w).alloc _)
  go_enter Tryd.func13, Tryd.ntmps13
  go_wp2_with (at_builtin; refine wpList_appE rfl _ _ 25 28 infoMa rfl Tryd.underlying25 rfl w.heap.size _ 0 0 [] rfl hown (by simp) A n c l rfl hr (by unfold maxLen; omega) (by omega) ?_; intro A' c' w' h1)
  go_ret
  simp only [Nat.zero_add, List.nil_append] at h1
  exact ⟨A', c', by simp, h1.oe, h1.grew ((Chg.refl _ w).alloc _) (head_of _)⟩

/-- the opposite of a kind -/
def oppZ (k : Int) : Int := if k = 1 then 2 else if k = 2 then 1 else if k = 3 then 4 else if k = 4 then 3 else 0
theorem map4_any (k : Int) (w : World) : Calls Tryd.prog 11 #[.int .i64 k] w fun e w' => e = .returned (.int .i64 (oppZ k)) ∧ w = w' := by
  by_cases h1 : k = 1
  · subst h1
    go_enter Tryd.func11, Tryd.ntmps11
    go_wp2
    go_ret
    exact ⟨by simp [oppZ], rfl⟩
  · have e1 : (k == 1) = false := by simpa using h1
    by_cases h2 : k = 2
    · subst h2
      go_enter Tryd.func11, Tryd.ntmps11
      go_wp2
      go_ret
      exact ⟨by simp [oppZ], rfl⟩
    · have e2 : (k == 2) = false := by simpa using h2
      by_cases h3 : k = 3
      · subst h3
        go_enter Tryd.func11, Tryd.ntmps11
        go_wp2
        go_ret
        exact ⟨by simp [oppZ], rfl⟩
      · have e3 : (k == 3) = false := by simpa using h3
        by_cases h4 : k = 4
        · subst h4
          go_enter Tryd.func11, Tryd.ntmps11
          go_wp2
          go_ret
          exact ⟨by simp [oppZ], rfl⟩
        · have e4 : (k == 4) = false := by simpa using h4
          have Ho : Hid (oppZ k = 0) := by show _ = _; unfold oppZ; rw [if_neg h1, if_neg h2, if_neg h3, if_neg h4]
          clear h1 h2 h3 h4
          go_enter Tryd.func11, Tryd.ntmps11
          go_wp2
          go_ret
          exact ⟨by rw [Ho.out]; simp, rfl⟩

end Go.Proofs.YtgmmcbdcabbmiaaDoor
