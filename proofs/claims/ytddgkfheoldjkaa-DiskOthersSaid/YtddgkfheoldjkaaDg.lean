/-
  Append: a new file; bytes behind those of a file; the power off; the power going. Conditions: names of one letter; lengths within the file's bound.
-/
import Derived.Shelf.Abstract
import Derived.Test.YtddgkfheoldjkaaDf
namespace Go.Proofs.Ytddgkfheoldjkaa
open Go.RowKit

theorem entA2 : ∀ args w, (callFunc 24 args).run Try.prog w = .ok (.enter 24 args) w := Go.Proofs.enters_of Try.func24 (by kernel_rfl) rfl
theorem entA1 : ∀ args w, (callFunc 22 args).run Try.prog w = .ok (.enter 22 args) w := Go.Proofs.enters_of Try.func22 (by kernel_rfl) rfl
theorem three_boxes (w : World) (v1 v2 v3 : Value) (t1 t2 t3 : TypeId) : ∃ W, W = ((w.alloc (.cells #[v1] t1)).alloc (.cells #[v2] t2)).alloc (.cells #[v3] t3) ∧ Grew w W ∧ Blk W w.heap.size t1 #[v1] ∧ Blk W (w.heap.size + 1) t2 #[v2] ∧ Blk W (w.heap.size + 1 + 1) t3 #[v3] ∧ W.heap.size = w.heap.size + 3 := by
  have h1 := Blk.new w t1 #[v1]
  have h2 := Blk.new (w.alloc (.cells #[v1] t1)) t2 #[v2]
  have h3 := Blk.new ((w.alloc (.cells #[v1] t1)).alloc (.cells #[v2] t2)) t3 #[v3]
  have e1 : (w.alloc (.cells #[v1] t1)).heap.size = w.heap.size + 1 := by simp
  have e2 : ((w.alloc (.cells #[v1] t1)).alloc (.cells #[v2] t2)).heap.size = w.heap.size + 1 + 1 := by simp
  rw [e1] at h2
  rw [e2] at h3
  exact ⟨_, rfl, (((Chg.refl _ w).alloc _).alloc _).alloc _, (h1.alloc _).alloc _, h2.alloc _, h3, by simp⟩
theorem two_boxes (w : World) (v1 v2 : Value) (t1 t2 : TypeId) : ∃ W, W = (w.alloc (.cells #[v1] t1)).alloc (.cells #[v2] t2) ∧ Grew w W ∧ Blk W w.heap.size t1 #[v1] ∧ Blk W (w.heap.size + 1) t2 #[v2] ∧ W.heap.size = w.heap.size + 2 := by
  have h1 := Blk.new w t1 #[v1]
  have h2 := Blk.new (w.alloc (.cells #[v1] t1)) t2 #[v2]
  have e1 : (w.alloc (.cells #[v1] t1)).heap.size = w.heap.size + 1 := by simp
  rw [e1] at h2
  exact ⟨_, rfl, ((Chg.refl _ w).alloc _).alloc _, h1.alloc _, h2, by simp⟩

/-- what Append of a new file leaves -/
def AppNew (O : Nat → Prop) (w : World) (d m : Nat) (es : Array MapEntry) (clock : Nat) (armed : Bool) (left keep : Int) (n : Nat) (x : ByteArray) (l : List UInt8) (w' : World) : Prop :=
  ∃ g A c, Dsk O w' d m (es.push (entF x g clock)) (clock + 1) true armed (left - 1) keep (n + 1) ∧ Fil O w' g A c l 0 ∧ Chg (fun k => k = d ∨ k = m) w w' ∧ w.heap.size ≤ g ∧ ∀ ad, A = some ad → w.heap.size ≤ ad.block

set_option maxHeartbeats 1000000 in
theorem append_new {O : Nat → Prop} {w : World} {d m : Nat} {es : Array MapEntry} {clock : Nat} {armed : Bool} {left keep : Int} {n : Nat} (hO : ∀ k, w.heap.size ≤ k → O k) (hD : Dsk O w d m es clock true armed left keep n) (hna : armed = true → left ≠ 0) (hle : -1000000 ≤ left ∧ left ≤ 1000000) (hn : n ≤ 1000000)
    (c : UInt8) (hc : isNm c) (h : Instr.findNow .string (.string ⟨#[c]⟩) es.toList 0 = some none) (hes : es.size < 1048576) (A : Option Addr) (k cap : Nat) (l : List UInt8) (hr : RB w A k l) (hk : k ≤ 4194304) (hAd : ∀ ad, A = some ad → 0 < k → ad.block ≠ d) :
    Calls Try.prog 8 #[.pointer (some ⟨d, 0, none⟩), .string ⟨#[c]⟩, .slice A k cap] w fun e w' => e = .returned (.int .i64 0) ∧ AppNew O w d m es clock armed left keep n ⟨#[c]⟩ l w' := by
  have hmf : ∀ (fn : Fn) (first cp : Array Value) (w : World), (Instr.makeFunc fn first cp).run Try.prog w = .ok (.func fn first cp) w := fun _ _ _ _ => rfl
  obtain ⟨W, hW, hgW, b1, b2, b3, hzW⟩ := three_boxes w (.pointer (some ⟨d, 0, none⟩)) (.string ⟨#[c]⟩) (.slice A k cap) 23 9 22
  have hdl := hD.hd.lt
  have hml := hD.hm.lt
  go_enter Try.func8, Try.ntmps8
  go_wp2_with fail
  rw [← hW]
  have hDW := hD.grew hgW
  have hrW := hr.grew hgW
  clear hW
  refine (write_ok hDW hna hle hn _ _ _ entA2 entA1 _ _ _ (app_new hDW c hc h hes (b2.cell 0) (b1.cell 0) (b3.cell 0) hk) (R := fun w1 w' => NewF O w1 d m es clock true armed (left - 1) keep (n + 1) ⟨#[c]⟩ l (.returned (.tuple #[])) w') ?_).mono ?_
  · intro w1 hc1 hD1
    have hO1 : ∀ k, w1.heap.size ≤ k → O k := fun k hk => hO k (by have := hc1.size; omega)
    have ne1 := b1.ne_type hDW.hd (by decide)
    have ne2 := b2.ne_type hDW.hd (by decide)
    have ne3 := b3.ne_type hDW.hd (by decide)
    refine (do_new hO1 hD1 ⟨#[c]⟩ h ((b2.chg hc1 ne2).cell 0) ((b1.chg hc1 ne1).cell 0) ((b3.chg hc1 ne3).cell 0) (hrW.far hc1 hAd) hk).mono ?_
    intro e w' he
    have := he.1
    subst this
    exact ⟨rfl, he⟩
  rintro e w' ⟨rfl, w1, hc1, hD1, ⟨_, g, A', c', h1, h2, h3, h4, h5⟩⟩
  go_wp2
  go_ret
  have hs1 := hc1.size
  refine ⟨by simp, g, A', c', h1, h2, ?_, by omega, fun ad e => by have := h5 ad e; omega⟩
  exact ((Chg.of_grew hgW).trans (hc1.mono fun j _ e => .inl e)).trans (h3.mono fun j _ e => .inr e)
end Go.Proofs.Ytddgkfheoldjkaa
