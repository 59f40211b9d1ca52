/-
  The disk in memory; a new one; names; whether there is such a file. Conditions: names of one letter.
-/
import Derived.Test.YtddgkfheoldjkaaDm
import Derived.Test.YtddgkfheoldjkaaDl
namespace Go.Proofs.Ytddgkfheoldjkaa
open Go.RowKit

def dskC (m : Nat) (up armed : Bool) (left keep : Int) (n : Nat) : Array Value := #[.map (some m), .bool up, .bool armed, .int .i64 left, .int .i64 keep, .int .u64 (n : Int)]
structure Dsk (O : Nat → Prop) (w : World) (d m : Nat) (es : Array MapEntry) (clock : Nat) (up armed : Bool) (left keep : Int) (n : Nat) : Prop where
  hd : Blk w d 47 (dskC m up armed left keep n)
  hm : MapB w m es clock
  od : O d
  om : O m
structure Fil (O : Nat → Prop) (w : World) (g : Nat) (A : Option Addr) (c : Nat) (l : List UInt8) (sy : Nat) : Prop where
  hg : Blk w g 50 #[.slice A l.length c, .int .i64 (sy : Int)]
  hA : OB w 0 5 A l.length c l
  og : O g
  oA : ∀ ad, A = some ad → O ad.block
def entF (nm : ByteArray) (g born : Nat) : MapEntry := ⟨.string nm, .pointer (some ⟨g, 0, none⟩), born⟩

set_option maxHeartbeats 400000 in
theorem new_any (w : World) : Calls Try.prog 6 #[] w fun e w' => ∃ d m, e = .returned (.pointer (some ⟨d, 0, none⟩)) ∧ Dsk (fun k => w.heap.size ≤ k) w' d m #[] 0 true false 0 0 0 ∧ Grew w w' := by
  have hmm := @run_makeMap Try.prog
  go_enter Try.func6, Try.ntmps6
  go_wp2
  go_ret
  refine ⟨w.heap.size + 1, w.heap.size, by simp, ⟨?_, ?_, Nat.le_succ _, Nat.le_refl _⟩, ((Chg.refl _ w).alloc _).alloc _⟩
  · have := Blk.new (w.alloc (.map #[] 0)) 47 (dskC w.heap.size true false 0 0 0)
    rw [show (w.alloc (.map #[] 0)).heap.size = w.heap.size + 1 by simp] at this
    exact this
  · exact (MapB.new w #[] 0).grew ((Chg.refl _ _).alloc _)

def nm1 (c : UInt8) : ByteArray := ⟨#[c]⟩
set_option maxHeartbeats 400000 in
theorem name_one (c : UInt8) (hc : c = 97 ∨ c = 98 ∨ c = 99 ∨ c = 102 ∨ c = 103) (w : World) : Calls Try.prog 25 #[.string ⟨#[c]⟩] w fun e w' => e = .returned (.bool true) ∧ w = w' := by
  have h0 : (⟨#[c]⟩ : ByteArray).toList.isEmpty = false := by
    rw [ByteArray.toList_eq]
    rfl
  obtain ⟨x, hx⟩ : ∃ x, x = (⟨#[c]⟩ : ByteArray) := ⟨_, rfl⟩
  have hs : x.size = 1 := by rw [hx]; rfl
  have hx0 : ∀ h, ((x[0]'h).toNat : Int) = (c.toNat : Int) := by rw [hx]; intro h; rfl
  have h1 : 97 ≤ c.toNat ∧ c.toNat ≤ 122 := by rcases hc with rfl | rfl | rfl | rfl | rfl <;> decide
  obtain ⟨z, hz⟩ : ∃ z : Int, z = (c.toNat : Int) := ⟨_, rfl⟩
  have h2 : decide (z < 97) = false := decide_eq_false (by omega)
  have h3 : decide (122 < z) = false := decide_eq_false (by omega)
  rw [← hx] at h0 ⊢
  rw [← hz] at hx0
  have h9 : ¬ x.toList = [] := fun e => by rw [e] at h0; cases h0
  clear hx hz h1 hc
  go_enter Try.func25, Try.ntmps25
  go_wp2
  refine wp_loop_rounds 2 ?_
  rw [rounds_succ]
  go_wp2
  rw [rounds_succ]
  go_wp2
  go_ret
  exact ⟨by simp, rfl⟩
end Go.Proofs.Ytddgkfheoldjkaa
