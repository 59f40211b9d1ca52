/-
  Blocks that stay as they are, told from what is known of them. Conditions: none; no program in sight.
-/
import Derived.Test.YtddgkfheoldjkaaTo
namespace Go.Proofs.Ytddgkfheoldjkaa

theorem sameIn_one {k : Nat} {W w : World} {t : TypeId} {cs : Array Value} (h1 : Blk W k t cs) (h2 : Blk w k t cs) : SameIn [k] W w := fun i hi => by
  simp only [List.mem_cons, List.not_mem_nil, or_false] at hi
  subst hi
  exact Eq.trans h2 (Eq.symm h1)
theorem cellsIn_one {k : Nat} {W : World} {t : TypeId} {cs : Array Value} (h : Blk W k t cs) : CellsIn [k] W := fun i hi => by
  simp only [List.mem_cons, List.not_mem_nil, or_false] at hi
  subst hi
  exact ⟨_, _, _, h⟩
/-- a number shifted to its place -/
theorem shl_fits {v a b : Nat} (hv : v < 2 ^ (64 - a - b)) (hab : a + b ≤ 63) : IntKind.u64.wrap ((v : Int) * 2 ^ b) = ((v * 2 ^ b : Nat) : Int) := by
  have h3 : v * 2 ^ b < 2 ^ (64 - a - b) * 2 ^ b := Nat.mul_lt_mul_of_pos_right hv (Nat.two_pow_pos _)
  rw [← Nat.pow_add] at h3
  have h4 : 2 ^ (64 - a - b + b) ≤ 2 ^ 64 := Nat.pow_le_pow_right (by omega) (by omega)
  rw [IntKind.wrap_u64, ← show ((v * 2 ^ b : Nat) : Int) = (v : Int) * 2 ^ b by simp]
  omega
theorem Chg.at3 {S : Nat → Prop} {w w1 : World} {h : Nat} (hc : Chg S w w1) (hh : w.heap.size ≤ h) (a b c : Value) : Chg S w (((w1.setCell ⟨h, 0, none⟩ a).setCell ⟨h, 1, none⟩ b).setCell ⟨h, 2, none⟩ c) :=
  Chg.setCell (Chg.setCell (Chg.setCell hc (p := ⟨h, 0, none⟩) (.inl hh) _) (p := ⟨h, 1, none⟩) (.inl hh) _) (p := ⟨h, 2, none⟩) (.inl hh) _
theorem cellsIn_cell {W : World} {ad : Addr} {u : Value} (h : W.cell? ad = some u) : CellsIn [ad.block] W := fun i hi => by
  simp only [List.mem_cons, List.not_mem_nil, or_false] at hi
  subst hi
  unfold World.cell? at h
  split at h
  · exact ⟨_, _, _, by assumption⟩
  · cases h
theorem sameIn_chg {S : Nat → Prop} {W w : World} {k : Nat} (hc : Chg S W w) (hk : k < W.heap.size) (hn : ¬ S k) : SameIn [k] W w := fun i hi => by
  simp only [List.mem_cons, List.not_mem_nil, or_false] at hi
  subst hi
  exact hc.block i hk hn
theorem cellsIn_two {j k : Nat} {W : World} {t t' : TypeId} {cs cs' : Array Value} (h : Blk W j t cs) (h' : Blk W k t' cs') : CellsIn [j, k] W := fun i hi => by
  simp only [List.mem_cons, List.not_mem_nil, or_false] at hi
  rcases hi with rfl | rfl
  · exact ⟨_, _, _, h⟩
  · exact ⟨_, _, _, h'⟩
theorem sameIn_two {S : Nat → Prop} {W w : World} {j k : Nat} (hc : Chg S W w) (hj : j < W.heap.size) (hk : k < W.heap.size) (hn : ¬ S j) (hn' : ¬ S k) : SameIn [j, k] W w := fun i hi => by
  simp only [List.mem_cons, List.not_mem_nil, or_false] at hi
  rcases hi with rfl | rfl
  · exact hc.block _ hj hn
  · exact hc.block _ hk hn'
theorem Chg.one (w : World) (b i : Nat) (u : Value) : Chg (fun x => x = b) w (w.setCell ⟨b, i, none⟩ u) := (Chg.refl (fun x => x = b) w).setCell (p := ⟨b, i, none⟩) (.inr rfl) u
end Go.Proofs.Ytddgkfheoldjkaa
