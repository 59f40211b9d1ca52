/-
  The law ChunkEven, walked. Conditions: none.
-/
import Derived.Test.YtlilnibinligkaaKk
namespace Go.Proofs.Ytlilnibinligkaa
open Go.RowKit

/-- points at even distances -/
def evens (t : Int) (d v : Nat) (n : Nat) : List Pnt := (List.range n).map fun (i : Nat) => (t + (i : Int) * d, v)
theorem evens_len (t : Int) (d v n : Nat) : (evens t d v n).length = n := by simp [evens]
theorem evens_succ (t : Int) (d v n : Nat) : evens t d v (n + 1) = evens t d v n ++ [(t + (n : Int) * d, v)] := by
  unfold evens
  rw [List.range_succ, List.map_append]
  rfl
theorem evens_at {t : Int} {d v n i : Nat} {p : Pnt} (h : (evens t d v n)[i]? = some p) : i < n ∧ p = (t + (i : Int) * d, v) := by
  unfold evens at h
  rw [List.getElem?_map] at h
  have hi : i < n := by
    cases hx : (List.range n)[i]? with
    | none => rw [hx] at h; cases h
    | some y =>
      have := (List.getElem?_eq_some_iff.1 hx).1
      simpa using this
  rw [List.getElem?_range hi] at h
  injection h with h
  exact ⟨hi, h.symm⟩
theorem evens_v {t : Int} {d v n : Nat} (hv : v < 18446744073709551616) : Okv (evens t d v n) := fun p hp => by
  obtain ⟨i, hi⟩ := List.getElem?_of_mem hp
  rw [(evens_at hi).2]
  exact hv
theorem evens_p {t : Int} {d v n : Nat} (h1 : -1073741824 ≤ t) (h2 : t ≤ 1073741824) (hd : 1 ≤ d) (hd2 : d ≤ 10000) (hn : n ≤ 8191) : Okp (evens t d v n) := by
  intro i p hp
  obtain ⟨hi, rfl⟩ := evens_at hp
  have a1 : i * d ≤ 8191 * 10000 := Nat.mul_le_mul (by omega) hd2
  have a2 : (i : Int) * (d : Int) = ((i * d : Nat) : Int) := by simp
  refine ⟨by simp only; omega, fun q hq => ?_⟩
  obtain ⟨_, rfl⟩ := evens_at hq
  have a3 : ((i + 1 : Nat) : Int) * (d : Int) = (i : Int) * (d : Int) + d := by
    have : (i + 1) * d = i * d + d := Nat.succ_mul i d
    rw [← Int.natCast_mul, this, Int.natCast_add, Int.natCast_mul]
  simp only
  rw [a3]
  omega
theorem evens_take (t : Int) (d v n k : Nat) (hk : k ≤ n) : (evens t d v n).take k = evens t d v k := by
  unfold evens
  rw [← List.map_take, List.take_range, Nat.min_eq_left hk]
/-- from the third point on: two bits each -/
def evGo (t : Int) (d v : Nat) (a m : Nat) : List Pnt := (List.range m).map fun (i : Nat) => (t + ((a + i : Nat) : Int) * d, v)
theorem evGo_succ (t : Int) (d v a m : Nat) : evGo t d v a (m + 1) = (t + (a : Int) * d, v) :: evGo t d v (a + 1) m := by
  unfold evGo
  rw [List.range_succ_eq_map, List.map_cons, List.map_map]
  refine congrArg _ (List.map_congr_left fun i _ => ?_)
  simp only [Function.comp]
  rw [show a + (i + 1) = a + 1 + i by omega]
theorem step_mul (a d : Nat) : ((a + 1 : Nat) : Int) * (d : Int) = (a : Int) * (d : Int) + d := by
  have : (a + 1) * d = a * d + d := Nat.succ_mul a d
  rw [← Int.natCast_mul, this, Int.natCast_add, Int.natCast_mul]
theorem evGo_enc (t : Int) (d v : Nat) (w : Win) : ∀ (m a : Nat), (encGo (t + (a : Int) * d, v) (d : Int) w (evGo t d v (a + 1) m)).length = 2 * m
  | 0, a => by simp [evGo, encGo]
  | m + 1, a => by
    rw [evGo_succ]
    unfold encGo
    have e := step_mul a d
    have e1 : t + ((a + 1 : Nat) : Int) * d - (t + (a : Int) * d) = (d : Int) := by rw [e]; omega
    simp only [e1, Int.sub_self, Nat.xor_self]
    have ih := evGo_enc t d v w m (a + 1)
    have z0 : (zB 0).length = 1 := by decide
    have v0 : valB w 0 = ([false], w) := by unfold valB; rw [if_pos rfl]
    rw [v0, List.length_append, List.length_append, z0]
    simp only [List.length_cons, List.length_nil]
    rw [ih]
    omega
theorem evens_enc (t : Int) (d v n : Nat) (hn : 2 ≤ n) : (encB (evens t d v n)).length = (encB (evens t d v 2)).length + 2 * (n - 2) := by
  have h0 : ∀ n, evens t d v n = evGo t d v 0 n := fun n => by
    unfold evens evGo
    refine List.map_congr_left fun i _ => ?_
    rw [Nat.zero_add]
  obtain ⟨m, rfl⟩ : ∃ m, n = m + 2 := ⟨n - 2, by omega⟩
  rw [h0, h0, evGo_succ, evGo_succ, evGo_succ t d v 0 1, evGo_succ t d v (0 + 1) 0]
  have e := step_mul 0 d
  have e1 : t + ((0 + 1 : Nat) : Int) * d - (t + ((0 : Nat) : Int) * d) = (d : Int) := by rw [e]; omega
  have v0 : valB (0, 0, false) 0 = ([false], (0, 0, false)) := by unfold valB; rw [if_pos rfl]
  have k0 : evGo t d v (0 + 1 + 1) 0 = [] := rfl
  rw [k0]
  unfold encB
  simp only [encGo, e1, Nat.xor_self, v0, List.length_append, length_toBits, List.length_cons, List.length_nil]
  have := evGo_enc t d v (0, 0, false) m (0 + 1)
  rw [this]
  omega
theorem EncIs.evens {t : Int} {d v n : Nat} (h1 : -1073741824 ≤ t) (h2 : t ≤ 1073741824) (hd : 1 ≤ d) (hd2 : d ≤ 10000) (hn : n ≤ 8191) : EncIs (evens t d v n) (pack (encB (evens t d v n))) 0 :=
  .inr (.inr ⟨by rw [evens_len]; exact hn, evens_p h1 h2 hd hd2 hn, rfl, rfl⟩)
end Go.Proofs.Ytlilnibinligkaa
