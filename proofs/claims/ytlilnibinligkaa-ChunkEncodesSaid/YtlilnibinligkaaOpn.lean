/-
  Arguments that came in, opened: points, with the form's own reach. Conditions: none.
-/
import Derived.Test.YtlilnibinligkaaOpen
import Derived.Test.YtlilnibinligkaaRw
import Derived.Deep.SlicePairs
namespace Go.Proofs.Ytlilnibinligkaa
open Go.ChangeShapes Go.WideShapes Go.ChangeAt Go.RowKit Go.Deep

/-- cells of a whole number and of one without a sign -/
def elPr : El (Int × Nat) := ⟨fun p => [.int .i64 p.1, .int .u64 (p.2 : Int)], 2, fun _ => rfl, by
  intro x u hu
  simp only [List.mem_cons, List.not_mem_nil, or_false] at hu
  rcases hu with rfl | rfl <;> rfl⟩

theorem open_points {H : Type} {enc : TypeId × Value → H} {P : Program} {W : World} {base : Nat} {spare : Nat → Bool} {held : Bool} {t e : TypeId} {f0 f1 : Field} (ht : P.underlying t = some (.slice e)) (he : P.underlying e = some (.struct #[f0, f1]))
    (ce : P.cellsOf e = 2) (o0 : f0.offset = 0) (o1 : f1.offset = 1) (t0 : P.underlying f0.type = some (.int .i64)) (t1 : P.underlying f1.type = some (.int .u64)) (c0 : P.cellsOf f0.type = 1) (c1 : P.cellsOf f1.type = 1) (hB : P.bytesOf e = 16)
    {ts : List TypeId} {ds : List (DataW H)} {j : Nat} {d : DataW H} (hsz : (DataW.weightsEach P ts ds).all (· ≤ reachBytes) = true) (htj : ts[j]? = some t) (hdj : ds[j]? = some d)
    {A : Option Addr} {n c : Nat} {p : List MemPlace} (h : DataW.Trod enc P W base spare held t (.slice A n c) d p) :
    ∃ l : List (Int × Nat), RE elPr W A n l ∧ n ≤ 8796093021952 ∧ (∀ p ∈ l, p.2 < 18446744073709551616) ∧ (∀ p ∈ l, -9223372036854775808 ≤ p.1 ∧ p.1 ≤ 9223372036854775807) ∧ (n ≤ c ∧ c ≤ 9223372036854775807) := by
  obtain ⟨fuel, hf⟩ := h
  rcases open_slice_pairs ht he ce o0 o1 c0 c1 hf with ⟨hcs, _⟩ | ⟨x, l, c', m, n', V0, V1, D0, D1, P0, P1, hcs, _, hl, hM, hmm, hx, hcell⟩
  · simp [Value.cells] at hcs
    obtain ⟨rfl, rfl, rfl⟩ := hcs
    exact ⟨[], ⟨rfl, Rd.nil _ _⟩, by omega, (fun p hp => by cases hp), (fun p hp => by cases hp), by omega⟩
  · simp [Value.cells] at hcs
    obtain ⟨rfl, rfl, rfl⟩ := hcs
    simp only [Prod.mk.injEq] at hx
    obtain ⟨rfl, _⟩ := hx
    have hlm : n ≤ m := by rw [hmm]; split <;> omega
    have key : ∀ i, i < n → ∃ z y : Int, V0 i = .int .i64 z ∧ V1 i = .int .u64 y ∧ (Lit.int .i64 z).wf = true ∧ (Lit.int .u64 y).wf = true := fun i hi => by
      obtain ⟨_, _, h2, h3⟩ := hcell i (by omega)
      obtain ⟨z, hz, _, hzw⟩ := DataW.trod_int t0 h2
      obtain ⟨y, hy, _, hyw⟩ := DataW.trod_int t1 h3
      exact ⟨z, y, by simpa using hz, by simpa using hy, hzw, hyw⟩
    have mem : ∀ p : Int × Nat, p ∈ (List.range n).map (fun i => (intOf (V0 i), (intOf (V1 i)).toNat)) → ∃ i, i < n ∧ p = (intOf (V0 i), (intOf (V1 i)).toNat) := fun p hp => by
      obtain ⟨i, hi, rfl⟩ := List.mem_map.1 hp
      exact ⟨i, List.mem_range.1 hi, rfl⟩
    refine ⟨(List.range n).map (fun i => (intOf (V0 i), (intOf (V1 i)).toNat)), ⟨by simp, ?_⟩, ?_, ?_, ?_, by unfold maxLen at hM; omega⟩
    · intro k u hu
      refine ⟨x, rfl, ?_⟩
      have hk := (List.getElem?_eq_some_iff.1 hu).1
      rw [El.flat_length, List.length_map, List.length_range] at hk
      have hk : k < n * 2 := hk
      obtain ⟨i, j, rfl, hj⟩ : ∃ i j, k = i * 2 + j ∧ j < 2 := ⟨k / 2, k % 2, by omega, Nat.mod_lt _ (by omega)⟩
      have hi : i < n := by omega
      have hg := elPr.flat_get ((List.range n).map (fun i => (intOf (V0 i), (intOf (V1 i)).toNat))) (k := i) (j := j) (x := (intOf (V0 i), (intOf (V1 i)).toNat)) (by simp [hi]) hj
      have hg2 : (elPr.flat ((List.range n).map (fun i => (intOf (V0 i), (intOf (V1 i)).toNat))))[i * 2 + j]? = _ := hg
      rw [hg2] at hu
      obtain ⟨q0, q1, _, _⟩ := hcell i (by omega)
      obtain ⟨z, y, e0, e1, w0, w1⟩ := key i hi
      have hb := Go.bounds_u64 w1
      match j, hj with
      | 0, _ =>
        rw [Nat.add_zero, q0, ← hu, e0]
        rfl
      | 1, _ =>
        rw [q1, ← hu, e1]
        simp [elPr, intOf]
        omega
    · have := sized_slice hsz htj hdj ht
      rw [hB] at this
      simp only [List.length_map, List.length_range, reachBytes] at this
      omega
    · intro p hp
      obtain ⟨i, hi, rfl⟩ := mem p hp
      obtain ⟨z, y, e0, e1, w0, w1⟩ := key i hi
      have hb := Go.bounds_u64 w1
      simp only [e1, intOf]
      omega
    · intro p hp
      obtain ⟨i, hi, rfl⟩ := mem p hp
      obtain ⟨z, y, e0, e1, w0, w1⟩ := key i hi
      have hb := Go.bounds_i64 w0
      simp only [e0, intOf]
      omega
end Go.Proofs.Ytlilnibinligkaa
