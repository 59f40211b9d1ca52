/-
  append of a string's bytes onto a row of bytes of the call's own; a string out of bytes. Conditions: none; the two types' numbers are the program's.
-/
import Derived.Test.YtbilppcfijpblaaLa
namespace Go.Proofs.Ytbilppcfijpblaa
open Go.RowKit

section
variable {P : Program} (w : World)
theorem firstCells_str (s : ByteArray) : (Builtin.firstCells 1 s.size (.string s)).run P w = .ok ((s.data.toList.map byt).toArray) w := by
  simp only [Builtin.firstCells, Sem.run_pure]
  congr 1
  apply Array.ext'
  simp [byt]

theorem run_appS (t u ty e : TypeId) (i : TypeInfo) (z : Value) (ht : P.underlying t = some (.slice e)) (hu : P.underlying u = some .string) (hi : P.info? e = some i) (hz : i.zero = some z)
    (hsize : i.size = 1) (hby : i.bytes = 1) (hzs : z.cells.size = 1)
    (base : Nat) (A : Option Addr) (n c : Nat) (xs : List Value) (hown : Own w base e 1 A n c xs) (hbase : base ≤ w.heap.size)
    (s : ByteArray) (h63 : n + s.size ≤ maxLen) (hbytes : (n + s.size) * 1 ≤ 140737488355328) :
    ∃ A' c' w', (Builtin.append_ #[t, u] ty #[.slice A n c, .string s]).run P w = .ok (.slice A' (n + s.size) c') w' ∧ Apped w base e 1 A (n + s.size) c (xs ++ s.data.toList.map byt) A' c' w' := by
  have hl : (s.data.toList.map byt).length = s.size * 1 := by simp
  have hlen : (xs ++ s.data.toList.map byt).length = (n + s.size) * 1 := by rw [List.length_append, hown.len, hl, Nat.add_mul]
  have h1 := byt_one s.data.toList
  have hf : ∀ w : World, (Builtin.firstCells 1 s.size (.string s)).run P w = .ok ((s.data.toList.map byt).toArray) w := fun w => firstCells_str w s
  by_cases hroom : n + s.size ≤ c
  · rcases hown.2 with ⟨e', h3⟩ | ⟨g, cap, cur, e', hbg, hg, hnc, hcm, hcs, htake⟩
    · injection e' with e1 e2 e3
      subst e1; subst e3; subst h3
      have hn : s.data.toList.map byt = [] := List.eq_nil_of_length_eq_zero (by rw [hl]; omega)
      rw [hn]
      have h0 : s.size = 0 := by omega
      refine ⟨none, 0, w, ?_, by simpa [h0] using hown, Chg.refl _ _, .inl ⟨rfl, rfl, by omega, rfl⟩⟩
      have hf0 := hf w
      rw [hn, h0] at hf0
      simp [Builtin.append_, run_underlying ht, run_underlying hu, sizeOf, typeInfo, hi, hsize, Builtin.lenOf, hf0, h0]
    · injection e' with e1 e2 e3
      subst e1; subst e3
      have hfit : n * 1 + (s.data.toList.map byt).length ≤ cur.size := by rw [hl, hcs, ← Nat.add_mul]; exact Nat.mul_le_mul_right _ hroom
      have hst := run_storeCells_at P g (n * 1) e (s.data.toList.map byt) 0 cur w hg (by simpa using hfit) h1
      simp only [Nat.add_zero, Nat.mul_one] at hst
      refine ⟨some ⟨g, 0, none⟩, c, w.setRow g (cur.toList.take (n * 1) ++ s.data.toList.map byt ++ cur.toList.drop (n * 1 + (s.data.toList.map byt).length)).toArray, ?_, ⟨hlen, .inr ⟨g, c, _, rfl, hbg, setRow_heap w g cur _ e _ hg, hroom, hcm, ?_, ?_⟩⟩,
        ⟨rfl, rfl, rfl, by simp, fun k _ hk => setRow_other w g k _ (fun e => hk ⟨_, rfl, e⟩)⟩, .inl ⟨rfl, rfl, hroom, by simp⟩⟩
      · simp [Builtin.append_, run_underlying ht, run_underlying hu, sizeOf, typeInfo, hi, hsize, Builtin.lenOf, hroom, hf, Addr.add_lit]
        simp at hst
        rw [hst]
        simp
      · simp only [List.size_toArray, List.length_append, List.length_take, List.length_drop, Array.length_toList]
        omega
      · rw [htake, ← hlen]
        exact List.take_left
  · have hsmall : n + s.size ≤ 9223372036854775807 := by simp only [maxLen] at h63; omega
    have h63' : ¬ (9223372036854775807 < ((n : Int) + (s.size : Int))) := by omega
    have hgf := growslice_fits (old := c) (need := n + s.size) (bytes := 1) (by omega) hbytes
    have h48' : ¬ (281474976710656 < Builtin.nextslicecap (n + s.size) c) := by omega
    have hfo := firstCells_rd (P := P) w.drew 1 n c A xs hown.len hown.rd
    have hge := grownCap_ge w (n + s.size) c e
    have hcm : grownCap w (n + s.size) c e ≤ maxLen := grownCap_le_maxLen w (n + s.size) c e h63
    refine ⟨some ⟨w.heap.size, 0, none⟩, grownCap w (n + s.size) c e, w.drew.alloc (.cells (xs.toArray ++ (s.data.toList.map byt).toArray ++ Builtin.zeroCells z.cells (grownCap w (n + s.size) c e - (n + s.size))) e), ?_, ?_, ?_, .inr ⟨rfl, (Chg.refl _ w).drew.alloc _, by simp⟩⟩
    · have hfd := hf w.drew
      simp [Builtin.append_, run_underlying ht, run_underlying hu, sizeOf, typeInfo, zeroValue, hi, hz, hsize, hby, Builtin.lenOf, hroom, h63', h48', Question.forced, hfd, hfo, newRow, grownCap]
      congr 2
      apply Array.ext'
      simp [List.append_assoc]
    · refine ⟨hlen, .inr ⟨w.heap.size, _, _, rfl, hbase, heap_alloc_new w.drew _, hge, hcm, ?_, ?_⟩⟩
      · simp only [Array.size_append, List.size_toArray, size_zeroCells, hzs, hown.len, hl, ← Nat.add_mul]
        congr 1
        omega
      · simp only [Array.toList_append, List.append_assoc]
        rw [← List.append_assoc, ← hlen]
        exact List.take_left
    · exact (Chg.refl _ w).drew.alloc _
end

/-- append of a string onto a row of bytes of the call's own -/
theorem wpList_appS {ops : Array Oper} {rest : List Oper} {o : Oper} {a : Act} {w : World} {Q : Exit → Act → World → Prop} (hgd : o.guard = none) (s x : Operand)
    (ho : o.op = .call { callee := .builtin .append, args := #[s, x], argTypes := #[22, 9] })
    (base : Nat) (A : Option Addr) (n c : Nat) (l : List UInt8) (hs : a.eval s = .slice A n c) (hown : OB w base 5 A n c l) (hbase : base ≤ w.heap.size)
    (r : ByteArray) (hx : a.eval x = .string r) (hbytes : n + r.size ≤ 140737488355328)
    (h : ∀ A' c' w', ApB w base A (n + r.size) c (l ++ r.data.toList) A' c' w' → wpList Try.prog ops Q rest (a.put o.dst (.slice A' (n + r.size) c')) w') : wpList Try.prog ops Q (o :: rest) a w := by
  obtain ⟨i0, hi, hz0, hz1, hz2⟩ := info_parts infoU8
  obtain ⟨A', c', w', hrun, h2⟩ := run_appS (P := Try.prog) w 22 9 o.type 5 i0 (.int .u8 0) Try.underlying22 Try.underlying9 hi hz0 hz1 hz2 rfl base A n c _ hown hbase r (by unfold maxLen; omega) (by omega)
  refine wpList_plain hgd fun K hK => ?_
  unfold Oper.wp execOp
  simp only [ho, resolve, invoke, builtin, Sem.run_bind, Sem.run_pure, Result.andThen_ok, List.map_toArray, List.map_cons, List.map_nil, hs, hx, hrun]
  exact hK _ _ (h A' c' w' (by unfold ApB; rw [List.map_append]; exact h2))
end Go.Proofs.Ytbilppcfijpblaa
