/-
  Several texts in one:
  Arguments that came in, opened: bytes, with the form's own reach. Conditions: none; no program in sight.
  The bound of the second form, opened: bytes that came in are no longer than their bulk. Conditions: none; no program in sight.
  Arguments that came in, opened: slices whose elements take some cells each. Conditions: none.
  Arguments that came in, opened: labels and matchers. Conditions: none.
  Arguments that came in, opened: lists of samples. Conditions: none.
-/
import Derived.Test.YtailooldnelecaaDoorPart1
import Derived.ProofKit
import Derived.OpenShut
import Derived.ShutString
import Derived.ChangeOld
import Derived.SizedLaws
import Derived.Deep.Slices
import Derived.Deep.Fields
import Derived.Test.YtailooldnelecaaDoorRows
import Derived.Test.YtailooldnelecaaDoorPart2
import Derived.Deep.SlicePairs
import Derived.Test.YtailooldnelecaaDoorPart30
import Derived.Test.YtailooldnelecaaDoorPart39

namespace Go.Proofs.YtailooldnelecaaDoor
open Go.ChangeShapes Go.WideShapes Go.ChangeAt Go.RowKit

theorem u8_of_wf {z : Int} (h : (Lit.int .u8 z).wf = true) : ((UInt8.ofNat z.toNat).toNat : Int) = z := by
  have := Go.bounds_u8 h
  rw [UInt8.toNat_ofNat']
  omega

theorem open_bytes {H : Type} {enc : TypeId × Value → H} {P : Program} {W : World} {base : Nat} {spare : Nat → Bool} {held : Bool} {t e : TypeId} (ht : P.underlying t = some (.slice e)) (he : P.underlying e = some (.int .u8)) (hC : P.cellsOf e = 1) (hB : P.bytesOf e = 1)
    {ts : List TypeId} {ds : List (DataW H)} {j : Nat} {d : DataW H} (hsz : (DataW.weightsEach P ts ds).all (· ≤ reachBytes) = true) (htj : ts[j]? = some t) (hdj : ds[j]? = some d)
    {A : Option Addr} {n c : Nat} {p : List MemPlace} (h : DataW.Trod enc P W base spare held t (.slice A n c) d p) : ∃ l : List UInt8, RB W A n l ∧ n ≤ 140737488351232 := by
  obtain ⟨fuel, hf⟩ := h
  rcases open_ints ht he hC hf with ⟨hcs, _⟩ | ⟨x, l, c', zs, hcs, _, hl, hm, hz, hx, hcell, hwz⟩
  · simp [Value.cells] at hcs
    obtain ⟨rfl, rfl, rfl⟩ := hcs
    exact ⟨[], ⟨rfl, Rd.nil _ _⟩, by omega⟩
  · simp [Value.cells] at hcs
    obtain ⟨rfl, rfl, rfl⟩ := hcs
    simp only [Prod.mk.injEq] at hx
    obtain ⟨rfl, _⟩ := hx
    have hlen : n ≤ zs.length := by rw [hz]; split <;> omega
    refine ⟨(zs.take n).map fun z => UInt8.ofNat z.toNat, ⟨by simp; omega, ?_⟩, ?_⟩
    · intro k u hu
      refine ⟨x, rfl, ?_⟩
      simp only [List.map_map, List.getElem?_map, List.getElem?_take] at hu
      split at hu
      · rename_i hk
        rw [hcell k (by omega)]
        rw [List.getElem?_eq_getElem (by omega)] at hu
        simp only [Option.map_some, Option.some.injEq, Function.comp, byt] at hu
        rw [← hu, u8_of_wf (hwz _ (List.getElem_mem _)), List.getD_eq_getElem?_getD, List.getElem?_eq_getElem (by omega)]
        rfl
      · simp at hu
    · have := sized_slice hsz htj hdj ht
      rw [hB] at this
      simp only [Go.ChangeShapes.lits, List.length_map, List.length_take, List.length_drop, reachBytes] at this
      omega

theorem open_bytes2 {H : Type} {enc : TypeId × Value → H} {P : Program} {W : World} {base : Nat} {spare : Nat → Bool} {held : Bool} {t e : TypeId} (ht : P.underlying t = some (.slice e)) (he : P.underlying e = some (.int .u8)) (hC : P.cellsOf e = 1) (hB : P.bytesOf e = 1)
    {ts : List TypeId} {ds : List (DataW H)} {j : Nat} {d : DataW H} (hsz : (DataW.weightsEach P ts ds).all (· ≤ reachBytes) = true) (htj : ts[j]? = some t) (hdj : ds[j]? = some d)
    {A : Option Addr} {n c : Nat} {p : List MemPlace} (h : DataW.Trod enc P W base spare held t (.slice A n c) d p) : ∃ l : List UInt8, RB W A n l ∧ n ≤ 140737488351232 ∧ (n ≤ c ∧ c ≤ 9223372036854775807) := by
  have hc : n ≤ c ∧ c ≤ 9223372036854775807 := by
    obtain ⟨fuel, hf⟩ := h
    rcases open_ints ht he hC hf with ⟨hcs, _⟩ | ⟨x, l, c', zs, hcs, _, hl, hm, hz, hx, hcell, hwz⟩
    · simp [Value.cells] at hcs
      obtain ⟨rfl, rfl, rfl⟩ := hcs
      omega
    · simp [Value.cells] at hcs
      obtain ⟨rfl, rfl, rfl⟩ := hcs
      unfold maxLen at hm
      omega
  obtain ⟨l, h1, h2⟩ := open_bytes ht he hC hB hsz htj hdj h
  exact ⟨l, h1, h2, hc⟩
end Go.Proofs.YtailooldnelecaaDoor

namespace Go.Proofs.YtailooldnelecaaDoor
open Go.ChangeShapes Go.WideShapes Go.ChangeAt Go.RowKit

theorem bulk_one {H : Type} (d : DataW H) : 1 ≤ Rows.uptoBulk d := by
  cases d with
  | lit l => cases l <;> simp [Rows.uptoBulk]
  | _ => simp [Rows.uptoBulk]
theorem bulk_len {H : Type} (l : List (DataW H)) : l.length ≤ Rows.uptoBulkAll l := by
  induction l with
  | nil => simp [Rows.uptoBulkAll]
  | cons x r ih => have := bulk_one x; simp only [Rows.uptoBulkAll, List.length_cons]; omega

theorem open_bulk {H : Type} {enc : TypeId × Value → H} {P : Program} {W : World} {base : Nat} {spare : Nat → Bool} {held : Bool} {t e : TypeId} (ht : P.underlying t = some (.slice e)) (he : P.underlying e = some (.int .u8)) (hC : P.cellsOf e = 1)
    {d : DataW H} {A : Option Addr} {n c : Nat} {p : List MemPlace} (h : DataW.Trod enc P W base spare held t (.slice A n c) d p) : n ≤ Rows.uptoBulk d := by
  obtain ⟨fuel, hf⟩ := h
  rcases open_ints ht he hC hf with ⟨hcs, _⟩ | ⟨x, l, c', zs, hcs, _, hl, hm, hz, hx, hcell, hwz⟩
  · simp [Value.cells] at hcs
    obtain ⟨rfl, rfl, rfl⟩ := hcs
    exact Nat.zero_le _
  · simp [Value.cells] at hcs
    obtain ⟨rfl, rfl, rfl⟩ := hcs
    simp only [Prod.mk.injEq] at hx
    obtain ⟨rfl, _⟩ := hx
    have hlen : n ≤ zs.length := by rw [hz]; split <;> omega
    have := bulk_len (H := H) (Go.ChangeShapes.lits .u8 (zs.take n))
    simp only [Go.ChangeShapes.lits, List.length_map, List.length_take] at this
    simp only [Rows.uptoBulk, Go.ChangeShapes.lits]
    omega
end Go.Proofs.YtailooldnelecaaDoor

namespace Go.Proofs.YtailooldnelecaaDoor
open Go.ChangeShapes Go.WideShapes Go.ChangeAt Go.RowKit Go.Deep

theorem list_of {α : Type} (n : Nat) (p : Nat → α → Prop) (h : ∀ i, i < n → ∃ x, p i x) : ∃ l : List α, l.length = n ∧ ∀ i x, l[i]? = some x → p i x := by
  induction n with
  | zero => exact ⟨[], rfl, fun i x hx => by simp at hx⟩
  | succ n ih =>
    obtain ⟨l, hl, hp⟩ := ih fun i hi => h i (by omega)
    obtain ⟨x, hx⟩ := h n (by omega)
    refine ⟨l ++ [x], by simp [hl], fun i y hy => ?_⟩
    rcases Nat.lt_or_ge i l.length with hi | hi
    · rw [List.getElem?_append_left hi] at hy
      exact hp i y hy
    · rw [List.getElem?_append_right hi] at hy
      have : i - l.length = 0 := by
        rcases Nat.eq_zero_or_pos (i - l.length) with e | e
        · exact e
        · rw [List.getElem?_eq_none (by simp; omega)] at hy; cases hy
      rw [this] at hy
      obtain rfl := Option.some.inj hy
      rw [show i = n by omega]
      exact hx
theorem bulk_all_mem {H : Type} {d : DataW H} : ∀ {l : List (DataW H)}, d ∈ l → Rows.uptoBulk d ≤ Rows.uptoBulkAll l
  | x :: r, h => by
    simp only [Rows.uptoBulkAll]
    rcases List.mem_cons.1 h with rfl | h
    · omega
    · have := bulk_all_mem h; omega

section
variable {H : Type} {enc : TypeId × Value → H} {P : Program} {W : World} {base : Nat} {spare : Nat → Bool} {held : Bool}
theorem open_elems {α : Type} (E : El α) (Q : α → DataW H → Prop) {t e : TypeId} (ht : P.underlying t = some (.slice e)) (ce : P.cellsOf e = E.sz)
    (dec : ∀ n cs x, DataW.trod enc P W base spare held n e cs = some x → cs.length = P.cellsOf e → ∃ y, cs = E.cells y ∧ Q y x.1)
    {A : Option Addr} {n c : Nat} {d : DataW H} {p : List MemPlace} (h : DataW.Trod enc P W base spare held t (.slice A n c) d p) :
    ∃ l : List α, RE E W A n l ∧ n ≤ Rows.uptoBulk d ∧ (n ≤ c ∧ c ≤ 9223372036854775807) ∧ ∀ y ∈ l, ∃ dd, Q y dd ∧ Rows.uptoBulk dd ≤ Rows.uptoBulk d := by
  obtain ⟨fuel, hf⟩ := h
  rcases open_slice ht hf with ⟨hcs, _⟩ | ⟨a, len, cap, m, n', D, Pl, hcs, hb, hl, hm, hmm, hx, hel⟩
  · simp [Value.cells] at hcs
    obtain ⟨rfl, rfl, rfl⟩ := hcs
    exact ⟨[], RE.nil _ _, Nat.zero_le _, by omega, fun y hy => by cases hy⟩
  · simp [Value.cells] at hcs
    obtain ⟨rfl, rfl, rfl⟩ := hcs
    simp only [Prod.mk.injEq] at hx
    obtain ⟨rfl, _⟩ := hx
    have hlm : n ≤ m := by rw [hmm]; split <;> omega
    have key : ∀ i, i < n → ∃ y, (∀ j u, (E.cells y)[j]? = some u → W.cell? (a.add (i * E.sz + j)) = some u) ∧ Q y (D i) := fun i hi => by
      obtain ⟨cs', h1, h2⟩ := hel i (by omega)
      obtain ⟨_, hlen, hcell⟩ := World.cells?_some h1
      obtain ⟨y, rfl, hq⟩ := dec _ _ _ h2 hlen
      refine ⟨y, fun j u hu => ?_, hq⟩
      have hj : j < (E.cells y).length := (List.getElem?_eq_some_iff.1 hu).1
      have h3 := hcell j (by rw [← hlen]; exact hj)
      rw [add_add, ce] at h3
      rw [h3]
      exact hu
    obtain ⟨l, hll, hlp⟩ := list_of n _ key
    refine ⟨l, ⟨hll, fun k u hu => ⟨a, rfl, ?_⟩⟩, ?_, by unfold maxLen at hm; omega, fun y hy => ?_⟩
    · have hk := (List.getElem?_eq_some_iff.1 hu).1
      rw [El.flat_length, hll] at hk
      have hs : 0 < E.sz := by
        rcases Nat.eq_zero_or_pos E.sz with e0 | e0
        · rw [e0] at hk; omega
        · exact e0
      obtain ⟨i, j, rfl, hj⟩ : ∃ i j, k = i * E.sz + j ∧ j < E.sz := ⟨k / E.sz, k % E.sz, by rw [Nat.mul_comm]; exact (Nat.div_add_mod k E.sz).symm, Nat.mod_lt _ hs⟩
      have hi : i < n := by
        rcases Nat.lt_or_ge i n with h1 | h1
        · exact h1
        · have := Nat.mul_le_mul_right E.sz h1; omega
      have hx : l[i]? = some l[i] := List.getElem?_eq_getElem (by omega)
      rw [E.flat_get l hx hj] at hu
      exact (hlp i _ hx).1 j u hu
    · have := bulk_len (H := H) ((List.range n).map D)
      simp only [List.length_map, List.length_range] at this
      simp only [Rows.uptoBulk]
      omega
    · obtain ⟨i, hi⟩ := List.mem_iff_getElem?.1 hy
      have hin : i < n := by have := (List.getElem?_eq_some_iff.1 hi).1; omega
      refine ⟨D i, (hlp i y hi).2, ?_⟩
      have : D i ∈ (List.range n).map D := List.mem_map.2 ⟨i, List.mem_range.2 hin, rfl⟩
      have := bulk_all_mem this
      simp only [Rows.uptoBulk]
      omega
end
end Go.Proofs.YtailooldnelecaaDoor

namespace Go.Proofs.YtailooldnelecaaDoor
open Go.ChangeShapes Go.WideShapes Go.ChangeAt Go.RowKit Go.Deep

section
variable {H : Type} {enc : TypeId × Value → H} {W : World} {base : Nat} {spare : Nat → Bool} {held : Bool}
theorem cells9 : Tryd.prog.cellsOf 9 = 1 := by kernel_rfl
theorem cells3 : Tryd.prog.cellsOf 3 = 1 := by kernel_rfl
theorem str_len (s : ByteArray) : s.data.toList.length = s.size := by rw [Array.length_toList]; rfl

set_option maxRecDepth 100000 in
theorem dec_label (n : Nat) (cs : List Value) (x : DataW H × List MemPlace) (h : DataW.trod enc Tryd.prog W base spare held n 53 cs = some x) (hl : cs.length = Tryd.prog.cellsOf 53) :
    ∃ y, cs = elLb.cells y ∧ (y.1.size ≤ Rows.uptoBulk x.1 ∧ y.2.size ≤ Rows.uptoBulk x.1) := by
  obtain ⟨xs, k, _, rfl, _, hxl, hf⟩ := DataW.trod_struct Tryd.underlying53 h
  have hl2 : cs.length = 2 := hl.trans (by kernel_rfl)
  match xs, hxl, cs, hl2 with
  | [y0, y1], _, [v0, v1], _ =>
    have g0' : DataW.trod enc Tryd.prog W base spare held k 9 (([v0, v1].drop 0).take (Tryd.prog.cellsOf 9)) = some y0 := hf 0 _ rfl
    rw [cells9] at g0'
    have g0 : DataW.trod enc Tryd.prog W base spare held k 9 [v0] = some y0 := g0'
    have g1' : DataW.trod enc Tryd.prog W base spare held k 9 (([v0, v1].drop 1).take (Tryd.prog.cellsOf 9)) = some y1 := hf 1 _ rfl
    rw [cells9] at g1'
    have g1 : DataW.trod enc Tryd.prog W base spare held k 9 [v1] = some y1 := g1'
    obtain ⟨s0, e0, d0, _⟩ := DataW.trod_string Tryd.underlying9 g0
    obtain ⟨s1, e1, d1, _⟩ := DataW.trod_string Tryd.underlying9 g1
    obtain rfl := (List.cons.inj e0).1
    obtain rfl := (List.cons.inj e1).1
    subst d0; subst d1
    refine ⟨(s0, s1), rfl, ?_⟩
    simp only [List.map_cons, List.map_nil, Rows.uptoBulk, Rows.uptoBulkAll, str_len]
    omega
set_option maxRecDepth 100000 in
theorem dec_matcher (n : Nat) (cs : List Value) (x : DataW H × List MemPlace) (h : DataW.trod enc Tryd.prog W base spare held n 81 cs = some x) (hl : cs.length = Tryd.prog.cellsOf 81) :
    ∃ y, cs = elMa.cells y ∧ (y.2.2.size ≤ Rows.uptoBulk x.1 ∧ (Lit.int .i64 y.1).wf = true) := by
  obtain ⟨xs, k, _, rfl, _, hxl, hf⟩ := DataW.trod_struct Tryd.underlying81 h
  have hl2 : cs.length = 3 := hl.trans (by kernel_rfl)
  match xs, hxl, cs, hl2 with
  | [y0, y1, y2], _, [v0, v1, v2], _ =>
    have g0' : DataW.trod enc Tryd.prog W base spare held k 3 (([v0, v1, v2].drop 0).take (Tryd.prog.cellsOf 3)) = some y0 := hf 0 _ rfl
    rw [cells3] at g0'
    have g0 : DataW.trod enc Tryd.prog W base spare held k 3 [v0] = some y0 := g0'
    have g1' : DataW.trod enc Tryd.prog W base spare held k 9 (([v0, v1, v2].drop 1).take (Tryd.prog.cellsOf 9)) = some y1 := hf 1 _ rfl
    rw [cells9] at g1'
    have g1 : DataW.trod enc Tryd.prog W base spare held k 9 [v1] = some y1 := g1'
    have g2' : DataW.trod enc Tryd.prog W base spare held k 9 (([v0, v1, v2].drop 2).take (Tryd.prog.cellsOf 9)) = some y2 := hf 2 _ rfl
    rw [cells9] at g2'
    have g2 : DataW.trod enc Tryd.prog W base spare held k 9 [v2] = some y2 := g2'
    obtain ⟨z, e0, d0, hz⟩ := DataW.trod_int Tryd.underlying3 g0
    obtain ⟨s1, e1, d1, _⟩ := DataW.trod_string Tryd.underlying9 g1
    obtain ⟨s2, e2, d2, _⟩ := DataW.trod_string Tryd.underlying9 g2
    obtain rfl := (List.cons.inj e0).1
    obtain rfl := (List.cons.inj e1).1
    obtain rfl := (List.cons.inj e2).1
    subst d0; subst d1; subst d2
    refine ⟨(z, s1, s2), rfl, ?_, hz⟩
    simp only [List.map_cons, List.map_nil, Rows.uptoBulk, Rows.uptoBulkAll, str_len]
    omega
set_option maxRecDepth 100000 in
theorem open_labels {A : Option Addr} {n c : Nat} {d : DataW H} {p : List MemPlace} (h : DataW.Trod enc Tryd.prog W base spare held 26 (.slice A n c) d p) :
    ∃ l : List (ByteArray × ByteArray), RE elLb W A n l ∧ n ≤ Rows.uptoBulk d ∧ (n ≤ c ∧ c ≤ 9223372036854775807) ∧ ∀ x ∈ l, x.2.size ≤ Rows.uptoBulk d := by
  obtain ⟨l, h1, h2, h3, h4⟩ := open_elems elLb (fun y dd => y.1.size ≤ Rows.uptoBulk dd ∧ y.2.size ≤ Rows.uptoBulk dd) Tryd.underlying26 (by kernel_rfl) dec_label h
  exact ⟨l, h1, h2, h3, fun x hx => by obtain ⟨dd, h5, h6⟩ := h4 x hx; omega⟩
set_option maxRecDepth 100000 in
theorem open_matchers {A : Option Addr} {n c : Nat} {d : DataW H} {p : List MemPlace} (h : DataW.Trod enc Tryd.prog W base spare held 46 (.slice A n c) d p) :
    ∃ l : List Mat, RE elMa W A n l ∧ n ≤ Rows.uptoBulk d ∧ (n ≤ c ∧ c ≤ 9223372036854775807) ∧ ∀ x ∈ l, x.2.2.size ≤ Rows.uptoBulk d := by
  obtain ⟨l, h1, h2, h3, h4⟩ := open_elems elMa (fun y dd => y.2.2.size ≤ Rows.uptoBulk dd ∧ (Lit.int .i64 y.1).wf = true) Tryd.underlying46 (by kernel_rfl) dec_matcher h
  exact ⟨l, h1, h2, h3, fun x hx => by obtain ⟨dd, ⟨h5, _⟩, h6⟩ := h4 x hx; omega⟩
end
end Go.Proofs.YtailooldnelecaaDoor

namespace Go.Proofs.YtailooldnelecaaDoor
open Go.ChangeShapes Go.WideShapes Go.ChangeAt Go.RowKit Go.Deep

section
variable {H : Type} {enc : TypeId × Value → H} {P : Program} {W : World} {base : Nat} {spare : Nat → Bool} {held : Bool}
theorem cells_i64 : Tryd.prog.cellsOf 2 = 1 := by kernel_rfl
theorem cells_u64 : Tryd.prog.cellsOf 27 = 1 := by kernel_rfl
theorem cells_ls : Tryd.prog.cellsOf 26 = 1 := by kernel_rfl
theorem slice_of {t e : TypeId} (ht : Tryd.prog.underlying t = some (.slice e)) {k : Nat} {v : Value} {y : DataW H × List MemPlace} (h : DataW.trod enc Tryd.prog W base spare held k t [v] = some y) : ∃ A n c, v = .slice A n c := by
  rcases open_slice ht h with ⟨hcs, _⟩ | ⟨a, len, cap, m, n', D, Pl, hcs, _⟩
  · exact ⟨none, 0, 0, (List.cons.inj hcs).1⟩
  · exact ⟨some a, len, cap, (List.cons.inj hcs).1⟩
def SmpQ (W : World) (m : SmpM) (d : DataW H) : Prop := ∃ s : Smp, SmIs W m s ∧ s.lbs.length ≤ Rows.uptoBulk d ∧ ∀ y ∈ s.lbs, y.2.size ≤ Rows.uptoBulk d
set_option maxRecDepth 100000 in
theorem dec_sample (n : Nat) (cs : List Value) (x : DataW H × List MemPlace) (h : DataW.trod enc Tryd.prog W base spare held n 29 cs = some x) (hl : cs.length = Tryd.prog.cellsOf 29) : ∃ y, cs = elSa.cells y ∧ SmpQ W y x.1 := by
  obtain ⟨xs, k, _, rfl, _, hxl, hf⟩ := DataW.trod_struct Tryd.underlying29 h
  have hl2 : cs.length = 3 := hl.trans (by kernel_rfl)
  match xs, hxl, cs, hl2 with
  | [y0, y1, y2], _, [v0, v1, v2], _ =>
    have g0' : DataW.trod enc Tryd.prog W base spare held k 26 (([v0, v1, v2].drop 0).take (Tryd.prog.cellsOf 26)) = some y0 := hf 0 _ rfl
    rw [cells_ls] at g0'
    have g0 : DataW.trod enc Tryd.prog W base spare held k 26 [v0] = some y0 := g0'
    have g1' : DataW.trod enc Tryd.prog W base spare held k 2 (([v0, v1, v2].drop 1).take (Tryd.prog.cellsOf 2)) = some y1 := hf 1 _ rfl
    rw [cells_i64] at g1'
    have g1 : DataW.trod enc Tryd.prog W base spare held k 2 [v1] = some y1 := g1'
    have g2' : DataW.trod enc Tryd.prog W base spare held k 27 (([v0, v1, v2].drop 2).take (Tryd.prog.cellsOf 27)) = some y2 := hf 2 _ rfl
    rw [cells_u64] at g2'
    have g2 : DataW.trod enc Tryd.prog W base spare held k 27 [v2] = some y2 := g2'
    obtain ⟨A, m, c, rfl⟩ := slice_of Tryd.underlying26 g0
    obtain ⟨z, e1, d1, hz⟩ := DataW.trod_int Tryd.underlying2 g1
    obtain ⟨y, e2, d2, hy⟩ := DataW.trod_int Tryd.underlying27 g2
    obtain rfl := (List.cons.inj e1).1
    obtain rfl := (List.cons.inj e2).1
    have b1 := Go.bounds_i64 hz
    have b2 := Go.bounds_u64 hy
    obtain ⟨l, r1, r2, r3, r4⟩ := open_labels (enc := enc) (W := W) (base := base) (spare := spare) (held := held) (A := A) (n := m) (c := c) (d := y0.1) (p := y0.2) ⟨k, g0⟩
    refine ⟨⟨A, m, c, z, y.toNat⟩, ?_, ⟨l, z, y.toNat⟩, ⟨r1, r3, rfl, rfl, by dsimp only; omega, by dsimp only; omega⟩, ?_, fun y' hy' => ?_⟩
    · show [Value.slice A m c, Value.int .i64 z, Value.int .u64 y] = [Value.slice A m c, Value.int .i64 z, Value.int .u64 (y.toNat : Int)]
      rw [Int.toNat_of_nonneg (by omega)]
    · have := r1.1
      simp only [List.map_cons, List.map_nil, Rows.uptoBulk, Rows.uptoBulkAll]
      omega
    · have := r4 y' hy'
      simp only [List.map_cons, List.map_nil, Rows.uptoBulk, Rows.uptoBulkAll]
      omega
set_option maxRecDepth 100000 in
theorem dec_matcher2 (n : Nat) (cs : List Value) (x : DataW H × List MemPlace) (h : DataW.trod enc Tryd.prog W base spare held n 81 cs = some x) (hl : cs.length = Tryd.prog.cellsOf 81) :
    ∃ y, cs = elMa.cells y ∧ (y.2.1.size ≤ Rows.uptoBulk x.1 ∧ y.2.2.size ≤ Rows.uptoBulk x.1) := by
  obtain ⟨xs, k, _, rfl, _, hxl, hf⟩ := DataW.trod_struct Tryd.underlying81 h
  have hl2 : cs.length = 3 := hl.trans (by kernel_rfl)
  match xs, hxl, cs, hl2 with
  | [y0, y1, y2], _, [v0, v1, v2], _ =>
    have g0' : DataW.trod enc Tryd.prog W base spare held k 3 (([v0, v1, v2].drop 0).take (Tryd.prog.cellsOf 3)) = some y0 := hf 0 _ rfl
    rw [cells3] at g0'
    have g0 : DataW.trod enc Tryd.prog W base spare held k 3 [v0] = some y0 := g0'
    have g1' : DataW.trod enc Tryd.prog W base spare held k 9 (([v0, v1, v2].drop 1).take (Tryd.prog.cellsOf 9)) = some y1 := hf 1 _ rfl
    rw [cells9] at g1'
    have g1 : DataW.trod enc Tryd.prog W base spare held k 9 [v1] = some y1 := g1'
    have g2' : DataW.trod enc Tryd.prog W base spare held k 9 (([v0, v1, v2].drop 2).take (Tryd.prog.cellsOf 9)) = some y2 := hf 2 _ rfl
    rw [cells9] at g2'
    have g2 : DataW.trod enc Tryd.prog W base spare held k 9 [v2] = some y2 := g2'
    obtain ⟨z, e0, d0, hz⟩ := DataW.trod_int Tryd.underlying3 g0
    obtain ⟨s1, e1, d1, _⟩ := DataW.trod_string Tryd.underlying9 g1
    obtain ⟨s2, e2, d2, _⟩ := DataW.trod_string Tryd.underlying9 g2
    obtain rfl := (List.cons.inj e0).1
    obtain rfl := (List.cons.inj e1).1
    obtain rfl := (List.cons.inj e2).1
    subst d0; subst d1; subst d2
    refine ⟨(z, s1, s2), rfl, ?_⟩
    simp only [List.map_cons, List.map_nil, Rows.uptoBulk, Rows.uptoBulkAll, str_len]
    omega
set_option maxRecDepth 100000 in
theorem open_matchers2 {A : Option Addr} {n c : Nat} {d : DataW H} {p : List MemPlace} (h : DataW.Trod enc Tryd.prog W base spare held 46 (.slice A n c) d p) :
    ∃ l : List Mat, RE elMa W A n l ∧ n ≤ Rows.uptoBulk d ∧ (n ≤ c ∧ c ≤ 9223372036854775807) ∧ ∀ x ∈ l, x.2.1.size ≤ Rows.uptoBulk d ∧ x.2.2.size ≤ Rows.uptoBulk d := by
  obtain ⟨l, h1, h2, h3, h4⟩ := open_elems elMa (fun y dd => y.2.1.size ≤ Rows.uptoBulk dd ∧ y.2.2.size ≤ Rows.uptoBulk dd) Tryd.underlying46 (by kernel_rfl) dec_matcher2 h
  exact ⟨l, h1, h2, h3, fun x hx => by obtain ⟨dd, h5, h6⟩ := h4 x hx; omega⟩
/-- of as many in one list as in another one, each with its own -/
theorem each_of {α β : Type} {p : α → β → Prop} : ∀ (l : List α), (∀ x ∈ l, ∃ y, p x y) → ∃ r : List β, l.length = r.length ∧ ∀ (i : Nat) x y, l[i]? = some x → r[i]? = some y → p x y
  | [], _ => ⟨[], rfl, fun i x y h => by simp at h⟩
  | a :: l, h => by
    obtain ⟨b, hb⟩ := h a List.mem_cons_self
    obtain ⟨r, h1, h2⟩ := each_of l fun x hx => h x (List.mem_cons_of_mem _ hx)
    refine ⟨b :: r, by simp [h1], fun i x y hx hy => ?_⟩
    cases i with
    | zero =>
      obtain rfl := Option.some.inj hx
      obtain rfl := Option.some.inj hy
      exact hb
    | succ i => exact h2 i x y (by simpa using hx) (by simpa using hy)
set_option maxRecDepth 100000 in
theorem open_samples {A : Option Addr} {n c : Nat} {d : DataW H} {p : List MemPlace} (h : DataW.Trod enc Tryd.prog W base spare held 22 (.slice A n c) d p) :
    ∃ ss : List Smp, RSa W A n ss ∧ n ≤ Rows.uptoBulk d ∧ (n ≤ c ∧ c ≤ 9223372036854775807) := by
  obtain ⟨l, h1, h2, h3, h4⟩ := open_elems elSa (SmpQ W) Tryd.underlying22 (by kernel_rfl) dec_sample h
  obtain ⟨ss, h5, h6⟩ := each_of (p := SmIs W) l fun x hx => by
    obtain ⟨dd, ⟨s, h7, _⟩, _⟩ := h4 x hx
    exact ⟨s, h7⟩
  exact ⟨ss, ⟨l, h1, h5, h6⟩, h2, h3⟩
end
end Go.Proofs.YtailooldnelecaaDoor
