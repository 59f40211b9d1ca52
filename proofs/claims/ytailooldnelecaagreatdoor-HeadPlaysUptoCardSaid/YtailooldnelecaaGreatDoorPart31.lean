/-
  Several texts in one:
  Arguments that came in, opened: slices whose elements take some cells each. Conditions: none.
  Arguments that came in, opened: labels and matchers. Conditions: none.
  Arguments that came in, opened: lists of samples. Conditions: none.
  The document's form of a label's name. Conditions: none.
-/
import Derived.Test.YtailooldnelecaaGreatDoorPart30
import Derived.Test.YtailooldnelecaaGreatDoorPart2
import Derived.Deep.SlicePairs
import Derived.Test.YtailooldnelecaaGreatDoorPart22
import Derived.Test.YtailooldnelecaaGreatDoorPart29
import Derived.Test.YtailooldnelecaaGreatDoorPart11

namespace Go.Proofs.YtailooldnelecaaGreatDoor
open Go.ChangeShapes Go.WideShapes Go.ChangeAt Go.RowKit Go.Deep

theorem list_of {α : Type} (n : Nat) (p : Nat → α → Prop) (h : ∀ i, i < n → ∃ x, p i x) : ∃ l : List α, l.length = n ∧ ∀ i x, l[i]? = some x → p i x := by
  induction n with
  | zero => exact ⟨[], rfl, fun i x hx => by simp at hx⟩
  | succ n ih =>
    obtain ⟨l, hl, hp⟩ := ih fun i hi => h i (by omega)
    obtain ⟨x, hx⟩ := h n (by omega)
    refine ⟨l ++ [x], by simp [hl], fun i y hy => ?_⟩
    rcases Nat.lt_or_ge i l.length with hi | hi
    · rw [List.getElem?_append_left hi] at hy
      exact hp i y hy
    · rw [List.getElem?_append_right hi] at hy
      have : i - l.length = 0 := by
        rcases Nat.eq_zero_or_pos (i - l.length) with e | e
        · exact e
        · rw [List.getElem?_eq_none (by simp; omega)] at hy; cases hy
      rw [this] at hy
      obtain rfl := Option.some.inj hy
      rw [show i = n by omega]
      exact hx
theorem bulk_all_mem {H : Type} {d : DataW H} : ∀ {l : List (DataW H)}, d ∈ l → Rows.uptoBulk d ≤ Rows.uptoBulkAll l
  | x :: r, h => by
    simp only [Rows.uptoBulkAll]
    rcases List.mem_cons.1 h with rfl | h
    · omega
    · have := bulk_all_mem h; omega

section
variable {H : Type} {enc : TypeId × Value → H} {P : Program} {W : World} {base : Nat} {spare : Nat → Bool} {held : Bool}
theorem open_elems {α : Type} (E : El α) (Q : α → DataW H → Prop) {t e : TypeId} (ht : P.underlying t = some (.slice e)) (ce : P.cellsOf e = E.sz)
    (dec : ∀ n cs x, DataW.trod enc P W base spare held n e cs = some x → cs.length = P.cellsOf e → ∃ y, cs = E.cells y ∧ Q y x.1)
    {A : Option Addr} {n c : Nat} {d : DataW H} {p : List MemPlace} (h : DataW.Trod enc P W base spare held t (.slice A n c) d p) :
    ∃ l : List α, RE E W A n l ∧ n ≤ Rows.uptoBulk d ∧ (n ≤ c ∧ c ≤ 9223372036854775807) ∧ ∀ y ∈ l, ∃ dd, Q y dd ∧ Rows.uptoBulk dd ≤ Rows.uptoBulk d := by
  obtain ⟨fuel, hf⟩ := h
  rcases open_slice ht hf with ⟨hcs, _⟩ | ⟨a, len, cap, m, n', D, Pl, hcs, hb, hl, hm, hmm, hx, hel⟩
  · simp [Value.cells] at hcs
    obtain ⟨rfl, rfl, rfl⟩ := hcs
    exact ⟨[], RE.nil _ _, Nat.zero_le _, by omega, fun y hy => by cases hy⟩
  · simp [Value.cells] at hcs
    obtain ⟨rfl, rfl, rfl⟩ := hcs
    simp only [Prod.mk.injEq] at hx
    obtain ⟨rfl, _⟩ := hx
    have hlm : n ≤ m := by rw [hmm]; split <;> omega
    have key : ∀ i, i < n → ∃ y, (∀ j u, (E.cells y)[j]? = some u → W.cell? (a.add (i * E.sz + j)) = some u) ∧ Q y (D i) := fun i hi => by
      obtain ⟨cs', h1, h2⟩ := hel i (by omega)
      obtain ⟨_, hlen, hcell⟩ := World.cells?_some h1
      obtain ⟨y, rfl, hq⟩ := dec _ _ _ h2 hlen
      refine ⟨y, fun j u hu => ?_, hq⟩
      have hj : j < (E.cells y).length := (List.getElem?_eq_some_iff.1 hu).1
      have h3 := hcell j (by rw [← hlen]; exact hj)
      rw [add_add, ce] at h3
      rw [h3]
      exact hu
    obtain ⟨l, hll, hlp⟩ := list_of n _ key
    refine ⟨l, ⟨hll, fun k u hu => ⟨a, rfl, ?_⟩⟩, ?_, by unfold maxLen at hm; omega, fun y hy => ?_⟩
    · have hk := (List.getElem?_eq_some_iff.1 hu).1
      rw [El.flat_length, hll] at hk
      have hs : 0 < E.sz := by
        rcases Nat.eq_zero_or_pos E.sz with e0 | e0
        · rw [e0] at hk; omega
        · exact e0
      obtain ⟨i, j, rfl, hj⟩ : ∃ i j, k = i * E.sz + j ∧ j < E.sz := ⟨k / E.sz, k % E.sz, by rw [Nat.mul_comm]; exact (Nat.div_add_mod k E.sz).symm, Nat.mod_lt _ hs⟩
      have hi : i < n := by
        rcases Nat.lt_or_ge i n with h1 | h1
        · exact h1
        · have := Nat.mul_le_mul_right E.sz h1; omega
      have hx : l[i]? = some l[i] := List.getElem?_eq_getElem (by omega)
      rw [E.flat_get l hx hj] at hu
      exact (hlp i _ hx).1 j u hu
    · have := bulk_len (H := H) ((List.range n).map D)
      simp only [List.length_map, List.length_range] at this
      simp only [Rows.uptoBulk]
      omega
    · obtain ⟨i, hi⟩ := List.mem_iff_getElem?.1 hy
      have hin : i < n := by have := (List.getElem?_eq_some_iff.1 hi).1; omega
      refine ⟨D i, (hlp i y hi).2, ?_⟩
      have : D i ∈ (List.range n).map D := List.mem_map.2 ⟨i, List.mem_range.2 hin, rfl⟩
      have := bulk_all_mem this
      simp only [Rows.uptoBulk]
      omega
end
end Go.Proofs.YtailooldnelecaaGreatDoor

namespace Go.Proofs.YtailooldnelecaaGreatDoor
open Go.ChangeShapes Go.WideShapes Go.ChangeAt Go.RowKit Go.Deep

section
variable {H : Type} {enc : TypeId × Value → H} {W : World} {base : Nat} {spare : Nat → Bool} {held : Bool}
theorem cells9 : Tryz.prog.cellsOf 9 = 1 := by kernel_rfl
theorem cells3 : Tryz.prog.cellsOf 3 = 1 := by kernel_rfl
theorem str_len (s : ByteArray) : s.data.toList.length = s.size := by rw [Array.length_toList]; rfl

set_option maxRecDepth 100000 in
theorem dec_label (n : Nat) (cs : List Value) (x : DataW H × List MemPlace) (h : DataW.trod enc Tryz.prog W base spare held n 72 cs = some x) (hl : cs.length = Tryz.prog.cellsOf 72) :
    ∃ y, cs = elLb.cells y ∧ (y.1.size ≤ Rows.uptoBulk x.1 ∧ y.2.size ≤ Rows.uptoBulk x.1) := by
  obtain ⟨xs, k, _, rfl, _, hxl, hf⟩ := DataW.trod_struct Tryz.underlying72 h
  have hl2 : cs.length = 2 := hl.trans (by kernel_rfl)
  match xs, hxl, cs, hl2 with
  | [y0, y1], _, [v0, v1], _ =>
    have g0' : DataW.trod enc Tryz.prog W base spare held k 9 (([v0, v1].drop 0).take (Tryz.prog.cellsOf 9)) = some y0 := hf 0 _ rfl
    rw [cells9] at g0'
    have g0 : DataW.trod enc Tryz.prog W base spare held k 9 [v0] = some y0 := g0'
    have g1' : DataW.trod enc Tryz.prog W base spare held k 9 (([v0, v1].drop 1).take (Tryz.prog.cellsOf 9)) = some y1 := hf 1 _ rfl
    rw [cells9] at g1'
    have g1 : DataW.trod enc Tryz.prog W base spare held k 9 [v1] = some y1 := g1'
    obtain ⟨s0, e0, d0, _⟩ := DataW.trod_string Tryz.underlying9 g0
    obtain ⟨s1, e1, d1, _⟩ := DataW.trod_string Tryz.underlying9 g1
    obtain rfl := (List.cons.inj e0).1
    obtain rfl := (List.cons.inj e1).1
    subst d0; subst d1
    refine ⟨(s0, s1), rfl, ?_⟩
    simp only [List.map_cons, List.map_nil, Rows.uptoBulk, Rows.uptoBulkAll, str_len]
    omega
set_option maxRecDepth 100000 in
theorem dec_matcher (n : Nat) (cs : List Value) (x : DataW H × List MemPlace) (h : DataW.trod enc Tryz.prog W base spare held n 82 cs = some x) (hl : cs.length = Tryz.prog.cellsOf 82) :
    ∃ y, cs = elMa.cells y ∧ (y.2.2.size ≤ Rows.uptoBulk x.1 ∧ (Lit.int .i64 y.1).wf = true) := by
  obtain ⟨xs, k, _, rfl, _, hxl, hf⟩ := DataW.trod_struct Tryz.underlying82 h
  have hl2 : cs.length = 3 := hl.trans (by kernel_rfl)
  match xs, hxl, cs, hl2 with
  | [y0, y1, y2], _, [v0, v1, v2], _ =>
    have g0' : DataW.trod enc Tryz.prog W base spare held k 3 (([v0, v1, v2].drop 0).take (Tryz.prog.cellsOf 3)) = some y0 := hf 0 _ rfl
    rw [cells3] at g0'
    have g0 : DataW.trod enc Tryz.prog W base spare held k 3 [v0] = some y0 := g0'
    have g1' : DataW.trod enc Tryz.prog W base spare held k 9 (([v0, v1, v2].drop 1).take (Tryz.prog.cellsOf 9)) = some y1 := hf 1 _ rfl
    rw [cells9] at g1'
    have g1 : DataW.trod enc Tryz.prog W base spare held k 9 [v1] = some y1 := g1'
    have g2' : DataW.trod enc Tryz.prog W base spare held k 9 (([v0, v1, v2].drop 2).take (Tryz.prog.cellsOf 9)) = some y2 := hf 2 _ rfl
    rw [cells9] at g2'
    have g2 : DataW.trod enc Tryz.prog W base spare held k 9 [v2] = some y2 := g2'
    obtain ⟨z, e0, d0, hz⟩ := DataW.trod_int Tryz.underlying3 g0
    obtain ⟨s1, e1, d1, _⟩ := DataW.trod_string Tryz.underlying9 g1
    obtain ⟨s2, e2, d2, _⟩ := DataW.trod_string Tryz.underlying9 g2
    obtain rfl := (List.cons.inj e0).1
    obtain rfl := (List.cons.inj e1).1
    obtain rfl := (List.cons.inj e2).1
    subst d0; subst d1; subst d2
    refine ⟨(z, s1, s2), rfl, ?_, hz⟩
    simp only [List.map_cons, List.map_nil, Rows.uptoBulk, Rows.uptoBulkAll, str_len]
    omega
set_option maxRecDepth 100000 in
theorem open_labels {A : Option Addr} {n c : Nat} {d : DataW H} {p : List MemPlace} (h : DataW.Trod enc Tryz.prog W base spare held 28 (.slice A n c) d p) :
    ∃ l : List (ByteArray × ByteArray), RE elLb W A n l ∧ n ≤ Rows.uptoBulk d ∧ (n ≤ c ∧ c ≤ 9223372036854775807) ∧ ∀ x ∈ l, x.2.size ≤ Rows.uptoBulk d := by
  obtain ⟨l, h1, h2, h3, h4⟩ := open_elems elLb (fun y dd => y.1.size ≤ Rows.uptoBulk dd ∧ y.2.size ≤ Rows.uptoBulk dd) Tryz.underlying28 (by kernel_rfl) dec_label h
  exact ⟨l, h1, h2, h3, fun x hx => by obtain ⟨dd, h5, h6⟩ := h4 x hx; omega⟩
set_option maxRecDepth 100000 in
theorem open_matchers {A : Option Addr} {n c : Nat} {d : DataW H} {p : List MemPlace} (h : DataW.Trod enc Tryz.prog W base spare held 32 (.slice A n c) d p) :
    ∃ l : List Mat, RE elMa W A n l ∧ n ≤ Rows.uptoBulk d ∧ (n ≤ c ∧ c ≤ 9223372036854775807) ∧ ∀ x ∈ l, x.2.2.size ≤ Rows.uptoBulk d := by
  obtain ⟨l, h1, h2, h3, h4⟩ := open_elems elMa (fun y dd => y.2.2.size ≤ Rows.uptoBulk dd ∧ (Lit.int .i64 y.1).wf = true) Tryz.underlying32 (by kernel_rfl) dec_matcher h
  exact ⟨l, h1, h2, h3, fun x hx => by obtain ⟨dd, ⟨h5, _⟩, h6⟩ := h4 x hx; omega⟩
end
end Go.Proofs.YtailooldnelecaaGreatDoor

namespace Go.Proofs.YtailooldnelecaaGreatDoor
open Go.ChangeShapes Go.WideShapes Go.ChangeAt Go.RowKit Go.Deep

section
variable {H : Type} {enc : TypeId × Value → H} {P : Program} {W : World} {base : Nat} {spare : Nat → Bool} {held : Bool}
theorem cells_i64 : Tryz.prog.cellsOf 2 = 1 := by kernel_rfl
theorem cells_u64 : Tryz.prog.cellsOf 29 = 1 := by kernel_rfl
theorem cells_ls : Tryz.prog.cellsOf 28 = 1 := by kernel_rfl
theorem slice_of {t e : TypeId} (ht : Tryz.prog.underlying t = some (.slice e)) {k : Nat} {v : Value} {y : DataW H × List MemPlace} (h : DataW.trod enc Tryz.prog W base spare held k t [v] = some y) : ∃ A n c, v = .slice A n c := by
  rcases open_slice ht h with ⟨hcs, _⟩ | ⟨a, len, cap, m, n', D, Pl, hcs, _⟩
  · exact ⟨none, 0, 0, (List.cons.inj hcs).1⟩
  · exact ⟨some a, len, cap, (List.cons.inj hcs).1⟩
def SmpQ (W : World) (m : SmpM) (d : DataW H) : Prop := ∃ s : Smp, SmIs W m s ∧ s.lbs.length ≤ Rows.uptoBulk d ∧ ∀ y ∈ s.lbs, y.2.size ≤ Rows.uptoBulk d
set_option maxRecDepth 100000 in
theorem dec_sample (n : Nat) (cs : List Value) (x : DataW H × List MemPlace) (h : DataW.trod enc Tryz.prog W base spare held n 31 cs = some x) (hl : cs.length = Tryz.prog.cellsOf 31) : ∃ y, cs = elSa.cells y ∧ SmpQ W y x.1 := by
  obtain ⟨xs, k, _, rfl, _, hxl, hf⟩ := DataW.trod_struct Tryz.underlying31 h
  have hl2 : cs.length = 3 := hl.trans (by kernel_rfl)
  match xs, hxl, cs, hl2 with
  | [y0, y1, y2], _, [v0, v1, v2], _ =>
    have g0' : DataW.trod enc Tryz.prog W base spare held k 28 (([v0, v1, v2].drop 0).take (Tryz.prog.cellsOf 28)) = some y0 := hf 0 _ rfl
    rw [cells_ls] at g0'
    have g0 : DataW.trod enc Tryz.prog W base spare held k 28 [v0] = some y0 := g0'
    have g1' : DataW.trod enc Tryz.prog W base spare held k 2 (([v0, v1, v2].drop 1).take (Tryz.prog.cellsOf 2)) = some y1 := hf 1 _ rfl
    rw [cells_i64] at g1'
    have g1 : DataW.trod enc Tryz.prog W base spare held k 2 [v1] = some y1 := g1'
    have g2' : DataW.trod enc Tryz.prog W base spare held k 29 (([v0, v1, v2].drop 2).take (Tryz.prog.cellsOf 29)) = some y2 := hf 2 _ rfl
    rw [cells_u64] at g2'
    have g2 : DataW.trod enc Tryz.prog W base spare held k 29 [v2] = some y2 := g2'
    obtain ⟨A, m, c, rfl⟩ := slice_of Tryz.underlying28 g0
    obtain ⟨z, e1, d1, hz⟩ := DataW.trod_int Tryz.underlying2 g1
    obtain ⟨y, e2, d2, hy⟩ := DataW.trod_int Tryz.underlying29 g2
    obtain rfl := (List.cons.inj e1).1
    obtain rfl := (List.cons.inj e2).1
    have b1 := Go.bounds_i64 hz
    have b2 := Go.bounds_u64 hy
    obtain ⟨l, r1, r2, r3, r4⟩ := open_labels (enc := enc) (W := W) (base := base) (spare := spare) (held := held) (A := A) (n := m) (c := c) (d := y0.1) (p := y0.2) ⟨k, g0⟩
    refine ⟨⟨A, m, c, z, y.toNat⟩, ?_, ⟨l, z, y.toNat⟩, ⟨r1, r3, rfl, rfl, by dsimp only; omega, by dsimp only; omega⟩, ?_, fun y' hy' => ?_⟩
    · show [Value.slice A m c, Value.int .i64 z, Value.int .u64 y] = [Value.slice A m c, Value.int .i64 z, Value.int .u64 (y.toNat : Int)]
      rw [Int.toNat_of_nonneg (by omega)]
    · have := r1.1
      simp only [List.map_cons, List.map_nil, Rows.uptoBulk, Rows.uptoBulkAll]
      omega
    · have := r4 y' hy'
      simp only [List.map_cons, List.map_nil, Rows.uptoBulk, Rows.uptoBulkAll]
      omega
set_option maxRecDepth 100000 in
theorem dec_matcher2 (n : Nat) (cs : List Value) (x : DataW H × List MemPlace) (h : DataW.trod enc Tryz.prog W base spare held n 82 cs = some x) (hl : cs.length = Tryz.prog.cellsOf 82) :
    ∃ y, cs = elMa.cells y ∧ (y.2.1.size ≤ Rows.uptoBulk x.1 ∧ y.2.2.size ≤ Rows.uptoBulk x.1) := by
  obtain ⟨xs, k, _, rfl, _, hxl, hf⟩ := DataW.trod_struct Tryz.underlying82 h
  have hl2 : cs.length = 3 := hl.trans (by kernel_rfl)
  match xs, hxl, cs, hl2 with
  | [y0, y1, y2], _, [v0, v1, v2], _ =>
    have g0' : DataW.trod enc Tryz.prog W base spare held k 3 (([v0, v1, v2].drop 0).take (Tryz.prog.cellsOf 3)) = some y0 := hf 0 _ rfl
    rw [cells3] at g0'
    have g0 : DataW.trod enc Tryz.prog W base spare held k 3 [v0] = some y0 := g0'
    have g1' : DataW.trod enc Tryz.prog W base spare held k 9 (([v0, v1, v2].drop 1).take (Tryz.prog.cellsOf 9)) = some y1 := hf 1 _ rfl
    rw [cells9] at g1'
    have g1 : DataW.trod enc Tryz.prog W base spare held k 9 [v1] = some y1 := g1'
    have g2' : DataW.trod enc Tryz.prog W base spare held k 9 (([v0, v1, v2].drop 2).take (Tryz.prog.cellsOf 9)) = some y2 := hf 2 _ rfl
    rw [cells9] at g2'
    have g2 : DataW.trod enc Tryz.prog W base spare held k 9 [v2] = some y2 := g2'
    obtain ⟨z, e0, d0, hz⟩ := DataW.trod_int Tryz.underlying3 g0
    obtain ⟨s1, e1, d1, _⟩ := DataW.trod_string Tryz.underlying9 g1
    obtain ⟨s2, e2, d2, _⟩ := DataW.trod_string Tryz.underlying9 g2
    obtain rfl := (List.cons.inj e0).1
    obtain rfl := (List.cons.inj e1).1
    obtain rfl := (List.cons.inj e2).1
    subst d0; subst d1; subst d2
    refine ⟨(z, s1, s2), rfl, ?_⟩
    simp only [List.map_cons, List.map_nil, Rows.uptoBulk, Rows.uptoBulkAll, str_len]
    omega
set_option maxRecDepth 100000 in
theorem open_matchers2 {A : Option Addr} {n c : Nat} {d : DataW H} {p : List MemPlace} (h : DataW.Trod enc Tryz.prog W base spare held 32 (.slice A n c) d p) :
    ∃ l : List Mat, RE elMa W A n l ∧ n ≤ Rows.uptoBulk d ∧ (n ≤ c ∧ c ≤ 9223372036854775807) ∧ ∀ x ∈ l, x.2.1.size ≤ Rows.uptoBulk d ∧ x.2.2.size ≤ Rows.uptoBulk d := by
  obtain ⟨l, h1, h2, h3, h4⟩ := open_elems elMa (fun y dd => y.2.1.size ≤ Rows.uptoBulk dd ∧ y.2.2.size ≤ Rows.uptoBulk dd) Tryz.underlying32 (by kernel_rfl) dec_matcher2 h
  exact ⟨l, h1, h2, h3, fun x hx => by obtain ⟨dd, h5, h6⟩ := h4 x hx; omega⟩
/-- of as many in one list as in another one, each with its own -/
theorem each_of {α β : Type} {p : α → β → Prop} : ∀ (l : List α), (∀ x ∈ l, ∃ y, p x y) → ∃ r : List β, l.length = r.length ∧ ∀ (i : Nat) x y, l[i]? = some x → r[i]? = some y → p x y
  | [], _ => ⟨[], rfl, fun i x y h => by simp at h⟩
  | a :: l, h => by
    obtain ⟨b, hb⟩ := h a List.mem_cons_self
    obtain ⟨r, h1, h2⟩ := each_of l fun x hx => h x (List.mem_cons_of_mem _ hx)
    refine ⟨b :: r, by simp [h1], fun i x y hx hy => ?_⟩
    cases i with
    | zero =>
      obtain rfl := Option.some.inj hx
      obtain rfl := Option.some.inj hy
      exact hb
    | succ i => exact h2 i x y (by simpa using hx) (by simpa using hy)
end
end Go.Proofs.YtailooldnelecaaGreatDoor

namespace Go.Proofs.YtailooldnelecaaGreatDoor
open Go.RowKit

set_option maxHeartbeats 4000000 in
theorem name3_any (x : ByteArray) (w : World) : Calls Tryz.prog 53 #[.string x] w fun e w' => e = .returned (.bool (nameL x)) ∧ w = w' := by
  obtain ⟨n, hn⟩ : ∃ n, x.size = n := ⟨_, rfl⟩
  by_cases h0 : n = 0
  · obtain rfl : n = 0 := h0
    obtain rfl : x = ⟨#[]⟩ := data_inj (List.eq_nil_of_length_eq_zero (by rw [data_len]; omega))
    go_enter Tryz.func53, Tryz.ntmps53
    go_wp2
    go_ret
    exact ⟨by simp [nameL], rfl⟩
  have hne : (x.toList == ([] : List UInt8)) = false := by
    rw [beq_eq_false_iff_ne, ByteArray.toList_eq]
    intro e
    have := data_len x
    rw [e] at this
    simp at this
    omega
  have hnil : ¬ x.toList = [] := by simpa using hne
  have hem : x.toList.isEmpty = false := by
    cases h : x.toList with
    | nil => exact absurd h hnil
    | cons a b => rfl
  by_cases h64 : 64 < n
  · have e1 : decide ((n : Int) < 1) = false := decide_eq_false (by omega)
    have hF : nameL x = false := by
      unfold nameL
      rw [hn, decide_eq_false (p := n ≤ 64) (by omega)]
      simp
    rw [hF]
    have e64 : decide ((64 : Int) < (n : Int)) = true := decide_eq_true (by omega)
    clear hF h0 h64
    go_enter Tryz.func53, Tryz.ntmps53
    go_wp2
    go_ret
    exact ⟨by simp, rfl⟩
  have e64 : decide ((64 : Int) < (n : Int)) = false := decide_eq_false (by omega)
  obtain ⟨fn, hfn⟩ : ∃ fn : Nat, (x[0]'(by omega)).toNat = fn := ⟨_, rfl⟩
  have hf0 : ∀ h, ((x[0]'h).toNat : Int) = (fn : Int) := fun h => by rw [← hfn]
  have hfb : fn ≤ 255 := by
    have := (x[0]'(by omega)).toNat_lt
    omega
  have h64' : n ≤ 64 := by omega
  have hn0 : 0 < n := by omega
  have e1 : decide ((n : Int) < 1) = false := decide_eq_false (by omega)
  have hB : Hid (nameL x = true ↔ ¬(48 ≤ fn ∧ fn ≤ 57) ∧ ∀ (i : Nat) (h : i < x.size), nmc (x[i]'h).toNat) := by
    have hh : nameL x = (decide (0 < x.size) && decide (x.size ≤ 64) && decide ¬(48 ≤ fn ∧ fn ≤ 57) && x.data.toList.all fun c => decide (nmc c.toNat)) := by
      have h9 := data_get x 0 (by omega)
      unfold nameL
      cases hd : x.data.toList with
      | nil => rw [hd] at h9; cases h9
      | cons c r =>
        rw [hd] at h9
        injection h9 with h9
        rw [← hfn, ← h9]
    show _ ↔ _
    rw [hh]
    have p1 : decide (0 < x.size) = true := decide_eq_true (by omega)
    have p2 : decide (x.size ≤ 64) = true := decide_eq_true (by omega)
    rw [p1, p2]
    simp only [Bool.true_and, Bool.and_eq_true, decide_eq_true_eq, List.all_eq_true]
    refine and_congr_right fun _ => ⟨fun h i hi => h _ (List.mem_of_getElem? (data_get x i hi)), fun h c hc => ?_⟩
    obtain ⟨i, hi⟩ := List.getElem?_of_mem hc
    have hil : i < x.size := by
      have := (List.getElem?_eq_some_iff.1 hi).1
      rwa [data_len] at this
    rw [data_get x i hil] at hi
    injection hi with hi
    subst hi
    exact h i hil
  obtain ⟨b, hb⟩ : ∃ b, nameL x = b := ⟨_, rfl⟩
  rw [hb] at hB ⊢
  clear h0 h64 hb hfn
  by_cases hdig : 48 ≤ fn ∧ fn ≤ 57
  · have d1 : decide ((48 : Int) ≤ (fn : Int)) = true := decide_eq_true (by omega)
    have d2 : decide ((fn : Int) ≤ 57) = true := decide_eq_true (by omega)
    have hbf : b = false := by
      cases b with
      | false => rfl
      | true => exact absurd hdig (hB.out.1 rfl).1
    subst hbf
    clear hdig
    go_enter Tryz.func53, Tryz.ntmps53
    go_wp2
    go_ret
    exact ⟨by simp, rfl⟩
  have hnd : Hid (¬(48 ≤ fn ∧ fn ≤ 57)) := hdig
  have hdd : decide ((48 : Int) ≤ (fn : Int)) = false ∨ (decide ((48 : Int) ≤ (fn : Int)) = true ∧ decide ((fn : Int) ≤ 57) = false) := by
    by_cases h1 : 48 ≤ fn
    · exact .inr ⟨decide_eq_true (by omega), decide_eq_false (by omega)⟩
    · exact .inl (decide_eq_false (by omega))
  clear hdig
  go_enter Tryz.func53, Tryz.ntmps53
  rcases hdd with d1 | ⟨d1, d2⟩
  all_goals
    go_wp2
    go_loopw [3] (fun si wr => ∃ j : Nat, si = .int .i64 (j : Int) ∧ j ≤ n ∧ w = wr ∧ Hid (∀ (i : Nat) (h : i < x.size), i < j → nmc (x[i]'h).toNat)) (fun si _ => n - (intOf si).toNat)
    case atStart => exact ⟨0, rfl, by omega, rfl, fun i h h' => by omega⟩
    case round =>
      obtain ⟨j, rfl, hj, rfl, Hok⟩ := hrel
      by_cases hlt : j < n
      · obtain ⟨zn, hzn⟩ : ∃ zn : Nat, (x[j]'(by omega)).toNat = zn := ⟨_, rfl⟩
        have hzb : zn ≤ 255 := by
          have := (x[j]'(by omega)).toNat_lt
          omega
        have hz : ∀ h, ((x[j]'h).toNat : Int) = (zn : Int) := fun h => by rw [← hzn]
        clear hf0 d1
        by_cases hc : nmc zn
        · have Hok' : Hid (∀ (i : Nat) (h : i < x.size), i < j + 1 → nmc (x[i]'h).toNat) := fun i h h' => by
            by_cases hij : i = j
            · subst hij
              rw [hzn]
              exact hc
            · exact Hok.out i h (by omega)
          unfold nmc at hc
          clear hzn
          rcases hc with rfl | ⟨k1, k2⟩ | ⟨k1, k2⟩ | ⟨k1, k2⟩
          · go_wp2
            go_roundw
            case rel => exact ⟨j + 1, by go_num, by omega, trivial, Hok'⟩
            case measure => simp [intOf]; omega
          · have t1 : decide ((65 : Int) ≤ (zn : Int)) = false := decide_eq_false (by omega)
            have t2 : decide ((97 : Int) ≤ (zn : Int)) = false := decide_eq_false (by omega)
            have t3 : decide ((48 : Int) ≤ (zn : Int)) = true := decide_eq_true (by omega)
            have t4 : decide ((zn : Int) ≤ 57) = true := decide_eq_true (by omega)
            go_wp2
            go_roundw
            case rel => exact ⟨j + 1, by go_num, by omega, trivial, Hok'⟩
            case measure => simp [intOf]; omega
          · have t1 : decide ((65 : Int) ≤ (zn : Int)) = true := decide_eq_true (by omega)
            have t2 : decide ((zn : Int) ≤ 90) = true := decide_eq_true (by omega)
            go_wp2
            go_roundw
            case rel => exact ⟨j + 1, by go_num, by omega, trivial, Hok'⟩
            case measure => simp [intOf]; omega
          · have t1 : decide ((65 : Int) ≤ (zn : Int)) = true := decide_eq_true (by omega)
            have t2 : decide ((zn : Int) ≤ 90) = false := decide_eq_false (by omega)
            have t3 : decide ((97 : Int) ≤ (zn : Int)) = true := decide_eq_true (by omega)
            have t4 : decide ((zn : Int) ≤ 122) = true := decide_eq_true (by omega)
            go_wp2
            go_roundw
            case rel => exact ⟨j + 1, by go_num, by omega, trivial, Hok'⟩
            case measure => simp [intOf]; omega
        · have hbf : b = false := by
            cases b with
            | false => rfl
            | true => exact absurd (hzn ▸ (hB.out.1 rfl).2 j (by omega)) hc
          subst hbf
          unfold nmc at hc
          have t0 : ((zn : Int) == 95) = false := by simp; omega
          clear hzn
          have hcase : zn < 48 ∨ (57 < zn ∧ zn < 65) ∨ (90 < zn ∧ zn < 97) ∨ 122 < zn := by omega
          rcases hcase with h1 | h1 | h1 | h1
          · have t1 : decide ((65 : Int) ≤ (zn : Int)) = false := decide_eq_false (by omega)
            have t2 : decide ((97 : Int) ≤ (zn : Int)) = false := decide_eq_false (by omega)
            have t3 : decide ((48 : Int) ≤ (zn : Int)) = false := decide_eq_false (by omega)
            clear hc h1
            go_wp2
            go_ret
            exact ⟨by simp, rfl⟩
          · have t1 : decide ((65 : Int) ≤ (zn : Int)) = false := decide_eq_false (by omega)
            have t2 : decide ((97 : Int) ≤ (zn : Int)) = false := decide_eq_false (by omega)
            have t3 : decide ((48 : Int) ≤ (zn : Int)) = true := decide_eq_true (by omega)
            have t4 : decide ((zn : Int) ≤ 57) = false := decide_eq_false (by omega)
            clear hc h1
            go_wp2
            go_ret
            exact ⟨by simp, rfl⟩
          · have t1 : decide ((65 : Int) ≤ (zn : Int)) = true := decide_eq_true (by omega)
            have t2 : decide ((zn : Int) ≤ 90) = false := decide_eq_false (by omega)
            have t3 : decide ((97 : Int) ≤ (zn : Int)) = false := decide_eq_false (by omega)
            have t4 : decide ((48 : Int) ≤ (zn : Int)) = true := decide_eq_true (by omega)
            have t5 : decide ((zn : Int) ≤ 57) = false := decide_eq_false (by omega)
            clear hc h1
            go_wp2
            go_ret
            exact ⟨by simp, rfl⟩
          · have t1 : decide ((65 : Int) ≤ (zn : Int)) = true := decide_eq_true (by omega)
            have t2 : decide ((zn : Int) ≤ 90) = false := decide_eq_false (by omega)
            have t3 : decide ((97 : Int) ≤ (zn : Int)) = true := decide_eq_true (by omega)
            have t4 : decide ((zn : Int) ≤ 122) = false := decide_eq_false (by omega)
            have t5 : decide ((48 : Int) ≤ (zn : Int)) = true := decide_eq_true (by omega)
            have t6 : decide ((zn : Int) ≤ 57) = false := decide_eq_false (by omega)
            clear hc h1
            go_wp2
            go_ret
            exact ⟨by simp, rfl⟩
      · obtain rfl : j = n := by omega
        have hbt : b = true := hB.out.2 ⟨hnd.out, fun i h => Hok.out i h (by omega)⟩
        subst hbt
        go_wp2
        go_ret
        exact ⟨by simp, rfl⟩
end Go.Proofs.YtailooldnelecaaGreatDoor
