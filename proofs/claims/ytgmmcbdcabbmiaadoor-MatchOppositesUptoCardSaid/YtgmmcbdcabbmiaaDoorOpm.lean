/-
  Arguments that came in, opened: labels and matchers. Conditions: none.
-/
import Derived.Test.YtgmmcbdcabbmiaaDoorOpg
import Derived.Test.YtgmmcbdcabbmiaaDoorGf
namespace Go.Proofs.YtgmmcbdcabbmiaaDoor
open Go.ChangeShapes Go.WideShapes Go.ChangeAt Go.RowKit Go.Deep

section
variable {H : Type} {enc : TypeId × Value → H} {W : World} {base : Nat} {spare : Nat → Bool} {held : Bool}
theorem cells9 : Tryd.prog.cellsOf 9 = 1 := by kernel_rfl
theorem cells3 : Tryd.prog.cellsOf 3 = 1 := by kernel_rfl
theorem str_len (s : ByteArray) : s.data.toList.length = s.size := by rw [Array.length_toList]; rfl

theorem dec_label (n : Nat) (cs : List Value) (x : DataW H × List MemPlace) (h : DataW.trod enc Tryd.prog W base spare held n 54 cs = some x) (hl : cs.length = Tryd.prog.cellsOf 54) :
    ∃ y, cs = elLb.cells y ∧ (y.1.size ≤ Rows.uptoBulk x.1 ∧ y.2.size ≤ Rows.uptoBulk x.1) := by
  obtain ⟨xs, k, _, rfl, _, hxl, hf⟩ := DataW.trod_struct Tryd.underlying54 h
  have hl2 : cs.length = 2 := hl.trans (by kernel_rfl)
  match xs, hxl, cs, hl2 with
  | [y0, y1], _, [v0, v1], _ =>
    have g0' : DataW.trod enc Tryd.prog W base spare held k 9 (([v0, v1].drop 0).take (Tryd.prog.cellsOf 9)) = some y0 := hf 0 _ rfl
    rw [cells9] at g0'
    have g0 : DataW.trod enc Tryd.prog W base spare held k 9 [v0] = some y0 := g0'
    have g1' : DataW.trod enc Tryd.prog W base spare held k 9 (([v0, v1].drop 1).take (Tryd.prog.cellsOf 9)) = some y1 := hf 1 _ rfl
    rw [cells9] at g1'
    have g1 : DataW.trod enc Tryd.prog W base spare held k 9 [v1] = some y1 := g1'
    obtain ⟨s0, e0, d0, _⟩ := DataW.trod_string Tryd.underlying9 g0
    obtain ⟨s1, e1, d1, _⟩ := DataW.trod_string Tryd.underlying9 g1
    obtain rfl := (List.cons.inj e0).1
    obtain rfl := (List.cons.inj e1).1
    subst d0; subst d1
    refine ⟨(s0, s1), rfl, ?_⟩
    simp only [List.map_cons, List.map_nil, Rows.uptoBulk, Rows.uptoBulkAll, str_len]
    omega
theorem dec_matcher (n : Nat) (cs : List Value) (x : DataW H × List MemPlace) (h : DataW.trod enc Tryd.prog W base spare held n 28 cs = some x) (hl : cs.length = Tryd.prog.cellsOf 28) :
    ∃ y, cs = elMa.cells y ∧ (y.2.2.size ≤ Rows.uptoBulk x.1 ∧ (Lit.int .i64 y.1).wf = true) := by
  obtain ⟨xs, k, _, rfl, _, hxl, hf⟩ := DataW.trod_struct Tryd.underlying28 h
  have hl2 : cs.length = 3 := hl.trans (by kernel_rfl)
  match xs, hxl, cs, hl2 with
  | [y0, y1, y2], _, [v0, v1, v2], _ =>
    have g0' : DataW.trod enc Tryd.prog W base spare held k 3 (([v0, v1, v2].drop 0).take (Tryd.prog.cellsOf 3)) = some y0 := hf 0 _ rfl
    rw [cells3] at g0'
    have g0 : DataW.trod enc Tryd.prog W base spare held k 3 [v0] = some y0 := g0'
    have g1' : DataW.trod enc Tryd.prog W base spare held k 9 (([v0, v1, v2].drop 1).take (Tryd.prog.cellsOf 9)) = some y1 := hf 1 _ rfl
    rw [cells9] at g1'
    have g1 : DataW.trod enc Tryd.prog W base spare held k 9 [v1] = some y1 := g1'
    have g2' : DataW.trod enc Tryd.prog W base spare held k 9 (([v0, v1, v2].drop 2).take (Tryd.prog.cellsOf 9)) = some y2 := hf 2 _ rfl
    rw [cells9] at g2'
    have g2 : DataW.trod enc Tryd.prog W base spare held k 9 [v2] = some y2 := g2'
    obtain ⟨z, e0, d0, hz⟩ := DataW.trod_int Tryd.underlying3 g0
    obtain ⟨s1, e1, d1, _⟩ := DataW.trod_string Tryd.underlying9 g1
    obtain ⟨s2, e2, d2, _⟩ := DataW.trod_string Tryd.underlying9 g2
    obtain rfl := (List.cons.inj e0).1
    obtain rfl := (List.cons.inj e1).1
    obtain rfl := (List.cons.inj e2).1
    subst d0; subst d1; subst d2
    refine ⟨(z, s1, s2), rfl, ?_, hz⟩
    simp only [List.map_cons, List.map_nil, Rows.uptoBulk, Rows.uptoBulkAll, str_len]
    omega
theorem open_labels {A : Option Addr} {n c : Nat} {d : DataW H} {p : List MemPlace} (h : DataW.Trod enc Tryd.prog W base spare held 26 (.slice A n c) d p) :
    ∃ l : List (ByteArray × ByteArray), RE elLb W A n l ∧ n ≤ Rows.uptoBulk d ∧ (n ≤ c ∧ c ≤ 9223372036854775807) ∧ ∀ x ∈ l, x.2.size ≤ Rows.uptoBulk d := by
  obtain ⟨l, h1, h2, h3, h4⟩ := open_elems elLb (fun y dd => y.1.size ≤ Rows.uptoBulk dd ∧ y.2.size ≤ Rows.uptoBulk dd) Tryd.underlying26 (by kernel_rfl) dec_label h
  exact ⟨l, h1, h2, h3, fun x hx => by obtain ⟨dd, h5, h6⟩ := h4 x hx; omega⟩
theorem open_matchers {A : Option Addr} {n c : Nat} {d : DataW H} {p : List MemPlace} (h : DataW.Trod enc Tryd.prog W base spare held 25 (.slice A n c) d p) :
    ∃ l : List Mat, RE elMa W A n l ∧ n ≤ Rows.uptoBulk d ∧ (n ≤ c ∧ c ≤ 9223372036854775807) ∧ ∀ x ∈ l, x.2.2.size ≤ Rows.uptoBulk d := by
  obtain ⟨l, h1, h2, h3, h4⟩ := open_elems elMa (fun y dd => y.2.2.size ≤ Rows.uptoBulk dd ∧ (Lit.int .i64 y.1).wf = true) Tryd.underlying25 (by kernel_rfl) dec_matcher h
  exact ⟨l, h1, h2, h3, fun x hx => by obtain ⟨dd, ⟨h5, _⟩, h6⟩ := h4 x hx; omega⟩
end
end Go.Proofs.YtgmmcbdcabbmiaaDoor
