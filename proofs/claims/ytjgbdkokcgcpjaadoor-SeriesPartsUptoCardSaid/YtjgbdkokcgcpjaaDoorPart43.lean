/-
  Several texts in one:
  Arguments that came in, opened: labels and matchers. Conditions: none.
  Arguments that came in, opened: lists of series. Conditions: none.
-/
import Derived.Test.YtjgbdkokcgcpjaaDoorPart42
import Derived.Test.YtjgbdkokcgcpjaaDoorPart32
import Derived.Test.YtjgbdkokcgcpjaaDoorPart40

namespace Go.Proofs.YtjgbdkokcgcpjaaDoor
open Go.ChangeShapes Go.WideShapes Go.ChangeAt Go.RowKit Go.Deep

section
variable {H : Type} {enc : TypeId × Value → H} {W : World} {base : Nat} {spare : Nat → Bool} {held : Bool}
theorem cells9 : Tryd.prog.cellsOf 9 = 1 := by kernel_rfl
theorem cells3 : Tryd.prog.cellsOf 3 = 1 := by kernel_rfl
theorem str_len (s : ByteArray) : s.data.toList.length = s.size := by rw [Array.length_toList]; rfl

set_option maxRecDepth 100000 in
theorem dec_label (n : Nat) (cs : List Value) (x : DataW H × List MemPlace) (h : DataW.trod enc Tryd.prog W base spare held n 67 cs = some x) (hl : cs.length = Tryd.prog.cellsOf 67) :
    ∃ y, cs = elLb.cells y ∧ (y.1.size ≤ Rows.uptoBulk x.1 ∧ y.2.size ≤ Rows.uptoBulk x.1) := by
  obtain ⟨xs, k, _, rfl, _, hxl, hf⟩ := DataW.trod_struct Tryd.underlying67 h
  have hl2 : cs.length = 2 := hl.trans (by kernel_rfl)
  match xs, hxl, cs, hl2 with
  | [y0, y1], _, [v0, v1], _ =>
    have g0' : DataW.trod enc Tryd.prog W base spare held k 9 (([v0, v1].drop 0).take (Tryd.prog.cellsOf 9)) = some y0 := hf 0 _ rfl
    rw [cells9] at g0'
    have g0 : DataW.trod enc Tryd.prog W base spare held k 9 [v0] = some y0 := g0'
    have g1' : DataW.trod enc Tryd.prog W base spare held k 9 (([v0, v1].drop 1).take (Tryd.prog.cellsOf 9)) = some y1 := hf 1 _ rfl
    rw [cells9] at g1'
    have g1 : DataW.trod enc Tryd.prog W base spare held k 9 [v1] = some y1 := g1'
    obtain ⟨s0, e0, d0, _⟩ := DataW.trod_string Tryd.underlying9 g0
    obtain ⟨s1, e1, d1, _⟩ := DataW.trod_string Tryd.underlying9 g1
    obtain rfl := (List.cons.inj e0).1
    obtain rfl := (List.cons.inj e1).1
    subst d0; subst d1
    refine ⟨(s0, s1), rfl, ?_⟩
    simp only [List.map_cons, List.map_nil, Rows.uptoBulk, Rows.uptoBulkAll, str_len]
    omega
set_option maxRecDepth 100000 in
theorem dec_matcher (n : Nat) (cs : List Value) (x : DataW H × List MemPlace) (h : DataW.trod enc Tryd.prog W base spare held n 69 cs = some x) (hl : cs.length = Tryd.prog.cellsOf 69) :
    ∃ y, cs = elMa.cells y ∧ (y.2.2.size ≤ Rows.uptoBulk x.1 ∧ (Lit.int .i64 y.1).wf = true) := by
  obtain ⟨xs, k, _, rfl, _, hxl, hf⟩ := DataW.trod_struct Tryd.underlying69 h
  have hl2 : cs.length = 3 := hl.trans (by kernel_rfl)
  match xs, hxl, cs, hl2 with
  | [y0, y1, y2], _, [v0, v1, v2], _ =>
    have g0' : DataW.trod enc Tryd.prog W base spare held k 3 (([v0, v1, v2].drop 0).take (Tryd.prog.cellsOf 3)) = some y0 := hf 0 _ rfl
    rw [cells3] at g0'
    have g0 : DataW.trod enc Tryd.prog W base spare held k 3 [v0] = some y0 := g0'
    have g1' : DataW.trod enc Tryd.prog W base spare held k 9 (([v0, v1, v2].drop 1).take (Tryd.prog.cellsOf 9)) = some y1 := hf 1 _ rfl
    rw [cells9] at g1'
    have g1 : DataW.trod enc Tryd.prog W base spare held k 9 [v1] = some y1 := g1'
    have g2' : DataW.trod enc Tryd.prog W base spare held k 9 (([v0, v1, v2].drop 2).take (Tryd.prog.cellsOf 9)) = some y2 := hf 2 _ rfl
    rw [cells9] at g2'
    have g2 : DataW.trod enc Tryd.prog W base spare held k 9 [v2] = some y2 := g2'
    obtain ⟨z, e0, d0, hz⟩ := DataW.trod_int Tryd.underlying3 g0
    obtain ⟨s1, e1, d1, _⟩ := DataW.trod_string Tryd.underlying9 g1
    obtain ⟨s2, e2, d2, _⟩ := DataW.trod_string Tryd.underlying9 g2
    obtain rfl := (List.cons.inj e0).1
    obtain rfl := (List.cons.inj e1).1
    obtain rfl := (List.cons.inj e2).1
    subst d0; subst d1; subst d2
    refine ⟨(z, s1, s2), rfl, ?_, hz⟩
    simp only [List.map_cons, List.map_nil, Rows.uptoBulk, Rows.uptoBulkAll, str_len]
    omega
set_option maxRecDepth 100000 in
theorem open_labels {A : Option Addr} {n c : Nat} {d : DataW H} {p : List MemPlace} (h : DataW.Trod enc Tryd.prog W base spare held 43 (.slice A n c) d p) :
    ∃ l : List (ByteArray × ByteArray), RE elLb W A n l ∧ n ≤ Rows.uptoBulk d ∧ (n ≤ c ∧ c ≤ 9223372036854775807) ∧ ∀ x ∈ l, x.2.size ≤ Rows.uptoBulk d := by
  obtain ⟨l, h1, h2, h3, h4⟩ := open_elems elLb (fun y dd => y.1.size ≤ Rows.uptoBulk dd ∧ y.2.size ≤ Rows.uptoBulk dd) Tryd.underlying43 (by kernel_rfl) dec_label h
  exact ⟨l, h1, h2, h3, fun x hx => by obtain ⟨dd, h5, h6⟩ := h4 x hx; omega⟩
set_option maxRecDepth 100000 in
theorem open_matchers {A : Option Addr} {n c : Nat} {d : DataW H} {p : List MemPlace} (h : DataW.Trod enc Tryd.prog W base spare held 34 (.slice A n c) d p) :
    ∃ l : List Mat, RE elMa W A n l ∧ n ≤ Rows.uptoBulk d ∧ (n ≤ c ∧ c ≤ 9223372036854775807) ∧ ∀ x ∈ l, x.2.2.size ≤ Rows.uptoBulk d := by
  obtain ⟨l, h1, h2, h3, h4⟩ := open_elems elMa (fun y dd => y.2.2.size ≤ Rows.uptoBulk dd ∧ (Lit.int .i64 y.1).wf = true) Tryd.underlying34 (by kernel_rfl) dec_matcher h
  exact ⟨l, h1, h2, h3, fun x hx => by obtain ⟨dd, ⟨h5, _⟩, h6⟩ := h4 x hx; omega⟩
end
end Go.Proofs.YtjgbdkokcgcpjaaDoor

namespace Go.Proofs.YtjgbdkokcgcpjaaDoor
open Go.ChangeShapes Go.WideShapes Go.ChangeAt Go.RowKit Go.Deep

section
variable {H : Type} {enc : TypeId × Value → H} {P : Program} {W : World} {base : Nat} {spare : Nat → Bool} {held : Bool}
theorem open_elems2 {α : Type} (E : El α) (Q : α → DataW H → Prop) {t e : TypeId} (ht : P.underlying t = some (.slice e)) (ce : P.cellsOf e = E.sz)
    (dec : ∀ n cs x, DataW.trod enc P W base spare held n e cs = some x → cs.length = P.cellsOf e → ∃ y, cs = E.cells y ∧ Q y x.1)
    {A : Option Addr} {n c : Nat} {d : DataW H} {p : List MemPlace} (h : DataW.Trod enc P W base spare held t (.slice A n c) d p) :
    ∃ (l : List α) (dl : List (DataW H)), RE E W A n l ∧ dl.length = n ∧ (n ≤ c ∧ c ≤ 9223372036854775807) ∧ (∀ (i : Nat) (y : α) (dd : DataW H), l[i]? = some y → dl[i]? = some dd → Q y dd) ∧ Rows.uptoBulkAll dl ≤ Rows.uptoBulk d := by
  obtain ⟨fuel, hf⟩ := h
  rcases open_slice ht hf with ⟨hcs, _⟩ | ⟨a, len, cap, m, n', D, Pl, hcs, hb, hl, hm, hmm, hx, hel⟩
  · simp [Value.cells] at hcs
    obtain ⟨rfl, rfl, rfl⟩ := hcs
    exact ⟨[], [], RE.nil _ _, rfl, by omega, (fun i y dd hy => by simp at hy), by simp [Rows.uptoBulkAll]⟩
  · simp [Value.cells] at hcs
    obtain ⟨rfl, rfl, rfl⟩ := hcs
    simp only [Prod.mk.injEq] at hx
    obtain ⟨rfl, _⟩ := hx
    have hlm : n ≤ m := by rw [hmm]; split <;> omega
    have key : ∀ i, i < n → ∃ y, (∀ j u, (E.cells y)[j]? = some u → W.cell? (a.add (i * E.sz + j)) = some u) ∧ Q y (D i) := fun i hi => by
      obtain ⟨cs', h1, h2⟩ := hel i (by omega)
      obtain ⟨_, hlen, hcell⟩ := World.cells?_some h1
      obtain ⟨y, rfl, hq⟩ := dec _ _ _ h2 hlen
      refine ⟨y, fun j u hu => ?_, hq⟩
      have hj : j < (E.cells y).length := (List.getElem?_eq_some_iff.1 hu).1
      have h3 := hcell j (by rw [← hlen]; exact hj)
      rw [add_add, ce] at h3
      rw [h3]
      exact hu
    obtain ⟨l, hll, hlp⟩ := list_of n _ key
    refine ⟨l, (List.range n).map D, ⟨hll, fun k u hu => ⟨a, rfl, ?_⟩⟩, by simp, by unfold maxLen at hm; omega, fun i y dd hy hd => ?_, ?_⟩
    · have hk := (List.getElem?_eq_some_iff.1 hu).1
      rw [El.flat_length, hll] at hk
      have hs : 0 < E.sz := by
        rcases Nat.eq_zero_or_pos E.sz with e0 | e0
        · rw [e0] at hk; omega
        · exact e0
      obtain ⟨i, j, rfl, hj⟩ : ∃ i j, k = i * E.sz + j ∧ j < E.sz := ⟨k / E.sz, k % E.sz, by rw [Nat.mul_comm]; exact (Nat.div_add_mod k E.sz).symm, Nat.mod_lt _ hs⟩
      have hi : i < n := by
        rcases Nat.lt_or_ge i n with h1 | h1
        · exact h1
        · have := Nat.mul_le_mul_right E.sz h1; omega
      have hx : l[i]? = some l[i] := List.getElem?_eq_getElem (by omega)
      rw [E.flat_get l hx hj] at hu
      exact (hlp i _ hx).1 j u hu
    · have hin : i < n := by have := (List.getElem?_eq_some_iff.1 hy).1; omega
      rw [List.getElem?_map, List.getElem?_range hin] at hd
      obtain rfl := Option.some.inj hd
      exact (hlp i y hy).2
    · simp only [Rows.uptoBulk]
      omega
end

section
variable {H : Type} {enc : TypeId × Value → H} {W : World} {base : Nat} {spare : Nat → Bool} {held : Bool}
theorem cellsI64 : Tryd.prog.cellsOf 2 = 1 := by kernel_rfl
theorem cellsU64 : Tryd.prog.cellsOf 47 = 1 := by kernel_rfl
theorem cellsLs : Tryd.prog.cellsOf 43 = 1 := by kernel_rfl
theorem cellsPs : Tryd.prog.cellsOf 44 = 1 := by kernel_rfl
set_option maxRecDepth 100000 in
theorem dec_point (n : Nat) (cs : List Value) (x : DataW H × List MemPlace) (h : DataW.trod enc Tryd.prog W base spare held n 49 cs = some x) (hl : cs.length = Tryd.prog.cellsOf 49) :
    ∃ y, cs = elPt.cells y ∧ (-9223372036854775808 ≤ y.1 ∧ y.1 ≤ 9223372036854775807 ∧ y.2 < 18446744073709551616) := by
  obtain ⟨xs, k, _, rfl, _, hxl, hf⟩ := DataW.trod_struct Tryd.underlying49 h
  have hl2 : cs.length = 2 := hl.trans (by kernel_rfl)
  match xs, hxl, cs, hl2 with
  | [y0, y1], _, [v0, v1], _ =>
    have g0' : DataW.trod enc Tryd.prog W base spare held k 2 (([v0, v1].drop 0).take (Tryd.prog.cellsOf 2)) = some y0 := hf 0 _ rfl
    rw [cellsI64] at g0'
    have g0 : DataW.trod enc Tryd.prog W base spare held k 2 [v0] = some y0 := g0'
    have g1' : DataW.trod enc Tryd.prog W base spare held k 47 (([v0, v1].drop 1).take (Tryd.prog.cellsOf 47)) = some y1 := hf 1 _ rfl
    rw [cellsU64] at g1'
    have g1 : DataW.trod enc Tryd.prog W base spare held k 47 [v1] = some y1 := g1'
    obtain ⟨z, e0, d0, hz⟩ := DataW.trod_int Tryd.underlying2 g0
    obtain ⟨y, e1, d1, hy⟩ := DataW.trod_int Tryd.underlying47 g1
    obtain rfl := (List.cons.inj e0).1
    obtain rfl := (List.cons.inj e1).1
    have b0 := Go.bounds_i64 hz
    have b1 := Go.bounds_u64 hy
    refine ⟨(z, y.toNat), ?_, ?_⟩
    · show [Value.int .i64 z, Value.int .u64 y] = [Value.int .i64 z, Value.int .u64 (y.toNat : Int)]
      rw [Int.toNat_of_nonneg (by omega)]
    · dsimp only
      omega
theorem slice_form {t e : TypeId} (ht : Tryd.prog.underlying t = some (.slice e)) {k : Nat} {v : Value} {y : DataW H × List MemPlace} (h : DataW.trod enc Tryd.prog W base spare held k t [v] = some y) : ∃ A n c, v = .slice A n c := by
  rcases open_slice ht h with ⟨hcs, _⟩ | ⟨a, len, cap, m, n', D, Pl, hcs, _⟩
  · exact ⟨none, 0, 0, (List.cons.inj hcs).1⟩
  · exact ⟨some a, len, cap, (List.cons.inj hcs).1⟩
def SerQ (W : World) (m : SerM) (d : DataW H) : Prop := ∃ s : Ser, SrIs W m s ∧ s.lbs.length ≤ Rows.uptoBulk d ∧ (∀ y ∈ s.lbs, y.2.size ≤ Rows.uptoBulk d) ∧ s.pts.length ≤ Rows.uptoBulk d ∧ ∀ p ∈ s.pts, -9223372036854775808 ≤ p.1 ∧ p.1 ≤ 9223372036854775807 ∧ p.2 < 18446744073709551616
set_option maxRecDepth 100000 in
theorem dec_series (n : Nat) (cs : List Value) (x : DataW H × List MemPlace) (h : DataW.trod enc Tryd.prog W base spare held n 46 cs = some x) (hl : cs.length = Tryd.prog.cellsOf 46) : ∃ y, cs = elSr.cells y ∧ SerQ W y x.1 := by
  obtain ⟨xs, k, _, rfl, _, hxl, hf⟩ := DataW.trod_struct Tryd.underlying46 h
  have hl2 : cs.length = 2 := hl.trans (by kernel_rfl)
  match xs, hxl, cs, hl2 with
  | [y0, y1], _, [v0, v1], _ =>
    have g0' : DataW.trod enc Tryd.prog W base spare held k 43 (([v0, v1].drop 0).take (Tryd.prog.cellsOf 43)) = some y0 := hf 0 _ rfl
    rw [cellsLs] at g0'
    have g0 : DataW.trod enc Tryd.prog W base spare held k 43 [v0] = some y0 := g0'
    have g1' : DataW.trod enc Tryd.prog W base spare held k 44 (([v0, v1].drop 1).take (Tryd.prog.cellsOf 44)) = some y1 := hf 1 _ rfl
    rw [cellsPs] at g1'
    have g1 : DataW.trod enc Tryd.prog W base spare held k 44 [v1] = some y1 := g1'
    obtain ⟨A, m, c, rfl⟩ := slice_form Tryd.underlying43 g0
    obtain ⟨B, q, d, rfl⟩ := slice_form Tryd.underlying44 g1
    obtain ⟨l, r1, r2, r3, r4⟩ := open_labels (enc := enc) (W := W) (base := base) (spare := spare) (held := held) (A := A) (n := m) (c := c) (d := y0.1) (p := y0.2) ⟨k, g0⟩
    obtain ⟨ps, q1, q2, q3, q4⟩ := open_elems elPt (fun y _ => -9223372036854775808 ≤ y.1 ∧ y.1 ≤ 9223372036854775807 ∧ y.2 < 18446744073709551616) Tryd.underlying44 (by kernel_rfl) dec_point (A := B) (n := q) (c := d) (d := y1.1) (p := y1.2) ⟨k, g1⟩
    refine ⟨⟨A, m, c, B, q, d⟩, rfl, ⟨l, ps⟩, ⟨r1, q1, r3, q3⟩, ?_, ?_, ?_, fun p hp => ?_⟩
    · have := r1.1
      simp only [List.map_cons, List.map_nil, Rows.uptoBulk, Rows.uptoBulkAll]
      omega
    · intro y hy
      have := r4 y hy
      simp only [List.map_cons, List.map_nil, Rows.uptoBulk, Rows.uptoBulkAll]
      omega
    · have := q1.1
      simp only [List.map_cons, List.map_nil, Rows.uptoBulk, Rows.uptoBulkAll]
      omega
    · obtain ⟨_, h5, _⟩ := q4 p hp
      exact h5
theorem tot_bulk : ∀ (ss : List Ser) (dl : List (DataW H)), ss.length = dl.length → (∀ (i : Nat) (s : Ser) (d : DataW H), ss[i]? = some s → dl[i]? = some d → s.pts.length ≤ Rows.uptoBulk d) → tot ss ≤ Rows.uptoBulkAll dl
  | [], dl, _, _ => by simp [tot]
  | s :: ss, [], h, _ => by simp at h
  | s :: ss, d :: dl, h, hp => by
    have h1 := hp 0 s d rfl rfl
    have h2 := tot_bulk ss dl (by simpa using h) fun i s' d' hs hd => hp (i + 1) s' d' (by simpa using hs) (by simpa using hd)
    rw [tot_cons]
    simp only [Rows.uptoBulkAll]
    omega
/-- points as the machine's numbers bear them -/
def PtsOk (ss : List Ser) : Prop := ∀ s ∈ ss, ∀ p ∈ s.pts, -9223372036854775808 ≤ p.1 ∧ p.1 ≤ 9223372036854775807 ∧ p.2 < 18446744073709551616
set_option maxRecDepth 100000 in
theorem open_series {A : Option Addr} {n c : Nat} {d : DataW H} {p : List MemPlace} (h : DataW.Trod enc Tryd.prog W base spare held 22 (.slice A n c) d p) (hd : Rows.uptoBulk d ≤ 1048576) :
    ∃ ss : List Ser, InS W A n c ss ∧ PtsOk ss ∧ ∀ s ∈ ss, ∀ y ∈ s.lbs, y.2.size ≤ 1048576 := by
  obtain ⟨l, dl, h1, h2, h3, h4, h5⟩ := open_elems2 elSr (SerQ W) Tryd.underlying22 (by kernel_rfl) dec_series h
  have hll := h1.1
  have key : ∀ i, i < n → ∃ s : Ser, ∃ m dd, l[i]? = some m ∧ dl[i]? = some dd ∧ SrIs W m s ∧ s.lbs.length ≤ Rows.uptoBulk dd ∧ (∀ y ∈ s.lbs, y.2.size ≤ Rows.uptoBulk dd) ∧ s.pts.length ≤ Rows.uptoBulk dd ∧ ∀ p ∈ s.pts, -9223372036854775808 ≤ p.1 ∧ p.1 ≤ 9223372036854775807 ∧ p.2 < 18446744073709551616 := fun i hi => by
    have e1 : l[i]? = some (l[i]'(by omega)) := List.getElem?_eq_getElem _
    have e2 : dl[i]? = some (dl[i]'(by omega)) := List.getElem?_eq_getElem _
    obtain ⟨s, k1⟩ := h4 i _ _ e1 e2
    exact ⟨s, _, _, e1, e2, k1⟩
  obtain ⟨ss, hsl, hsp⟩ := list_of n _ key
  have hn := bulk_len dl
  have mem : ∀ s ∈ ss, ∃ i m dd, dd ∈ dl ∧ l[i]? = some m ∧ SrIs W m s ∧ s.lbs.length ≤ Rows.uptoBulk dd ∧ (∀ y ∈ s.lbs, y.2.size ≤ Rows.uptoBulk dd) ∧ s.pts.length ≤ Rows.uptoBulk dd ∧ ∀ p ∈ s.pts, -9223372036854775808 ≤ p.1 ∧ p.1 ≤ 9223372036854775807 ∧ p.2 < 18446744073709551616 := fun s hs => by
    obtain ⟨i, hi⟩ := List.mem_iff_getElem?.1 hs
    obtain ⟨m, dd, k1, k2, k3⟩ := hsp i s hi
    exact ⟨i, m, dd, List.mem_of_getElem? k2, k1, k3⟩
  have htot : tot ss ≤ Rows.uptoBulkAll dl := tot_bulk ss dl (by omega) fun i s d' hs hd' => by
    obtain ⟨m, dd, _, k2, k3⟩ := hsp i s hs
    rw [hd'] at k2
    obtain rfl := Option.some.inj k2
    exact k3.2.2.2.1
  refine ⟨ss, ⟨⟨l, h1, by omega, fun i m s hm hs => ?_⟩, h3, ⟨by omega, fun s hs => ?_⟩, by omega, by omega⟩, fun s hs => ?_, fun s hs y hy => ?_⟩
  · obtain ⟨m', dd, k1, k2, k3⟩ := hsp i s hs
    rw [hm] at k1
    obtain rfl := Option.some.inj k1
    exact k3.1
  · obtain ⟨i, m, dd, k1, k2, k3⟩ := mem s hs
    have := bulk_all_mem k1
    have := k3.2.1
    have := k3.2.2.2.1
    omega
  · obtain ⟨i, m, dd, k1, k2, k3⟩ := mem s hs
    exact k3.2.2.2.2
  · obtain ⟨i, m, dd, k1, k2, k3⟩ := mem s hs
    have := bulk_all_mem k1
    have := k3.2.2.1 y hy
    omega
end
end Go.Proofs.YtjgbdkokcgcpjaaDoor
