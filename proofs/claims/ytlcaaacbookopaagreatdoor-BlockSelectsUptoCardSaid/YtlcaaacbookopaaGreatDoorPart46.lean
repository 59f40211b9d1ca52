/-
  Several texts in one:
  Metas on both sides in one word; the law BlockMetas, walked. Conditions: lengths that memory bears; the table that the library reads.
  Arguments that came in, opened: labels and matchers. Conditions: none.
  Arguments that came in, opened: lists of series. Conditions: none.
  The law BlockBack, walked. Conditions: lengths that memory bears; the table that the library reads.
  The law BlockSelects, walked. Conditions: lengths that memory bears; the table that the library reads.
-/
import Derived.Test.YtlcaaacbookopaaGreatDoorPart38
import Derived.Test.YtlcaaacbookopaaGreatDoorPart45
import Derived.Test.YtlcaaacbookopaaGreatDoorPart26
import Derived.Test.YtlcaaacbookopaaGreatDoorPart4
import Derived.Test.YtlcaaacbookopaaGreatDoorPart35
import Derived.Test.YtlcaaacbookopaaGreatDoorPart39
import Derived.Deep.DeepCutAuto

namespace Go.Proofs.YtlcaaacbookopaaGreatDoor
open Go.RowKit

end Go.Proofs.YtlcaaacbookopaaGreatDoor

namespace Go.Proofs.YtlcaaacbookopaaGreatDoor
open Go.ChangeShapes Go.WideShapes Go.ChangeAt Go.RowKit Go.Deep

section
variable {H : Type} {enc : TypeId × Value → H} {W : World} {base : Nat} {spare : Nat → Bool} {held : Bool}
theorem cells9 : Tryz.prog.cellsOf 9 = 1 := by kernel_rfl
theorem cells3 : Tryz.prog.cellsOf 3 = 1 := by kernel_rfl
theorem str_len (s : ByteArray) : s.data.toList.length = s.size := by rw [Array.length_toList]; rfl

set_option maxRecDepth 100000 in
theorem dec_label (n : Nat) (cs : List Value) (x : DataW H × List MemPlace) (h : DataW.trod enc Tryz.prog W base spare held n 79 cs = some x) (hl : cs.length = Tryz.prog.cellsOf 79) :
    ∃ y, cs = elLb.cells y ∧ (y.1.size ≤ Rows.uptoBulk x.1 ∧ y.2.size ≤ Rows.uptoBulk x.1) := by
  obtain ⟨xs, k, _, rfl, _, hxl, hf⟩ := DataW.trod_struct Tryz.underlying79 h
  have hl2 : cs.length = 2 := hl.trans (by kernel_rfl)
  match xs, hxl, cs, hl2 with
  | [y0, y1], _, [v0, v1], _ =>
    have g0' : DataW.trod enc Tryz.prog W base spare held k 9 (([v0, v1].drop 0).take (Tryz.prog.cellsOf 9)) = some y0 := hf 0 _ rfl
    rw [cells9] at g0'
    have g0 : DataW.trod enc Tryz.prog W base spare held k 9 [v0] = some y0 := g0'
    have g1' : DataW.trod enc Tryz.prog W base spare held k 9 (([v0, v1].drop 1).take (Tryz.prog.cellsOf 9)) = some y1 := hf 1 _ rfl
    rw [cells9] at g1'
    have g1 : DataW.trod enc Tryz.prog W base spare held k 9 [v1] = some y1 := g1'
    obtain ⟨s0, e0, d0, _⟩ := DataW.trod_string Tryz.underlying9 g0
    obtain ⟨s1, e1, d1, _⟩ := DataW.trod_string Tryz.underlying9 g1
    obtain rfl := (List.cons.inj e0).1
    obtain rfl := (List.cons.inj e1).1
    subst d0; subst d1
    refine ⟨(s0, s1), rfl, ?_⟩
    simp only [List.map_cons, List.map_nil, Rows.uptoBulk, Rows.uptoBulkAll, str_len]
    omega
set_option maxRecDepth 100000 in
theorem dec_matcher (n : Nat) (cs : List Value) (x : DataW H × List MemPlace) (h : DataW.trod enc Tryz.prog W base spare held n 139 cs = some x) (hl : cs.length = Tryz.prog.cellsOf 139) :
    ∃ y, cs = elMa.cells y ∧ (y.2.2.size ≤ Rows.uptoBulk x.1 ∧ (Lit.int .i64 y.1).wf = true) := by
  obtain ⟨xs, k, _, rfl, _, hxl, hf⟩ := DataW.trod_struct Tryz.underlying139 h
  have hl2 : cs.length = 3 := hl.trans (by kernel_rfl)
  match xs, hxl, cs, hl2 with
  | [y0, y1, y2], _, [v0, v1, v2], _ =>
    have g0' : DataW.trod enc Tryz.prog W base spare held k 3 (([v0, v1, v2].drop 0).take (Tryz.prog.cellsOf 3)) = some y0 := hf 0 _ rfl
    rw [cells3] at g0'
    have g0 : DataW.trod enc Tryz.prog W base spare held k 3 [v0] = some y0 := g0'
    have g1' : DataW.trod enc Tryz.prog W base spare held k 9 (([v0, v1, v2].drop 1).take (Tryz.prog.cellsOf 9)) = some y1 := hf 1 _ rfl
    rw [cells9] at g1'
    have g1 : DataW.trod enc Tryz.prog W base spare held k 9 [v1] = some y1 := g1'
    have g2' : DataW.trod enc Tryz.prog W base spare held k 9 (([v0, v1, v2].drop 2).take (Tryz.prog.cellsOf 9)) = some y2 := hf 2 _ rfl
    rw [cells9] at g2'
    have g2 : DataW.trod enc Tryz.prog W base spare held k 9 [v2] = some y2 := g2'
    obtain ⟨z, e0, d0, hz⟩ := DataW.trod_int Tryz.underlying3 g0
    obtain ⟨s1, e1, d1, _⟩ := DataW.trod_string Tryz.underlying9 g1
    obtain ⟨s2, e2, d2, _⟩ := DataW.trod_string Tryz.underlying9 g2
    obtain rfl := (List.cons.inj e0).1
    obtain rfl := (List.cons.inj e1).1
    obtain rfl := (List.cons.inj e2).1
    subst d0; subst d1; subst d2
    refine ⟨(z, s1, s2), rfl, ?_, hz⟩
    simp only [List.map_cons, List.map_nil, Rows.uptoBulk, Rows.uptoBulkAll, str_len]
    omega
set_option maxRecDepth 100000 in
theorem open_labels {A : Option Addr} {n c : Nat} {d : DataW H} {p : List MemPlace} (h : DataW.Trod enc Tryz.prog W base spare held 80 (.slice A n c) d p) :
    ∃ l : List (ByteArray × ByteArray), RE elLb W A n l ∧ n ≤ Rows.uptoBulk d ∧ (n ≤ c ∧ c ≤ 9223372036854775807) ∧ ∀ x ∈ l, x.2.size ≤ Rows.uptoBulk d := by
  obtain ⟨l, h1, h2, h3, h4⟩ := open_elems elLb (fun y dd => y.1.size ≤ Rows.uptoBulk dd ∧ y.2.size ≤ Rows.uptoBulk dd) Tryz.underlying80 (by kernel_rfl) dec_label h
  exact ⟨l, h1, h2, h3, fun x hx => by obtain ⟨dd, h5, h6⟩ := h4 x hx; omega⟩
set_option maxRecDepth 100000 in
theorem open_matchers {A : Option Addr} {n c : Nat} {d : DataW H} {p : List MemPlace} (h : DataW.Trod enc Tryz.prog W base spare held 50 (.slice A n c) d p) :
    ∃ l : List Mat, RE elMa W A n l ∧ n ≤ Rows.uptoBulk d ∧ (n ≤ c ∧ c ≤ 9223372036854775807) ∧ ∀ x ∈ l, x.2.2.size ≤ Rows.uptoBulk d := by
  obtain ⟨l, h1, h2, h3, h4⟩ := open_elems elMa (fun y dd => y.2.2.size ≤ Rows.uptoBulk dd ∧ (Lit.int .i64 y.1).wf = true) Tryz.underlying50 (by kernel_rfl) dec_matcher h
  exact ⟨l, h1, h2, h3, fun x hx => by obtain ⟨dd, ⟨h5, _⟩, h6⟩ := h4 x hx; omega⟩
end
end Go.Proofs.YtlcaaacbookopaaGreatDoor

namespace Go.Proofs.YtlcaaacbookopaaGreatDoor
open Go.ChangeShapes Go.WideShapes Go.ChangeAt Go.RowKit Go.Deep

section
variable {H : Type} {enc : TypeId × Value → H} {P : Program} {W : World} {base : Nat} {spare : Nat → Bool} {held : Bool}
theorem open_elems2 {α : Type} (E : El α) (Q : α → DataW H → Prop) {t e : TypeId} (ht : P.underlying t = some (.slice e)) (ce : P.cellsOf e = E.sz)
    (dec : ∀ n cs x, DataW.trod enc P W base spare held n e cs = some x → cs.length = P.cellsOf e → ∃ y, cs = E.cells y ∧ Q y x.1)
    {A : Option Addr} {n c : Nat} {d : DataW H} {p : List MemPlace} (h : DataW.Trod enc P W base spare held t (.slice A n c) d p) :
    ∃ (l : List α) (dl : List (DataW H)), RE E W A n l ∧ dl.length = n ∧ (n ≤ c ∧ c ≤ 9223372036854775807) ∧ (∀ (i : Nat) (y : α) (dd : DataW H), l[i]? = some y → dl[i]? = some dd → Q y dd) ∧ Rows.uptoBulkAll dl ≤ Rows.uptoBulk d := by
  obtain ⟨fuel, hf⟩ := h
  rcases open_slice ht hf with ⟨hcs, _⟩ | ⟨a, len, cap, m, n', D, Pl, hcs, hb, hl, hm, hmm, hx, hel⟩
  · simp [Value.cells] at hcs
    obtain ⟨rfl, rfl, rfl⟩ := hcs
    exact ⟨[], [], RE.nil _ _, rfl, by omega, (fun i y dd hy => by simp at hy), by simp [Rows.uptoBulkAll]⟩
  · simp [Value.cells] at hcs
    obtain ⟨rfl, rfl, rfl⟩ := hcs
    simp only [Prod.mk.injEq] at hx
    obtain ⟨rfl, _⟩ := hx
    have hlm : n ≤ m := by rw [hmm]; split <;> omega
    have key : ∀ i, i < n → ∃ y, (∀ j u, (E.cells y)[j]? = some u → W.cell? (a.add (i * E.sz + j)) = some u) ∧ Q y (D i) := fun i hi => by
      obtain ⟨cs', h1, h2⟩ := hel i (by omega)
      obtain ⟨_, hlen, hcell⟩ := World.cells?_some h1
      obtain ⟨y, rfl, hq⟩ := dec _ _ _ h2 hlen
      refine ⟨y, fun j u hu => ?_, hq⟩
      have hj : j < (E.cells y).length := (List.getElem?_eq_some_iff.1 hu).1
      have h3 := hcell j (by rw [← hlen]; exact hj)
      rw [add_add, ce] at h3
      rw [h3]
      exact hu
    obtain ⟨l, hll, hlp⟩ := list_of n _ key
    refine ⟨l, (List.range n).map D, ⟨hll, fun k u hu => ⟨a, rfl, ?_⟩⟩, by simp, by unfold maxLen at hm; omega, fun i y dd hy hd => ?_, ?_⟩
    · have hk := (List.getElem?_eq_some_iff.1 hu).1
      rw [El.flat_length, hll] at hk
      have hs : 0 < E.sz := by
        rcases Nat.eq_zero_or_pos E.sz with e0 | e0
        · rw [e0] at hk; omega
        · exact e0
      obtain ⟨i, j, rfl, hj⟩ : ∃ i j, k = i * E.sz + j ∧ j < E.sz := ⟨k / E.sz, k % E.sz, by rw [Nat.mul_comm]; exact (Nat.div_add_mod k E.sz).symm, Nat.mod_lt _ hs⟩
      have hi : i < n := by
        rcases Nat.lt_or_ge i n with h1 | h1
        · exact h1
        · have := Nat.mul_le_mul_right E.sz h1; omega
      have hx : l[i]? = some l[i] := List.getElem?_eq_getElem (by omega)
      rw [E.flat_get l hx hj] at hu
      exact (hlp i _ hx).1 j u hu
    · have hin : i < n := by have := (List.getElem?_eq_some_iff.1 hy).1; omega
      rw [List.getElem?_map, List.getElem?_range hin] at hd
      obtain rfl := Option.some.inj hd
      exact (hlp i y hy).2
    · simp only [Rows.uptoBulk]
      omega
end

section
variable {H : Type} {enc : TypeId × Value → H} {W : World} {base : Nat} {spare : Nat → Bool} {held : Bool}
theorem cellsI64 : Tryz.prog.cellsOf 2 = 1 := by kernel_rfl
theorem cellsU64 : Tryz.prog.cellsOf 22 = 1 := by kernel_rfl
theorem cellsLs : Tryz.prog.cellsOf 80 = 1 := by kernel_rfl
theorem cellsPs : Tryz.prog.cellsOf 83 = 1 := by kernel_rfl
set_option maxRecDepth 100000 in
theorem dec_point (n : Nat) (cs : List Value) (x : DataW H × List MemPlace) (h : DataW.trod enc Tryz.prog W base spare held n 82 cs = some x) (hl : cs.length = Tryz.prog.cellsOf 82) :
    ∃ y, cs = elPt.cells y ∧ (-9223372036854775808 ≤ y.1 ∧ y.1 ≤ 9223372036854775807 ∧ y.2 < 18446744073709551616) := by
  obtain ⟨xs, k, _, rfl, _, hxl, hf⟩ := DataW.trod_struct Tryz.underlying82 h
  have hl2 : cs.length = 2 := hl.trans (by kernel_rfl)
  match xs, hxl, cs, hl2 with
  | [y0, y1], _, [v0, v1], _ =>
    have g0' : DataW.trod enc Tryz.prog W base spare held k 2 (([v0, v1].drop 0).take (Tryz.prog.cellsOf 2)) = some y0 := hf 0 _ rfl
    rw [cellsI64] at g0'
    have g0 : DataW.trod enc Tryz.prog W base spare held k 2 [v0] = some y0 := g0'
    have g1' : DataW.trod enc Tryz.prog W base spare held k 22 (([v0, v1].drop 1).take (Tryz.prog.cellsOf 22)) = some y1 := hf 1 _ rfl
    rw [cellsU64] at g1'
    have g1 : DataW.trod enc Tryz.prog W base spare held k 22 [v1] = some y1 := g1'
    obtain ⟨z, e0, d0, hz⟩ := DataW.trod_int Tryz.underlying2 g0
    obtain ⟨y, e1, d1, hy⟩ := DataW.trod_int Tryz.underlying22 g1
    obtain rfl := (List.cons.inj e0).1
    obtain rfl := (List.cons.inj e1).1
    have b0 := Go.bounds_i64 hz
    have b1 := Go.bounds_u64 hy
    refine ⟨(z, y.toNat), ?_, ?_⟩
    · show [Value.int .i64 z, Value.int .u64 y] = [Value.int .i64 z, Value.int .u64 (y.toNat : Int)]
      rw [Int.toNat_of_nonneg (by omega)]
    · dsimp only
      omega
theorem slice_form {t e : TypeId} (ht : Tryz.prog.underlying t = some (.slice e)) {k : Nat} {v : Value} {y : DataW H × List MemPlace} (h : DataW.trod enc Tryz.prog W base spare held k t [v] = some y) : ∃ A n c, v = .slice A n c := by
  rcases open_slice ht h with ⟨hcs, _⟩ | ⟨a, len, cap, m, n', D, Pl, hcs, _⟩
  · exact ⟨none, 0, 0, (List.cons.inj hcs).1⟩
  · exact ⟨some a, len, cap, (List.cons.inj hcs).1⟩
def SerQ (W : World) (m : SerM) (d : DataW H) : Prop := ∃ s : Ser, SrIs W m s ∧ s.lbs.length ≤ Rows.uptoBulk d ∧ (∀ y ∈ s.lbs, y.2.size ≤ Rows.uptoBulk d) ∧ s.pts.length ≤ Rows.uptoBulk d ∧ ∀ p ∈ s.pts, -9223372036854775808 ≤ p.1 ∧ p.1 ≤ 9223372036854775807 ∧ p.2 < 18446744073709551616
set_option maxRecDepth 100000 in
theorem dec_series (n : Nat) (cs : List Value) (x : DataW H × List MemPlace) (h : DataW.trod enc Tryz.prog W base spare held n 85 cs = some x) (hl : cs.length = Tryz.prog.cellsOf 85) : ∃ y, cs = elSr.cells y ∧ SerQ W y x.1 := by
  obtain ⟨xs, k, _, rfl, _, hxl, hf⟩ := DataW.trod_struct Tryz.underlying85 h
  have hl2 : cs.length = 2 := hl.trans (by kernel_rfl)
  match xs, hxl, cs, hl2 with
  | [y0, y1], _, [v0, v1], _ =>
    have g0' : DataW.trod enc Tryz.prog W base spare held k 80 (([v0, v1].drop 0).take (Tryz.prog.cellsOf 80)) = some y0 := hf 0 _ rfl
    rw [cellsLs] at g0'
    have g0 : DataW.trod enc Tryz.prog W base spare held k 80 [v0] = some y0 := g0'
    have g1' : DataW.trod enc Tryz.prog W base spare held k 83 (([v0, v1].drop 1).take (Tryz.prog.cellsOf 83)) = some y1 := hf 1 _ rfl
    rw [cellsPs] at g1'
    have g1 : DataW.trod enc Tryz.prog W base spare held k 83 [v1] = some y1 := g1'
    obtain ⟨A, m, c, rfl⟩ := slice_form Tryz.underlying80 g0
    obtain ⟨B, q, d, rfl⟩ := slice_form Tryz.underlying83 g1
    obtain ⟨l, r1, r2, r3, r4⟩ := open_labels (enc := enc) (W := W) (base := base) (spare := spare) (held := held) (A := A) (n := m) (c := c) (d := y0.1) (p := y0.2) ⟨k, g0⟩
    obtain ⟨ps, q1, q2, q3, q4⟩ := open_elems elPt (fun y _ => -9223372036854775808 ≤ y.1 ∧ y.1 ≤ 9223372036854775807 ∧ y.2 < 18446744073709551616) Tryz.underlying83 (by kernel_rfl) dec_point (A := B) (n := q) (c := d) (d := y1.1) (p := y1.2) ⟨k, g1⟩
    refine ⟨⟨A, m, c, B, q, d⟩, rfl, ⟨l, ps⟩, ⟨r1, q1, r3, q3⟩, ?_, ?_, ?_, fun p hp => ?_⟩
    · have := r1.1
      simp only [List.map_cons, List.map_nil, Rows.uptoBulk, Rows.uptoBulkAll]
      omega
    · intro y hy
      have := r4 y hy
      simp only [List.map_cons, List.map_nil, Rows.uptoBulk, Rows.uptoBulkAll]
      omega
    · have := q1.1
      simp only [List.map_cons, List.map_nil, Rows.uptoBulk, Rows.uptoBulkAll]
      omega
    · obtain ⟨_, h5, _⟩ := q4 p hp
      exact h5
theorem tot_bulk : ∀ (ss : List Ser) (dl : List (DataW H)), ss.length = dl.length → (∀ (i : Nat) (s : Ser) (d : DataW H), ss[i]? = some s → dl[i]? = some d → s.pts.length ≤ Rows.uptoBulk d) → tot ss ≤ Rows.uptoBulkAll dl
  | [], dl, _, _ => by simp [tot]
  | s :: ss, [], h, _ => by simp at h
  | s :: ss, d :: dl, h, hp => by
    have h1 := hp 0 s d rfl rfl
    have h2 := tot_bulk ss dl (by simpa using h) fun i s' d' hs hd => hp (i + 1) s' d' (by simpa using hs) (by simpa using hd)
    rw [show tot (s :: ss) = s.pts.length + tot ss by simp [tot]]
    simp only [Rows.uptoBulkAll]
    omega
/-- points as the machine's numbers bear them -/
def PtsOk (ss : List Ser) : Prop := ∀ s ∈ ss, ∀ p ∈ s.pts, -9223372036854775808 ≤ p.1 ∧ p.1 ≤ 9223372036854775807 ∧ p.2 < 18446744073709551616
set_option maxRecDepth 100000 in
theorem open_series {A : Option Addr} {n c : Nat} {d : DataW H} {p : List MemPlace} (h : DataW.Trod enc Tryz.prog W base spare held 39 (.slice A n c) d p) (hd : Rows.uptoBulk d ≤ 1048576) :
    ∃ ss : List Ser, InS W A n c ss ∧ PtsOk ss ∧ ∀ s ∈ ss, ∀ y ∈ s.lbs, y.2.size ≤ 1048576 := by
  obtain ⟨l, dl, h1, h2, h3, h4, h5⟩ := open_elems2 elSr (SerQ W) Tryz.underlying39 (by kernel_rfl) dec_series h
  have hll := h1.1
  have key : ∀ i, i < n → ∃ s : Ser, ∃ m dd, l[i]? = some m ∧ dl[i]? = some dd ∧ SrIs W m s ∧ s.lbs.length ≤ Rows.uptoBulk dd ∧ (∀ y ∈ s.lbs, y.2.size ≤ Rows.uptoBulk dd) ∧ s.pts.length ≤ Rows.uptoBulk dd ∧ ∀ p ∈ s.pts, -9223372036854775808 ≤ p.1 ∧ p.1 ≤ 9223372036854775807 ∧ p.2 < 18446744073709551616 := fun i hi => by
    have e1 : l[i]? = some (l[i]'(by omega)) := List.getElem?_eq_getElem _
    have e2 : dl[i]? = some (dl[i]'(by omega)) := List.getElem?_eq_getElem _
    obtain ⟨s, k1⟩ := h4 i _ _ e1 e2
    exact ⟨s, _, _, e1, e2, k1⟩
  obtain ⟨ss, hsl, hsp⟩ := list_of n _ key
  have hn := bulk_len dl
  have mem : ∀ s ∈ ss, ∃ i m dd, dd ∈ dl ∧ l[i]? = some m ∧ SrIs W m s ∧ s.lbs.length ≤ Rows.uptoBulk dd ∧ (∀ y ∈ s.lbs, y.2.size ≤ Rows.uptoBulk dd) ∧ s.pts.length ≤ Rows.uptoBulk dd ∧ ∀ p ∈ s.pts, -9223372036854775808 ≤ p.1 ∧ p.1 ≤ 9223372036854775807 ∧ p.2 < 18446744073709551616 := fun s hs => by
    obtain ⟨i, hi⟩ := List.mem_iff_getElem?.1 hs
    obtain ⟨m, dd, k1, k2, k3⟩ := hsp i s hi
    exact ⟨i, m, dd, List.mem_of_getElem? k2, k1, k3⟩
  have htot : tot ss ≤ Rows.uptoBulkAll dl := tot_bulk ss dl (by omega) fun i s d' hs hd' => by
    obtain ⟨m, dd, _, k2, k3⟩ := hsp i s hs
    rw [hd'] at k2
    obtain rfl := Option.some.inj k2
    exact k3.2.2.2.1
  refine ⟨ss, ⟨⟨l, h1, by omega, fun i m s hm hs => ?_⟩, h3, ⟨by omega, fun s hs => ?_⟩, by omega, by omega⟩, fun s hs => ?_, fun s hs y hy => ?_⟩
  · obtain ⟨m', dd, k1, k2, k3⟩ := hsp i s hs
    rw [hm] at k1
    obtain rfl := Option.some.inj k1
    exact k3.1
  · obtain ⟨i, m, dd, k1, k2, k3⟩ := mem s hs
    have := bulk_all_mem k1
    have := k3.2.1
    have := k3.2.2.2.1
    omega
  · obtain ⟨i, m, dd, k1, k2, k3⟩ := mem s hs
    exact k3.2.2.2.2
  · obtain ⟨i, m, dd, k1, k2, k3⟩ := mem s hs
    have := bulk_all_mem k1
    have := k3.2.2.1 y hy
    omega
end
end Go.Proofs.YtlcaaacbookopaaGreatDoor

namespace Go.Proofs.YtlcaaacbookopaaGreatDoor
open Go.RowKit

/-- a block's encoding in one word -/
theorem enck_one (ss : List Ser) (hv : ∀ s ∈ ss, Okv s.pts) (hn : ss.length ≤ 9223372036854775807) : ∃ (R : List UInt8) (z : Nat), R.length ≤ 300000000 ∧ ((z = 0 ∧ BkV ss ∧ R = blkB (tabT ss) ss) ∨ (z = 90 ∧ ¬ BkOk ss ∧ R = [])) ∧
    ∀ (A : Option Addr) (n c : Nat) (w : World), RS w A n ss → Calls Tryz.prog 18 #[.slice A n c] w (EncP w R (z : Int)) := by
  by_cases hok : BkOk ss
  · exact ⟨_, 0, blkB_len (hok.bks hv), .inl ⟨rfl, ⟨hok, hv⟩, rfl⟩, fun A n c w h => encK_ok A n c ss w h hok hv⟩
  · exact ⟨[], 90, by simp, .inr ⟨rfl, hok, rfl⟩, fun A n c w h => encK_no A n c ss w h (by rw [← h.len]; exact hn) hok⟩
end Go.Proofs.YtlcaaacbookopaaGreatDoor

namespace Go.Proofs.YtlcaaacbookopaaGreatDoor
open Go.RowKit

/-- a select out of a block's own bytes -/
theorem sel_own {ss : List Ser} (hV : BkV ss) {lb : List UInt8} (hb : blkB (tabT ss) ss = lb) (B : Option Addr) (n c : Nat) (M : Option Addr) (mn mc : Nat) (mt : List Mat) (f t : Int) (w : World) (h : RB w B n lb) (hn : n ≤ 1099511627776) (hc : n ≤ c ∧ c ≤ 9223372036854775807)
    (hM : RE elMa w M mn mt) (hmn : mn ≤ 9223372036854775807) (hmt : ∀ x ∈ mt, x.2.2.size ≤ 16777216) (hx : MaxL w) :
    Calls Tryz.prog 26 #[.slice B n c, .slice M mn mc, .int .i64 f, .int .i64 t] w fun e w' => ∃ A m d, e = .returned (.tuple #[.slice A m d, .int .i64 0]) ∧ NS w' w.heap.size A m d (selK mt f t ss) ∧ Grew w w' :=
  (selectK_any B n c lb M mn mc mt f t w h hn hc hM hmn hmt hx).mono fun e w' he => by
    rcases he with ⟨A, m, d, zs, h1, h2, h3, h4, h5⟩ | ⟨_, _, hno⟩
    · have : zs = ss := h1.inj hV (by rw [← h2, hb])
      subst this
      exact ⟨A, m, d, h3, h4, h5⟩
    · exact absurd hb.symm (hno ss hV)

set_option maxRecDepth 100000 in
set_option maxHeartbeats 16000000 in
theorem walk_blockSelects (A : Option Addr) (n c : Nat) (ss : List Ser) (M : Option Addr) (mn mc : Nat) (mt : List Mat) (f mid t : Int) (w : World) (hS : InS w A n c ss) (hpk : PtsOk ss) (hM : RE elMa w M mn mt) (hmn : mn ≤ 9223372036854775807) (_ : mn ≤ mc ∧ mc ≤ 9223372036854775807) (hmt : ∀ x ∈ mt, x.2.2.size ≤ 16777216)
    (_hf : -9223372036854775808 ≤ f ∧ f ≤ 9223372036854775807) (hmd : -9223372036854775808 ≤ mid ∧ mid ≤ 9223372036854775807) (_ht : -9223372036854775808 ≤ t ∧ t ≤ 9223372036854775807) (hm : MaxL w) :
    Calls Tryz.prog 6 #[.slice A n c, .slice M mn mc, .int .i64 f, .int .i64 mid, .int .i64 t] w fun e w' => e = .returned (.bool true) ∧ Grew w w' := by
  have hv : ∀ s ∈ ss, Okv s.pts := fun s hs x hx => (hpk s hs x hx).2.2
  have hln := hS.rs.len
  have hlb := hS.len
  have hcap := hS.cap
  rw [hln] at hlb
  have hC1 := copySeries_any A n c ss w hS.rs hS.small
  unfold NewS at hC1
  rw [hln] at hC1
  obtain ⟨R, z, hRl, hz, hE⟩ := enck_one ss hv (by omega)
  obtain ⟨nr, hnr⟩ : ∃ nr, R.length = nr := ⟨_, rfl⟩
  unfold EncP at hE
  rw [hnr] at hE hRl
  have hRS := Lib.hid fun W' (g : Grew w W') => hS.rs.grew g
  replace hm := Lib.hid hm
  replace hE := Lib.hid hE
  replace hmt := Lib.hid hmt
  replace hnr := Lib.hid hnr
  replace hln := Lib.hid hln
  clear hS hpk hv
  go_enter Tryz.func6, Tryz.ntmps6
  go_wp2_with fail
  refine hC1.mono ?_
  rintro e w1 ⟨A1, c1, rfl, hN1, g1⟩
  clear hC1
  go_wp2_with fail
  refine (hE.out A1 n c1 w1 hN1.rs).mono ?_
  rintro e w2 ⟨B2, c2, rfl, o2, g2⟩
  have gg2 := g1.trans g2
  have hcp2 := OB.cap o2
  have hr2 := OB.rb o2
  have hAw := bawake_any w2 (hm.out.grewK gg2)
  clear hN1 g1 g2 o2 hE
  rcases hz with ⟨hz0, hV, hR⟩ | ⟨hz0, _, _⟩
  rotate_left
  · subst hz0
    go_wp2_with fail
    refine hAw.mono ?_
    rintro e w3 ⟨rfl, g3⟩
    go_wp2
    go_ret
    exact ⟨by simp, gg2.trans g3⟩
  subst hz0
  by_cases h1 : mid < f
  · go_wp2_with fail
    refine hAw.mono ?_
    rintro e w3 ⟨rfl, g3⟩
    go_wp2
    go_ret
    exact ⟨by simp, gg2.trans g3⟩
  by_cases h2 : t < mid
  · go_wp2_with fail
    refine hAw.mono ?_
    rintro e w3 ⟨rfl, g3⟩
    go_wp2
    go_ret
    exact ⟨by simp, gg2.trans g3⟩
  by_cases h3 : 1099511627776 ≤ mid
  · go_wp2_with fail
    refine hAw.mono ?_
    rintro e w3 ⟨rfl, g3⟩
    go_wp2
    go_ret
    exact ⟨by simp, gg2.trans g3⟩
  clear hAw
  have hOk := hV.1.okL
  have hSel := Lib.hid fun (f t : Int) (M : Option Addr) (mn mc : Nat) (mt : List Mat) (w' : World) (g : Grew w2 w') (h1 : RE elMa w' M mn mt) (h2 : mn ≤ 9223372036854775807) (h3 : ∀ x ∈ mt, x.2.2.size ≤ 16777216) => sel_own hV hR.symm B2 nr c2 M mn mc mt f t w' (hr2.grew g) (by omega) (by omega) h1 h2 h3 (hm.out.grewK (gg2.trans g))
  have ha : Hid (selK [] (-1099511627776) 1099511627776 ss = ss) := Lib.hid (sel_all fun s hs => ⟨fun e => by
    have := (okK_all hV.1.2.2 s hs).2.1
    rw [e] at this
    simp at this, (okK_all hV.1.2.2 s hs).2.2.2⟩)
  have h2m : Hid (twoM (selK mt f mid ss) (selK mt (mid + 1) t ss) = selK mt f t ss) := Lib.hid (sel_two (by omega) (by omega) hOk.1.sort hOk.1.rise)
  have ho1 := selK_ok (mt := mt) (f := f) (t := mid) hOk
  have ho2 := selK_ok (mt := mt) (f := mid + 1) (t := t) hOk
  have hm1 := selK_small (mt := mt) (f := f) (t := mid) hV.bks
  have hm2 := selK_small (mt := mt) (f := mid + 1) (t := t) hV.bks
  have hm3 := selK_small (mt := mt) (f := f) (t := t) hV.bks
  obtain ⟨X, hX⟩ : ∃ X, selK mt f mid ss = X := ⟨_, rfl⟩
  obtain ⟨Y, hY⟩ : ∃ Y, selK mt (mid + 1) t ss = Y := ⟨_, rfl⟩
  obtain ⟨Z, hZ⟩ : ∃ Z, selK mt f t ss = Z := ⟨_, rfl⟩
  rw [hX, hY, hZ] at h2m
  rw [hX] at ho1 hm1
  rw [hY] at ho2 hm2
  rw [hZ] at hm3
  have hS1 := hSel.out f mid M mn mc mt w2 (Chg.refl _ _) (hM.grew gg2) hmn hmt.out
  rw [hX] at hS1
  have hwm : wrap64 (mid + 1) = mid + 1 := by unfold wrap64; omega
  replace ho1 := Lib.hid ho1
  replace ho2 := Lib.hid ho2
  replace hm1 := Lib.hid hm1
  replace hm2 := Lib.hid hm2
  replace hm3 := Lib.hid hm3
  replace hY := Lib.hid hY
  replace hZ := Lib.hid hZ
  clear hX hOk hV hR hr2
  go_wp2_with fail
  refine hS1.mono ?_
  rintro e w3 ⟨A3, m3, d3, rfl, hN3, g3⟩
  clear hS1
  have hS2 := hSel.out (mid + 1) t M mn mc mt w3 g3 (hM.grew (gg2.trans g3)) hmn hmt.out
  rw [hY.out] at hS2
  go_wp2_with fail
  refine hS2.mono ?_
  rintro e w4 ⟨A4, m4, d4, rfl, hN4, g4⟩
  clear hS2
  have g24 := g3.trans g4
  have hS3 := hSel.out f t M mn mc mt w4 g24 (hM.grew (gg2.trans g24)) hmn hmt.out
  rw [hZ.out] at hS3
  go_wp2_with fail
  refine hS3.mono ?_
  rintro e w5 ⟨A5, m5, d5, rfl, hN5, g5⟩
  clear hS3
  have g25 := g24.trans g5
  have hS4 := hSel.out (-1099511627776) 1099511627776 none 0 0 [] w5 g25 (RE.nil _ _) (by omega) (fun x hx => by cases hx)
  rw [ha.out] at hS4
  go_wp2_with fail
  refine hS4.mono ?_
  rintro e w6 ⟨A6, m6, d6, rfl, hN6, g6⟩
  clear hS4 hSel
  have g26 := g25.trans g6
  have hN3' := ((hN3.grew g4).grew g5).grew g6
  have hN4' := (hN4.grew g5).grew g6
  have hN5' := hN5.grew g6
  obtain ⟨V, hV⟩ : ∃ V, V = w6.alloc (.cells #[.slice A3 m3 d3, .slice A4 m4 d4] 39) := ⟨_, rfl⟩
  have gV : Grew w6 V := by rw [hV]; exact (Chg.refl _ w6).alloc _
  have hLs : RE elLs V (some ⟨w6.heap.size, 0, none⟩) 2 [⟨A3, m3, d3, X⟩, ⟨A4, m4, d4, Y⟩] := by rw [hV]; exact RE.newAt rfl rfl rfl
  have hF : foldM [X, Y] = Z := by rw [← h2m.out]; unfold foldM; simp [twoM_l]
  have hMg := merge10_yes (some ⟨w6.heap.size, 0, none⟩) 2 2 [⟨A3, m3, d3, X⟩, ⟨A4, m4, d4, Y⟩] V hLs (fun x hx => by
    simp only [List.mem_cons, List.not_mem_nil, or_false] at hx
    rcases hx with rfl | rfl
    · exact ⟨(hN3'.grew gV).rs, hN3'.cap⟩
    · exact ⟨(hN4'.grew gV).rs, hN4'.cap⟩) (fun x hx => by
    simp only [List.mem_cons, List.not_mem_nil, or_false] at hx
    rcases hx with rfl | rfl
    · exact ho1.out
    · exact ho2.out) (by omega) (fun x hx => by
    simp only [List.mem_cons, List.not_mem_nil, or_false] at hx
    rcases hx with rfl | rfl
    · exact hm1.out
    · exact hm2.out) (fun q => by
    match q with
    | 0 => exact ⟨by simp [foldM], fun s hs => by simp [foldM] at hs⟩
    | 1 => have : foldM ((sss [(⟨A3, m3, d3, X⟩ : QLst), ⟨A4, m4, d4, Y⟩]).take 1) = X := by unfold foldM sss; simp [twoM_l]
           rw [this]; exact hm1.out
    | q + 2 => have : foldM ((sss [(⟨A3, m3, d3, X⟩ : QLst), ⟨A4, m4, d4, Y⟩]).take (q + 2)) = Z := by rw [← hF]; unfold sss; simp
               rw [this]; exact hm3.out)
  rw [show sss [(⟨A3, m3, d3, X⟩ : QLst), ⟨A4, m4, d4, Y⟩] = [X, Y] from rfl, hF] at hMg
  unfold RP at hMg
  have ggV := gg2.trans (g26.trans gV)
  have hN5V := hN5'.grew gV
  have hN6V := hN6.grew gV
  obtain ⟨nz, hnz⟩ : ∃ nz, Z.length = nz := ⟨_, rfl⟩
  rw [hnz] at hMg
  have h5 : m5 = nz := by rw [← hnz]; exact hN5'.len.symm
  have h6 : m6 = n := by rw [← hln.out]; exact hN6.len.symm
  subst h5
  subst h6
  have c5 := hN5'.cap
  have c6 := hN6.cap
  clear hN3 hN4 hN5 hN3' hN4' hN5' hN6 hLs hF hnz g3 g4 g5 g6 g24 g25 g26 gV
  go_wp2_with fail
  rw [← hV]
  clear hV
  refine hMg.mono ?_
  rintro e w7 ⟨A7, d7, rfl, hN7, g7⟩
  have hSa := sameS_any A7 A5 m5 m5 d7 d5 Z Z w7 hN7.rs (hN5V.grew g7).rs (by omega) (by omega)
  rw [eqB_true rfl] at hSa
  have hN6w := hN6V.grew g7
  have gg7 := ggV.trans g7
  clear hMg hN7 hN5V hN6V g7 ggV
  go_wp2_with fail
  refine hSa.mono ?_
  rintro e w8 ⟨rfl, g8⟩
  have gg8 := gg7.trans g8
  have hSb := sameS_any A6 A m6 m6 d6 c ss ss w8 (hN6w.grew g8).rs (hRS.out _ gg8) (by omega) (by omega)
  rw [eqB_true rfl] at hSb
  clear hSa hN6w g8 gg7
  go_wp2_with fail
  refine hSb.mono ?_
  rintro e w9 ⟨rfl, g9⟩
  have gg9 := gg8.trans g9
  clear hSb
  go_wp2_with fail
  refine (bawake_any w9 (hm.out.grewK gg9)).mono ?_
  rintro e w10 ⟨rfl, g10⟩
  go_wp2
  go_ret
  exact ⟨by simp, gg9.trans g10⟩
end Go.Proofs.YtlcaaacbookopaaGreatDoor
