/-
  Several texts in one:
  Arguments that came in, opened: lists of series. Conditions: none.
  The reference of match: one: a text is what an alternative says just if glob says so. Conditions: texts that memory bears.
  The reference of match: Like: a text is like a pattern just if likeB says so. Conditions: texts that memory bears.
  What every program of match answers, call by call (awake); the law MatchLikes, walked. Conditions: texts that memory bears.
  Labels and matchers copied; a number without its sign; the opposite of a kind. Conditions: lengths that memory bears.
  Lists of series copied by the statements' own helper. Conditions: lengths that memory bears.
  A number without its sign (the law's Low). Conditions: none.
-/
import Derived.Test.YtlcaaacbookopaaGreatDoorPart41
import Derived.Test.YtlcaaacbookopaaGreatDoorPart33
import Derived.Test.YtlcaaacbookopaaGreatDoorPart7
import Derived.OwnWalk
import Derived.Test.YtlcaaacbookopaaGreatDoorPart35
import Derived.Test.YtlcaaacbookopaaGreatDoorPart1
import Derived.Test.YtlcaaacbookopaaGreatDoorRows
import Derived.OpenShut

namespace Go.Proofs.YtlcaaacbookopaaGreatDoor
open Go.ChangeShapes Go.WideShapes Go.ChangeAt Go.RowKit Go.Deep

section
variable {H : Type} {enc : TypeId × Value → H} {P : Program} {W : World} {base : Nat} {spare : Nat → Bool} {held : Bool}
theorem open_elems2 {α : Type} (E : El α) (Q : α → DataW H → Prop) {t e : TypeId} (ht : P.underlying t = some (.slice e)) (ce : P.cellsOf e = E.sz)
    (dec : ∀ n cs x, DataW.trod enc P W base spare held n e cs = some x → cs.length = P.cellsOf e → ∃ y, cs = E.cells y ∧ Q y x.1)
    {A : Option Addr} {n c : Nat} {d : DataW H} {p : List MemPlace} (h : DataW.Trod enc P W base spare held t (.slice A n c) d p) :
    ∃ (l : List α) (dl : List (DataW H)), RE E W A n l ∧ dl.length = n ∧ (n ≤ c ∧ c ≤ 9223372036854775807) ∧ (∀ (i : Nat) (y : α) (dd : DataW H), l[i]? = some y → dl[i]? = some dd → Q y dd) ∧ Rows.uptoBulkAll dl ≤ Rows.uptoBulk d := by
  obtain ⟨fuel, hf⟩ := h
  rcases open_slice ht hf with ⟨hcs, _⟩ | ⟨a, len, cap, m, n', D, Pl, hcs, hb, hl, hm, hmm, hx, hel⟩
  · simp [Value.cells] at hcs
    obtain ⟨rfl, rfl, rfl⟩ := hcs
    exact ⟨[], [], RE.nil _ _, rfl, by omega, (fun i y dd hy => by simp at hy), by simp [Rows.uptoBulkAll]⟩
  · simp [Value.cells] at hcs
    obtain ⟨rfl, rfl, rfl⟩ := hcs
    simp only [Prod.mk.injEq] at hx
    obtain ⟨rfl, _⟩ := hx
    have hlm : n ≤ m := by rw [hmm]; split <;> omega
    have key : ∀ i, i < n → ∃ y, (∀ j u, (E.cells y)[j]? = some u → W.cell? (a.add (i * E.sz + j)) = some u) ∧ Q y (D i) := fun i hi => by
      obtain ⟨cs', h1, h2⟩ := hel i (by omega)
      obtain ⟨_, hlen, hcell⟩ := World.cells?_some h1
      obtain ⟨y, rfl, hq⟩ := dec _ _ _ h2 hlen
      refine ⟨y, fun j u hu => ?_, hq⟩
      have hj : j < (E.cells y).length := (List.getElem?_eq_some_iff.1 hu).1
      have h3 := hcell j (by rw [← hlen]; exact hj)
      rw [add_add, ce] at h3
      rw [h3]
      exact hu
    obtain ⟨l, hll, hlp⟩ := list_of n _ key
    refine ⟨l, (List.range n).map D, ⟨hll, fun k u hu => ⟨a, rfl, ?_⟩⟩, by simp, by unfold maxLen at hm; omega, fun i y dd hy hd => ?_, ?_⟩
    · have hk := (List.getElem?_eq_some_iff.1 hu).1
      rw [El.flat_length, hll] at hk
      have hs : 0 < E.sz := by
        rcases Nat.eq_zero_or_pos E.sz with e0 | e0
        · rw [e0] at hk; omega
        · exact e0
      obtain ⟨i, j, rfl, hj⟩ : ∃ i j, k = i * E.sz + j ∧ j < E.sz := ⟨k / E.sz, k % E.sz, by rw [Nat.mul_comm]; exact (Nat.div_add_mod k E.sz).symm, Nat.mod_lt _ hs⟩
      have hi : i < n := by
        rcases Nat.lt_or_ge i n with h1 | h1
        · exact h1
        · have := Nat.mul_le_mul_right E.sz h1; omega
      have hx : l[i]? = some l[i] := List.getElem?_eq_getElem (by omega)
      rw [E.flat_get l hx hj] at hu
      exact (hlp i _ hx).1 j u hu
    · have hin : i < n := by have := (List.getElem?_eq_some_iff.1 hy).1; omega
      rw [List.getElem?_map, List.getElem?_range hin] at hd
      obtain rfl := Option.some.inj hd
      exact (hlp i y hy).2
    · simp only [Rows.uptoBulk]
      omega
end

section
variable {H : Type} {enc : TypeId × Value → H} {W : World} {base : Nat} {spare : Nat → Bool} {held : Bool}
theorem cellsI64 : Tryz.prog.cellsOf 2 = 1 := by kernel_rfl
theorem cellsU64 : Tryz.prog.cellsOf 22 = 1 := by kernel_rfl
theorem cellsLs : Tryz.prog.cellsOf 80 = 1 := by kernel_rfl
theorem cellsPs : Tryz.prog.cellsOf 83 = 1 := by kernel_rfl
set_option maxRecDepth 100000 in
theorem dec_point (n : Nat) (cs : List Value) (x : DataW H × List MemPlace) (h : DataW.trod enc Tryz.prog W base spare held n 82 cs = some x) (hl : cs.length = Tryz.prog.cellsOf 82) :
    ∃ y, cs = elPt.cells y ∧ (-9223372036854775808 ≤ y.1 ∧ y.1 ≤ 9223372036854775807 ∧ y.2 < 18446744073709551616) := by
  obtain ⟨xs, k, _, rfl, _, hxl, hf⟩ := DataW.trod_struct Tryz.underlying82 h
  have hl2 : cs.length = 2 := hl.trans (by kernel_rfl)
  match xs, hxl, cs, hl2 with
  | [y0, y1], _, [v0, v1], _ =>
    have g0' : DataW.trod enc Tryz.prog W base spare held k 2 (([v0, v1].drop 0).take (Tryz.prog.cellsOf 2)) = some y0 := hf 0 _ rfl
    rw [cellsI64] at g0'
    have g0 : DataW.trod enc Tryz.prog W base spare held k 2 [v0] = some y0 := g0'
    have g1' : DataW.trod enc Tryz.prog W base spare held k 22 (([v0, v1].drop 1).take (Tryz.prog.cellsOf 22)) = some y1 := hf 1 _ rfl
    rw [cellsU64] at g1'
    have g1 : DataW.trod enc Tryz.prog W base spare held k 22 [v1] = some y1 := g1'
    obtain ⟨z, e0, d0, hz⟩ := DataW.trod_int Tryz.underlying2 g0
    obtain ⟨y, e1, d1, hy⟩ := DataW.trod_int Tryz.underlying22 g1
    obtain rfl := (List.cons.inj e0).1
    obtain rfl := (List.cons.inj e1).1
    have b0 := Go.bounds_i64 hz
    have b1 := Go.bounds_u64 hy
    refine ⟨(z, y.toNat), ?_, ?_⟩
    · show [Value.int .i64 z, Value.int .u64 y] = [Value.int .i64 z, Value.int .u64 (y.toNat : Int)]
      rw [Int.toNat_of_nonneg (by omega)]
    · dsimp only
      omega
theorem slice_form {t e : TypeId} (ht : Tryz.prog.underlying t = some (.slice e)) {k : Nat} {v : Value} {y : DataW H × List MemPlace} (h : DataW.trod enc Tryz.prog W base spare held k t [v] = some y) : ∃ A n c, v = .slice A n c := by
  rcases open_slice ht h with ⟨hcs, _⟩ | ⟨a, len, cap, m, n', D, Pl, hcs, _⟩
  · exact ⟨none, 0, 0, (List.cons.inj hcs).1⟩
  · exact ⟨some a, len, cap, (List.cons.inj hcs).1⟩
def SerQ (W : World) (m : SerM) (d : DataW H) : Prop := ∃ s : Ser, SrIs W m s ∧ s.lbs.length ≤ Rows.uptoBulk d ∧ (∀ y ∈ s.lbs, y.2.size ≤ Rows.uptoBulk d) ∧ s.pts.length ≤ Rows.uptoBulk d ∧ ∀ p ∈ s.pts, -9223372036854775808 ≤ p.1 ∧ p.1 ≤ 9223372036854775807 ∧ p.2 < 18446744073709551616
set_option maxRecDepth 100000 in
theorem dec_series (n : Nat) (cs : List Value) (x : DataW H × List MemPlace) (h : DataW.trod enc Tryz.prog W base spare held n 85 cs = some x) (hl : cs.length = Tryz.prog.cellsOf 85) : ∃ y, cs = elSr.cells y ∧ SerQ W y x.1 := by
  obtain ⟨xs, k, _, rfl, _, hxl, hf⟩ := DataW.trod_struct Tryz.underlying85 h
  have hl2 : cs.length = 2 := hl.trans (by kernel_rfl)
  match xs, hxl, cs, hl2 with
  | [y0, y1], _, [v0, v1], _ =>
    have g0' : DataW.trod enc Tryz.prog W base spare held k 80 (([v0, v1].drop 0).take (Tryz.prog.cellsOf 80)) = some y0 := hf 0 _ rfl
    rw [cellsLs] at g0'
    have g0 : DataW.trod enc Tryz.prog W base spare held k 80 [v0] = some y0 := g0'
    have g1' : DataW.trod enc Tryz.prog W base spare held k 83 (([v0, v1].drop 1).take (Tryz.prog.cellsOf 83)) = some y1 := hf 1 _ rfl
    rw [cellsPs] at g1'
    have g1 : DataW.trod enc Tryz.prog W base spare held k 83 [v1] = some y1 := g1'
    obtain ⟨A, m, c, rfl⟩ := slice_form Tryz.underlying80 g0
    obtain ⟨B, q, d, rfl⟩ := slice_form Tryz.underlying83 g1
    obtain ⟨l, r1, r2, r3, r4⟩ := open_labels (enc := enc) (W := W) (base := base) (spare := spare) (held := held) (A := A) (n := m) (c := c) (d := y0.1) (p := y0.2) ⟨k, g0⟩
    obtain ⟨ps, q1, q2, q3, q4⟩ := open_elems elPt (fun y _ => -9223372036854775808 ≤ y.1 ∧ y.1 ≤ 9223372036854775807 ∧ y.2 < 18446744073709551616) Tryz.underlying83 (by kernel_rfl) dec_point (A := B) (n := q) (c := d) (d := y1.1) (p := y1.2) ⟨k, g1⟩
    refine ⟨⟨A, m, c, B, q, d⟩, rfl, ⟨l, ps⟩, ⟨r1, q1, r3, q3⟩, ?_, ?_, ?_, fun p hp => ?_⟩
    · have := r1.1
      simp only [List.map_cons, List.map_nil, Rows.uptoBulk, Rows.uptoBulkAll]
      omega
    · intro y hy
      have := r4 y hy
      simp only [List.map_cons, List.map_nil, Rows.uptoBulk, Rows.uptoBulkAll]
      omega
    · have := q1.1
      simp only [List.map_cons, List.map_nil, Rows.uptoBulk, Rows.uptoBulkAll]
      omega
    · obtain ⟨_, h5, _⟩ := q4 p hp
      exact h5
theorem tot_bulk : ∀ (ss : List Ser) (dl : List (DataW H)), ss.length = dl.length → (∀ (i : Nat) (s : Ser) (d : DataW H), ss[i]? = some s → dl[i]? = some d → s.pts.length ≤ Rows.uptoBulk d) → tot ss ≤ Rows.uptoBulkAll dl
  | [], dl, _, _ => by simp [tot]
  | s :: ss, [], h, _ => by simp at h
  | s :: ss, d :: dl, h, hp => by
    have h1 := hp 0 s d rfl rfl
    have h2 := tot_bulk ss dl (by simpa using h) fun i s' d' hs hd => hp (i + 1) s' d' (by simpa using hs) (by simpa using hd)
    rw [show tot (s :: ss) = s.pts.length + tot ss by simp [tot]]
    simp only [Rows.uptoBulkAll]
    omega
/-- points as the machine's numbers bear them -/
def PtsOk (ss : List Ser) : Prop := ∀ s ∈ ss, ∀ p ∈ s.pts, -9223372036854775808 ≤ p.1 ∧ p.1 ≤ 9223372036854775807 ∧ p.2 < 18446744073709551616
set_option maxRecDepth 100000 in
theorem open_series {A : Option Addr} {n c : Nat} {d : DataW H} {p : List MemPlace} (h : DataW.Trod enc Tryz.prog W base spare held 39 (.slice A n c) d p) (hd : Rows.uptoBulk d ≤ 1048576) :
    ∃ ss : List Ser, InS W A n c ss ∧ PtsOk ss ∧ ∀ s ∈ ss, ∀ y ∈ s.lbs, y.2.size ≤ 1048576 := by
  obtain ⟨l, dl, h1, h2, h3, h4, h5⟩ := open_elems2 elSr (SerQ W) Tryz.underlying39 (by kernel_rfl) dec_series h
  have hll := h1.1
  have key : ∀ i, i < n → ∃ s : Ser, ∃ m dd, l[i]? = some m ∧ dl[i]? = some dd ∧ SrIs W m s ∧ s.lbs.length ≤ Rows.uptoBulk dd ∧ (∀ y ∈ s.lbs, y.2.size ≤ Rows.uptoBulk dd) ∧ s.pts.length ≤ Rows.uptoBulk dd ∧ ∀ p ∈ s.pts, -9223372036854775808 ≤ p.1 ∧ p.1 ≤ 9223372036854775807 ∧ p.2 < 18446744073709551616 := fun i hi => by
    have e1 : l[i]? = some (l[i]'(by omega)) := List.getElem?_eq_getElem _
    have e2 : dl[i]? = some (dl[i]'(by omega)) := List.getElem?_eq_getElem _
    obtain ⟨s, k1⟩ := h4 i _ _ e1 e2
    exact ⟨s, _, _, e1, e2, k1⟩
  obtain ⟨ss, hsl, hsp⟩ := list_of n _ key
  have hn := bulk_len dl
  have mem : ∀ s ∈ ss, ∃ i m dd, dd ∈ dl ∧ l[i]? = some m ∧ SrIs W m s ∧ s.lbs.length ≤ Rows.uptoBulk dd ∧ (∀ y ∈ s.lbs, y.2.size ≤ Rows.uptoBulk dd) ∧ s.pts.length ≤ Rows.uptoBulk dd ∧ ∀ p ∈ s.pts, -9223372036854775808 ≤ p.1 ∧ p.1 ≤ 9223372036854775807 ∧ p.2 < 18446744073709551616 := fun s hs => by
    obtain ⟨i, hi⟩ := List.mem_iff_getElem?.1 hs
    obtain ⟨m, dd, k1, k2, k3⟩ := hsp i s hi
    exact ⟨i, m, dd, List.mem_of_getElem? k2, k1, k3⟩
  have htot : tot ss ≤ Rows.uptoBulkAll dl := tot_bulk ss dl (by omega) fun i s d' hs hd' => by
    obtain ⟨m, dd, _, k2, k3⟩ := hsp i s hs
    rw [hd'] at k2
    obtain rfl := Option.some.inj k2
    exact k3.2.2.2.1
  refine ⟨ss, ⟨⟨l, h1, by omega, fun i m s hm hs => ?_⟩, h3, ⟨by omega, fun s hs => ?_⟩, by omega, by omega⟩, fun s hs => ?_, fun s hs y hy => ?_⟩
  · obtain ⟨m', dd, k1, k2, k3⟩ := hsp i s hs
    rw [hm] at k1
    obtain rfl := Option.some.inj k1
    exact k3.1
  · obtain ⟨i, m, dd, k1, k2, k3⟩ := mem s hs
    have := bulk_all_mem k1
    have := k3.2.1
    have := k3.2.2.2.1
    omega
  · obtain ⟨i, m, dd, k1, k2, k3⟩ := mem s hs
    exact k3.2.2.2.2
  · obtain ⟨i, m, dd, k1, k2, k3⟩ := mem s hs
    have := bulk_all_mem k1
    have := k3.2.2.1 y hy
    omega
end
end Go.Proofs.YtlcaaacbookopaaGreatDoor

namespace Go.Proofs.YtlcaaacbookopaaGreatDoor
open Go.RowKit

/-- a row of its own size is a block known whole -/
theorem Own.blk {w : World} {base : Nat} {t : TypeId} {sz n g : Nat} {cs : List Value} (h : Own w base t sz (some ⟨g, 0, none⟩) n n cs) : Blk w g t cs.toArray := by
  rcases h.2 with ⟨e, _⟩ | ⟨g', cap, cur, e, hbg, hg, hnc, hcm, hcs, htake⟩
  · cases e
  · injection e with e1 e2 e3
    injection e1 with e1
    injection e1 with e1
    subst e1; subst e3
    have : cur.toList = cs := by rw [← htake, ← hcs]; exact (List.take_of_length_le (by simp)).symm
    unfold Blk
    rw [hg, ← this]
/-- a row of truth values, told by a function -/
def Bls (w : World) (g m : Nat) (f : Nat → Bool) : Prop := Blk w g 4 ((List.range m).map fun i => Value.bool (f i)).toArray
theorem Bls.cell {w : World} {g m : Nat} {f : Nat → Bool} (h : Bls w g m f) {i : Nat} (hi : i < m) : w.cell? ⟨g, i, none⟩ = some (.bool (f i)) := by
  rw [Blk.cell h]
  simp [hi]
theorem Bls.congr {w : World} {g m : Nat} {f f' : Nat → Bool} (h : Bls w g m f) (he : ∀ i, i < m → f i = f' i) : Bls w g m f' := by
  have : ((List.range m).map fun i => Value.bool (f i)) = (List.range m).map fun i => Value.bool (f' i) := List.map_congr_left fun i hi => by rw [he i (List.mem_range.1 hi)]
  unfold Bls at h ⊢
  rw [← this]
  exact h
theorem Bls.set {w : World} {g m : Nat} {f : Nat → Bool} (h : Bls w g m f) (i : Nat) (b : Bool) : Bls (w.setCell ⟨g, i, none⟩ (.bool b)) g m (fun j => if j = i then b else f j) := by
  have h1 := Blk.set h i (.bool b)
  have : (((List.range m).map fun i => Value.bool (f i)).toArray.setIfInBounds i (.bool b)) = ((List.range m).map fun j => Value.bool (if j = i then b else f j)).toArray := by
    apply Array.ext_getElem?
    intro j
    rw [Array.getElem?_setIfInBounds]
    simp only [List.size_toArray, List.length_map, List.length_range, List.getElem?_toArray, List.getElem?_map]
    by_cases hij : i = j
    · subst hij
      by_cases hi : i < m
      · simp [hi]
      · simp [hi]
    · rw [if_neg hij]
      by_cases hj : j < m
      · simp [hj, show ¬ j = i from fun e => hij e.symm]
      · simp [hj]
  rw [this] at h1
  exact h1
end Go.Proofs.YtlcaaacbookopaaGreatDoor

namespace Go.Proofs.YtlcaaacbookopaaGreatDoor
open Go.RowKit

/-- what is left to ask, from an alternative's beginning on, with no bar ahead of place i -/
def Asks (P S : List UInt8) (a i : Nat) : Prop := (i ≤ P.length ∧ a ≤ i ∧ likeB P S = (splitC 124 (P.drop a)).any (fun x => glob x S) ∧ ∀ j, a ≤ j → j < i → P[j]? ≠ some 124) ∨ (P.length < i ∧ likeB P S = false)
theorem Asks.piece {P S : List UInt8} {a i : Nat} (h : Asks P S a i) (hi : i ≤ P.length) (hb : i = P.length ∨ P[i]? = some 124) :
    (glob ((P.take i).drop a) S = true → likeB P S = true) ∧ (glob ((P.take i).drop a) S = false → Asks P S (i + 1) (i + 1)) := by
  rcases h with ⟨_, ha, he, hn⟩ | ⟨h, _⟩
  · have hfree : ∀ x ∈ (P.take i).drop a, x ≠ 124 := fun x hx => by
      obtain ⟨j, hj⟩ := List.mem_iff_getElem?.1 hx
      rw [List.getElem?_drop, List.getElem?_take] at hj
      split at hj
      · rename_i hlt
        rintro rfl
        exact hn (a + j) (by omega) (by omega) hj
      · cases hj
    rcases hb with rfl | hb
    · have hd : P.drop a = (P.take P.length).drop a := by rw [List.take_length]
      rw [hd, splitC_none hfree] at he
      simp only [List.any_cons, List.any_nil, Bool.or_false] at he
      exact ⟨fun hg => by rw [he, hg], fun hg => .inr ⟨by omega, by rw [he, hg]⟩⟩
    · obtain ⟨hlt, hc⟩ := List.getElem?_eq_some_iff.1 hb
      have hd : P.drop a = (P.take i).drop a ++ 124 :: P.drop (i + 1) := by
        conv => lhs; rw [← List.take_append_drop i P]
        rw [List.drop_append_of_le_length (by rw [List.length_take]; omega), List.drop_eq_getElem_cons hlt, hc]
      rw [hd, splitC_cut _ hfree] at he
      simp only [List.any_cons] at he
      exact ⟨fun hg => by rw [he, hg]; rfl, fun hg => .inl ⟨by omega, Nat.le_refl _, by rw [he, hg]; rfl, fun j h1 h2 => by omega⟩⟩
  · omega
theorem Asks.more {P S : List UInt8} {a i : Nat} (h : Asks P S a i) (hi : i < P.length) (hb : P[i]? ≠ some 124) : Asks P S a (i + 1) := by
  rcases h with ⟨_, ha, he, hn⟩ | ⟨h, _⟩
  · refine .inl ⟨by omega, by omega, he, fun j h1 h2 => ?_⟩
    rcases Nat.lt_or_ge j i with h3 | h3
    · exact hn j h1 h3
    · obtain rfl : j = i := by omega
      exact hb
  · omega

end Go.Proofs.YtlcaaacbookopaaGreatDoor

namespace Go.Proofs.YtlcaaacbookopaaGreatDoor
open Go.RowKit

end Go.Proofs.YtlcaaacbookopaaGreatDoor

namespace Go.Proofs.YtlcaaacbookopaaGreatDoor
open Go.RowKit

theorem infoLb : (Tryz.prog.info? 79).map (fun i => (i.zero, i.size, i.bytes)) = some (some (.agg #[.string ⟨#[]⟩, .string ⟨#[]⟩]), 2, 32) := by kernel_rfl
def NewLb (w : World) (n : Nat) (l : List (ByteArray × ByteArray)) (e : Ending) (w' : World) : Prop := ∃ A c, e = .returned (.slice A n c) ∧ OE elLb w' w.heap.size 79 A n c l ∧ Grew w w'
theorem head_of (a : Nat) : ∀ ad, some (⟨a, 0, none⟩ : Addr) = some ad → a ≤ ad.block := fun ad e => by
  injection e with e
  subst e
  exact Nat.le_refl _

set_option maxHeartbeats 400000 in
theorem copyLabels_any (A : Option Addr) (n c : Nat) (l : List (ByteArray × ByteArray)) (w : World) (h : RE elLb w A n l) (hn : n ≤ 4398046511104) :
    Calls Tryz.prog 52 #[.slice A n c] w (NewLb w n l) := by
  have hown : OE elLb (w.alloc (.cells #[] 79)) w.heap.size 79 (some ⟨w.heap.size, 0, none⟩) 0 0 [] := OE.made w w.heap.size 79 (Nat.le_refl _)
  have hr : RE elLb (w.alloc (.cells #[] 79)) A n l := h.grew ((Chg.refl _ w).alloc _)
  go_enter Tryz.func52, Tryz.ntmps52
  go_wp2_with (at_builtin; refine wpList_appE rfl _ _ 80 79 infoLb rfl Tryz.underlying80 rfl w.heap.size _ 0 0 [] rfl hown (by simp) A n c l rfl hr (by unfold maxLen; omega) (by omega) ?_; intro A' c' w' h1)
  go_ret
  simp only [Nat.zero_add, List.nil_append] at h1
  exact ⟨A', c', by simp, h1.oe, h1.grew ((Chg.refl _ w).alloc _) (head_of _)⟩
end Go.Proofs.YtlcaaacbookopaaGreatDoor

namespace Go.Proofs.YtlcaaacbookopaaGreatDoor
open Go.RowKit

theorem pair_ab {W w1 w2 : World} {m : SerM} {s : Ser} {A2 A4 : Option Addr} {c2 c4 : Nat} (h2 : OE elLb w1 W.heap.size 79 A2 m.ln c2 s.lbs) (h4 : OE elPt w2 w1.heap.size 82 A4 m.pn c4 s.pts) (g1 : Grew W w1) (g2 : Grew w1 w2) : NsE w2 W.heap.size ⟨A2, m.ln, c2, A4, m.pn, c4⟩ s :=
  ⟨h2.grew g2, Own.mono h4 g1.size⟩

set_option maxRecDepth 100000 in
set_option maxHeartbeats 4000000 in
theorem copySeries_any (A : Option Addr) (n c : Nat) (ss : List Ser) (w : World) (h : RS w A n ss) (hs : Small ss) :
    Calls Tryz.prog 19 #[.slice A n c] w (NewS w ss) := by
  have hln := h.len
  have hn : n ≤ 1073741824 := by rw [← hln]; exact hs.n
  replace hln := Lib.hid hln
  replace hs := Lib.hid hs
  go_enter Tryz.func19, Tryz.ntmps19
  go_wp2
  go_loopw [3, 4] (fun o i wr => ∃ (k : Nat) (B : Option Addr) (C : Nat), k ≤ n ∧ i = .int .i64 (k : Int) ∧ o = .slice B k C ∧ NS wr w.heap.size B k C (ss.take k) ∧ Grew w wr) (fun o i _ => n - (intOf i).toNat)
  case atStart => exact ⟨0, none, 0, by omega, rfl, rfl, NS.nil _ _, Chg.refl _ _⟩
  case round =>
    obtain ⟨k, B, C, hk, rfl, rfl, ho, hg⟩ := hrel
    by_cases hlt : k < n
    · obtain ⟨ad, m, s, rfl, hx, hsi, x0, x1⟩ := (h.grew hg).at_ hlt
      have hel := hs.out.el s (List.mem_of_getElem? hx)
      have hl1 : m.ln ≤ 1048576 := by rw [← hsi.lb.1]; exact hel.1
      have hp1 : m.pn ≤ 1099511627776 := by rw [← hsi.pt.1]; exact hel.2
      have htk := Lib.hid (take_snoc hx)
      have hcs : CellsIn [ad.block] wr := by
        have h1 := ex_cell x0
        rw [block_add] at h1
        exact cellsIn_cons h1 (qcellsIn_nil _)
      have hsame : Hid (∀ W1, Grew wr W1 → SameIn [ad.block] wr W1) := fun W1 h1 => qsameIn_of h1 hcs fun _ _ e => e
      have hne : ∀ ad', B = some ad' → ad'.block ≠ ad.block := fun ad' e => by
        have h1 := (ho.blk ad' e).1
        have h2 := h.at_ hlt
        obtain ⟨ad2, m2, s2, e2, _, _, z0, _⟩ := h2
        injection e2 with e2
        subst e2
        have h3 := World.block_lt_of_cell? w _ z0
        rw [block_add] at h3
        omega
      replace hne := Lib.hid hne
      have hsz := hg.size
      have hL := fun W1 (hW1 : Grew wr W1) => copyLabels_any m.la m.ln m.lc s.lbs W1 (hsi.lb.grew hW1) (by omega)
      have hP := fun W1 (hW1 : Grew wr W1) => copyPoints_any m.pa m.pn m.pc s.pts W1 (hsi.pt.grew hW1) (by omega)
      replace hL := Lib.hid hL
      replace hP := Lib.hid hP
      clear hx hel hsi
      go_wp2
      refine wp_region_textS [(3, 1)] [ad.block] (by kernel_rfl) (by kernel_rfl) hcs ?_
      simp only [wpU, tagOf, chk, List.nil_append, List.cons_append]
      intro K hK
      go_wp2_with fail
      refine OnlyN.normal (hK _ _ (fun _ => ⟨_, _, _, rfl, rfl, by simp [block_add]⟩) ?_)
      clear hK K
      intro K hK
      go_wp2_with fail
      refine (hL.out _ (Chg.refl _ wr).drew).mono ?_
      rintro e w1 ⟨A2, c2, rfl, h2, hg1⟩
      have hgg : Grew wr w1 := (Chg.refl _ wr).drew.trans hg1
      have x1 := hgg.cell x1 (fun e => e)
      go_wp2_with fail
      refine OnlyN.normal (hK _ _ (hsame.out _ hgg) ?_)
      clear hK K
      intro K hK
      go_wp2_with fail
      refine OnlyN.normal (hK _ _ (fun _ => ⟨_, _, _, rfl, rfl, by simp [block_add]⟩) ?_)
      clear hK K
      intro K hK
      go_wp2_with fail
      refine (hP.out _ hgg).mono ?_
      rintro e w2 ⟨A4, c4, rfl, h4, hg2⟩
      have hN := pair_ab h2 h4 hg1 hg2
      have g4 : Grew wr w2 := hgg.trans hg2
      have hsz4 := g4.size
      obtain ⟨ms, ho4⟩ := (ho.grew g4).op
      have hc4 := ho4.row.cap
      go_wp2_with fail
      refine OnlyN.normal (hK _ _ (hsame.out _ g4) ?_)
      clear hK K
      intro K hK
      go_wp2_with fail
      refine OnlyN.normal (hK _ _ (hsame.out _ (g4.alloc _)) ?_)
      clear hK K
      have hE5 : OE elSr (w2.alloc (.cells #[.slice A2 m.ln c2, .slice A4 m.pn c4] 85)) w.heap.size 85 B k C ms := ho4.row.grew ((Chg.refl _ w2).alloc _)
      have hsrc : RE elSr (w2.alloc (.cells #[.slice A2 m.ln c2, .slice A4 m.pn c4] 85)) (some ⟨w2.heap.size, 0, none⟩) 1 [⟨A2, m.ln, c2, A4, m.pn, c4⟩] := RE.newAt rfl rfl rfl
      intro K hK
      go_wp2_with (at_builtin; refine wpList_appE rfl _ _ 39 85 infoSer rfl Tryz.underlying39 rfl w.heap.size B k C ms rfl hE5 (by simp; omega) _ 1 1 [⟨A2, m.ln, c2, A4, m.pn, c4⟩] rfl hsrc (by unfold maxLen; omega) (by omega) ?_; intro B2 C2 w5 h5)
      have hNS := (ho4.grew ((Chg.refl _ w2).alloc (.cells #[.slice A2 m.ln c2, .slice A4 m.pn c4] 85))).app ((NsE.mono hN (by exact hsz)).grew ((Chg.refl _ w2).alloc _)) h5
      have hg5 : Grew w w5 := h5.grew ((hg.trans g4).alloc _) (fun ad e => (Own.blk_lt ho4.row ad e).1)
      refine OnlyN.normal (hK _ _ (qsameIn_of ((Chg.of_grew (g4.alloc _)).trans h5.chg) hcs (fun k' hk' ⟨ad', e5, e6⟩ => by
        simp only [List.mem_cons, List.not_mem_nil, or_false] at hk'
        rw [hk'] at e6
        exact hne.out ad' e5 e6.symm)) ?_)
      clear hK K
      go_wp2_with fail
      refine OnlyN.normal ?_
      rw [← htk.out] at hNS
      clear ho4 hE5 hsrc h5 h4 h2 hN g4 hgg hg1 hg2 ho
      go_wp2
      go_roundw
      case rel => exact ⟨k + 1, B2, C2, by omega, by go_num, rfl, hNS, hg5⟩
      case measure => simp [intOf] <;> omega
    · obtain rfl : k = n := by omega
      rw [List.take_of_length_le (by have := hln.out; omega)] at ho
      go_wp2
      go_ret
      have := hln.out
      subst this
      exact ⟨B, C, by simp, ho, hg⟩
end Go.Proofs.YtlcaaacbookopaaGreatDoor

namespace Go.Proofs.YtlcaaacbookopaaGreatDoor
open Go.RowKit

theorem low_form (x : Int) : ∃ r : Nat, r < 9223372036854775808 ∧ bits .and .i64 x 9223372036854775807 = (r : Int) := by
  refine ⟨(BitVec.ofInt 64 x &&& BitVec.ofInt 64 9223372036854775807).toNat, ?_, ?_⟩
  · rw [BitVec.toNat_and]
    exact Nat.and_lt_two_pow (n := 63) _ (by decide)
  · show IntKind.i64.wrap ((BitVec.ofInt 64 x &&& BitVec.ofInt 64 9223372036854775807).toNat : Int) = _
    have : (BitVec.ofInt 64 x &&& BitVec.ofInt 64 9223372036854775807).toNat < 2 ^ 63 := by
      rw [BitVec.toNat_and]
      exact Nat.and_lt_two_pow (n := 63) _ (by decide)
    rw [IntKind.wrap_i64]
    omega
/-- a number that is not negative; the world as it was -/
def LowPost (w : World) (e : Ending) (w' : World) : Prop := ∃ r : Nat, r ≤ 9223372036854775807 ∧ e = .returned (.int .i64 (r : Int)) ∧ w = w'
set_option maxHeartbeats 400000 in
theorem low_any (x : Int) (w : World) : Calls Tryz.prog 25 #[.int .i64 x] w (LowPost w) := by
  obtain ⟨r, hr, he⟩ := low_form x
  have He := Lib.hid he
  clear he
  go_enter Tryz.func25, Tryz.ntmps25
  go_wp2
  go_ret
  refine ⟨r, by omega, ?_, rfl⟩
  rw [← He.out]
  simp
end Go.Proofs.YtlcaaacbookopaaGreatDoor
