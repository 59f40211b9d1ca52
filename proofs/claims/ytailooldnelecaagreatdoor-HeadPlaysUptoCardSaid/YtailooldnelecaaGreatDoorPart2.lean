/-
  Several texts in one:
  Rows of elements that take some cells each: read (RE), owned (OE), appended to. Conditions: none; no program in sight.
  Rows of the call's own that begin anywhere in their block (a slice cut at its head), and appending to them. Conditions: none; no program in sight.
  Maps keyed by texts, as their blocks hold them: look-ups, stores, strikes, a range over one entry. Conditions: those that each law names; no program in sight.
-/
import Derived.Test.YtailooldnelecaaGreatDoorPart1
import Derived.Maps.OwnOps
import Derived.Laws.IdiomRangeMap

namespace Go.Proofs.YtailooldnelecaaGreatDoor

/-- how an element lies in cells -/
structure El (α : Type) where
  cells : α → List Value
  sz : Nat
  len : ∀ x, (cells x).length = sz
  one : ∀ x, ∀ u ∈ cells x, u.oneCell' = true

namespace El
variable {α : Type} (E : El α)
def flat (l : List α) : List Value := l.flatMap E.cells
theorem flat_nil : E.flat [] = [] := rfl
theorem flat_cons (x : α) (l : List α) : E.flat (x :: l) = E.cells x ++ E.flat l := rfl
theorem flat_append (a b : List α) : E.flat (a ++ b) = E.flat a ++ E.flat b := by simp [flat]
theorem flat_one (x : α) : E.flat [x] = E.cells x := by simp [flat]
theorem flat_length (l : List α) : (E.flat l).length = l.length * E.sz := by
  induction l with
  | nil => simp [flat]
  | cons x l ih => rw [flat_cons, List.length_append, ih, E.len, List.length_cons, Nat.succ_mul]; omega
theorem flat_one' (l : List α) : ∀ u ∈ E.flat l, u.oneCell' = true := by
  intro u hu
  obtain ⟨x, _, hx⟩ := List.mem_flatMap.1 hu
  exact E.one x u hx
theorem flat_take (l : List α) (k : Nat) : (E.flat l).take (k * E.sz) = E.flat (l.take k) := by
  induction l generalizing k with
  | nil => simp [flat]
  | cons x l ih =>
    cases k with
    | zero => simp [flat]
    | succ k => rw [List.take_succ_cons, flat_cons, flat_cons, Nat.succ_mul, Nat.add_comm, List.take_length_add_append' (E.len x), ih]
  where
  List.take_length_add_append' {l1 l2 : List Value} {n i : Nat} (h : l1.length = n) : (l1 ++ l2).take (n + i) = l1 ++ l2.take i := by
    subst h; rw [List.take_append]; simp [List.take_of_length_le]
theorem flat_drop (l : List α) (k : Nat) : (E.flat l).drop (k * E.sz) = E.flat (l.drop k) := by
  have h1 : E.flat l = E.flat (l.take k) ++ E.flat (l.drop k) := by rw [← flat_append, List.take_append_drop]
  rcases Nat.lt_or_ge l.length k with h | h
  · rw [List.drop_of_length_le (by rw [flat_length]; exact Nat.mul_le_mul_right _ (by omega)), List.drop_of_length_le (by omega)]
    rfl
  · rw [h1, List.drop_left' (by rw [flat_length, List.length_take, Nat.min_eq_left h])]
theorem flat_get (l : List α) {k j : Nat} {x : α} (hk : l[k]? = some x) (hj : j < E.sz) : (E.flat l)[k * E.sz + j]? = (E.cells x)[j]? := by
  have hlt : k < l.length := (List.getElem?_eq_some_iff.1 hk).1
  have hx : l[k] = x := (List.getElem?_eq_some_iff.1 hk).2
  have h1 : E.flat l = E.flat (l.take k) ++ (E.cells x ++ E.flat (l.drop (k + 1))) := by
    rw [← flat_cons, ← flat_append, ← hx, ← List.drop_eq_getElem_cons hlt, List.take_append_drop]
  have h2 : (E.flat (l.take k)).length = k * E.sz := by rw [flat_length, List.length_take, Nat.min_eq_left (by omega)]
  rw [h1, List.getElem?_append_right (by omega), h2, Nat.add_sub_cancel_left, List.getElem?_append_left (by rw [E.len]; exact hj)]
theorem flat_set (l : List α) (k : Nat) (x : α) (hk : k < l.length) : E.flat (l.set k x) = E.flat (l.take k) ++ (E.cells x ++ E.flat (l.drop (k + 1))) := by
  rw [List.set_eq_take_append_cons_drop, if_pos hk, flat_append, flat_cons]
end El

theorem add_pos {a : Addr} {j : Nat} (hj : 0 < j) : a.add j = ⟨a.block, a.off + j, none⟩ := by
  unfold Addr.add
  rw [if_neg (by omega)]
/-- the walk's spelling of a later cell of an element -/
theorem cell_off {w : World} {ad : Addr} {i j : Nat} {u : Value} (hj : 0 < j) (h : w.cell? (ad.add (i + j)) = some u) : w.cell? ⟨(ad.add i).block, (ad.add i).off + j, none⟩ = some u := by
  rw [← add_add, add_pos hj] at h
  exact h

section
variable {α : Type} {E : El α}
/-- a slice's cells are these elements -/
def RE (E : El α) (w : World) (A : Option Addr) (n : Nat) (l : List α) : Prop := l.length = n ∧ Rd w A (E.flat l)
/-- a row of elements of the call's own -/
def OE (E : El α) (w : World) (base : Nat) (t : TypeId) (A : Option Addr) (n c : Nat) (l : List α) : Prop := Own w base t E.sz A n c (E.flat l)

theorem RE.at_ {w : World} {A : Option Addr} {n : Nat} {l : List α} (h : RE E w A n l) {k : Nat} (hk : k < n) (hs : 0 < E.sz) :
    ∃ ad x, A = some ad ∧ l[k]? = some x ∧ ∀ j u, (E.cells x)[j]? = some u → w.cell? (ad.add (k * E.sz + j)) = some u := by
  have hl : k < l.length := by rw [h.1]; exact hk
  have hx : l[k]? = some l[k] := List.getElem?_eq_getElem hl
  have h0 := E.flat_get l (x := l[k]) hx hs
  obtain ⟨u0, hu0⟩ : ∃ u, (E.cells l[k])[0]? = some u := ⟨(E.cells l[k])[0]'(by rw [E.len]; exact hs), List.getElem?_eq_getElem _⟩
  rw [hu0] at h0
  obtain ⟨ad, rfl, _⟩ := h.2 _ _ h0
  refine ⟨ad, l[k], rfl, hx, fun j u hu => ?_⟩
  have hj : j < E.sz := by have := (List.getElem?_eq_some_iff.1 hu).1; rwa [E.len] at this
  obtain ⟨ad', e, hc⟩ := h.2 _ u ((E.flat_get l hx hj).trans hu)
  injection e with e
  subst e
  exact hc
theorem RE.nil (w : World) (A : Option Addr) : RE E w A 0 [] := ⟨rfl, Rd.nil _ _⟩
theorem RE.chg {S : Nat → Prop} {w w' : World} {A : Option Addr} {n : Nat} {l : List α} (h : RE E w A n l) (hc : Chg S w w') (hn : ∀ ad, A = some ad → ¬ S ad.block) : RE E w' A n l := ⟨h.1, h.2.chg hc hn⟩
theorem RE.grew {w w' : World} {A : Option Addr} {n : Nat} {l : List α} (h : RE E w A n l) (hc : Grew w w') : RE E w' A n l := ⟨h.1, h.2.grew hc⟩
theorem RE.drewN {w : World} {A : Option Addr} {n : Nat} {l : List α} (h : RE E w A n l) (k : Nat) : RE E (w.drewN k) A n l := h
theorem RE.lt {w : World} {A : Option Addr} {n : Nat} {l : List α} (h : RE E w A n l) (hs : 0 < E.sz) : ∀ ad, A = some ad → 0 < n → ad.block < w.heap.size := by
  rintro ad rfl hn
  refine h.2.lt ?_
  intro e
  have := congrArg List.length e
  rw [E.flat_length, h.1, List.length_nil] at this
  have := Nat.mul_pos hn hs
  omega
theorem RE.far {S : Nat → Prop} {w w' : World} {A : Option Addr} {n : Nat} {l : List α} (h : RE E w A n l) (hc : Chg S w w') (hn : ∀ ad, A = some ad → 0 < n → ¬ S ad.block) : RE E w' A n l := by
  rcases Nat.eq_zero_or_pos n with h0 | h0
  · have : l = [] := List.eq_nil_of_length_eq_zero (by rw [h.1, h0])
    subst this
    exact ⟨h.1, Rd.nil _ _⟩
  · exact ⟨h.1, h.2.chg hc (fun ad e => hn ad e h0)⟩
theorem RE.drop {w : World} {ad : Addr} {n : Nat} {l : List α} (h : RE E w (some ad) n l) (i : Nat) : RE E w (some (ad.add (i * E.sz))) (n - i) (l.drop i) := by
  refine ⟨by rw [List.length_drop, h.1], ?_⟩
  rw [← E.flat_drop]
  exact h.2.drop (i * E.sz)
theorem RE.take {w : World} {A : Option Addr} {n : Nat} {l : List α} (h : RE E w A n l) {i : Nat} (hi : i ≤ n) : RE E w A i (l.take i) := by
  refine ⟨by rw [List.length_take, h.1]; omega, ?_⟩
  rw [← E.flat_take]
  exact h.2.take _
theorem RE.take0 {w : World} {A : Option Addr} {n : Nat} {l r : List α} (h : RE E w A (n + r.length) (l ++ r)) : RE E w A n l := by
  have h1 : l.length = n := by have := h.1; simp at this; omega
  have := h.take (i := n) (by omega)
  rwa [List.take_left' h1] at this
theorem RE.newAt {w : World} {B : Nat} {l : List α} {n : Nat} {cs : Array Value} {t : TypeId} (hB : B = w.heap.size) (hn : l.length = n) (hc : cs = (E.flat l).toArray) : RE E (w.alloc (.cells cs t)) (some ⟨B, 0, none⟩) n l := by
  subst hB; subst hc
  exact ⟨hn, Rd.new w (E.flat l).toArray t⟩
theorem OE.len {w : World} {base : Nat} {t : TypeId} {A : Option Addr} {n c : Nat} {l : List α} (hs : 0 < E.sz) (h : OE E w base t A n c l) : l.length = n := by
  have := Own.len h
  rw [E.flat_length] at this
  exact Nat.eq_of_mul_eq_mul_right hs this
theorem OE.cap {w : World} {base : Nat} {t : TypeId} {A : Option Addr} {n c : Nat} {l : List α} (h : OE E w base t A n c l) : n ≤ c ∧ c ≤ 9223372036854775807 := by have := Own.cap h; unfold maxLen at this; omega
theorem OE.re {w : World} {base : Nat} {t : TypeId} {A : Option Addr} {n c : Nat} {l : List α} (hs : 0 < E.sz) (h : OE E w base t A n c l) : RE E w A n l := ⟨h.len hs, Own.rd h⟩
theorem OE.chg {S : Nat → Prop} {w w' : World} {base : Nat} {t : TypeId} {A : Option Addr} {n c : Nat} {l : List α} (h : OE E w base t A n c l) (hc : Chg S w w') (hn : ∀ ad, A = some ad → ¬ S ad.block) : OE E w' base t A n c l := Own.chg h hc hn
theorem OE.grew {w w' : World} {base : Nat} {t : TypeId} {A : Option Addr} {n c : Nat} {l : List α} (h : OE E w base t A n c l) (hc : Grew w w') : OE E w' base t A n c l := Own.grew h hc
theorem OE.drewN {w : World} {base : Nat} {t : TypeId} {A : Option Addr} {n c : Nat} {l : List α} (h : OE E w base t A n c l) (k : Nat) : OE E (w.drewN k) base t A n c l := h
theorem OE.nil (w : World) (base : Nat) (t : TypeId) : OE E w base t none 0 0 [] := Own.nil w base t E.sz
theorem OE.made (w : World) (base : Nat) (t : TypeId) (hb : base ≤ w.heap.size) : OE E (w.alloc (.cells #[] t)) base t (some ⟨w.heap.size, 0, none⟩) 0 0 [] := Own.made w base t E.sz hb
theorem OE.lit (w : World) (base : Nat) (t : TypeId) (n : Nat) (l : List α) (cs : Array Value) (hb : base ≤ w.heap.size) (hm : n ≤ maxLen) (hn : l.length = n) (hc : cs = (E.flat l).toArray) :
    OE E (w.alloc (.cells cs t)) base t (some ⟨w.heap.size, 0, none⟩) n n l := by
  have := Own.lit w base t E.sz n cs hb hm (by rw [hc, List.size_toArray, E.flat_length, hn])
  rw [hc] at this ⊢
  exact this
/-- one element stored into -/
theorem flat_set_cells (E : El α) (l : List α) (k : Nat) (x y : α) (hk : l[k]? = some y) : ∀ i, (E.flat (l.set k x))[i]? = if k * E.sz ≤ i ∧ i < k * E.sz + E.sz then (E.cells x)[i - k * E.sz]? else (E.flat l)[i]? := by
  intro i
  have hlt : k < l.length := (List.getElem?_eq_some_iff.1 hk).1
  have hy : l[k] = y := (List.getElem?_eq_some_iff.1 hk).2
  have h1 : E.flat l = E.flat (l.take k) ++ (E.cells y ++ E.flat (l.drop (k + 1))) := by
    rw [← E.flat_cons, ← E.flat_append, ← hy, ← List.drop_eq_getElem_cons hlt, List.take_append_drop]
  have h2 : (E.flat (l.take k)).length = k * E.sz := by rw [E.flat_length, List.length_take, Nat.min_eq_left (by omega)]
  have hx := E.len x
  have hy := E.len y
  rw [E.flat_set l k x hlt, h1]
  generalize E.flat (l.take k) = a at *
  generalize E.flat (l.drop (k + 1)) = b at *
  by_cases ha : i < k * E.sz
  · rw [List.getElem?_append_left (by omega), if_neg (by omega), List.getElem?_append_left (by omega)]
  · by_cases hb : i < k * E.sz + E.sz
    · rw [if_pos (by omega), List.getElem?_append_right (by omega), h2, List.getElem?_append_left (by omega)]
    · rw [if_neg (by omega), List.getElem?_append_right (by omega), List.getElem?_append_right (by omega), List.getElem?_append_right (l₁ := a) (by omega), List.getElem?_append_right (by omega), hx, hy]
end

theorem take_step {α : Type} {l r : List α} {k : Nat} {x : α} (h : l.take k = r.take k) (hx : l[k]? = some x) (hy : r[k]? = some x) : l.take (k + 1) = r.take (k + 1) := by
  rw [List.take_add_one, List.take_add_one, h, hx, hy]
theorem ne_at {α : Type} {l r : List α} {k : Nat} {x y : α} (hx : l[k]? = some x) (hy : r[k]? = some y) (hn : x ≠ y) : l ≠ r := by
  rintro rfl
  rw [hx] at hy
  injection hy with hy
  exact hn hy

/-- what an append of elements leaves -/
def ApE {α : Type} (E : El α) (w : World) (base : Nat) (t : TypeId) (A : Option Addr) (n c : Nat) (l : List α) (A' : Option Addr) (c' : Nat) (w' : World) : Prop := Apped w base t E.sz A n c (E.flat l) A' c' w'
section
variable {α : Type} {E : El α}
theorem ApE.oe {w w' : World} {base : Nat} {t : TypeId} {A A' : Option Addr} {n c c' : Nat} {l : List α} (h : ApE E w base t A n c l A' c' w') : OE E w' base t A' n c' l := h.1
theorem ApE.chg {w w' : World} {base : Nat} {t : TypeId} {A A' : Option Addr} {n c c' : Nat} {l : List α} (h : ApE E w base t A n c l A' c' w') : Chg (fun k => ∃ ad, A = some ad ∧ k = ad.block) w w' := h.2.1
theorem ApE.grew {w0 w w' : World} {base : Nat} {t : TypeId} {A A' : Option Addr} {n c c' : Nat} {l : List α} (h : ApE E w base t A n c l A' c' w') (hg : Grew w0 w) (hA : ∀ ad, A = some ad → w0.heap.size ≤ ad.block) : Grew w0 w' :=
  hg.step h.chg fun k hk ⟨ad, e, he⟩ => by have := hA ad e; omega

variable {P : Program}
theorem wpList_appE {ops : Array Oper} {rest : List Oper} {o : Oper} {a : Act} {w : World} {Q : Exit → Act → World → Prop} (hgd : o.guard = none) (s x : Operand) (ts t : TypeId) {z : Value} {bytes : Nat}
    (hinfo : (P.info? t).map (fun i => (i.zero, i.size, i.bytes)) = some (some z, E.sz, bytes)) (hzs : z.cells.size = E.sz) (ht : P.underlying ts = some (.slice t))
    (ho : o.op = .call { callee := .builtin .append, args := #[s, x], argTypes := #[ts, ts] })
    (base : Nat) (A : Option Addr) (n c : Nat) (l : List α) (hs : a.eval s = .slice A n c) (hown : OE E w base t A n c l) (hbase : base ≤ w.heap.size)
    (B : Option Addr) (m d : Nat) (r : List α) (hx : a.eval x = .slice B m d) (hr : RE E w B m r) (h63 : n + m ≤ maxLen) (hbytes : (n + m) * bytes ≤ 140737488355328)
    (h : ∀ A' c' w', ApE E w base t A (n + m) c (l ++ r) A' c' w' → wpList P ops Q rest (a.put o.dst (.slice A' (n + m) c')) w') : wpList P ops Q (o :: rest) a w := by
  obtain ⟨i0, hi, hz0, hz1, hz2⟩ := info_parts hinfo
  refine wpList_app w hgd s x ts t ho i0 z E.sz bytes ht hi hz0 hz1 hz2 hzs base A n c _ hs hown hbase B m d _ hx (by rw [E.flat_length, hr.1]) hr.2 (E.flat_one' r) h63 hbytes ?_
  intro A' c' w' h1
  exact h A' c' w' (by unfold ApE; rw [E.flat_append]; exact h1)
end
end Go.Proofs.YtailooldnelecaaGreatDoor

namespace Go.Proofs.YtailooldnelecaaGreatDoor
open Go.RowKit

/-- a row of n elements, of room for c, in a block of its own from some cell on -/
def OwT (w : World) (t : TypeId) (sz : Nat) (A : Option Addr) (n c : Nat) (cs : List Value) : Prop :=
  cs.length = n * sz ∧ ((A = none ∧ n = 0 ∧ c = 0) ∨ ∃ g o cur, A = some ⟨g, o, none⟩ ∧ Blk w g t cur ∧ n ≤ c ∧ c ≤ maxLen ∧ cur.size = o + c * sz ∧ (cur.toList.drop o).take (n * sz) = cs)
theorem Own.t {w : World} {base : Nat} {t : TypeId} {sz n c : Nat} {A : Option Addr} {cs : List Value} (h : Own w base t sz A n c cs) : OwT w t sz A n c cs := by
  refine ⟨h.1, ?_⟩
  rcases h.2 with ⟨e, h3⟩ | ⟨g, cap, cur, e, hb, hg, h3, h4, h5, h6⟩
  · injection e with e1 e2 e3
    exact .inl ⟨e1, h3, e3⟩
  · injection e with e1 e2 e3
    subst e3
    exact .inr ⟨g, 0, cur, e1, hg, h3, h4, by omega, by simpa using h6⟩
theorem OwT.rd {w : World} {t : TypeId} {sz n c : Nat} {A : Option Addr} {cs : List Value} (h : OwT w t sz A n c cs) : Rd w A cs := fun k u hu => by
  obtain ⟨h1, h2⟩ := h
  rcases h2 with ⟨_, h3, _⟩ | ⟨g, o, cur, e, hg, _, _, _, h6⟩
  · subst h3
    have : cs = [] := List.eq_nil_of_length_eq_zero (by simpa using h1)
    subst this
    simp at hu
  · subst e
    refine ⟨_, rfl, ?_⟩
    rw [Addr.add_lit, Blk.cell hg]
    rw [← h6, List.getElem?_take] at hu
    split at hu
    · rw [List.getElem?_drop] at hu
      simpa using hu
    · cases hu
theorem OwT.chg {S : Nat → Prop} {w w' : World} {t : TypeId} {sz n c : Nat} {A : Option Addr} {cs : List Value} (h : OwT w t sz A n c cs) (hc : Chg S w w') (hn : ∀ ad, A = some ad → ¬ S ad.block) : OwT w' t sz A n c cs := by
  refine ⟨h.1, ?_⟩
  rcases h.2 with h3 | ⟨g, o, cur, e, hg, rest⟩
  · exact .inl h3
  · subst e
    exact .inr ⟨g, o, cur, rfl, hg.chg hc (hn _ rfl), rest⟩
theorem OwT.cap {w : World} {t : TypeId} {sz n c : Nat} {A : Option Addr} {cs : List Value} (h : OwT w t sz A n c cs) : n ≤ c ∧ c ≤ 9223372036854775807 := by
  rcases h.2 with ⟨_, e2, e3⟩ | ⟨g, o, cur, e, hg, h3, h4, _⟩
  · omega
  · unfold maxLen at h4
    omega
theorem OwT.blk {w : World} {t : TypeId} {sz n c : Nat} {A : Option Addr} {cs : List Value} (h : OwT w t sz A n c cs) : ∀ ad, A = some ad → ∃ cur, Blk w ad.block t cur := fun ad e => by
  rcases h.2 with ⟨e1, _⟩ | ⟨g, o, cur, e1, hg, _⟩
  · rw [e1] at e
    cases e
  · rw [e1] at e
    injection e with e
    subst e
    exact ⟨cur, hg⟩
/-- its head cut off: what slicing leaves -/
theorem OwT.cut {w : World} {t : TypeId} {sz n c : Nat} {ad : Addr} {cs : List Value} (h : OwT w t sz (some ad) n c cs) {k : Nat} (hk : k ≤ n) (hkc : k < c) : OwT w t sz (some ⟨ad.block, ad.off + k * sz, none⟩) (n - k) (c - k) (cs.drop (k * sz)) := by
  refine ⟨by rw [List.length_drop, h.1, Nat.sub_mul], ?_⟩
  rcases h.2 with ⟨e, _⟩ | ⟨g, o, cur, e, hg, h3, h4, h5, h6⟩
  · cases e
  · injection e with e
    subst e
    refine .inr ⟨g, o + k * sz, cur, rfl, hg, by omega, by omega, ?_, ?_⟩
    · rw [h5, Nat.sub_mul]
      have := Nat.mul_le_mul_right sz (Nat.le_of_lt hkc)
      omega
    · rw [← h6, List.drop_take, List.drop_drop, Nat.sub_mul]

section
variable {P : Program} (w : World)
/-- What an append leaves: the row with what is appended, in its old block or in a new one. -/
structure AppT (w : World) (e : TypeId) (sz : Nat) (A : Option Addr) (n c : Nat) (xs : List Value) (A' : Option Addr) (c' : Nat) (w' : World) : Prop where
  own : OwT w' e sz A' n c' xs
  chg : Chg (fun k => ∃ ad, A = some ad ∧ k = ad.block) w w'
  at_ : A' = A ∨ ∃ g, A' = some ⟨g, 0, none⟩ ∧ w.heap.size ≤ g ∧ g < w'.heap.size
theorem run_appT (t ty e : TypeId) (i : TypeInfo) (z : Value) (sz bytes : Nat) (ht : P.underlying t = some (.slice e)) (hi : P.info? e = some i) (hz : i.zero = some z)
    (hsize : i.size = sz) (hby : i.bytes = bytes) (hzs : z.cells.size = sz)
    (A : Option Addr) (n c : Nat) (xs : List Value) (hown : OwT w e sz A n c xs)
    (B : Option Addr) (m d : Nat) (news : List Value) (hl : news.length = m * sz) (hr : Rd w B news) (h1 : ∀ u ∈ news, u.oneCell' = true)
    (h63 : n + m ≤ maxLen) (hbytes : (n + m) * bytes ≤ 140737488355328) :
    ∃ A' c' w', (Builtin.append_ #[t, t] ty #[.slice A n c, .slice B m d]).run P w = .ok (.slice A' (n + m) c') w' ∧ AppT w e sz A (n + m) c (xs ++ news) A' c' w' := by
  by_cases hroom : n + m ≤ c
  · have hlen : (xs ++ news).length = (n + m) * sz := by rw [List.length_append, hown.1, hl, Nat.add_mul]
    have hf := firstCells_rd (P := P) w sz m d B news hl hr
    rcases hown.2 with ⟨rfl, rfl, rfl⟩ | ⟨g, o, cur, rfl, hg, hnc, hcm, hcs, htake⟩
    · obtain rfl : m = 0 := by omega
      have hn : news = [] := List.eq_nil_of_length_eq_zero (by simpa using hl)
      subst hn
      refine ⟨none, 0, w, ?_, by simpa using hown, Chg.refl _ _, .inl rfl⟩
      subst hsize
      simp [Builtin.append_, run_underlying ht, sizeOf, typeInfo, hi, Builtin.lenOf, hf]
    · subst hsize
      have hfit : o + n * i.size + news.length ≤ cur.size := by
        have := Nat.mul_le_mul_right i.size hroom
        rw [hl, hcs]
        rw [Nat.add_mul] at this
        omega
      have hst := run_storeCells_at P g (o + n * i.size) e news 0 cur w hg (by simpa using hfit) h1
      simp only [Nat.add_zero] at hst
      refine ⟨some ⟨g, o, none⟩, c, w.setRow g (cur.toList.take (o + n * i.size) ++ news ++ cur.toList.drop (o + n * i.size + news.length)).toArray, ?_, ⟨hlen, .inr ⟨g, o, _, rfl, setRow_heap w g cur _ e _ hg, hroom, hcm, ?_, ?_⟩⟩,
        ⟨rfl, rfl, rfl, by simp, fun k _ hk => setRow_other w g k _ (fun e => hk ⟨_, rfl, e⟩)⟩, .inl rfl⟩
      · simp [Builtin.append_, run_underlying ht, sizeOf, typeInfo, hi, Builtin.lenOf, hroom, hf, Addr.add_lit, hst]
      · simp only [List.size_toArray, List.length_append, List.length_take, List.length_drop, Array.length_toList]
        omega
      · have hxl := hown.1
        have e1 : cur.toList.take (o + n * i.size) = cur.toList.take o ++ xs := by rw [← htake, List.take_add]
        have e2 : (cur.toList.take o).length = o := by
          rw [List.length_take, Array.length_toList]
          exact Nat.min_eq_left (by omega)
        rw [List.toList_toArray, e1, List.append_assoc, List.append_assoc, List.drop_left' e2, ← List.append_assoc, ← hlen]
        exact List.take_left
  · obtain ⟨c', w', hrun, h2, h3, h4⟩ := run_app_new (P := P) w t ty e i z sz bytes ht hi hz hsize hby hzs A n c xs hown.1 hown.rd B m d news hl hr (by omega) hbytes h63
    exact ⟨_, c', w', hrun, h2.t, Chg.of_grew h3, .inr ⟨_, rfl, Nat.le_refl _, h4⟩⟩
theorem wp_appT {o : Oper} {a : Act} {K : Act → World → Prop} {Q : Exit → Act → World → Prop} (s x : Operand) (t e : TypeId)
    (ho : o.op = .call { callee := .builtin .append, args := #[s, x], argTypes := #[t, t] })
    (i : TypeInfo) (z : Value) (sz bytes : Nat) (ht : P.underlying t = some (.slice e)) (hi : P.info? e = some i) (hz : i.zero = some z)
    (hsize : i.size = sz) (hby : i.bytes = bytes) (hzs : z.cells.size = sz)
    (A : Option Addr) (n c : Nat) (xs : List Value) (hs : a.eval s = .slice A n c) (hown : OwT w e sz A n c xs)
    (B : Option Addr) (m d : Nat) (news : List Value) (hx : a.eval x = .slice B m d) (hl : news.length = m * sz) (hr : Rd w B news) (h1 : ∀ u ∈ news, u.oneCell' = true)
    (h63 : n + m ≤ maxLen) (hbytes : (n + m) * bytes ≤ 140737488355328)
    (h : ∀ A' c' w', AppT w e sz A (n + m) c (xs ++ news) A' c' w' → K (a.put o.dst (.slice A' (n + m) c')) w') : o.wp P a w K Q := by
  obtain ⟨A', c', w', hrun, h2⟩ := run_appT (P := P) w t o.type e i z sz bytes ht hi hz hsize hby hzs A n c xs hown B m d news hl hr h1 h63 hbytes
  unfold Oper.wp execOp
  simp only [ho, resolve, invoke, builtin, Sem.run_bind, Sem.run_pure, Result.andThen_ok, List.map_toArray, List.map_cons, List.map_nil, hs, hx, hrun]
  exact h A' c' w' h2
end

section
variable {α : Type} {E : El α} {P : Program}
def OT (E : El α) (w : World) (t : TypeId) (A : Option Addr) (n c : Nat) (l : List α) : Prop := OwT w t E.sz A n c (E.flat l)
theorem OE.ot {w : World} {base : Nat} {t : TypeId} {A : Option Addr} {n c : Nat} {l : List α} (h : OE E w base t A n c l) : OT E w t A n c l := Own.t h
theorem OT.chg {S : Nat → Prop} {w w' : World} {t : TypeId} {A : Option Addr} {n c : Nat} {l : List α} (h : OT E w t A n c l) (hc : Chg S w w') (hn : ∀ ad, A = some ad → ¬ S ad.block) : OT E w' t A n c l := OwT.chg h hc hn
theorem OT.grew {w w' : World} {t : TypeId} {A : Option Addr} {n c : Nat} {l : List α} (h : OT E w t A n c l) (hc : Grew w w') : OT E w' t A n c l := OwT.chg h hc fun _ _ e => e
theorem OT.len {w : World} {t : TypeId} {A : Option Addr} {n c : Nat} {l : List α} (hs : 0 < E.sz) (h : OT E w t A n c l) : l.length = n := by
  have := h.1
  rw [E.flat_length] at this
  exact Nat.eq_of_mul_eq_mul_right hs this
theorem OT.re {w : World} {t : TypeId} {A : Option Addr} {n c : Nat} {l : List α} (hs : 0 < E.sz) (h : OT E w t A n c l) : RE E w A n l := ⟨h.len hs, OwT.rd h⟩
theorem OT.nil (w : World) (t : TypeId) : OT E w t none 0 0 [] := ⟨by simp [El.flat], .inl ⟨rfl, rfl, rfl⟩⟩
theorem OT.cut {w : World} {t : TypeId} {n c : Nat} {ad : Addr} {l : List α} (h : OT E w t (some ad) n c l) {k : Nat} (hk : k ≤ n) (hkc : k < c) : OT E w t (some ⟨ad.block, ad.off + k * E.sz, none⟩) (n - k) (c - k) (l.drop k) := by
  have := OwT.cut h hk hkc
  rwa [E.flat_drop] at this
structure ApT (E : El α) (w : World) (t : TypeId) (A : Option Addr) (n : Nat) (l : List α) (A' : Option Addr) (c' : Nat) (w' : World) : Prop where
  own : OT E w' t A' n c' l
  chg : Chg (fun k => ∃ ad, A = some ad ∧ k = ad.block) w w'
  at_ : A' = A ∨ ∃ g, A' = some ⟨g, 0, none⟩ ∧ w.heap.size ≤ g ∧ g < w'.heap.size
theorem wpList_appT {ops : Array Oper} {rest : List Oper} {o : Oper} {a : Act} {w : World} {Q : Exit → Act → World → Prop} (hgd : o.guard = none) (s x : Operand) (ts t : TypeId) {z : Value} {bytes : Nat}
    (hinfo : (P.info? t).map (fun i => (i.zero, i.size, i.bytes)) = some (some z, E.sz, bytes)) (hzs : z.cells.size = E.sz) (ht : P.underlying ts = some (.slice t))
    (ho : o.op = .call { callee := .builtin .append, args := #[s, x], argTypes := #[ts, ts] })
    (A : Option Addr) (n c : Nat) (l : List α) (hs : a.eval s = .slice A n c) (hown : OT E w t A n c l)
    (B : Option Addr) (m d : Nat) (r : List α) (hx : a.eval x = .slice B m d) (hr : RE E w B m r) (h63 : n + m ≤ maxLen) (hbytes : (n + m) * bytes ≤ 140737488355328)
    (h : ∀ A' c' w', ApT E w t A (n + m) (l ++ r) A' c' w' → wpList P ops Q rest (a.put o.dst (.slice A' (n + m) c')) w') : wpList P ops Q (o :: rest) a w := by
  obtain ⟨i0, hi, hz0, hz1, hz2⟩ := info_parts hinfo
  exact wpList_plain hgd fun _ hK => wp_appT w s x ts t ho i0 z E.sz bytes ht hi hz0 hz1 hz2 hzs A n c _ hs hown B m d _ hx (by rw [E.flat_length, hr.1]) hr.2 (E.flat_one' r) h63 hbytes fun A' c' w' h2 =>
    hK _ _ (h A' c' w' ⟨by unfold OT; rw [E.flat_append]; exact h2.own, h2.chg, h2.at_⟩)
end
end Go.Proofs.YtailooldnelecaaGreatDoor

namespace Go.Proofs.YtailooldnelecaaGreatDoor
open Go.RowKit

def MapB (w : World) (b : Nat) (es : Array MapEntry) (clock : Nat) : Prop := w.heap[b]? = some (.map es clock)
def IterB (w : World) (r m since : Nat) (seen : Array Nat) (c0 : Nat) : Prop := w.heap[r]? = some (.mapIter (some m) since seen c0)
def setB (w : World) (b : Nat) (o : Obj) : World := { w with heap := w.heap.setIfInBounds b o }

theorem MapB.lt {w : World} {b : Nat} {es : Array MapEntry} {clock : Nat} (h : MapB w b es clock) : b < w.heap.size := (Array.getElem?_eq_some_iff.1 h).1
theorem IterB.lt {w : World} {r m since c0 : Nat} {seen : Array Nat} (h : IterB w r m since seen c0) : r < w.heap.size := (Array.getElem?_eq_some_iff.1 h).1
theorem MapB.chg {S : Nat → Prop} {w w' : World} {b : Nat} {es : Array MapEntry} {clock : Nat} (h : MapB w b es clock) (hc : Chg S w w') (hn : ¬ S b) : MapB w' b es clock := (hc.block b h.lt hn).trans h
theorem MapB.grew {w w' : World} {b : Nat} {es : Array MapEntry} {clock : Nat} (h : MapB w b es clock) (hc : Grew w w') : MapB w' b es clock := h.chg hc fun e => e
theorem MapB.new (w : World) (es : Array MapEntry) (clock : Nat) : MapB (w.alloc (.map es clock)) w.heap.size es clock := heap_alloc_new w _
theorem setB_size (w : World) (b : Nat) (o : Obj) : (setB w b o).heap.size = w.heap.size := by simp [setB]
theorem setB_here {w : World} {b : Nat} (hb : b < w.heap.size) (o : Obj) : (setB w b o).heap[b]? = some o := by simp [setB, hb]
theorem setB_far (w : World) {b k : Nat} (hk : k ≠ b) (o : Obj) : (setB w b o).heap[k]? = w.heap[k]? := by simp [setB, Ne.symm hk]
theorem Chg.setB {S : Nat → Prop} {a b : World} (h : Chg S a b) {k : Nat} (hk : a.heap.size ≤ k ∨ S k) (o : Obj) : Chg S a (setB b k o) :=
  ⟨h.os, h.tape, h.output, Nat.le_trans h.size (by rw [setB_size]; exact Nat.le_refl _), fun i hi hn => by
    rw [setB_far b (fun e => by subst e; rcases hk with h' | h'; omega; exact hn h')]
    exact h.block i hi hn⟩
theorem Blk.setB {w : World} {g b : Nat} {t : TypeId} {cs : Array Value} (h : Blk w g t cs) (hne : g ≠ b) (o : Obj) : Blk (setB w b o) g t cs := (setB_far w hne o).trans h
theorem MapB.set {w : World} {b : Nat} {es : Array MapEntry} {clock : Nat} (h : MapB w b es clock) (es' : Array MapEntry) (clock' : Nat) : MapB (setB w b (.map es' clock')) b es' clock' := setB_here h.lt _
theorem MapB.setB {w : World} {b k : Nat} {es : Array MapEntry} {clock : Nat} (h : MapB w b es clock) (hne : b ≠ k) (o : Obj) : MapB (setB w k o) b es clock := (setB_far w hne o).trans h
theorem MapB.setCell {w : World} {b : Nat} {es : Array MapEntry} {clock : Nat} (h : MapB w b es clock) {p : Addr} (hne : b ≠ p.block) (u : Value) : MapB (w.setCell p u) b es clock := (Below.heap_setCell w p u b hne).trans h
theorem MapB.ne_blk {w : World} {b g : Nat} {es : Array MapEntry} {clock : Nat} {t : TypeId} {cs : Array Value} (h : MapB w b es clock) (h' : Blk w g t cs) : b ≠ g := fun e => by
  subst e
  have := Eq.trans (Eq.symm h) h'
  cases this

section
variable {P : Program} {t k e : TypeId} {w : World} {b clock : Nat} {es : Array MapEntry} {s : ByteArray}

theorem run_look (ht : P.underlying t = some (.map k e)) (hk : P.underlying k = some .string) {z : Value} (hz : (zeroValue e).run P w = .ok z w) (hb : MapB w b es clock) {r : Option (Nat × Value)} (h : Instr.findNow .string (.string s) es.toList 0 = some r) :
    (Instr.lookup t (.map (some b)) (.string s) false).run P w = .ok (match r with | some (_, v) => v | none => z) w := by
  unfold MapB at hb
  cases r with
  | none => simp [Instr.lookup, run_underlying ht, MapKept.run_getObj_map hb, MapKept.run_checkKey hk (k := .string s) trivial, MapKept.run_findKey hk h, hz, Result.andThen]
  | some x => simp [Instr.lookup, run_underlying ht, MapKept.run_getObj_map hb, MapKept.run_checkKey hk (k := .string s) trivial, MapKept.run_findKey hk h, Result.andThen]
theorem run_put_new (ht : P.underlying t = some (.map k e)) (hk : P.underlying k = some .string) (hb : MapB w b es clock) (v : Value) (h : Instr.findNow .string (.string s) es.toList 0 = some none) :
    (Instr.mapUpdate t (.map (some b)) (.string s) v).run P w = .ok () (setB w b (.map (es.push ⟨.string s, v, clock⟩) (clock + 1))) := by
  unfold MapB at hb
  simp [Instr.mapUpdate, run_underlying ht, MapKept.run_getObj_map hb, MapKept.run_checkKey hk (k := .string s) trivial, MapKept.run_findKey hk h, MapKept.run_setObj_map _ hb, Result.andThen, setB]
theorem run_put_old (ht : P.underlying t = some (.map k e)) (hk : P.underlying k = some .string) (hb : MapB w b es clock) (v : Value) {i : Nat} {u : Value} {x : MapEntry} (h : Instr.findNow .string (.string s) es.toList 0 = some (some (i, u))) (hi : es[i]? = some x) (hx : x.key = .string s) :
    (Instr.mapUpdate t (.map (some b)) (.string s) v).run P w = .ok () (setB w b (.map (es.modify i fun y => { y with key := .string s, val := v }) clock)) := by
  unfold MapB at hb
  simp [Instr.mapUpdate, run_underlying ht, MapKept.run_getObj_map hb, MapKept.run_checkKey hk (k := .string s) trivial, MapKept.run_findKey hk h, hi, hx, MapKept.run_keyThatStays (d := .string) (k := .string s) trivial, MapKept.run_setObj_map _ hb, Result.andThen, setB]
theorem run_strike (ty : TypeId) (ht : P.underlying t = some (.map k e)) (hk : P.underlying k = some .string) (hb : MapB w b es clock) {i : Nat} {u : Value} (h : Instr.findNow .string (.string s) es.toList 0 = some (some (i, u))) :
    (Builtin.delete_ #[t, k] ty #[.map (some b), .string s]).run P w = .ok (.tuple #[]) (setB w b (.map (es.eraseIdxIfInBounds i) clock)) := by
  unfold MapB at hb
  simp [Builtin.delete_, run_underlying ht, MapKept.run_getObj_map hb, MapKept.run_checkKey hk (k := .string s) trivial, MapKept.run_findKey hk h, MapKept.run_setObj_map _ hb, Result.andThen, setB]

theorem run_next_one (ty : TypeId) {r since c0 : Nat} {x : MapEntry} (hr : IterB w r b since #[] c0) (hb : MapB w b #[x] clock) (hx : x.born < since) :
    (Instr.next (.pointer (some ⟨r, 0, none⟩)) false ty).run P w = .ok (.tuple #[.bool true, x.key, x.val]) (setB w r (.mapIter (some b) since #[x.born] clock)) := by
  unfold MapB at hb
  unfold IterB at hr
  have h2 : ¬ since ≤ x.born := by omega
  simp only [Instr.next, getObj, setObj, Sem.run_bind, Sem.run, hr, hb, Result.andThen]
  simp [hx, h2, choose, Sem.run, Question.forced, hr, setB, Sem.run_bind]
theorem run_entry_one {r since : Nat} {x : MapEntry} (hr : IterB w r b since #[x.born] clock) (hb : MapB w b #[x] clock) :
    (Instr.entry (.pointer (some ⟨r, 0, none⟩))).run P w = .ok (.tuple #[x.key, x.val]) w := by
  unfold MapB at hb
  unfold IterB at hr
  simp [Instr.entry, getObj, Sem.run_bind, Sem.run, hr, hb, Result.andThen]
theorem run_next_end (ty : TypeId) {r since c0 : Nat} {x : MapEntry} (hr : IterB w r b since #[x.born] c0) (hb : MapB w b #[x] clock) (hx : x.born < c0) :
    (Instr.next (.pointer (some ⟨r, 0, none⟩)) false ty).run P w = .ok (.tuple #[.bool false]) w := by
  unfold MapB at hb
  unfold IterB at hr
  have h2 : ¬ c0 ≤ x.born := by omega
  simp [Instr.next, getObj, Sem.run_bind, Sem.run, hr, hb, Result.andThen, h2, choose, Question.forced]
theorem run_next_none (ty : TypeId) {r since c0 : Nat} (hr : IterB w r b since #[] c0) (hb : MapB w b #[] clock) :
    (Instr.next (.pointer (some ⟨r, 0, none⟩)) false ty).run P w = .ok (.tuple #[.bool false]) w := by
  unfold MapB at hb
  unfold IterB at hr
  simp [Instr.next, getObj, Sem.run_bind, Sem.run, hr, hb, Result.andThen, choose, Question.forced]
theorem run_range_b (ht : P.underlying t = some (.map k e)) (hb : MapB w b es clock) :
    (Instr.range t (.map (some b))).run P w = .ok (.pointer (some ⟨w.heap.size, 0, none⟩)) (w.alloc (.mapIter (some b) clock #[] clock)) := run_range_map w t k e b es clock ht hb

/-! ### At the operation -/
variable {ops : Array Oper} {rest : List Oper} {o : Oper} {a : Act} {Q : Exit → Act → World → Prop}
theorem wpList_look (hg : o.guard = none) (m x : Operand) (t : TypeId) (hop : o.op = Op.lookup t m x false) (ht : P.underlying t = some (.map k e)) (hk : P.underlying k = some .string) {z : Value} (hz : (zeroValue e).run P w = .ok z w)
    (b : Nat) (hm : a.eval m = .map (some b)) (es : Array MapEntry) (clock : Nat) (hb : MapB w b es clock) (s : ByteArray) (hx : a.eval x = .string s) (r : Option (Nat × Value)) (h : Instr.findNow .string (.string s) es.toList 0 = some r)
    (hK : wpList P ops Q rest (a.put o.dst (match r with | some (_, v) => v | none => z)) w) : wpList P ops Q (o :: rest) a w := by
  refine wpList_plain hg fun K' hK' => ?_
  have hrun := run_look (P := P) ht hk hz hb h
  unfold Oper.wp
  simp [execOp, hop, hm, hx, hrun, Result.andThen]
  exact hK' _ _ hK
theorem wpList_put (hg : o.guard = none) (m x v : Operand) (t : TypeId) (hop : o.op = Op.mapUpdate t m x v) (b : Nat) (hm : a.eval m = .map (some b)) (s : ByteArray) (hx : a.eval x = .string s) (u : Value) (hv : a.eval v = u) (w' : World)
    (hrun : (Instr.mapUpdate t (.map (some b)) (.string s) u).run P w = .ok () w') (hK : wpList P ops Q rest (a.put o.dst undef) w') : wpList P ops Q (o :: rest) a w := by
  refine wpList_plain hg fun K' hK' => ?_
  unfold Oper.wp
  simp [execOp, hop, hm, hx, hv, hrun, Result.andThen]
  exact hK' _ _ hK
end
end Go.Proofs.YtailooldnelecaaGreatDoor
