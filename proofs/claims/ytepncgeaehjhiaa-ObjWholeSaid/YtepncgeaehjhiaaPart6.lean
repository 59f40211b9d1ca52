/-
  Several texts in one:
  Rows of elements that take some cells each: read (RE), owned (OE), appended to. Conditions: none; no program in sight.
  Rows of texts: sorted by the library's sort; a text's beginning. Conditions: none.
  The names of a disk of any number of files, sorted. Conditions: none.
  The power goes: what stays of a disk of any number of files; Off. Conditions: files within the file's bound.
  A disk of any number of files: armed, off, on; a write at which the power goes. Conditions: counts that have not come to their ends.
-/
import Derived.Test.YtepncgeaehjhiaaPart1
import Derived.Sort.OwnSorted
import Derived.Sort.KeysCollected
import Derived.Test.YtepncgeaehjhiaaShelf
import Derived.Maps.RangeRun
import Derived.Test.YtepncgeaehjhiaaPart5

namespace Go.Proofs.Ytepncgeaehjhiaa

/-- how an element lies in cells -/
structure El (α : Type) where
  cells : α → List Value
  sz : Nat
  len : ∀ x, (cells x).length = sz
  one : ∀ x, ∀ u ∈ cells x, u.oneCell' = true

namespace El
variable {α : Type} (E : El α)
def flat (l : List α) : List Value := l.flatMap E.cells
theorem flat_nil : E.flat [] = [] := rfl
theorem flat_cons (x : α) (l : List α) : E.flat (x :: l) = E.cells x ++ E.flat l := rfl
theorem flat_append (a b : List α) : E.flat (a ++ b) = E.flat a ++ E.flat b := by simp [flat]
theorem flat_one (x : α) : E.flat [x] = E.cells x := by simp [flat]
theorem flat_length (l : List α) : (E.flat l).length = l.length * E.sz := by
  induction l with
  | nil => simp [flat]
  | cons x l ih => rw [flat_cons, List.length_append, ih, E.len, List.length_cons, Nat.succ_mul]; omega
theorem flat_one' (l : List α) : ∀ u ∈ E.flat l, u.oneCell' = true := by
  intro u hu
  obtain ⟨x, _, hx⟩ := List.mem_flatMap.1 hu
  exact E.one x u hx
theorem flat_take (l : List α) (k : Nat) : (E.flat l).take (k * E.sz) = E.flat (l.take k) := by
  induction l generalizing k with
  | nil => simp [flat]
  | cons x l ih =>
    cases k with
    | zero => simp [flat]
    | succ k => rw [List.take_succ_cons, flat_cons, flat_cons, Nat.succ_mul, Nat.add_comm, List.take_length_add_append' (E.len x), ih]
  where
  List.take_length_add_append' {l1 l2 : List Value} {n i : Nat} (h : l1.length = n) : (l1 ++ l2).take (n + i) = l1 ++ l2.take i := by
    subst h; rw [List.take_append]; simp [List.take_of_length_le]
theorem flat_drop (l : List α) (k : Nat) : (E.flat l).drop (k * E.sz) = E.flat (l.drop k) := by
  have h1 : E.flat l = E.flat (l.take k) ++ E.flat (l.drop k) := by rw [← flat_append, List.take_append_drop]
  rcases Nat.lt_or_ge l.length k with h | h
  · rw [List.drop_of_length_le (by rw [flat_length]; exact Nat.mul_le_mul_right _ (by omega)), List.drop_of_length_le (by omega)]
    rfl
  · rw [h1, List.drop_left' (by rw [flat_length, List.length_take, Nat.min_eq_left h])]
theorem flat_get (l : List α) {k j : Nat} {x : α} (hk : l[k]? = some x) (hj : j < E.sz) : (E.flat l)[k * E.sz + j]? = (E.cells x)[j]? := by
  have hlt : k < l.length := (List.getElem?_eq_some_iff.1 hk).1
  have hx : l[k] = x := (List.getElem?_eq_some_iff.1 hk).2
  have h1 : E.flat l = E.flat (l.take k) ++ (E.cells x ++ E.flat (l.drop (k + 1))) := by
    rw [← flat_cons, ← flat_append, ← hx, ← List.drop_eq_getElem_cons hlt, List.take_append_drop]
  have h2 : (E.flat (l.take k)).length = k * E.sz := by rw [flat_length, List.length_take, Nat.min_eq_left (by omega)]
  rw [h1, List.getElem?_append_right (by omega), h2, Nat.add_sub_cancel_left, List.getElem?_append_left (by rw [E.len]; exact hj)]
theorem flat_set (l : List α) (k : Nat) (x : α) (hk : k < l.length) : E.flat (l.set k x) = E.flat (l.take k) ++ (E.cells x ++ E.flat (l.drop (k + 1))) := by
  rw [List.set_eq_take_append_cons_drop, if_pos hk, flat_append, flat_cons]
end El

theorem add_pos {a : Addr} {j : Nat} (hj : 0 < j) : a.add j = ⟨a.block, a.off + j, none⟩ := by
  unfold Addr.add
  rw [if_neg (by omega)]
/-- the walk's spelling of a later cell of an element -/
theorem cell_off {w : World} {ad : Addr} {i j : Nat} {u : Value} (hj : 0 < j) (h : w.cell? (ad.add (i + j)) = some u) : w.cell? ⟨(ad.add i).block, (ad.add i).off + j, none⟩ = some u := by
  rw [← add_add, add_pos hj] at h
  exact h

section
variable {α : Type} {E : El α}
/-- a slice's cells are these elements -/
def RE (E : El α) (w : World) (A : Option Addr) (n : Nat) (l : List α) : Prop := l.length = n ∧ Rd w A (E.flat l)
/-- a row of elements of the call's own -/
def OE (E : El α) (w : World) (base : Nat) (t : TypeId) (A : Option Addr) (n c : Nat) (l : List α) : Prop := Own w base t E.sz A n c (E.flat l)

theorem RE.at_ {w : World} {A : Option Addr} {n : Nat} {l : List α} (h : RE E w A n l) {k : Nat} (hk : k < n) (hs : 0 < E.sz) :
    ∃ ad x, A = some ad ∧ l[k]? = some x ∧ ∀ j u, (E.cells x)[j]? = some u → w.cell? (ad.add (k * E.sz + j)) = some u := by
  have hl : k < l.length := by rw [h.1]; exact hk
  have hx : l[k]? = some l[k] := List.getElem?_eq_getElem hl
  have h0 := E.flat_get l (x := l[k]) hx hs
  obtain ⟨u0, hu0⟩ : ∃ u, (E.cells l[k])[0]? = some u := ⟨(E.cells l[k])[0]'(by rw [E.len]; exact hs), List.getElem?_eq_getElem _⟩
  rw [hu0] at h0
  obtain ⟨ad, rfl, _⟩ := h.2 _ _ h0
  refine ⟨ad, l[k], rfl, hx, fun j u hu => ?_⟩
  have hj : j < E.sz := by have := (List.getElem?_eq_some_iff.1 hu).1; rwa [E.len] at this
  obtain ⟨ad', e, hc⟩ := h.2 _ u ((E.flat_get l hx hj).trans hu)
  injection e with e
  subst e
  exact hc
theorem RE.nil (w : World) (A : Option Addr) : RE E w A 0 [] := ⟨rfl, Rd.nil _ _⟩
theorem RE.chg {S : Nat → Prop} {w w' : World} {A : Option Addr} {n : Nat} {l : List α} (h : RE E w A n l) (hc : Chg S w w') (hn : ∀ ad, A = some ad → ¬ S ad.block) : RE E w' A n l := ⟨h.1, h.2.chg hc hn⟩
theorem RE.grew {w w' : World} {A : Option Addr} {n : Nat} {l : List α} (h : RE E w A n l) (hc : Grew w w') : RE E w' A n l := ⟨h.1, h.2.grew hc⟩
theorem RE.drewN {w : World} {A : Option Addr} {n : Nat} {l : List α} (h : RE E w A n l) (k : Nat) : RE E (w.drewN k) A n l := h
theorem RE.lt {w : World} {A : Option Addr} {n : Nat} {l : List α} (h : RE E w A n l) (hs : 0 < E.sz) : ∀ ad, A = some ad → 0 < n → ad.block < w.heap.size := by
  rintro ad rfl hn
  refine h.2.lt ?_
  intro e
  have := congrArg List.length e
  rw [E.flat_length, h.1, List.length_nil] at this
  have := Nat.mul_pos hn hs
  omega
theorem RE.far {S : Nat → Prop} {w w' : World} {A : Option Addr} {n : Nat} {l : List α} (h : RE E w A n l) (hc : Chg S w w') (hn : ∀ ad, A = some ad → 0 < n → ¬ S ad.block) : RE E w' A n l := by
  rcases Nat.eq_zero_or_pos n with h0 | h0
  · have : l = [] := List.eq_nil_of_length_eq_zero (by rw [h.1, h0])
    subst this
    exact ⟨h.1, Rd.nil _ _⟩
  · exact ⟨h.1, h.2.chg hc (fun ad e => hn ad e h0)⟩
theorem RE.drop {w : World} {ad : Addr} {n : Nat} {l : List α} (h : RE E w (some ad) n l) (i : Nat) : RE E w (some (ad.add (i * E.sz))) (n - i) (l.drop i) := by
  refine ⟨by rw [List.length_drop, h.1], ?_⟩
  rw [← E.flat_drop]
  exact h.2.drop (i * E.sz)
theorem RE.take {w : World} {A : Option Addr} {n : Nat} {l : List α} (h : RE E w A n l) {i : Nat} (hi : i ≤ n) : RE E w A i (l.take i) := by
  refine ⟨by rw [List.length_take, h.1]; omega, ?_⟩
  rw [← E.flat_take]
  exact h.2.take _
theorem RE.take0 {w : World} {A : Option Addr} {n : Nat} {l r : List α} (h : RE E w A (n + r.length) (l ++ r)) : RE E w A n l := by
  have h1 : l.length = n := by have := h.1; simp at this; omega
  have := h.take (i := n) (by omega)
  rwa [List.take_left' h1] at this
theorem RE.newAt {w : World} {B : Nat} {l : List α} {n : Nat} {cs : Array Value} {t : TypeId} (hB : B = w.heap.size) (hn : l.length = n) (hc : cs = (E.flat l).toArray) : RE E (w.alloc (.cells cs t)) (some ⟨B, 0, none⟩) n l := by
  subst hB; subst hc
  exact ⟨hn, Rd.new w (E.flat l).toArray t⟩
theorem OE.len {w : World} {base : Nat} {t : TypeId} {A : Option Addr} {n c : Nat} {l : List α} (hs : 0 < E.sz) (h : OE E w base t A n c l) : l.length = n := by
  have := Own.len h
  rw [E.flat_length] at this
  exact Nat.eq_of_mul_eq_mul_right hs this
theorem OE.cap {w : World} {base : Nat} {t : TypeId} {A : Option Addr} {n c : Nat} {l : List α} (h : OE E w base t A n c l) : n ≤ c ∧ c ≤ 9223372036854775807 := by have := Own.cap h; unfold maxLen at this; omega
theorem OE.re {w : World} {base : Nat} {t : TypeId} {A : Option Addr} {n c : Nat} {l : List α} (hs : 0 < E.sz) (h : OE E w base t A n c l) : RE E w A n l := ⟨h.len hs, Own.rd h⟩
theorem OE.chg {S : Nat → Prop} {w w' : World} {base : Nat} {t : TypeId} {A : Option Addr} {n c : Nat} {l : List α} (h : OE E w base t A n c l) (hc : Chg S w w') (hn : ∀ ad, A = some ad → ¬ S ad.block) : OE E w' base t A n c l := Own.chg h hc hn
theorem OE.grew {w w' : World} {base : Nat} {t : TypeId} {A : Option Addr} {n c : Nat} {l : List α} (h : OE E w base t A n c l) (hc : Grew w w') : OE E w' base t A n c l := Own.grew h hc
theorem OE.drewN {w : World} {base : Nat} {t : TypeId} {A : Option Addr} {n c : Nat} {l : List α} (h : OE E w base t A n c l) (k : Nat) : OE E (w.drewN k) base t A n c l := h
theorem OE.nil (w : World) (base : Nat) (t : TypeId) : OE E w base t none 0 0 [] := Own.nil w base t E.sz
theorem OE.made (w : World) (base : Nat) (t : TypeId) (hb : base ≤ w.heap.size) : OE E (w.alloc (.cells #[] t)) base t (some ⟨w.heap.size, 0, none⟩) 0 0 [] := Own.made w base t E.sz hb
theorem OE.lit (w : World) (base : Nat) (t : TypeId) (n : Nat) (l : List α) (cs : Array Value) (hb : base ≤ w.heap.size) (hm : n ≤ maxLen) (hn : l.length = n) (hc : cs = (E.flat l).toArray) :
    OE E (w.alloc (.cells cs t)) base t (some ⟨w.heap.size, 0, none⟩) n n l := by
  have := Own.lit w base t E.sz n cs hb hm (by rw [hc, List.size_toArray, E.flat_length, hn])
  rw [hc] at this ⊢
  exact this
/-- one element stored into -/
theorem flat_set_cells (E : El α) (l : List α) (k : Nat) (x y : α) (hk : l[k]? = some y) : ∀ i, (E.flat (l.set k x))[i]? = if k * E.sz ≤ i ∧ i < k * E.sz + E.sz then (E.cells x)[i - k * E.sz]? else (E.flat l)[i]? := by
  intro i
  have hlt : k < l.length := (List.getElem?_eq_some_iff.1 hk).1
  have hy : l[k] = y := (List.getElem?_eq_some_iff.1 hk).2
  have h1 : E.flat l = E.flat (l.take k) ++ (E.cells y ++ E.flat (l.drop (k + 1))) := by
    rw [← E.flat_cons, ← E.flat_append, ← hy, ← List.drop_eq_getElem_cons hlt, List.take_append_drop]
  have h2 : (E.flat (l.take k)).length = k * E.sz := by rw [E.flat_length, List.length_take, Nat.min_eq_left (by omega)]
  have hx := E.len x
  have hy := E.len y
  rw [E.flat_set l k x hlt, h1]
  generalize E.flat (l.take k) = a at *
  generalize E.flat (l.drop (k + 1)) = b at *
  by_cases ha : i < k * E.sz
  · rw [List.getElem?_append_left (by omega), if_neg (by omega), List.getElem?_append_left (by omega)]
  · by_cases hb : i < k * E.sz + E.sz
    · rw [if_pos (by omega), List.getElem?_append_right (by omega), h2, List.getElem?_append_left (by omega)]
    · rw [if_neg (by omega), List.getElem?_append_right (by omega), List.getElem?_append_right (by omega), List.getElem?_append_right (l₁ := a) (by omega), List.getElem?_append_right (by omega), hx, hy]
end

theorem take_step {α : Type} {l r : List α} {k : Nat} {x : α} (h : l.take k = r.take k) (hx : l[k]? = some x) (hy : r[k]? = some x) : l.take (k + 1) = r.take (k + 1) := by
  rw [List.take_add_one, List.take_add_one, h, hx, hy]
theorem ne_at {α : Type} {l r : List α} {k : Nat} {x y : α} (hx : l[k]? = some x) (hy : r[k]? = some y) (hn : x ≠ y) : l ≠ r := by
  rintro rfl
  rw [hx] at hy
  injection hy with hy
  exact hn hy

/-- what an append of elements leaves -/
def ApE {α : Type} (E : El α) (w : World) (base : Nat) (t : TypeId) (A : Option Addr) (n c : Nat) (l : List α) (A' : Option Addr) (c' : Nat) (w' : World) : Prop := Apped w base t E.sz A n c (E.flat l) A' c' w'
section
variable {α : Type} {E : El α}
theorem ApE.oe {w w' : World} {base : Nat} {t : TypeId} {A A' : Option Addr} {n c c' : Nat} {l : List α} (h : ApE E w base t A n c l A' c' w') : OE E w' base t A' n c' l := h.1
theorem ApE.chg {w w' : World} {base : Nat} {t : TypeId} {A A' : Option Addr} {n c c' : Nat} {l : List α} (h : ApE E w base t A n c l A' c' w') : Chg (fun k => ∃ ad, A = some ad ∧ k = ad.block) w w' := h.2.1
theorem ApE.grew {w0 w w' : World} {base : Nat} {t : TypeId} {A A' : Option Addr} {n c c' : Nat} {l : List α} (h : ApE E w base t A n c l A' c' w') (hg : Grew w0 w) (hA : ∀ ad, A = some ad → w0.heap.size ≤ ad.block) : Grew w0 w' :=
  hg.step h.chg fun k hk ⟨ad, e, he⟩ => by have := hA ad e; omega

variable {P : Program}
theorem wpList_appE {ops : Array Oper} {rest : List Oper} {o : Oper} {a : Act} {w : World} {Q : Exit → Act → World → Prop} (hgd : o.guard = none) (s x : Operand) (ts t : TypeId) {z : Value} {bytes : Nat}
    (hinfo : (P.info? t).map (fun i => (i.zero, i.size, i.bytes)) = some (some z, E.sz, bytes)) (hzs : z.cells.size = E.sz) (ht : P.underlying ts = some (.slice t))
    (ho : o.op = .call { callee := .builtin .append, args := #[s, x], argTypes := #[ts, ts] })
    (base : Nat) (A : Option Addr) (n c : Nat) (l : List α) (hs : a.eval s = .slice A n c) (hown : OE E w base t A n c l) (hbase : base ≤ w.heap.size)
    (B : Option Addr) (m d : Nat) (r : List α) (hx : a.eval x = .slice B m d) (hr : RE E w B m r) (h63 : n + m ≤ maxLen) (hbytes : (n + m) * bytes ≤ 140737488355328)
    (h : ∀ A' c' w', ApE E w base t A (n + m) c (l ++ r) A' c' w' → wpList P ops Q rest (a.put o.dst (.slice A' (n + m) c')) w') : wpList P ops Q (o :: rest) a w := by
  obtain ⟨i0, hi, hz0, hz1, hz2⟩ := info_parts hinfo
  refine wpList_app w hgd s x ts t ho i0 z E.sz bytes ht hi hz0 hz1 hz2 hzs base A n c _ hs hown hbase B m d _ hx (by rw [E.flat_length, hr.1]) hr.2 (E.flat_one' r) h63 hbytes ?_
  intro A' c' w' h1
  exact h A' c' w' (by unfold ApE; rw [E.flat_append]; exact h1)
end
end Go.Proofs.Ytepncgeaehjhiaa

namespace Go.Proofs.Ytepncgeaehjhiaa
open Go.RowKit Go.Sort

abbrev lst (s : ByteArray) : List UInt8 := s.data.toList
abbrev txt (l : List UInt8) : ByteArray := ⟨l.toArray⟩
theorem txt_lst (s : ByteArray) : txt (lst s) = s := rfl
theorem lst_txt (l : List UInt8) : lst (txt l) = l := by simp
theorem lst_length (s : ByteArray) : (lst s).length = s.size := by rw [Array.length_toList]; rfl
theorem lst_inj {a b : ByteArray} : lst a = lst b ↔ a = b := by
  constructor
  · intro h
    rw [← txt_lst a, ← txt_lst b, h]
  · rintro rfl
    rfl
def elNm : El ByteArray := ⟨fun s => [.string s], 1, fun _ => rfl, by
  intro x u hu
  simp at hu
  subst hu
  rfl⟩
theorem infoNm : (Try.prog.info? 9).map (fun i => (i.zero, i.size, i.bytes)) = some (some (.string ⟨#[]⟩), 1, 16) := by kernel_rfl
theorem elNm_flat (l : List ByteArray) : elNm.flat l = l.map Value.string := by
  induction l with
  | nil => rfl
  | cons a l ih => rw [El.flat_cons, ih]; rfl
theorem flat_enc (l : List ByteArray) : elNm.flat l = (l.map lst).map encStr := by
  rw [elNm_flat, List.map_map]
  rfl
theorem enc_flat (l : List (List UInt8)) : l.map encStr = elNm.flat (l.map txt) := by
  rw [elNm_flat, List.map_map]
  rfl

def sortT (l : List ByteArray) : List ByteArray := ((l.map lst).mergeSort fun x y => decide (x ≤ y)).map txt
theorem sortT_length (l : List ByteArray) : (sortT l).length = l.length := by simp [sortT]
theorem sortT_perm (l : List ByteArray) : (sortT l).Perm l := by
  have h := (List.mergeSort_perm (l.map lst) fun x y => decide (x ≤ y)).map txt
  rw [List.map_map] at h
  have : (l.map (txt ∘ lst)) = l := by
    rw [show (txt ∘ lst) = id from funext fun s => txt_lst s]
    simp
  rw [this] at h
  exact h
theorem sortT_of_perm {l r : List ByteArray} (h : l.Perm r) : sortT l = sortT r := by
  have := Go.mergeSort_of_perm (h.map lst)
  unfold Go.leB at this
  unfold sortT
  rw [this]

theorem prefix_any (s t : ByteArray) (w : World) : Calls Try.prog 37 #[.string s, .string t] w fun e w' => e = .returned (.bool (Lib.hasPrefix (lst s) (lst t))) ∧ w = w' :=
  (Try.strings_HasPrefix s t w).mono fun _ _ ⟨h1, h2⟩ => ⟨h1, h2.symm⟩

theorem sort_names {w : World} {base : Nat} {A : Option Addr} {n c : Nat} {ss : List ByteArray} (h : OE elNm w base 9 A n c ss) (hn : n < 4611686018427387904) :
    Calls Try.prog 38 #[.slice A n c] w fun e w' => e = .returned (.tuple #[]) ∧ OE elNm w' base 9 A n c (sortT ss) ∧ Chg (fun k => ∃ ad, A = some ad ∧ k = ad.block) w w' := by
  have hl : ss.length = n := h.len (by decide)
  subst hl
  rcases h.2 with ⟨e, h3⟩ | ⟨g, cap, cur, e, hb, hg, h3, h4, h5, h6⟩
  · injection e with e1 e2 e3
    subst e1; subst e3
    have : ss = [] := List.eq_nil_of_length_eq_zero (by omega)
    subst this
    refine (Try.slices_Sort_string_none none 0 w).mono ?_
    rintro e w' ⟨rfl, n, rfl⟩
    exact ⟨rfl, by simpa [sortT] using h, Chg.refl _ w⟩
  · injection e with e1 e2 e3
    subst e1; subst e3
    have h6' : cur.toList.take (ss.map lst).length = (ss.map lst).map encStr := by
      rw [← flat_enc, ← h6]
      simp [elNm]
    have hH : Holds encStr w g 0 (ss.map lst).toArray := holds_of_block hg h6'
    have hS := Try.slices_Sort_string g 0 c (ss.map lst) w hH (Array.getElem?_eq_some_iff.1 hg).1 (by simpa using hn)
    rw [List.length_map] at hS
    refine hS.mono ?_
    rintro e w' ⟨rfl, k, os, rfl⟩
    refine ⟨rfl, ?_, ?_⟩
    · have := ownsRow_sorted (n := k) (os := os) (base := base) (g := g) (cap := c) (e := 9) (cur := cur) (ss := ss.map lst) (ts := (ss.map lst).mergeSort fun x y => decide (x ≤ y)) (by simp) hb hg (by simpa using h3) h4 (by simpa [elNm] using h5)
      rw [List.length_map] at this
      unfold OE Own
      rw [show elNm.flat (sortT ss) = ((ss.map lst).mergeSort fun x y => decide (x ≤ y)).map encStr from (enc_flat _).symm]
      exact this
    · exact (Chg.of_grownBy (grownBy_sorted (n := k) (os := os) _)).mono fun j _ hj => ⟨⟨g, 0, none⟩, rfl, by simpa using hj⟩
end Go.Proofs.Ytepncgeaehjhiaa

namespace Go.Proofs.Ytepncgeaehjhiaa
open Go.RowKit

/-- the names that begin so -/
def begun (E : List FEnt) (p : ByteArray) : List ByteArray := (E.filter fun e => Lib.hasPrefix (lst e.nm) (lst p)).map FEnt.nm
theorem begun_perm {E F : List FEnt} (h : E.Perm F) (p : ByteArray) : (begun E p).Perm (begun F p) := (h.filter _).map _
theorem begun_step (V : List FEnt) (f : FEnt) (p : ByteArray) : begun (V ++ [f]) p = begun V p ++ (if Lib.hasPrefix (lst f.nm) (lst p) then [f.nm] else []) := by
  unfold begun
  rw [List.filter_append, List.map_append]
  congr 1
  by_cases h : Lib.hasPrefix (lst f.nm) (lst p) = true <;> simp [h]
theorem begun_le (V : List FEnt) (p : ByteArray) : (begun V p).length ≤ V.length := by
  unfold begun
  rw [List.length_map]
  exact List.length_filter_le _ _

/-- some of the files, each once -/
structure Part (V E : List FEnt) : Prop where
  sub : ∀ f ∈ V, f ∈ E
  nd : V.Pairwise Apart
theorem Part.nil (E : List FEnt) : Part [] E := ⟨fun f h => by simp at h, List.Pairwise.nil⟩
theorem Apart.irrefl {f : FEnt} (h : Apart f f) : False := h.1 rfl
theorem nodup_of {V : List FEnt} (h : V.Pairwise Apart) : V.Nodup := h.imp fun {a b} h e => by subst e; exact h.irrefl
theorem sub_len : ∀ (V E : List FEnt), V.Nodup → (∀ f ∈ V, f ∈ E) → V.length ≤ E.length
  | [], E, _, _ => by simp
  | a :: V, E, h, hs => by
    obtain ⟨s, t, rfl⟩ := List.append_of_mem (hs a (by simp))
    obtain ⟨h1, h2⟩ := List.nodup_cons.1 h
    have := sub_len V (s ++ t) h2 (fun f hf => by
      have h3 := hs f (by simp [hf])
      simp only [List.mem_append, List.mem_cons] at h3 ⊢
      rcases h3 with h3 | rfl | h3
      · exact .inl h3
      · exact absurd hf h1
      · exact .inr h3)
    simp only [List.length_append, List.length_cons] at this ⊢
    omega
theorem apart_of {E : List FEnt} (hE : E.Pairwise Apart) {f g : FEnt} (hf : f ∈ E) (hg : g ∈ E) (h : f ≠ g) : Apart f g := by
  obtain ⟨i, hi⟩ := List.getElem?_of_mem hf
  obtain ⟨j, hj⟩ := List.getElem?_of_mem hg
  refine pair_at hE hj hi fun e => h ?_
  subst e
  rw [hi] at hj
  injection hj
theorem Part.le {V E : List FEnt} (h : Part V E) : V.length ≤ E.length := sub_len V E (nodup_of h.nd) h.sub
theorem Part.perm {V E : List FEnt} (h : Part V E) (hE : E.Pairwise Apart) (h2 : ∀ f ∈ E, f ∈ V) : V.Perm E := (List.perm_ext_iff_of_nodup (nodup_of h.nd) (nodup_of hE)).2 fun f => ⟨h.sub f, h2 f⟩
theorem Part.step {V E : List FEnt} (h : Part V E) (hE : E.Pairwise Apart) {f : FEnt} (hf : f ∈ E) (hn : f ∉ V) : Part (V ++ [f]) E :=
  ⟨fun g hg => (List.mem_append.1 hg).elim (h.sub g) (fun e => by simp at e; exact e ▸ hf), by
    rw [List.pairwise_append]
    refine ⟨h.nd, List.pairwise_singleton _ _, fun a ha b hb => ?_⟩
    obtain rfl : b = f := by simpa using hb
    have hab : a ≠ b := fun e => hn (e ▸ ha)
    exact apart_of hE (h.sub a ha) hf hab⟩
theorem born_inj {E : List FEnt} (hE : E.Pairwise Apart) {f g : FEnt} (hf : f ∈ E) (hg : g ∈ E) (h : f.born = g.born) : f = g := by
  by_cases e : f = g
  · exact e
  · exact absurd h (apart_of hE hf hg e).2.2.1

def seenOf (V : List FEnt) : Array Nat := (V.map FEnt.born).toArray
theorem seenOf_push (V : List FEnt) (f : FEnt) : (seenOf V).push f.born = seenOf (V ++ [f]) := by simp [seenOf]
theorem mem_left {V E : List FEnt} (h : Part V E) (hE : E.Pairwise Apart) (x : MapEntry) : x ∈ (leftOf (E.map FEnt.ent).toArray (seenOf V)).toList ↔ ∃ f ∈ E, f ∉ V ∧ x = f.ent := by
  unfold leftOf seenOf
  simp only [Array.toList_filter, List.mem_filter, List.mem_map]
  constructor
  · rintro ⟨⟨f, hf, rfl⟩, hx⟩
    refine ⟨f, hf, fun hV => ?_, rfl⟩
    simp [FEnt.ent, entF] at hx
    exact hx f hV rfl
  · rintro ⟨f, hf, hV, rfl⟩
    refine ⟨⟨f, hf, rfl⟩, ?_⟩
    simp [FEnt.ent, entF]
    exact fun g hg e => hV (born_inj hE (h.sub g hg) hf e ▸ hg)
theorem born_nodup {E : List FEnt} (hE : E.Pairwise Apart) : ((E.map FEnt.ent).toArray.toList.map (·.born)).Nodup := by
  simp only [List.map_map]
  exact List.Pairwise.map _ (fun a b h => h.2.2.1) hE

/-- the iterator over the disk's map, at world w, behind the files V -/
def ItV (w : World) (r m clock : Nat) (V : List FEnt) : Prop := ∃ c0, IterB w r m clock (seenOf V) c0 ∧ clock ≤ c0
theorem ItV.chg {T : Nat → Prop} {w w' : World} {r m clock : Nat} {V : List FEnt} (h : ItV w r m clock V) (hc : Chg T w w') (hn : ¬ T r) : ItV w' r m clock V := by
  obtain ⟨c0, h1, h2⟩ := h
  exact ⟨c0, h1.chg hc hn, h2⟩
theorem ItV.lt {w : World} {r m clock : Nat} {V : List FEnt} (h : ItV w r m clock V) : r < w.heap.size := h.choose_spec.1.lt
theorem itv_next {S : Nat → Prop} {w : World} {d m : Nat} {E : List FEnt} {clock : Nat} {up armed : Bool} {left kp : Int} {n r : Nat} {V : List FEnt} (h : FS S w d m E clock up armed left kp n) (hi : ItV w r m clock V) (hp : Part V E) :
    (V.Perm E ∧ ∀ ty, (Instr.next (.pointer (some ⟨r, 0, none⟩)) false ty).run Try.prog w = .ok (.tuple #[.bool false]) w) ∨
    ∃ f ∈ E, Part (V ++ [f]) E ∧ ∃ w1 : World, Chg (fun k => k = r) w w1 ∧ w1.heap.size = w.heap.size ∧ (∀ ty, (Instr.next (.pointer (some ⟨r, 0, none⟩)) false ty).run Try.prog w = .ok (.tuple #[.bool true, .string f.nm, .pointer (some ⟨f.g, 0, none⟩)]) w1) ∧
      ItV w1 r m clock (V ++ [f]) ∧ FS S w1 d m E clock up armed left kp n ∧ (Instr.entry (.pointer (some ⟨r, 0, none⟩))).run Try.prog w1 = .ok (.tuple #[.string f.nm, .pointer (some ⟨f.g, 0, none⟩)]) w1 := by
  obtain ⟨c0, hi, hc0⟩ := hi
  have hb := h.dsk.hm
  have hold : ∀ x ∈ ((E.map FEnt.ent).toArray).toList, x.born < clock := by
    intro x hx
    obtain ⟨f, hf, rfl⟩ := List.mem_map.1 (by simpa using hx)
    exact (h.ok f hf).born
  have key := fun ty => run_next_at (P := Try.prog) w ty r m clock c0 (seenOf V) (E.map FEnt.ent).toArray clock hi hb hold hc0
  by_cases h0 : (leftOf (E.map FEnt.ent).toArray (seenOf V)).size = 0
  · left
    refine ⟨hp.perm h.ap fun f hf => ?_, fun ty => ?_⟩
    · by_cases hV : f ∈ V
      · exact hV
      · have := (mem_left hp h.ap f.ent).2 ⟨f, hf, hV, rfl⟩
        rw [Array.eq_empty_of_size_eq_zero h0] at this
        simp at this
    · rcases key ty with ⟨_, h1⟩ | ⟨e, he, _⟩
      · exact h1
      · rw [Array.eq_empty_of_size_eq_zero h0] at he
        simp at he
  · right
    rcases key 0 with ⟨h1, _⟩ | ⟨e, he, w1, hw1, hrun⟩
    · exact absurd h1 h0
    obtain ⟨f, hf, hV, rfl⟩ := (mem_left hp h.ap e).1 he
    have hr1 : r < w1.heap.size := by rcases hw1 with rfl | rfl <;> exact hi.lt
    have hw1s : w1.heap.size = w.heap.size := by rcases hw1 with rfl | rfl <;> rfl
    have hc1 : Chg (fun k => k = r) w w1 := by rcases hw1 with rfl | rfl; exact Chg.refl _ _; exact (Chg.refl _ _).drew
    have hc2 : Chg (fun k => k = r) w (setB w1 r (.mapIter (some m) clock ((seenOf V).push f.born) clock)) := Chg.setB (S := fun k => k = r) hc1 (.inr rfl) _
    have hi2 : ItV (setB w1 r (.mapIter (some m) clock ((seenOf V).push f.born) clock)) r m clock (V ++ [f]) := ⟨clock, by rw [← seenOf_push]; exact setB_here hr1 _, Nat.le_refl _⟩
    have hrd : r ≠ d := hi.ne_blk h.dsk.hd
    have hrm : r ≠ m := fun e => by
      subst e
      have := Eq.trans (Eq.symm hi) hb
      cases this
    have hF2 : FS S (setB w1 r (.mapIter (some m) clock ((seenOf V).push f.born) clock)) d m E clock up armed left kp n :=
      ⟨h.dsk.chg hc2 (fun e => hrd e.symm) (fun e => hrm e.symm), fun e he => (h.ok e he).chg hc2 (fun e1 => hi.ne_blk (h.ok e he).fil.hg e1.symm) (fun ad e1 e2 => by
        rcases (h.ok e he).fil.hA.2 with ⟨e3, _⟩ | ⟨g', cap, cur, e3, hb', hg, _⟩
        · injection e3 with e3
          rw [e3] at e1
          cases e1
        · injection e3 with e3
          rw [e3] at e1
          injection e1 with e1
          subst e1
          subst e2
          have := Eq.trans (Eq.symm hi) hg
          cases this) (Nat.le_refl _), h.ap⟩
    refine ⟨f, hf, hp.step h.ap hf hV, _, hc2, by rw [setB_size]; exact hw1s, fun ty => ?_, hi2, hF2, ?_⟩
    · exact hrun
    · obtain ⟨c1, h1, _⟩ := hi2
      have := run_entry_at (P := Try.prog) _ r m clock (seenOf V) (E.map FEnt.ent).toArray clock f.ent (setB_here hr1 _) hF2.dsk.hm (by simp; exact ⟨f, hf, rfl⟩) (born_nodup h.ap)
      exact this
theorem Own.ne_iter {w : World} {base : Nat} {t : TypeId} {sz n c r m clock : Nat} {A : Option Addr} {cs : List Value} {V : List FEnt} (h : Own w base t sz A n c cs) (hi : ItV w r m clock V) : ∀ ad, A = some ad → ad.block ≠ r := by
  rintro ad rfl
  obtain ⟨c0, hi, _⟩ := hi
  rcases h.2 with ⟨e, h3⟩ | ⟨g', cap, cur, e', hb', hg, rest⟩
  · cases e
  · injection e' with e1 e2 e3
    injection e1 with e1
    subst e1
    rintro rfl
    have := Eq.trans (Eq.symm hi) hg
    cases this

/-- what holds at the head of the loop -/
structure LisAt (S : Nat → Prop) (w : World) (d m : Nat) (E : List FEnt) (clock : Nat) (armed : Bool) (left kp : Int) (n : Nat) (p : ByteArray) (V : List FEnt) (v : Value) (wr : World) : Prop where
  fs : FS S wr d m E clock true armed left kp n
  it : ItV wr w.heap.size m clock V
  pt : Part V E
  gr : Grew w wr
  row : ∃ A c, v = .slice A (begun V p).length c ∧ OE elNm wr w.heap.size 9 A (begun V p).length c (begun V p)

set_option maxHeartbeats 2000000 in
theorem fs_list {S : Nat → Prop} {w : World} {d m : Nat} {E : List FEnt} {clock : Nat} {armed : Bool} {left kp : Int} {n : Nat} (h : FS S w d m E clock true armed left kp n) (hE : E.length ≤ 1048576) (p : ByteArray) :
    Calls Try.prog 24 #[.pointer (some ⟨d, 0, none⟩), .string p] w fun e w' => ∃ A c, e = .returned (.slice A (sortT (begun E p)).length c) ∧ OE elNm w' w.heap.size 9 A (sortT (begun E p)).length c (sortT (begun E p)) ∧ Grew w w' := by
  have c0 := h.dsk.c0
  have c1 := h.dsk.c1
  have hg1 : Grew w (w.alloc (.mapIter (some m) clock #[] clock)) := (Chg.refl _ w).alloc _
  have hrange := run_range_b (P := Try.prog) Try.underlying57 h.dsk.hm
  have hL : Hid (LisAt S w d m E clock armed left kp n p [] (.slice none 0 0) (w.alloc (.mapIter (some m) clock #[] clock))) :=
    ⟨h.grew hg1, ⟨clock, heap_alloc_new w _, Nat.le_refl _⟩, Part.nil E, hg1, none, 0, rfl, OE.nil _ _ _⟩
  have h := Lib.hid h
  go_enter Try.func24, Try.ntmps24
  go_wp2
  go_loopw [5] (fun v wr => ∃ V, Hid (LisAt S w d m E clock armed left kp n p V v wr)) (fun _ wr => match wr.heap[w.heap.size]? with | some (.mapIter _ _ seen _) => E.length - seen.size | _ => 0)
  case atStart => exact ⟨[], hL⟩
  case round =>
    obtain ⟨V, hV⟩ := hrel
    have hm0 : (match wr.heap[w.heap.size]? with | some (.mapIter _ _ seen _) => E.length - seen.size | _ => 0) = E.length - V.length := by
      obtain ⟨c0, h1, _⟩ := hV.out.it
      unfold IterB at h1
      rw [h1]
      simp [seenOf]
    obtain ⟨A, c, rfl, hrow⟩ := hV.out.row
    rcases itv_next hV.out.fs hV.out.it hV.out.pt with ⟨hpm, hnx⟩ | ⟨f, hfE, hpt, w1, hc1, hs1, hnx, hit, hfs, hen⟩
    · have hsE : sortT (begun V p) = sortT (begun E p) := sortT_of_perm (begun_perm hpm p)
      have hbl : (begun V p).length ≤ 1048576 := Nat.le_trans (begun_le V p) (Nat.le_trans hV.out.pt.le hE)
      have hle : (begun V p).length = (sortT (begun E p)).length := by rw [← hsE, sortT_length]
      have hS := sort_names hrow (by omega)
      have hgr := Lib.hid hV.out.gr
      have hbk := Lib.hid (Own.blk_lt hrow)
      rw [hsE] at hS
      rw [hle] at hS ⊢
      clear hrow hV hm0 hle hbl hsE
      go_wp2_with fail
      refine hS.mono ?_
      rintro e w4 ⟨rfl, ho, hc⟩
      go_wp2
      go_ret
      refine ⟨A, c, by simp, ho, hgr.out.step hc fun k hk ⟨ad, e, he⟩ => ?_⟩
      have := (hbk.out ad e).1
      omega
    · have hlt : V.length < E.length := by
        have := hpt.le
        simp at this
        omega
      have hbl : (begun V p).length ≤ 1048576 := Nat.le_trans (begun_le V p) (Nat.le_trans hV.out.pt.le hE)
      have hgw : Grew w w1 := hV.out.gr.step hc1 fun k hk e => by
        have e : k = w.heap.size := e
        omega
      have hrow1 : OE elNm w1 w.heap.size 9 A (begun V p).length c (begun V p) := hrow.chg hc1 (Own.ne_iter hrow hV.out.it)
      have hst := begun_step V f p
      have hil := hit.lt
      have hm1 : ∀ w2 : World, ItV w2 w.heap.size m clock (V ++ [f]) → (match w2.heap[w.heap.size]? with | some (.mapIter _ _ seen _) => E.length - seen.size | _ => 0) < (match wr.heap[w.heap.size]? with | some (.mapIter _ _ seen _) => E.length - seen.size | _ => 0) := by
        rintro w2 ⟨c0, h1, _⟩
        unfold IterB at h1
        rw [h1, hm0]
        simp [seenOf]
        omega
      clear hm0 hc1 hs1 hrow hV
      have hfs := Lib.hid hfs
      have hit := Lib.hid hit
      have hpt := Lib.hid hpt
      have hst := Lib.hid hst
      have hm1 := Lib.hid hm1
      go_wp2_with fail
      refine (prefix_any f.nm p _).mono ?_
      rintro e w2 ⟨rfl, rfl⟩
      clear hnx hen
      by_cases hpre : Lib.hasPrefix (lst f.nm) (lst p) = true
      · simp only [hpre]
        have hsrc : RE elNm (w1.alloc (.cells #[.string f.nm] 9)) (some ⟨w1.heap.size, 0, none⟩) 1 [f.nm] := RE.newAt rfl rfl rfl
        have hown : OE elNm (w1.alloc (.cells #[.string f.nm] 9)) w.heap.size 9 A (begun V p).length c (begun V p) := hrow1.grew ((Chg.refl _ w1).alloc _)
        have hsz := hgw.size
        go_wp2_with (at_builtin; refine wpList_appE rfl _ _ 38 9 infoNm rfl Try.underlying38 rfl w.heap.size A (begun V p).length c (begun V p) rfl hown (by simp; omega) _ 1 1 [f.nm] rfl hsrc (by unfold maxLen; omega) (by omega) ?_; intro A3 c3 w3 h3)
        have hc3 : Chg (fun k => ∃ ad, A = some ad ∧ k = ad.block) w1 w3 := Chg.step (S := fun k => ∃ ad, A = some ad ∧ k = ad.block) ((Chg.refl _ w1).alloc _) h3.chg fun _ _ e => e
        have hG3 : Grew w w3 := hgw.step hc3 fun k hk ⟨ad, e, he⟩ => by
          have := (Own.blk_lt hrow1 ad e).1
          omega
        have hit3 : ItV w3 w.heap.size m clock (V ++ [f]) := hit.out.chg hc3 fun ⟨ad, e, he⟩ => Own.ne_iter hrow1 hit.out ad e he.symm
        have ho3 := h3.oe
        have hm3 := hm1.out w3 hit3
        have hbe : begun (V ++ [f]) p = begun V p ++ [f.nm] := by rw [hst.out, hpre]; rfl
        have hfin : Hid (LisAt S w d m E clock armed left kp n p (V ++ [f]) (.slice A3 ((begun V p).length + 1) c3) w3) :=
          ⟨h.out.grew hG3, hit3, hpt.out, hG3, A3, c3, by rw [hbe]; simp, by rw [hbe]; simpa using ho3⟩
        clear h3 hc3 hG3 hit3 ho3 hsrc hown hm1
        go_roundw
        case rel => exact ⟨V ++ [f], by simpa using hfin⟩
        case measure => exact hm3
      · have hpre : Lib.hasPrefix (lst f.nm) (lst p) = false := by simpa using hpre
        simp only [hpre]
        have hm3 := hm1.out w1 hit.out
        have hbe : begun (V ++ [f]) p = begun V p := by rw [hst.out, hpre]; simp
        have hfin : Hid (LisAt S w d m E clock armed left kp n p (V ++ [f]) (.slice A (begun V p).length c) w1) :=
          ⟨h.out.grew hgw, hit.out, hpt.out, hgw, A, c, by rw [hbe], by rw [hbe]; exact hrow1⟩
        clear hm1
        go_wp2
        go_roundw
        case rel => exact ⟨V ++ [f], hfin⟩
        case measure => exact hm3
end Go.Proofs.Ytepncgeaehjhiaa

namespace Go.Proofs.Ytepncgeaehjhiaa
open Go.RowKit

/-- what stays of a file -/
def cutE (kp : Int) (f : FEnt) : FEnt := { f with l := f.l.take (stayN f.l.length f.sy kp), sy := stayN f.l.length f.sy kp }
/-- .. of those that the loop has seen -/
def cv (kp : Int) (bs : List Nat) (f : FEnt) : FEnt := if f.born ∈ bs then cutE kp f else f
theorem cv_born (kp : Int) (bs : List Nat) (f : FEnt) : (cv kp bs f).born = f.born := by
  unfold cv
  split <;> rfl
theorem cv_ent (kp : Int) (bs : List Nat) (f : FEnt) : (cv kp bs f).ent = f.ent := by
  unfold cv
  split <;> rfl
theorem cv_step {kp : Int} {bs : List Nat} {E : List FEnt} (hE : E.Pairwise Apart) {i : Nat} {f : FEnt} (hi : (E.map (cv kp bs))[i]? = some f) (hn : f.born ∉ bs) :
    (E.map (cv kp bs)).set i (cutE kp f) = E.map (cv kp (bs ++ [f.born])) := by
  rw [List.getElem?_map] at hi
  cases hE0 : E[i]? with
  | none => rw [hE0] at hi; cases hi
  | some f0 =>
    rw [hE0] at hi
    injection hi with hi
    have hb : f.born = f0.born := by rw [← hi, cv_born]
    have hf0 : f0 = f := by
      rw [← hi]
      unfold cv
      rw [if_neg (hb ▸ hn)]
    subst hf0
    have hil := (List.getElem?_eq_some_iff.1 hE0).1
    apply List.ext_getElem?
    intro j
    rw [List.getElem?_set, List.getElem?_map, List.getElem?_map, List.length_map]
    by_cases hij : i = j
    · subst hij
      rw [if_pos rfl, if_pos hil, hE0]
      simp [cv]
    · rw [if_neg hij]
      cases hj : E[j]? with
      | none => rfl
      | some e =>
        have ha := pair_at hE hE0 hj hij
        simp only [Option.map_some]
        unfold cv
        by_cases hm : e.born ∈ bs
        · rw [if_pos hm, if_pos (by simp [hm])]
        · rw [if_neg hm, if_neg fun h => (List.mem_append.1 h).elim hm fun h => ha.2.2.1 (by simpa using h)]

section
variable {S : Nat → Prop} {w w' : World} {d m : Nat} {E : List FEnt} {clock : Nat} {up armed : Bool} {left kp : Int} {n : Nat}
theorem fs_trim (h : FS S w d m E clock up armed left kp n) {i : Nat} {f : FEnt} (hi : E[i]? = some f) {st : Nat} (hst : st ≤ f.l.length) (hc : Chg (fun k => k = f.g) w w') (hb : Blk w' f.g 79 #[.slice f.A st f.cap, .int .i64 (st : Int)]) :
    FS S w' d m (E.set i { f with l := f.l.take st, sy := st }) clock up armed left kp n := by
  have hf := h.ok f (List.mem_of_getElem? hi)
  obtain ⟨hil, hie⟩ := List.getElem?_eq_some_iff.1 hi
  have hent : ((E.set i { f with l := f.l.take st, sy := st }).map FEnt.ent) = E.map FEnt.ent := by
    apply List.ext_getElem?
    intro j
    simp only [List.getElem?_map, List.getElem?_set]
    by_cases hij : i = j
    · subst hij
      simp [hil, hie, FEnt.ent, entF]
    · simp [hij]
  have hlt : (f.l.take st).length = st := by rw [List.length_take, Nat.min_eq_left hst]
  refine ⟨by rw [hent]; exact h.dsk.chg hc (h.dsk.hd.ne_type hf.fil.hg (by decide)) (h.dsk.hm.ne_blk hf.fil.hg), ?_, ?_⟩
  · intro e he
    obtain ⟨j, hj⟩ := List.getElem?_of_mem he
    rw [List.getElem?_set] at hj
    by_cases hij : i = j
    · subst hij
      simp [hil] at hj
      subst hj
      refine ⟨⟨?_, ?_, hf.fil.og, hf.fil.oA⟩, ?_, ?_, hf.born⟩
      · show Blk w' f.g 79 #[.slice f.A (f.l.take st).length f.cap, .int .i64 (st : Int)]
        rw [hlt]
        exact hb
      · have h8 := Own.shrink (Own.chg hf.fil.hA hc (hf.fil.hA.ne_blk hf.fil.hg (by decide))) hst
        rw [Nat.mul_one, ← List.map_take] at h8
        show OB w' 0 5 f.A (f.l.take st).length f.cap (f.l.take st)
        rw [hlt]
        exact h8
      · show st ≤ (f.l.take st).length
        omega
      · show (f.l.take st).length ≤ _
        have := hf.len
        omega
    · simp [hij] at hj
      have ho := h.ok e (List.mem_of_getElem? hj)
      have ha := pair_at h.ap hi hj hij
      exact ho.chg hc (fun e1 => ha.2.1 e1) (fun ad e1 e2 => ho.fil.hA.ne_blk hf.fil.hg (by decide) ad e1 e2) (Nat.le_refl _)
  · exact pair_set h.ap hi ⟨f.nm, f.g, f.born, f.A, f.cap, f.l.take st, st⟩ fun b _ hb => hb

/-- what holds at the head of the loop -/
structure CutAt (S : Nat → Prop) (w : World) (d m : Nat) (E : List FEnt) (clock : Nat) (up armed : Bool) (left keep : Int) (n : Nat) (kp : Int) (V : List FEnt) (wr : World) : Prop where
  fs : FS S wr d m (E.map (cv kp (V.map FEnt.born))) clock up armed left keep n
  it : ItV wr w.heap.size m clock V
  pt : Part V (E.map (cv kp (V.map FEnt.born)))
  ch : Chg S w wr
theorem CutAt.step {keep : Int} {V : List FEnt} {wr w1 w3 : World} (hE : E.Pairwise Apart) (h : CutAt S w d m E clock up armed left keep n kp V wr) {f : FEnt} (hf : f ∈ E.map (cv kp (V.map FEnt.born))) (hp : Part (V ++ [f]) (E.map (cv kp (V.map FEnt.born)))) (hc1 : Chg (fun k => k = w.heap.size) wr w1) (hi : ItV w1 w.heap.size m clock (V ++ [f]))
    (h1 : FS S w1 d m (E.map (cv kp (V.map FEnt.born))) clock up armed left keep n) (hc : Chg (fun k => k = f.g) w1 w3) (hb : Blk w3 f.g 79 #[.slice f.A (stayN f.l.length f.sy kp) f.cap, .int .i64 ((stayN f.l.length f.sy kp : Nat) : Int)]) :
    CutAt S w d m E clock up armed left keep n kp (V ++ [cutE kp f]) w3 := by
  obtain ⟨i, hfi⟩ := List.getElem?_of_mem hf
  have hok := h1.ok f hf
  have hn : f.born ∉ V.map FEnt.born := by
    intro hm
    obtain ⟨v, hv, hvb⟩ := List.mem_map.1 hm
    have hnd := hp.nd
    rw [List.pairwise_append] at hnd
    exact (hnd.2.2 v hv f (by simp)).2.2.1 hvb
  have hst := stay_le hok.sy kp
  have hT := fs_trim h1 hfi hst hc hb
  have hbs : (V ++ [cutE kp f]).map FEnt.born = V.map FEnt.born ++ [f.born] := by simp [cutE]
  have he : (E.map (cv kp (V.map FEnt.born))).set i { f with l := f.l.take (stayN f.l.length f.sy kp), sy := stayN f.l.length f.sy kp } = E.map (cv kp ((V ++ [cutE kp f]).map FEnt.born)) := by
    rw [hbs]
    exact cv_step hE hfi hn
  rw [he] at hT
  refine ⟨hT, ?_, ⟨?_, ?_⟩, ?_⟩
  · have hi3 := hi.chg hc (by
      obtain ⟨c0, h9, _⟩ := hi
      exact h9.ne_blk hok.fil.hg)
    obtain ⟨c0, h9, h8⟩ := hi3
    refine ⟨c0, ?_, h8⟩
    have : seenOf (V ++ [cutE kp f]) = seenOf (V ++ [f]) := by simp [seenOf, cutE]
    rw [this]
    exact h9
  · intro v hv
    rw [← he]
    rcases List.mem_append.1 hv with hv | hv
    · have h7 := h.pt.sub v hv
      obtain ⟨j, hj⟩ := List.getElem?_of_mem h7
      have hij : i ≠ j := by
        rintro rfl
        rw [hfi] at hj
        injection hj with hj
        subst hj
        exact hn (List.mem_map_of_mem hv)
      refine List.mem_of_getElem? (i := j) ?_
      rw [List.getElem?_set, if_neg hij]
      exact hj
    · obtain rfl : v = cutE kp f := by simpa using hv
      refine List.mem_of_getElem? (i := i) ?_
      rw [List.getElem?_set, if_pos rfl, if_pos (List.getElem?_eq_some_iff.1 hfi).1]
      rfl
  · have hnd := hp.nd
    rw [List.pairwise_append] at hnd ⊢
    refine ⟨hnd.1, List.pairwise_singleton _ _, fun a ha b hb => ?_⟩
    obtain rfl : b = cutE kp f := by simpa using hb
    exact hnd.2.2 a ha f (by simp)
  · refine (h.ch.step (hc1.mono (S' := fun k => k = w.heap.size ∨ S k) fun k _ e => .inl e) fun k hk e => e.elim (fun e => by omega) id).step hc fun k _ e => ?_
    have e : k = f.g := e
    rw [e]
    exact hok.fil.og
theorem CutAt.done {keep : Int} {V : List FEnt} {wr : World} (h : CutAt S w d m E clock up armed left keep n kp V wr) (hp : V.Perm (E.map (cv kp (V.map FEnt.born)))) : FS S wr d m (E.map (cutE kp)) clock up armed left keep n := by
  have : E.map (cv kp (V.map FEnt.born)) = E.map (cutE kp) := by
    apply List.map_congr_left
    intro f hf
    unfold cv
    rw [if_pos]
    have h1 : cv kp (V.map FEnt.born) f ∈ V := hp.symm.subset (List.mem_map_of_mem hf)
    rw [← cv_born kp (V.map FEnt.born) f]
    exact List.mem_map_of_mem h1
  rw [← this]
  exact h.fs

set_option maxRecDepth 100000 in
set_option maxHeartbeats 4000000 in
theorem fs_cut {keep : Int} (h : FS S w d m E clock up armed left keep n) (kp : Int) (hkp : kp ≤ 9223372036854775807) :
    Calls Try.prog 36 #[.pointer (some ⟨d, 0, none⟩), .int .i64 kp] w fun e w' => e = .returned (.tuple #[]) ∧ FS S w' d m (E.map (cutE kp)) clock false false left keep n ∧ Chg S w w' := by
  have c0 := h.dsk.c0
  have hg1 : Grew w (w.alloc (.mapIter (some m) clock #[] clock)) := (Chg.refl _ w).alloc _
  have hrange := run_range_b (P := Try.prog) Try.underlying57 h.dsk.hm
  have hE := Lib.hid h.ap
  have hcv : E.map (cv kp ([] : List Nat)) = E := by
    rw [show cv kp ([] : List Nat) = id from funext fun f => by unfold cv; rw [if_neg (by simp)]; rfl]
    simp
  have hL : Hid (CutAt S w d m E clock up armed left keep n kp [] (w.alloc (.mapIter (some m) clock #[] clock))) :=
    ⟨by show FS S _ d m (E.map (cv kp [])) clock up armed left keep n; rw [hcv]; exact h.grew hg1, ⟨clock, heap_alloc_new w _, Nat.le_refl _⟩, Part.nil _, Chg.of_grew hg1⟩
  have hod := h.dsk.od
  clear h hcv
  go_enter Try.func36, Try.ntmps36
  go_wp2
  go_loopw [5] (fun _ wr => ∃ V, Hid (CutAt S w d m E clock up armed left keep n kp V wr)) (fun _ wr => match wr.heap[w.heap.size]? with | some (.mapIter _ _ seen _) => E.length - seen.size | _ => 0)
  case atStart => exact ⟨[], hL⟩
  case round =>
    obtain ⟨V, hV⟩ := hrel
    have hm0 : (match wr.heap[w.heap.size]? with | some (.mapIter _ _ seen _) => E.length - seen.size | _ => 0) = E.length - V.length := by
      obtain ⟨c0, h1, _⟩ := hV.out.it
      unfold IterB at h1
      rw [h1]
      simp [seenOf]
    rcases itv_next hV.out.fs hV.out.it hV.out.pt with ⟨hpm, hnx⟩ | ⟨f, hfE, hpt, w1, hc1, hs1, hnx, hit, hfs, hen⟩
    · have hD := hV.out.done hpm
      have hch := Lib.hid hV.out.ch
      have fd1 : wr.frozen? ⟨d, 1, none⟩ = false := hD.dsk.hd.frozen 1
      have fd2 : wr.frozen? ⟨d, 2, none⟩ = false := hD.dsk.hd.frozen 2
      have d1 := hD.dsk.c1
      have d2 := hD.dsk.c2
      have hD := Lib.hid hD
      clear hV hm0 hpm hL
      go_wp2
      go_end0
      have hcc : Chg (fun k => k = d) wr ((wr.setCell ⟨d, 1, none⟩ (.bool false)).setCell ⟨d, 2, none⟩ (.bool false)) :=
        Chg.setCell (S := fun j => j = d) (Chg.setCell (S := fun j => j = d) (Chg.refl _ wr) (p := ⟨d, 1, none⟩) (.inr rfl) _) (p := ⟨d, 2, none⟩) (.inr rfl) _
      refine ⟨rfl, ⟨⟨?_, ?_, hD.out.dsk.od, hD.out.dsk.om⟩, fun e he => ?_, hD.out.ap⟩, hch.out.step hcc fun k _ e => ?_⟩
      · exact Blk.set (hD.out.dsk.hd.set 1 (.bool false)) 2 (.bool false)
      · exact hD.out.dsk.hm.chg hcc (hD.out.dsk.hm.ne_blk hD.out.dsk.hd)
      · have ho := hD.out.ok e he
        exact ho.chg hcc (ho.fil.hg.ne_type hD.out.dsk.hd (by decide)) (fun ad e1 => ho.fil.hA.ne_blk hD.out.dsk.hd (by decide) ad e1) (Nat.le_refl _)
      · have e : k = d := e
        rw [e]
        exact hod
    · have hlt : V.length < E.length := by
        have := hpt.le
        simp at this
        omega
      have hok := hfs.ok f hfE
      have hfsy := hok.sy
      have hfln := hok.len
      have hcap := hok.fil.hA.cap
      have hb2 := hok.fil.hg
      have g0 : w1.cell? ⟨f.g, 0, none⟩ = some (.slice f.A f.l.length f.cap) := hb2.cell 0
      have g1 : w1.cell? ⟨f.g, 1, none⟩ = some (.int .i64 (f.sy : Int)) := hb2.cell 1
      have fr0 : w1.frozen? ⟨f.g, 0, none⟩ = false := hb2.frozen 0
      have fr1 : w1.frozen? ⟨f.g, 1, none⟩ = false := hb2.frozen 1
      have hstep : Hid (∀ w3, Chg (fun k => k = f.g) w1 w3 → Blk w3 f.g 79 #[.slice f.A (stayN f.l.length f.sy kp) f.cap, .int .i64 ((stayN f.l.length f.sy kp : Nat) : Int)] → CutAt S w d m E clock up armed left keep n kp (V ++ [cutE kp f]) w3) :=
        fun w3 hc hb => hV.out.step hE.out hfE hpt hc1 hit hfs hc hb
      have hm1 : Hid (∀ w3, CutAt S w d m E clock up armed left keep n kp (V ++ [cutE kp f]) w3 → (match w3.heap[w.heap.size]? with | some (.mapIter _ _ seen _) => E.length - seen.size | _ => 0) < (match wr.heap[w.heap.size]? with | some (.mapIter _ _ seen _) => E.length - seen.size | _ => 0)) := by
        intro w3 h3
        obtain ⟨c0, h1, _⟩ := h3.it
        unfold IterB at h1
        rw [h1, hm0]
        simp [seenOf]
        omega
      clear hm0 hc1 hs1 hV hpt hit hfs hok hL
      obtain ⟨st, hstd⟩ : ∃ st, stayN f.l.length f.sy kp = st := ⟨_, rfl⟩
      rw [hstd] at hstep
      have hst : st ≤ f.l.length := hstd ▸ stay_le hfsy kp
      generalize cutE kp f = f' at *
      generalize f.g = g at *
      generalize f.A = A at *
      generalize f.cap = cap at *
      generalize f.nm = nm at *
      generalize f.sy = sy at *
      generalize f.l.length = ln at *
      by_cases h0 : 0 ≤ kp
      · obtain ⟨kn, rfl⟩ := Int.eq_ofNat_of_zero_le h0
        obtain ⟨k, hk⟩ : ∃ k, k = kn % (ln - sy + 1) := ⟨_, rfl⟩
        have hkz : (kn : Int) % ((ln : Int) - (sy : Int) + 1) = (k : Int) := by
          rw [hk, Int.natCast_emod, Int.natCast_add, Int.natCast_sub hfsy]
          rfl
        have hste : st = sy + k := by
          rw [← hstd]
          unfold stayN
          rw [if_pos h0, hk]
          rfl
        clear hstd hk
        subst hste
        go_wp2_with fail
        refine wp_region_text [(3, 1)] (by kernel_rfl) (by kernel_rfl) ?_
        simp only [instr, chk, look, Nat.reduceBEq, if_true, if_false, Nat.reduceEqDiff, List.cons_append, List.nil_append]
        go_wp2_with fail
        refine OnlyN.normal ?_
        go_wp2_with fail
        refine wp_region_textL [(3, 1)] [g] (by kernel_rfl) (by kernel_rfl) (cellsIn_cons g0 (cellsIn_nil _)) ?_
        simp only [wpUL, tagOf, chk, look, Nat.reduceBEq, if_true, if_false, Nat.reduceEqDiff, List.cons_append, List.nil_append]
        intro K hK
        go_wp2_with fail
        refine OnlyN.normal (hK _ _ (fun _ => ⟨_, _, _, rfl, rfl, by simp⟩) ?_)
        clear hK K
        intro K hK
        go_wp2_with fail
        refine OnlyN.normal (hK _ _ (fun _ => ⟨_, _, _, rfl, rfl, by simp⟩) ?_)
        clear hK K
        go_wp2_with fail
        refine OnlyN.normal ?_
        go_wp2_with fail
        have hm3 : Chg (fun j => j = g) w1 (((w1.setCell ⟨g, 0, none⟩ (.slice A (sy + k) cap)).setCell ⟨g, 1, none⟩ (.int .i64 ((sy : Int) + (k : Int)))).drew.drew) :=
          (Chg.setCell (S := fun j => j = g) (Chg.setCell (S := fun j => j = g) (Chg.refl _ w1) (p := ⟨g, 0, none⟩) (.inr rfl) _) (p := ⟨g, 1, none⟩) (.inr rfl) _).drew.drew
        have hb3 : Blk (((w1.setCell ⟨g, 0, none⟩ (.slice A (sy + k) cap)).setCell ⟨g, 1, none⟩ (.int .i64 ((sy : Int) + (k : Int)))).drew.drew) g 79 #[.slice A (sy + k) cap, .int .i64 ((sy + k : Nat) : Int)] :=
          Blk.set (hb2.set 0 (.slice A (sy + k) cap)) 1 (.int .i64 ((sy : Int) + (k : Int)))
        have hfin := Lib.hid (hstep.out _ hm3 hb3)
        have hmm := hm1.out _ hfin.out
        clear hm3 hb3 hnx hen
        go_roundw
        case rel => exact ⟨_, hfin⟩
        case measure => exact hmm
      · have hste : st = sy := by
          rw [← hstd]
          unfold stayN
          rw [if_neg h0]
        clear hstd
        subst st
        go_wp2_with fail
        refine wp_region_textL [(3, 1)] [g] (by kernel_rfl) (by kernel_rfl) (cellsIn_cons g0 (cellsIn_nil _)) ?_
        simp only [wpUL, tagOf, chk, look, Nat.reduceBEq, if_true, if_false, Nat.reduceEqDiff, List.cons_append, List.nil_append]
        intro K hK
        go_wp2_with fail
        refine OnlyN.normal (hK _ _ (fun _ => ⟨_, _, _, rfl, rfl, by simp⟩) ?_)
        clear hK K
        intro K hK
        go_wp2_with fail
        refine OnlyN.normal (hK _ _ (fun _ => ⟨_, _, _, rfl, rfl, by simp⟩) ?_)
        clear hK K
        go_wp2_with fail
        refine OnlyN.normal ?_
        go_wp2_with fail
        have hm3 : Chg (fun j => j = g) w1 (((w1.setCell ⟨g, 0, none⟩ (.slice A (sy) cap)).setCell ⟨g, 1, none⟩ (.int .i64 (sy : Int))).drew) :=
          (Chg.setCell (S := fun j => j = g) (Chg.setCell (S := fun j => j = g) (Chg.refl _ w1) (p := ⟨g, 0, none⟩) (.inr rfl) _) (p := ⟨g, 1, none⟩) (.inr rfl) _).drew
        have hb3 : Blk (((w1.setCell ⟨g, 0, none⟩ (.slice A (sy) cap)).setCell ⟨g, 1, none⟩ (.int .i64 (sy : Int))).drew) g 79 #[.slice A (sy) cap, .int .i64 ((sy : Nat) : Int)] :=
          Blk.set (hb2.set 0 (.slice A (sy) cap)) 1 (.int .i64 (sy : Int))
        have hfin := Lib.hid (hstep.out _ hm3 hb3)
        have hmm := hm1.out _ hfin.out
        clear hm3 hb3 hnx hen
        go_roundw
        case rel => exact ⟨_, hfin⟩
        case measure => exact hmm
end
end Go.Proofs.Ytepncgeaehjhiaa

namespace Go.Proofs.Ytepncgeaehjhiaa
open Go.RowKit

section
variable {S : Nat → Prop} {w w' : World} {d m : Nat} {E : List FEnt} {clock : Nat} {up armed : Bool} {left kp : Int} {n : Nat}

/-- the disk's own block turns alone -/
theorem FS.redo {up' armed' : Bool} {left' kp' : Int} {n' : Nat} (h : FS S w d m E clock up armed left kp n) (hd : Dsk S w' d m (E.map FEnt.ent).toArray clock up' armed' left' kp' n') (hc : Chg (fun k => k = d) w w') : FS S w' d m E clock up' armed' left' kp' n' :=
  ⟨hd, fun e he => (h.ok e he).chg hc ((h.ok e he).fil.hg.ne_type h.dsk.hd (by decide)) (fun ad e1 => (h.ok e he).fil.hA.ne_blk h.dsk.hd (by decide) ad e1) (Nat.le_refl _), h.ap⟩
theorem chg_d {d : Nat} (h : S d) (hc : Chg (fun k => k = d) w w') : Chg S w w' := hc.mono fun k _ e => by
  have e : k = d := e
  rw [e]
  exact h
theorem fs_arm (h : FS S w d m E clock up armed left kp n) (k : Nat) (keep : Int) :
    Calls Try.prog 20 #[.pointer (some ⟨d, 0, none⟩), .int .i64 (k : Int), .int .i64 keep] w fun e w' => e = .returned (.tuple #[]) ∧ FS S w' d m E clock up true (k : Int) keep n ∧ Chg S w w' :=
  (arm_any h.dsk k keep).mono fun _ _ ⟨h1, h2, h3⟩ => ⟨h1, h.redo h2 h3, chg_d h.dsk.od h3⟩
theorem fs_on (h : FS S w d m E clock up armed left kp n) :
    Calls Try.prog 22 #[.pointer (some ⟨d, 0, none⟩)] w fun e w' => e = .returned (.tuple #[]) ∧ FS S w' d m E clock true armed left kp n ∧ Chg S w w' :=
  (on_any h.dsk).mono fun _ _ ⟨h1, h2, h3⟩ => ⟨h1, h.redo h2 h3, chg_d h.dsk.od h3⟩
set_option maxHeartbeats 1000000 in
theorem fs_off (h : FS S w d m E clock true armed left kp n) (keep : Int) (hkp : keep ≤ 9223372036854775807) :
    Calls Try.prog 21 #[.pointer (some ⟨d, 0, none⟩), .int .i64 keep] w fun e w' => e = .returned (.tuple #[]) ∧ FS S w' d m (E.map (cutE keep)) clock false false left kp n ∧ Chg S w w' := by
  have hC := fs_cut h keep hkp
  have c1 := h.dsk.c1
  clear h
  go_enter Try.func21, Try.ntmps21
  go_wp2_with fail
  refine hC.mono ?_
  rintro e w' ⟨rfl, h⟩
  go_wp2
  go_end0
  exact ⟨rfl, h⟩
set_option maxHeartbeats 1000000 in
theorem fs_off_down (h : FS S w d m E clock false armed left kp n) (keep : Int) :
    Calls Try.prog 21 #[.pointer (some ⟨d, 0, none⟩), .int .i64 keep] w fun e w' => e = .returned (.tuple #[]) ∧ w = w' := by
  have c1 := h.dsk.c1
  clear h
  go_enter Try.func21, Try.ntmps21
  go_wp2
  go_end0
  exact ⟨rfl, rfl⟩

/-- what holds when the power has gone at a write -/
def GoneF (S : Nat → Prop) (w : World) (d m : Nat) (E : List FEnt) (clock : Nat) (kp : Int) (n : Nat) (w' : World) : Prop := FS S w' d m (E.map (cutE kp)) clock false false 0 kp n ∧ Chg S w w'

set_option maxHeartbeats 1000000 in
theorem fs_sync_cut (h : FS S w d m E clock true true 0 kp n) (hn : n ≤ 4000000000000000000) (hkp : kp ≤ 9223372036854775807) {i : Nat} {f : FEnt} (hi : E[i]? = some f) (hx : NmOk f.nm) :
    Calls Try.prog 51 #[.pointer (some ⟨d, 0, none⟩), .string f.nm] w fun e w' => e = .returned (.int .i64 60) ∧ GoneF S w d m E clock kp (n + 1) w' := by
  have hmf : ∀ (fn : Fn) (first cp : Array Value) (w : World), (Instr.makeFunc fn first cp).run Try.prog w = .ok (.func fn first cp) w := fun _ _ _ _ => rfl
  obtain ⟨W, hW, hgW, b1, b2, hzW⟩ := two_boxes w (.pointer (some ⟨d, 0, none⟩)) (.string f.nm) 28 9
  have hf := h.find hi
  go_enter Try.func51, Try.ntmps51
  go_wp2_with fail
  rw [← hW]
  have hF := h.grew hgW
  clear hW
  refine (write_cut hF.dsk hn _ _ _ entS1 entNo _ _ _ ((sync_ask hF.dsk f.nm hx hf (b2.cell 0) (b1.cell 0)).mono fun e w' ⟨h1, h2⟩ => ⟨h1, 0, by rw [← h2]; rfl⟩) (R := fun w1 w' => w1 = w' ∧ FS S w1 d m E clock true true 0 kp (n + 1)) (T := fun w2 w' => FS S w' d m (E.map (cutE kp)) clock false false 0 kp (n + 1) ∧ Chg S w2 w') ?_ ?_ ?_).mono ?_
  · intro w1 hc1 hD1
    exact (nothing_any w1).mono fun e w' ⟨h1, h2⟩ => ⟨h1, h2, hF.redo hD1 hc1⟩
  · rintro w1 w2 ⟨rfl, h1⟩
    exact h1.dsk.c4
  · rintro w1 w2 ⟨rfl, h1⟩
    exact fs_cut h1 kp hkp
  rintro e w' ⟨rfl, w1, w2, hc1, hD1, ⟨rfl, _⟩, k1, k2⟩
  go_wp2
  go_ret
  exact ⟨by simp, k1, ((Chg.of_grew hgW).trans (chg_d h.dsk.od hc1)).trans k2⟩

set_option maxHeartbeats 1000000 in
theorem fs_rename_cut (h : FS S w d m E clock true true 0 kp n) (hn : n ≤ 4000000000000000000) (hkp : kp ≤ 9223372036854775807) {i : Nat} {f : FEnt} (hi : E[i]? = some f) (hx : NmOk f.nm) (y : ByteArray) (hy : NmOk y) :
    Calls Try.prog 52 #[.pointer (some ⟨d, 0, none⟩), .string f.nm, .string y] w fun e w' => e = .returned (.int .i64 60) ∧ GoneF S w d m E clock kp (n + 1) w' := by
  have hmf : ∀ (fn : Fn) (first cp : Array Value) (w : World), (Instr.makeFunc fn first cp).run Try.prog w = .ok (.func fn first cp) w := fun _ _ _ _ => rfl
  obtain ⟨W, hW, hgW, b1, b2, b3, hzW⟩ := three_boxes w (.pointer (some ⟨d, 0, none⟩)) (.string f.nm) (.string y) 28 9 9
  have hf := h.find hi
  go_enter Try.func52, Try.ntmps52
  go_wp2_with fail
  rw [← hW]
  have hF := h.grew hgW
  clear hW
  refine (write_cut hF.dsk hn _ _ _ entR1 entNo _ _ _ ((ren_ask hF.dsk f.nm y hx hy hf (b2.cell 0) (b1.cell 0) (b3.cell 0)).mono fun e w' ⟨h1, h2⟩ => ⟨h1, 0, by rw [← h2]; rfl⟩) (R := fun w1 w' => w1 = w' ∧ FS S w1 d m E clock true true 0 kp (n + 1)) (T := fun w2 w' => FS S w' d m (E.map (cutE kp)) clock false false 0 kp (n + 1) ∧ Chg S w2 w') ?_ ?_ ?_).mono ?_
  · intro w1 hc1 hD1
    exact (nothing_any w1).mono fun e w' ⟨h1, h2⟩ => ⟨h1, h2, hF.redo hD1 hc1⟩
  · rintro w1 w2 ⟨rfl, h1⟩
    exact h1.dsk.c4
  · rintro w1 w2 ⟨rfl, h1⟩
    exact fs_cut h1 kp hkp
  rintro e w' ⟨rfl, w1, w2, hc1, hD1, ⟨rfl, _⟩, k1, k2⟩
  go_wp2
  go_ret
  exact ⟨by simp, k1, ((Chg.of_grew hgW).trans (chg_d h.dsk.od hc1)).trans k2⟩

set_option maxHeartbeats 1000000 in
theorem fs_append_cut (h : FS S w d m E clock true true 0 kp n) (hn : n ≤ 4000000000000000000) (hkp : kp ≤ 9223372036854775807) (x : ByteArray) (hx : NmOk x) (hno : ∀ e ∈ E, e.nm ≠ x) (hE : E.length < 1048576) (A : Option Addr) (k cap : Nat) (l : List UInt8) (hr : RB w A k l) (hk : k ≤ 4194304) (hAd : ∀ ad, A = some ad → 0 < k → ad.block ≠ d) :
    Calls Try.prog 50 #[.pointer (some ⟨d, 0, none⟩), .string x, .slice A k cap] w fun e w' => e = .returned (.int .i64 60) ∧ ∃ f : FEnt, f.nm = x ∧ FS (Up S w) w' d m ((E ++ [f]).map (cutE kp)) (clock + 1) false false 0 kp (n + 1) ∧ Chg S w w' := by
  have hmf : ∀ (fn : Fn) (first cp : Array Value) (w : World), (Instr.makeFunc fn first cp).run Try.prog w = .ok (.func fn first cp) w := fun _ _ _ _ => rfl
  obtain ⟨W, hW, hgW, b1, b2, b3, hzW⟩ := three_boxes w (.pointer (some ⟨d, 0, none⟩)) (.string x) (.slice A k cap) 28 9 23
  have hnf : Instr.findNow .string (.string x) (E.map FEnt.ent).toArray.toList 0 = some none := by simpa using find_no E 0 hno
  have hes : (E.map FEnt.ent).toArray.size < 1048576 := by simpa using hE
  have hdl := h.dsk.hd.lt
  go_enter Try.func50, Try.ntmps50
  go_wp2_with fail
  rw [← hW]
  have hR0 := h.rise
  have hF := hR0.grew hgW
  have hrW := hr.grew hgW
  clear hW
  refine (write_cut hF.dsk hn _ _ _ entA2 entA1 _ _ _ (app_new hF.dsk x hx hnf hes (b2.cell 0) (b1.cell 0) (b3.cell 0) hk)
    (R := fun w1 w' => ∃ f : FEnt, f.nm = x ∧ FS (Up S w) w' d m (E ++ [f]) (clock + 1) true true 0 kp (n + 1) ∧ Chg (fun j => j = m) w1 w')
    (T := fun w2 w' => ∃ f : FEnt, f.nm = x ∧ FS (Up S w) w' d m ((E ++ [f]).map (cutE kp)) (clock + 1) false false 0 kp (n + 1) ∧ Chg (Up S w) w2 w') ?_ ?_ ?_).mono ?_
  · intro w1 hc1 hD1
    have hO1 : ∀ k, w1.heap.size ≤ k → Up S w k := fun k hk => .inr (by have := hc1.size; have := hgW.size; omega)
    have ne1 := b1.ne_type hF.dsk.hd (by decide)
    have ne2 := b2.ne_type hF.dsk.hd (by decide)
    have ne3 := b3.ne_type hF.dsk.hd (by decide)
    have hF1 := hF.redo hD1 hc1
    refine (do_new hO1 hD1 x hnf ((b2.chg hc1 ne2).cell 0) ((b1.chg hc1 ne1).cell 0) ((b3.chg hc1 ne3).cell 0) (hrW.far hc1 hAd) hk).mono ?_
    rintro e w' ⟨he, g, A', c, h1, h2, h3, h4, h5⟩
    refine ⟨he, ⟨x, g, clock, A', c, l, 0⟩, rfl, ⟨?_, ?_, ?_⟩, h3⟩
    · have := ent_push E ⟨x, g, clock, A', c, l, 0⟩
      rw [← this]
      exact h1
    · intro e he
      rcases List.mem_append.1 he with he | he
      · exact (hF1.ok e he).stay hF1.dsk (h3.mono fun j _ e => .inr e) (Nat.le_succ _)
      · obtain rfl : e = _ := by simpa using he
        exact ⟨h2, Nat.zero_le _, by show l.length ≤ _; rw [hr.1]; exact hk, Nat.lt_succ_self _⟩
    · rw [List.pairwise_append]
      refine ⟨h.ap, List.pairwise_singleton _ _, ?_⟩
      intro a ha b hb
      obtain rfl : b = _ := by simpa using hb
      have ho := hF1.ok a ha
      refine ⟨hno a ha, fun e => ?_, fun e => ?_, fun ad bd e1 e2 e => ?_⟩
      · have := ho.fil.hg.lt
        have e : a.g = g := e
        omega
      · have := ho.born
        have e : a.born = clock := e
        omega
      · have := (Own.blk_lt ho.fil.hA ad e1).2
        have := h5 bd e2
        omega
  · rintro w1 w2 ⟨f, _, h1, _⟩
    exact h1.dsk.c4
  · rintro w1 w2 ⟨f, hfn, h1, _⟩
    refine (fs_cut h1 kp hkp).mono ?_
    rintro e w' ⟨rfl, h2, h3⟩
    exact ⟨rfl, f, hfn, h2, h3⟩
  rintro e w' ⟨rfl, w1, w2, hc1, hD1, ⟨_, _, _, hc2⟩, f, hfn, k1, k2⟩
  go_wp2
  go_ret
  have hc2' : Chg S w1 w2 := hc2.mono fun j _ e => by
    have e : j = m := e
    rw [e]
    exact h.dsk.om
  exact ⟨by simp, f, hfn, k1, (((Chg.of_grew hgW).trans (chg_d h.dsk.od hc1)).trans hc2').step k2 fun j hj e => e.elim id fun e => by omega⟩
end
end Go.Proofs.Ytepncgeaehjhiaa
