/-
  Several texts in one:
  Rows of elements that take some cells each: read (RE), owned (OE), appended to. Conditions: none; no program in sight.
  Rows of texts: sorted by the library's sort; a text's beginning. Conditions: none.
  The names of a disk of any number of files, sorted. Conditions: none.
  Whether a text may be a file's name, and a key. Conditions: none.
  Keys of one letter that may be: may, named. Conditions: the key's length is one.
  A put's steps: clear, sync, rename. Conditions: names that may be.
  append of a string's bytes onto a row of bytes of the call's own; a string out of bytes. Conditions: none; the two types' numbers are the program's.
-/
import Derived.Test.YtepncgeaehjhiaaPart1
import Derived.Sort.OwnSorted
import Derived.Sort.KeysCollected
import Derived.Test.YtepncgeaehjhiaaShelf
import Derived.Maps.RangeRun
import Derived.Test.YtepncgeaehjhiaaPart5

namespace Go.Proofs.Ytepncgeaehjhiaa

/-- how an element lies in cells -/
structure El (α : Type) where
  cells : α → List Value
  sz : Nat
  len : ∀ x, (cells x).length = sz
  one : ∀ x, ∀ u ∈ cells x, u.oneCell' = true

namespace El
variable {α : Type} (E : El α)
def flat (l : List α) : List Value := l.flatMap E.cells
theorem flat_nil : E.flat [] = [] := rfl
theorem flat_cons (x : α) (l : List α) : E.flat (x :: l) = E.cells x ++ E.flat l := rfl
theorem flat_append (a b : List α) : E.flat (a ++ b) = E.flat a ++ E.flat b := by simp [flat]
theorem flat_one (x : α) : E.flat [x] = E.cells x := by simp [flat]
theorem flat_length (l : List α) : (E.flat l).length = l.length * E.sz := by
  induction l with
  | nil => simp [flat]
  | cons x l ih => rw [flat_cons, List.length_append, ih, E.len, List.length_cons, Nat.succ_mul]; omega
theorem flat_one' (l : List α) : ∀ u ∈ E.flat l, u.oneCell' = true := by
  intro u hu
  obtain ⟨x, _, hx⟩ := List.mem_flatMap.1 hu
  exact E.one x u hx
theorem flat_take (l : List α) (k : Nat) : (E.flat l).take (k * E.sz) = E.flat (l.take k) := by
  induction l generalizing k with
  | nil => simp [flat]
  | cons x l ih =>
    cases k with
    | zero => simp [flat]
    | succ k => rw [List.take_succ_cons, flat_cons, flat_cons, Nat.succ_mul, Nat.add_comm, List.take_length_add_append' (E.len x), ih]
  where
  List.take_length_add_append' {l1 l2 : List Value} {n i : Nat} (h : l1.length = n) : (l1 ++ l2).take (n + i) = l1 ++ l2.take i := by
    subst h; rw [List.take_append]; simp [List.take_of_length_le]
theorem flat_drop (l : List α) (k : Nat) : (E.flat l).drop (k * E.sz) = E.flat (l.drop k) := by
  have h1 : E.flat l = E.flat (l.take k) ++ E.flat (l.drop k) := by rw [← flat_append, List.take_append_drop]
  rcases Nat.lt_or_ge l.length k with h | h
  · rw [List.drop_of_length_le (by rw [flat_length]; exact Nat.mul_le_mul_right _ (by omega)), List.drop_of_length_le (by omega)]
    rfl
  · rw [h1, List.drop_left' (by rw [flat_length, List.length_take, Nat.min_eq_left h])]
theorem flat_get (l : List α) {k j : Nat} {x : α} (hk : l[k]? = some x) (hj : j < E.sz) : (E.flat l)[k * E.sz + j]? = (E.cells x)[j]? := by
  have hlt : k < l.length := (List.getElem?_eq_some_iff.1 hk).1
  have hx : l[k] = x := (List.getElem?_eq_some_iff.1 hk).2
  have h1 : E.flat l = E.flat (l.take k) ++ (E.cells x ++ E.flat (l.drop (k + 1))) := by
    rw [← flat_cons, ← flat_append, ← hx, ← List.drop_eq_getElem_cons hlt, List.take_append_drop]
  have h2 : (E.flat (l.take k)).length = k * E.sz := by rw [flat_length, List.length_take, Nat.min_eq_left (by omega)]
  rw [h1, List.getElem?_append_right (by omega), h2, Nat.add_sub_cancel_left, List.getElem?_append_left (by rw [E.len]; exact hj)]
theorem flat_set (l : List α) (k : Nat) (x : α) (hk : k < l.length) : E.flat (l.set k x) = E.flat (l.take k) ++ (E.cells x ++ E.flat (l.drop (k + 1))) := by
  rw [List.set_eq_take_append_cons_drop, if_pos hk, flat_append, flat_cons]
end El

theorem add_pos {a : Addr} {j : Nat} (hj : 0 < j) : a.add j = ⟨a.block, a.off + j, none⟩ := by
  unfold Addr.add
  rw [if_neg (by omega)]
/-- the walk's spelling of a later cell of an element -/
theorem cell_off {w : World} {ad : Addr} {i j : Nat} {u : Value} (hj : 0 < j) (h : w.cell? (ad.add (i + j)) = some u) : w.cell? ⟨(ad.add i).block, (ad.add i).off + j, none⟩ = some u := by
  rw [← add_add, add_pos hj] at h
  exact h

section
variable {α : Type} {E : El α}
/-- a slice's cells are these elements -/
def RE (E : El α) (w : World) (A : Option Addr) (n : Nat) (l : List α) : Prop := l.length = n ∧ Rd w A (E.flat l)
/-- a row of elements of the call's own -/
def OE (E : El α) (w : World) (base : Nat) (t : TypeId) (A : Option Addr) (n c : Nat) (l : List α) : Prop := Own w base t E.sz A n c (E.flat l)

theorem RE.at_ {w : World} {A : Option Addr} {n : Nat} {l : List α} (h : RE E w A n l) {k : Nat} (hk : k < n) (hs : 0 < E.sz) :
    ∃ ad x, A = some ad ∧ l[k]? = some x ∧ ∀ j u, (E.cells x)[j]? = some u → w.cell? (ad.add (k * E.sz + j)) = some u := by
  have hl : k < l.length := by rw [h.1]; exact hk
  have hx : l[k]? = some l[k] := List.getElem?_eq_getElem hl
  have h0 := E.flat_get l (x := l[k]) hx hs
  obtain ⟨u0, hu0⟩ : ∃ u, (E.cells l[k])[0]? = some u := ⟨(E.cells l[k])[0]'(by rw [E.len]; exact hs), List.getElem?_eq_getElem _⟩
  rw [hu0] at h0
  obtain ⟨ad, rfl, _⟩ := h.2 _ _ h0
  refine ⟨ad, l[k], rfl, hx, fun j u hu => ?_⟩
  have hj : j < E.sz := by have := (List.getElem?_eq_some_iff.1 hu).1; rwa [E.len] at this
  obtain ⟨ad', e, hc⟩ := h.2 _ u ((E.flat_get l hx hj).trans hu)
  injection e with e
  subst e
  exact hc
theorem RE.nil (w : World) (A : Option Addr) : RE E w A 0 [] := ⟨rfl, Rd.nil _ _⟩
theorem RE.chg {S : Nat → Prop} {w w' : World} {A : Option Addr} {n : Nat} {l : List α} (h : RE E w A n l) (hc : Chg S w w') (hn : ∀ ad, A = some ad → ¬ S ad.block) : RE E w' A n l := ⟨h.1, h.2.chg hc hn⟩
theorem RE.grew {w w' : World} {A : Option Addr} {n : Nat} {l : List α} (h : RE E w A n l) (hc : Grew w w') : RE E w' A n l := ⟨h.1, h.2.grew hc⟩
theorem RE.drewN {w : World} {A : Option Addr} {n : Nat} {l : List α} (h : RE E w A n l) (k : Nat) : RE E (w.drewN k) A n l := h
theorem RE.lt {w : World} {A : Option Addr} {n : Nat} {l : List α} (h : RE E w A n l) (hs : 0 < E.sz) : ∀ ad, A = some ad → 0 < n → ad.block < w.heap.size := by
  rintro ad rfl hn
  refine h.2.lt ?_
  intro e
  have := congrArg List.length e
  rw [E.flat_length, h.1, List.length_nil] at this
  have := Nat.mul_pos hn hs
  omega
theorem RE.far {S : Nat → Prop} {w w' : World} {A : Option Addr} {n : Nat} {l : List α} (h : RE E w A n l) (hc : Chg S w w') (hn : ∀ ad, A = some ad → 0 < n → ¬ S ad.block) : RE E w' A n l := by
  rcases Nat.eq_zero_or_pos n with h0 | h0
  · have : l = [] := List.eq_nil_of_length_eq_zero (by rw [h.1, h0])
    subst this
    exact ⟨h.1, Rd.nil _ _⟩
  · exact ⟨h.1, h.2.chg hc (fun ad e => hn ad e h0)⟩
theorem RE.drop {w : World} {ad : Addr} {n : Nat} {l : List α} (h : RE E w (some ad) n l) (i : Nat) : RE E w (some (ad.add (i * E.sz))) (n - i) (l.drop i) := by
  refine ⟨by rw [List.length_drop, h.1], ?_⟩
  rw [← E.flat_drop]
  exact h.2.drop (i * E.sz)
theorem RE.take {w : World} {A : Option Addr} {n : Nat} {l : List α} (h : RE E w A n l) {i : Nat} (hi : i ≤ n) : RE E w A i (l.take i) := by
  refine ⟨by rw [List.length_take, h.1]; omega, ?_⟩
  rw [← E.flat_take]
  exact h.2.take _
theorem RE.take0 {w : World} {A : Option Addr} {n : Nat} {l r : List α} (h : RE E w A (n + r.length) (l ++ r)) : RE E w A n l := by
  have h1 : l.length = n := by have := h.1; simp at this; omega
  have := h.take (i := n) (by omega)
  rwa [List.take_left' h1] at this
theorem RE.newAt {w : World} {B : Nat} {l : List α} {n : Nat} {cs : Array Value} {t : TypeId} (hB : B = w.heap.size) (hn : l.length = n) (hc : cs = (E.flat l).toArray) : RE E (w.alloc (.cells cs t)) (some ⟨B, 0, none⟩) n l := by
  subst hB; subst hc
  exact ⟨hn, Rd.new w (E.flat l).toArray t⟩
theorem OE.len {w : World} {base : Nat} {t : TypeId} {A : Option Addr} {n c : Nat} {l : List α} (hs : 0 < E.sz) (h : OE E w base t A n c l) : l.length = n := by
  have := Own.len h
  rw [E.flat_length] at this
  exact Nat.eq_of_mul_eq_mul_right hs this
theorem OE.cap {w : World} {base : Nat} {t : TypeId} {A : Option Addr} {n c : Nat} {l : List α} (h : OE E w base t A n c l) : n ≤ c ∧ c ≤ 9223372036854775807 := by have := Own.cap h; unfold maxLen at this; omega
theorem OE.re {w : World} {base : Nat} {t : TypeId} {A : Option Addr} {n c : Nat} {l : List α} (hs : 0 < E.sz) (h : OE E w base t A n c l) : RE E w A n l := ⟨h.len hs, Own.rd h⟩
theorem OE.chg {S : Nat → Prop} {w w' : World} {base : Nat} {t : TypeId} {A : Option Addr} {n c : Nat} {l : List α} (h : OE E w base t A n c l) (hc : Chg S w w') (hn : ∀ ad, A = some ad → ¬ S ad.block) : OE E w' base t A n c l := Own.chg h hc hn
theorem OE.grew {w w' : World} {base : Nat} {t : TypeId} {A : Option Addr} {n c : Nat} {l : List α} (h : OE E w base t A n c l) (hc : Grew w w') : OE E w' base t A n c l := Own.grew h hc
theorem OE.drewN {w : World} {base : Nat} {t : TypeId} {A : Option Addr} {n c : Nat} {l : List α} (h : OE E w base t A n c l) (k : Nat) : OE E (w.drewN k) base t A n c l := h
theorem OE.nil (w : World) (base : Nat) (t : TypeId) : OE E w base t none 0 0 [] := Own.nil w base t E.sz
theorem OE.made (w : World) (base : Nat) (t : TypeId) (hb : base ≤ w.heap.size) : OE E (w.alloc (.cells #[] t)) base t (some ⟨w.heap.size, 0, none⟩) 0 0 [] := Own.made w base t E.sz hb
theorem OE.lit (w : World) (base : Nat) (t : TypeId) (n : Nat) (l : List α) (cs : Array Value) (hb : base ≤ w.heap.size) (hm : n ≤ maxLen) (hn : l.length = n) (hc : cs = (E.flat l).toArray) :
    OE E (w.alloc (.cells cs t)) base t (some ⟨w.heap.size, 0, none⟩) n n l := by
  have := Own.lit w base t E.sz n cs hb hm (by rw [hc, List.size_toArray, E.flat_length, hn])
  rw [hc] at this ⊢
  exact this
/-- one element stored into -/
theorem flat_set_cells (E : El α) (l : List α) (k : Nat) (x y : α) (hk : l[k]? = some y) : ∀ i, (E.flat (l.set k x))[i]? = if k * E.sz ≤ i ∧ i < k * E.sz + E.sz then (E.cells x)[i - k * E.sz]? else (E.flat l)[i]? := by
  intro i
  have hlt : k < l.length := (List.getElem?_eq_some_iff.1 hk).1
  have hy : l[k] = y := (List.getElem?_eq_some_iff.1 hk).2
  have h1 : E.flat l = E.flat (l.take k) ++ (E.cells y ++ E.flat (l.drop (k + 1))) := by
    rw [← E.flat_cons, ← E.flat_append, ← hy, ← List.drop_eq_getElem_cons hlt, List.take_append_drop]
  have h2 : (E.flat (l.take k)).length = k * E.sz := by rw [E.flat_length, List.length_take, Nat.min_eq_left (by omega)]
  have hx := E.len x
  have hy := E.len y
  rw [E.flat_set l k x hlt, h1]
  generalize E.flat (l.take k) = a at *
  generalize E.flat (l.drop (k + 1)) = b at *
  by_cases ha : i < k * E.sz
  · rw [List.getElem?_append_left (by omega), if_neg (by omega), List.getElem?_append_left (by omega)]
  · by_cases hb : i < k * E.sz + E.sz
    · rw [if_pos (by omega), List.getElem?_append_right (by omega), h2, List.getElem?_append_left (by omega)]
    · rw [if_neg (by omega), List.getElem?_append_right (by omega), List.getElem?_append_right (by omega), List.getElem?_append_right (l₁ := a) (by omega), List.getElem?_append_right (by omega), hx, hy]
end

theorem take_step {α : Type} {l r : List α} {k : Nat} {x : α} (h : l.take k = r.take k) (hx : l[k]? = some x) (hy : r[k]? = some x) : l.take (k + 1) = r.take (k + 1) := by
  rw [List.take_add_one, List.take_add_one, h, hx, hy]
theorem ne_at {α : Type} {l r : List α} {k : Nat} {x y : α} (hx : l[k]? = some x) (hy : r[k]? = some y) (hn : x ≠ y) : l ≠ r := by
  rintro rfl
  rw [hx] at hy
  injection hy with hy
  exact hn hy

/-- what an append of elements leaves -/
def ApE {α : Type} (E : El α) (w : World) (base : Nat) (t : TypeId) (A : Option Addr) (n c : Nat) (l : List α) (A' : Option Addr) (c' : Nat) (w' : World) : Prop := Apped w base t E.sz A n c (E.flat l) A' c' w'
section
variable {α : Type} {E : El α}
theorem ApE.oe {w w' : World} {base : Nat} {t : TypeId} {A A' : Option Addr} {n c c' : Nat} {l : List α} (h : ApE E w base t A n c l A' c' w') : OE E w' base t A' n c' l := h.1
theorem ApE.chg {w w' : World} {base : Nat} {t : TypeId} {A A' : Option Addr} {n c c' : Nat} {l : List α} (h : ApE E w base t A n c l A' c' w') : Chg (fun k => ∃ ad, A = some ad ∧ k = ad.block) w w' := h.2.1
theorem ApE.grew {w0 w w' : World} {base : Nat} {t : TypeId} {A A' : Option Addr} {n c c' : Nat} {l : List α} (h : ApE E w base t A n c l A' c' w') (hg : Grew w0 w) (hA : ∀ ad, A = some ad → w0.heap.size ≤ ad.block) : Grew w0 w' :=
  hg.step h.chg fun k hk ⟨ad, e, he⟩ => by have := hA ad e; omega

variable {P : Program}
theorem wpList_appE {ops : Array Oper} {rest : List Oper} {o : Oper} {a : Act} {w : World} {Q : Exit → Act → World → Prop} (hgd : o.guard = none) (s x : Operand) (ts t : TypeId) {z : Value} {bytes : Nat}
    (hinfo : (P.info? t).map (fun i => (i.zero, i.size, i.bytes)) = some (some z, E.sz, bytes)) (hzs : z.cells.size = E.sz) (ht : P.underlying ts = some (.slice t))
    (ho : o.op = .call { callee := .builtin .append, args := #[s, x], argTypes := #[ts, ts] })
    (base : Nat) (A : Option Addr) (n c : Nat) (l : List α) (hs : a.eval s = .slice A n c) (hown : OE E w base t A n c l) (hbase : base ≤ w.heap.size)
    (B : Option Addr) (m d : Nat) (r : List α) (hx : a.eval x = .slice B m d) (hr : RE E w B m r) (h63 : n + m ≤ maxLen) (hbytes : (n + m) * bytes ≤ 140737488355328)
    (h : ∀ A' c' w', ApE E w base t A (n + m) c (l ++ r) A' c' w' → wpList P ops Q rest (a.put o.dst (.slice A' (n + m) c')) w') : wpList P ops Q (o :: rest) a w := by
  obtain ⟨i0, hi, hz0, hz1, hz2⟩ := info_parts hinfo
  refine wpList_app w hgd s x ts t ho i0 z E.sz bytes ht hi hz0 hz1 hz2 hzs base A n c _ hs hown hbase B m d _ hx (by rw [E.flat_length, hr.1]) hr.2 (E.flat_one' r) h63 hbytes ?_
  intro A' c' w' h1
  exact h A' c' w' (by unfold ApE; rw [E.flat_append]; exact h1)
end
end Go.Proofs.Ytepncgeaehjhiaa

namespace Go.Proofs.Ytepncgeaehjhiaa
open Go.RowKit Go.Sort

abbrev lst (s : ByteArray) : List UInt8 := s.data.toList
abbrev txt (l : List UInt8) : ByteArray := ⟨l.toArray⟩
theorem txt_lst (s : ByteArray) : txt (lst s) = s := rfl
theorem lst_txt (l : List UInt8) : lst (txt l) = l := by simp
theorem lst_length (s : ByteArray) : (lst s).length = s.size := by rw [Array.length_toList]; rfl
theorem lst_inj {a b : ByteArray} : lst a = lst b ↔ a = b := by
  constructor
  · intro h
    rw [← txt_lst a, ← txt_lst b, h]
  · rintro rfl
    rfl
def elNm : El ByteArray := ⟨fun s => [.string s], 1, fun _ => rfl, by
  intro x u hu
  simp at hu
  subst hu
  rfl⟩
theorem infoNm : (Try.prog.info? 9).map (fun i => (i.zero, i.size, i.bytes)) = some (some (.string ⟨#[]⟩), 1, 16) := by kernel_rfl
theorem elNm_flat (l : List ByteArray) : elNm.flat l = l.map Value.string := by
  induction l with
  | nil => rfl
  | cons a l ih => rw [El.flat_cons, ih]; rfl
theorem flat_enc (l : List ByteArray) : elNm.flat l = (l.map lst).map encStr := by
  rw [elNm_flat, List.map_map]
  rfl
theorem enc_flat (l : List (List UInt8)) : l.map encStr = elNm.flat (l.map txt) := by
  rw [elNm_flat, List.map_map]
  rfl

def sortT (l : List ByteArray) : List ByteArray := ((l.map lst).mergeSort fun x y => decide (x ≤ y)).map txt
theorem sortT_length (l : List ByteArray) : (sortT l).length = l.length := by simp [sortT]
theorem sortT_perm (l : List ByteArray) : (sortT l).Perm l := by
  have h := (List.mergeSort_perm (l.map lst) fun x y => decide (x ≤ y)).map txt
  rw [List.map_map] at h
  have : (l.map (txt ∘ lst)) = l := by
    rw [show (txt ∘ lst) = id from funext fun s => txt_lst s]
    simp
  rw [this] at h
  exact h
theorem sortT_of_perm {l r : List ByteArray} (h : l.Perm r) : sortT l = sortT r := by
  have := Go.mergeSort_of_perm (h.map lst)
  unfold Go.leB at this
  unfold sortT
  rw [this]

theorem prefix_any (s t : ByteArray) (w : World) : Calls Try.prog 37 #[.string s, .string t] w fun e w' => e = .returned (.bool (Lib.hasPrefix (lst s) (lst t))) ∧ w = w' :=
  (Try.strings_HasPrefix s t w).mono fun _ _ ⟨h1, h2⟩ => ⟨h1, h2.symm⟩

theorem sort_names {w : World} {base : Nat} {A : Option Addr} {n c : Nat} {ss : List ByteArray} (h : OE elNm w base 9 A n c ss) (hn : n < 4611686018427387904) :
    Calls Try.prog 38 #[.slice A n c] w fun e w' => e = .returned (.tuple #[]) ∧ OE elNm w' base 9 A n c (sortT ss) ∧ Chg (fun k => ∃ ad, A = some ad ∧ k = ad.block) w w' := by
  have hl : ss.length = n := h.len (by decide)
  subst hl
  rcases h.2 with ⟨e, h3⟩ | ⟨g, cap, cur, e, hb, hg, h3, h4, h5, h6⟩
  · injection e with e1 e2 e3
    subst e1; subst e3
    have : ss = [] := List.eq_nil_of_length_eq_zero (by omega)
    subst this
    refine (Try.slices_Sort_string_none none 0 w).mono ?_
    rintro e w' ⟨rfl, n, rfl⟩
    exact ⟨rfl, by simpa [sortT] using h, Chg.refl _ w⟩
  · injection e with e1 e2 e3
    subst e1; subst e3
    have h6' : cur.toList.take (ss.map lst).length = (ss.map lst).map encStr := by
      rw [← flat_enc, ← h6]
      simp [elNm]
    have hH : Holds encStr w g 0 (ss.map lst).toArray := holds_of_block hg h6'
    have hS := Try.slices_Sort_string g 0 c (ss.map lst) w hH (Array.getElem?_eq_some_iff.1 hg).1 (by simpa using hn)
    rw [List.length_map] at hS
    refine hS.mono ?_
    rintro e w' ⟨rfl, k, os, rfl⟩
    refine ⟨rfl, ?_, ?_⟩
    · have := ownsRow_sorted (n := k) (os := os) (base := base) (g := g) (cap := c) (e := 9) (cur := cur) (ss := ss.map lst) (ts := (ss.map lst).mergeSort fun x y => decide (x ≤ y)) (by simp) hb hg (by simpa using h3) h4 (by simpa [elNm] using h5)
      rw [List.length_map] at this
      unfold OE Own
      rw [show elNm.flat (sortT ss) = ((ss.map lst).mergeSort fun x y => decide (x ≤ y)).map encStr from (enc_flat _).symm]
      exact this
    · exact (Chg.of_grownBy (grownBy_sorted (n := k) (os := os) _)).mono fun j _ hj => ⟨⟨g, 0, none⟩, rfl, by simpa using hj⟩
end Go.Proofs.Ytepncgeaehjhiaa

namespace Go.Proofs.Ytepncgeaehjhiaa
open Go.RowKit

/-- the names that begin so -/
def begun (E : List FEnt) (p : ByteArray) : List ByteArray := (E.filter fun e => Lib.hasPrefix (lst e.nm) (lst p)).map FEnt.nm
theorem begun_perm {E F : List FEnt} (h : E.Perm F) (p : ByteArray) : (begun E p).Perm (begun F p) := (h.filter _).map _
theorem begun_step (V : List FEnt) (f : FEnt) (p : ByteArray) : begun (V ++ [f]) p = begun V p ++ (if Lib.hasPrefix (lst f.nm) (lst p) then [f.nm] else []) := by
  unfold begun
  rw [List.filter_append, List.map_append]
  congr 1
  by_cases h : Lib.hasPrefix (lst f.nm) (lst p) = true <;> simp [h]
theorem begun_le (V : List FEnt) (p : ByteArray) : (begun V p).length ≤ V.length := by
  unfold begun
  rw [List.length_map]
  exact List.length_filter_le _ _

/-- some of the files, each once -/
structure Part (V E : List FEnt) : Prop where
  sub : ∀ f ∈ V, f ∈ E
  nd : V.Pairwise Apart
theorem Part.nil (E : List FEnt) : Part [] E := ⟨fun f h => by simp at h, List.Pairwise.nil⟩
theorem Apart.irrefl {f : FEnt} (h : Apart f f) : False := h.1 rfl
theorem nodup_of {V : List FEnt} (h : V.Pairwise Apart) : V.Nodup := h.imp fun {a b} h e => by subst e; exact h.irrefl
theorem sub_len : ∀ (V E : List FEnt), V.Nodup → (∀ f ∈ V, f ∈ E) → V.length ≤ E.length
  | [], E, _, _ => by simp
  | a :: V, E, h, hs => by
    obtain ⟨s, t, rfl⟩ := List.append_of_mem (hs a (by simp))
    obtain ⟨h1, h2⟩ := List.nodup_cons.1 h
    have := sub_len V (s ++ t) h2 (fun f hf => by
      have h3 := hs f (by simp [hf])
      simp only [List.mem_append, List.mem_cons] at h3 ⊢
      rcases h3 with h3 | rfl | h3
      · exact .inl h3
      · exact absurd hf h1
      · exact .inr h3)
    simp only [List.length_append, List.length_cons] at this ⊢
    omega
theorem apart_of {E : List FEnt} (hE : E.Pairwise Apart) {f g : FEnt} (hf : f ∈ E) (hg : g ∈ E) (h : f ≠ g) : Apart f g := by
  obtain ⟨i, hi⟩ := List.getElem?_of_mem hf
  obtain ⟨j, hj⟩ := List.getElem?_of_mem hg
  refine pair_at hE hj hi fun e => h ?_
  subst e
  rw [hi] at hj
  injection hj
theorem Part.le {V E : List FEnt} (h : Part V E) : V.length ≤ E.length := sub_len V E (nodup_of h.nd) h.sub
theorem Part.perm {V E : List FEnt} (h : Part V E) (hE : E.Pairwise Apart) (h2 : ∀ f ∈ E, f ∈ V) : V.Perm E := (List.perm_ext_iff_of_nodup (nodup_of h.nd) (nodup_of hE)).2 fun f => ⟨h.sub f, h2 f⟩
theorem Part.step {V E : List FEnt} (h : Part V E) (hE : E.Pairwise Apart) {f : FEnt} (hf : f ∈ E) (hn : f ∉ V) : Part (V ++ [f]) E :=
  ⟨fun g hg => (List.mem_append.1 hg).elim (h.sub g) (fun e => by simp at e; exact e ▸ hf), by
    rw [List.pairwise_append]
    refine ⟨h.nd, List.pairwise_singleton _ _, fun a ha b hb => ?_⟩
    obtain rfl : b = f := by simpa using hb
    have hab : a ≠ b := fun e => hn (e ▸ ha)
    exact apart_of hE (h.sub a ha) hf hab⟩
theorem born_inj {E : List FEnt} (hE : E.Pairwise Apart) {f g : FEnt} (hf : f ∈ E) (hg : g ∈ E) (h : f.born = g.born) : f = g := by
  by_cases e : f = g
  · exact e
  · exact absurd h (apart_of hE hf hg e).2.2.1

def seenOf (V : List FEnt) : Array Nat := (V.map FEnt.born).toArray
theorem seenOf_push (V : List FEnt) (f : FEnt) : (seenOf V).push f.born = seenOf (V ++ [f]) := by simp [seenOf]
theorem mem_left {V E : List FEnt} (h : Part V E) (hE : E.Pairwise Apart) (x : MapEntry) : x ∈ (leftOf (E.map FEnt.ent).toArray (seenOf V)).toList ↔ ∃ f ∈ E, f ∉ V ∧ x = f.ent := by
  unfold leftOf seenOf
  simp only [Array.toList_filter, List.mem_filter, List.mem_map]
  constructor
  · rintro ⟨⟨f, hf, rfl⟩, hx⟩
    refine ⟨f, hf, fun hV => ?_, rfl⟩
    simp [FEnt.ent, entF] at hx
    exact hx f hV rfl
  · rintro ⟨f, hf, hV, rfl⟩
    refine ⟨⟨f, hf, rfl⟩, ?_⟩
    simp [FEnt.ent, entF]
    exact fun g hg e => hV (born_inj hE (h.sub g hg) hf e ▸ hg)
theorem born_nodup {E : List FEnt} (hE : E.Pairwise Apart) : ((E.map FEnt.ent).toArray.toList.map (·.born)).Nodup := by
  simp only [List.map_map]
  exact List.Pairwise.map _ (fun a b h => h.2.2.1) hE

/-- the iterator over the disk's map, at world w, behind the files V -/
def ItV (w : World) (r m clock : Nat) (V : List FEnt) : Prop := ∃ c0, IterB w r m clock (seenOf V) c0 ∧ clock ≤ c0
theorem ItV.chg {T : Nat → Prop} {w w' : World} {r m clock : Nat} {V : List FEnt} (h : ItV w r m clock V) (hc : Chg T w w') (hn : ¬ T r) : ItV w' r m clock V := by
  obtain ⟨c0, h1, h2⟩ := h
  exact ⟨c0, h1.chg hc hn, h2⟩
theorem ItV.lt {w : World} {r m clock : Nat} {V : List FEnt} (h : ItV w r m clock V) : r < w.heap.size := h.choose_spec.1.lt
theorem itv_next {S : Nat → Prop} {w : World} {d m : Nat} {E : List FEnt} {clock : Nat} {up armed : Bool} {left kp : Int} {n r : Nat} {V : List FEnt} (h : FS S w d m E clock up armed left kp n) (hi : ItV w r m clock V) (hp : Part V E) :
    (V.Perm E ∧ ∀ ty, (Instr.next (.pointer (some ⟨r, 0, none⟩)) false ty).run Try.prog w = .ok (.tuple #[.bool false]) w) ∨
    ∃ f ∈ E, Part (V ++ [f]) E ∧ ∃ w1 : World, Chg (fun k => k = r) w w1 ∧ w1.heap.size = w.heap.size ∧ (∀ ty, (Instr.next (.pointer (some ⟨r, 0, none⟩)) false ty).run Try.prog w = .ok (.tuple #[.bool true, .string f.nm, .pointer (some ⟨f.g, 0, none⟩)]) w1) ∧
      ItV w1 r m clock (V ++ [f]) ∧ FS S w1 d m E clock up armed left kp n ∧ (Instr.entry (.pointer (some ⟨r, 0, none⟩))).run Try.prog w1 = .ok (.tuple #[.string f.nm, .pointer (some ⟨f.g, 0, none⟩)]) w1 := by
  obtain ⟨c0, hi, hc0⟩ := hi
  have hb := h.dsk.hm
  have hold : ∀ x ∈ ((E.map FEnt.ent).toArray).toList, x.born < clock := by
    intro x hx
    obtain ⟨f, hf, rfl⟩ := List.mem_map.1 (by simpa using hx)
    exact (h.ok f hf).born
  have key := fun ty => run_next_at (P := Try.prog) w ty r m clock c0 (seenOf V) (E.map FEnt.ent).toArray clock hi hb hold hc0
  by_cases h0 : (leftOf (E.map FEnt.ent).toArray (seenOf V)).size = 0
  · left
    refine ⟨hp.perm h.ap fun f hf => ?_, fun ty => ?_⟩
    · by_cases hV : f ∈ V
      · exact hV
      · have := (mem_left hp h.ap f.ent).2 ⟨f, hf, hV, rfl⟩
        rw [Array.eq_empty_of_size_eq_zero h0] at this
        simp at this
    · rcases key ty with ⟨_, h1⟩ | ⟨e, he, _⟩
      · exact h1
      · rw [Array.eq_empty_of_size_eq_zero h0] at he
        simp at he
  · right
    rcases key 0 with ⟨h1, _⟩ | ⟨e, he, w1, hw1, hrun⟩
    · exact absurd h1 h0
    obtain ⟨f, hf, hV, rfl⟩ := (mem_left hp h.ap e).1 he
    have hr1 : r < w1.heap.size := by rcases hw1 with rfl | rfl <;> exact hi.lt
    have hw1s : w1.heap.size = w.heap.size := by rcases hw1 with rfl | rfl <;> rfl
    have hc1 : Chg (fun k => k = r) w w1 := by rcases hw1 with rfl | rfl; exact Chg.refl _ _; exact (Chg.refl _ _).drew
    have hc2 : Chg (fun k => k = r) w (setB w1 r (.mapIter (some m) clock ((seenOf V).push f.born) clock)) := Chg.setB (S := fun k => k = r) hc1 (.inr rfl) _
    have hi2 : ItV (setB w1 r (.mapIter (some m) clock ((seenOf V).push f.born) clock)) r m clock (V ++ [f]) := ⟨clock, by rw [← seenOf_push]; exact setB_here hr1 _, Nat.le_refl _⟩
    have hrd : r ≠ d := hi.ne_blk h.dsk.hd
    have hrm : r ≠ m := fun e => by
      subst e
      have := Eq.trans (Eq.symm hi) hb
      cases this
    have hF2 : FS S (setB w1 r (.mapIter (some m) clock ((seenOf V).push f.born) clock)) d m E clock up armed left kp n :=
      ⟨h.dsk.chg hc2 (fun e => hrd e.symm) (fun e => hrm e.symm), fun e he => (h.ok e he).chg hc2 (fun e1 => hi.ne_blk (h.ok e he).fil.hg e1.symm) (fun ad e1 e2 => by
        rcases (h.ok e he).fil.hA.2 with ⟨e3, _⟩ | ⟨g', cap, cur, e3, hb', hg, _⟩
        · injection e3 with e3
          rw [e3] at e1
          cases e1
        · injection e3 with e3
          rw [e3] at e1
          injection e1 with e1
          subst e1
          subst e2
          have := Eq.trans (Eq.symm hi) hg
          cases this) (Nat.le_refl _), h.ap⟩
    refine ⟨f, hf, hp.step h.ap hf hV, _, hc2, by rw [setB_size]; exact hw1s, fun ty => ?_, hi2, hF2, ?_⟩
    · exact hrun
    · obtain ⟨c1, h1, _⟩ := hi2
      have := run_entry_at (P := Try.prog) _ r m clock (seenOf V) (E.map FEnt.ent).toArray clock f.ent (setB_here hr1 _) hF2.dsk.hm (by simp; exact ⟨f, hf, rfl⟩) (born_nodup h.ap)
      exact this
theorem Own.ne_iter {w : World} {base : Nat} {t : TypeId} {sz n c r m clock : Nat} {A : Option Addr} {cs : List Value} {V : List FEnt} (h : Own w base t sz A n c cs) (hi : ItV w r m clock V) : ∀ ad, A = some ad → ad.block ≠ r := by
  rintro ad rfl
  obtain ⟨c0, hi, _⟩ := hi
  rcases h.2 with ⟨e, h3⟩ | ⟨g', cap, cur, e', hb', hg, rest⟩
  · cases e
  · injection e' with e1 e2 e3
    injection e1 with e1
    subst e1
    rintro rfl
    have := Eq.trans (Eq.symm hi) hg
    cases this

/-- what holds at the head of the loop -/
structure LisAt (S : Nat → Prop) (w : World) (d m : Nat) (E : List FEnt) (clock : Nat) (armed : Bool) (left kp : Int) (n : Nat) (p : ByteArray) (V : List FEnt) (v : Value) (wr : World) : Prop where
  fs : FS S wr d m E clock true armed left kp n
  it : ItV wr w.heap.size m clock V
  pt : Part V E
  gr : Grew w wr
  row : ∃ A c, v = .slice A (begun V p).length c ∧ OE elNm wr w.heap.size 9 A (begun V p).length c (begun V p)

set_option maxHeartbeats 2000000 in
theorem fs_list {S : Nat → Prop} {w : World} {d m : Nat} {E : List FEnt} {clock : Nat} {armed : Bool} {left kp : Int} {n : Nat} (h : FS S w d m E clock true armed left kp n) (hE : E.length ≤ 1048576) (p : ByteArray) :
    Calls Try.prog 24 #[.pointer (some ⟨d, 0, none⟩), .string p] w fun e w' => ∃ A c, e = .returned (.slice A (sortT (begun E p)).length c) ∧ OE elNm w' w.heap.size 9 A (sortT (begun E p)).length c (sortT (begun E p)) ∧ Grew w w' := by
  have c0 := h.dsk.c0
  have c1 := h.dsk.c1
  have hg1 : Grew w (w.alloc (.mapIter (some m) clock #[] clock)) := (Chg.refl _ w).alloc _
  have hrange := run_range_b (P := Try.prog) Try.underlying57 h.dsk.hm
  have hL : Hid (LisAt S w d m E clock armed left kp n p [] (.slice none 0 0) (w.alloc (.mapIter (some m) clock #[] clock))) :=
    ⟨h.grew hg1, ⟨clock, heap_alloc_new w _, Nat.le_refl _⟩, Part.nil E, hg1, none, 0, rfl, OE.nil _ _ _⟩
  have h := Lib.hid h
  go_enter Try.func24, Try.ntmps24
  go_wp2
  go_loopw [5] (fun v wr => ∃ V, Hid (LisAt S w d m E clock armed left kp n p V v wr)) (fun _ wr => match wr.heap[w.heap.size]? with | some (.mapIter _ _ seen _) => E.length - seen.size | _ => 0)
  case atStart => exact ⟨[], hL⟩
  case round =>
    obtain ⟨V, hV⟩ := hrel
    have hm0 : (match wr.heap[w.heap.size]? with | some (.mapIter _ _ seen _) => E.length - seen.size | _ => 0) = E.length - V.length := by
      obtain ⟨c0, h1, _⟩ := hV.out.it
      unfold IterB at h1
      rw [h1]
      simp [seenOf]
    obtain ⟨A, c, rfl, hrow⟩ := hV.out.row
    rcases itv_next hV.out.fs hV.out.it hV.out.pt with ⟨hpm, hnx⟩ | ⟨f, hfE, hpt, w1, hc1, hs1, hnx, hit, hfs, hen⟩
    · have hsE : sortT (begun V p) = sortT (begun E p) := sortT_of_perm (begun_perm hpm p)
      have hbl : (begun V p).length ≤ 1048576 := Nat.le_trans (begun_le V p) (Nat.le_trans hV.out.pt.le hE)
      have hle : (begun V p).length = (sortT (begun E p)).length := by rw [← hsE, sortT_length]
      have hS := sort_names hrow (by omega)
      have hgr := Lib.hid hV.out.gr
      have hbk := Lib.hid (Own.blk_lt hrow)
      rw [hsE] at hS
      rw [hle] at hS ⊢
      clear hrow hV hm0 hle hbl hsE
      go_wp2_with fail
      refine hS.mono ?_
      rintro e w4 ⟨rfl, ho, hc⟩
      go_wp2
      go_ret
      refine ⟨A, c, by simp, ho, hgr.out.step hc fun k hk ⟨ad, e, he⟩ => ?_⟩
      have := (hbk.out ad e).1
      omega
    · have hlt : V.length < E.length := by
        have := hpt.le
        simp at this
        omega
      have hbl : (begun V p).length ≤ 1048576 := Nat.le_trans (begun_le V p) (Nat.le_trans hV.out.pt.le hE)
      have hgw : Grew w w1 := hV.out.gr.step hc1 fun k hk e => by
        have e : k = w.heap.size := e
        omega
      have hrow1 : OE elNm w1 w.heap.size 9 A (begun V p).length c (begun V p) := hrow.chg hc1 (Own.ne_iter hrow hV.out.it)
      have hst := begun_step V f p
      have hil := hit.lt
      have hm1 : ∀ w2 : World, ItV w2 w.heap.size m clock (V ++ [f]) → (match w2.heap[w.heap.size]? with | some (.mapIter _ _ seen _) => E.length - seen.size | _ => 0) < (match wr.heap[w.heap.size]? with | some (.mapIter _ _ seen _) => E.length - seen.size | _ => 0) := by
        rintro w2 ⟨c0, h1, _⟩
        unfold IterB at h1
        rw [h1, hm0]
        simp [seenOf]
        omega
      clear hm0 hc1 hs1 hrow hV
      have hfs := Lib.hid hfs
      have hit := Lib.hid hit
      have hpt := Lib.hid hpt
      have hst := Lib.hid hst
      have hm1 := Lib.hid hm1
      go_wp2_with fail
      refine (prefix_any f.nm p _).mono ?_
      rintro e w2 ⟨rfl, rfl⟩
      clear hnx hen
      by_cases hpre : Lib.hasPrefix (lst f.nm) (lst p) = true
      · simp only [hpre]
        have hsrc : RE elNm (w1.alloc (.cells #[.string f.nm] 9)) (some ⟨w1.heap.size, 0, none⟩) 1 [f.nm] := RE.newAt rfl rfl rfl
        have hown : OE elNm (w1.alloc (.cells #[.string f.nm] 9)) w.heap.size 9 A (begun V p).length c (begun V p) := hrow1.grew ((Chg.refl _ w1).alloc _)
        have hsz := hgw.size
        go_wp2_with (at_builtin; refine wpList_appE rfl _ _ 38 9 infoNm rfl Try.underlying38 rfl w.heap.size A (begun V p).length c (begun V p) rfl hown (by simp; omega) _ 1 1 [f.nm] rfl hsrc (by unfold maxLen; omega) (by omega) ?_; intro A3 c3 w3 h3)
        have hc3 : Chg (fun k => ∃ ad, A = some ad ∧ k = ad.block) w1 w3 := Chg.step (S := fun k => ∃ ad, A = some ad ∧ k = ad.block) ((Chg.refl _ w1).alloc _) h3.chg fun _ _ e => e
        have hG3 : Grew w w3 := hgw.step hc3 fun k hk ⟨ad, e, he⟩ => by
          have := (Own.blk_lt hrow1 ad e).1
          omega
        have hit3 : ItV w3 w.heap.size m clock (V ++ [f]) := hit.out.chg hc3 fun ⟨ad, e, he⟩ => Own.ne_iter hrow1 hit.out ad e he.symm
        have ho3 := h3.oe
        have hm3 := hm1.out w3 hit3
        have hbe : begun (V ++ [f]) p = begun V p ++ [f.nm] := by rw [hst.out, hpre]; rfl
        have hfin : Hid (LisAt S w d m E clock armed left kp n p (V ++ [f]) (.slice A3 ((begun V p).length + 1) c3) w3) :=
          ⟨h.out.grew hG3, hit3, hpt.out, hG3, A3, c3, by rw [hbe]; simp, by rw [hbe]; simpa using ho3⟩
        clear h3 hc3 hG3 hit3 ho3 hsrc hown hm1
        go_roundw
        case rel => exact ⟨V ++ [f], by simpa using hfin⟩
        case measure => exact hm3
      · have hpre : Lib.hasPrefix (lst f.nm) (lst p) = false := by simpa using hpre
        simp only [hpre]
        have hm3 := hm1.out w1 hit.out
        have hbe : begun (V ++ [f]) p = begun V p := by rw [hst.out, hpre]; simp
        have hfin : Hid (LisAt S w d m E clock armed left kp n p (V ++ [f]) (.slice A (begun V p).length c) w1) :=
          ⟨h.out.grew hgw, hit.out, hpt.out, hgw, A, c, by rw [hbe], by rw [hbe]; exact hrow1⟩
        clear hm1
        go_wp2
        go_roundw
        case rel => exact ⟨V ++ [f], hfin⟩
        case measure => exact hm3
end Go.Proofs.Ytepncgeaehjhiaa

namespace Go.Proofs.Ytepncgeaehjhiaa
open Go.RowKit

def okcB (z : Nat) : Bool := decide ((97 ≤ z ∧ z ≤ 122) ∨ (48 ≤ z ∧ z ≤ 57) ∨ z = 47 ∨ z = 46 ∨ z = 45)
def nameB (x : ByteArray) : Bool := decide (0 < x.size) && decide (x.size ≤ 64) && (lst x).all fun c => okcB c.toNat
theorem okcB_iff (z : Nat) : okcB z = true ↔ okc z := by simp [okcB, okc]
theorem lst_get (x : ByteArray) (i : Nat) (h : i < x.size) : (lst x)[i]? = some (x[i]'h) := by
  show x.data.toList[i]? = _
  rw [Array.getElem?_toList]
  exact Array.getElem?_eq_getElem _
theorem nameB_iff (x : ByteArray) : nameB x = true ↔ NmOk x := by
  unfold nameB NmOk
  simp only [Bool.and_eq_true, decide_eq_true_eq, List.all_eq_true, and_assoc]
  refine and_congr_right fun _ => and_congr_right fun _ => ⟨fun h i hi => (okcB_iff _).1 (h _ (List.mem_of_getElem? (lst_get x i hi))), fun h c hc => ?_⟩
  obtain ⟨i, hi⟩ := List.getElem?_of_mem hc
  have hil : i < x.size := by
    have := (List.getElem?_eq_some_iff.1 hi).1
    rwa [lst_length] at this
  rw [lst_get x i hil] at hi
  injection hi with hi
  subst hi
  exact (okcB_iff _).2 (h i hil)
theorem nameB_no {x : ByteArray} {j : Nat} (hj : j < x.size) (h : ¬ okc (x[j]'hj).toNat) : nameB x = false := by
  cases hb : nameB x with
  | false => rfl
  | true => exact absurd (((nameB_iff x).1 hb).2.2 j hj) h

set_option maxHeartbeats 2000000 in
theorem name_any (x : ByteArray) (w : World) : Calls Try.prog 47 #[.string x] w fun e w' => e = .returned (.bool (nameB x)) ∧ w = w' := by
  by_cases hx : NmOk x
  · rw [(nameB_iff x).2 hx]
    exact name_ok x hx w
  have hF : nameB x = false := by
    cases hb : nameB x with
    | false => rfl
    | true => exact absurd ((nameB_iff x).1 hb) hx
  rw [hF]
  clear hF
  by_cases h0 : x.size = 0
  · obtain rfl : x = ⟨#[]⟩ := by
      apply lst_inj.1
      have := lst_length x
      rw [h0] at this
      exact List.eq_nil_of_length_eq_zero this
    clear h0 hx
    go_enter Try.func47, Try.ntmps47
    go_wp2
    go_ret
    exact ⟨by simp, rfl⟩
  have h9 : ¬ x.toList = [] := fun e => by
    have := congrArg List.length e
    rw [ByteArray.toList_eq] at this
    simp at this
    have h8 : x.size = 0 := this ▸ rfl
    omega
  have h0' : x.toList.isEmpty = false := by
    cases h : x.toList with
    | nil => exact absurd h h9
    | cons a b => rfl
  obtain ⟨n, hn⟩ : ∃ n, x.size = n := ⟨_, rfl⟩
  by_cases h64 : 64 < n
  · have e64 : decide ((64 : Int) < (n : Int)) = true := decide_eq_true (by omega)
    clear hx h64
    go_enter Try.func47, Try.ntmps47
    go_wp2
    go_ret
    exact ⟨by simp, rfl⟩
  have e64 : decide ((64 : Int) < (n : Int)) = false := decide_eq_false (by omega)
  have Hbad : Hid (¬ ∀ (i : Nat) (h : i < x.size), okc (x[i]'h).toNat) := fun h => hx ⟨by omega, by omega, h⟩
  have h64' : n ≤ 64 := by omega
  clear hx h64
  go_enter Try.func47, Try.ntmps47
  go_wp2
  go_loopw [3] (fun si wr => ∃ j : Nat, si = .int .i64 (j : Int) ∧ j ≤ n ∧ w = wr ∧ Hid (∀ (i : Nat) (h : i < x.size), i < j → okc (x[i]'h).toNat)) (fun si _ => n - (intOf si).toNat)
  case atStart => exact ⟨0, rfl, by omega, rfl, fun i h h' => by omega⟩
  case round =>
    obtain ⟨j, rfl, hj, rfl, Hok⟩ := hrel
    by_cases hlt : j < n
    · obtain ⟨zn, hzn⟩ : ∃ zn : Nat, (x[j]'(by omega)).toNat = zn := ⟨_, rfl⟩
      have hzb : zn ≤ 255 := by
        have := (x[j]'(by omega)).toNat_lt
        omega
      have hz : ∀ h, ((x[j]'h).toNat : Int) = (zn : Int) := fun h => by rw [← hzn]
      by_cases hc : okc zn
      · have Hok' : Hid (∀ (i : Nat) (h : i < x.size), i < j + 1 → okc (x[i]'h).toNat) := fun i h h' => by
          by_cases hij : i = j
          · subst hij
            rw [hzn]
            exact hc
          · exact Hok.out i h (by omega)
        unfold okc at hc
        clear hzn
        rcases hc with ⟨k1, k2⟩ | ⟨k1, k2⟩ | rfl | rfl | rfl
        · have t1 : decide ((zn : Int) < 97) = false := decide_eq_false (by omega)
          have t2 : decide ((122 : Int) < (zn : Int)) = false := decide_eq_false (by omega)
          go_wp2
          go_roundw
          case rel => exact ⟨j + 1, by go_num, by omega, trivial, Hok'⟩
          case measure => simp [intOf]; omega
        · have t1 : decide ((zn : Int) < 97) = true := decide_eq_true (by omega)
          have t2 : decide ((zn : Int) < 48) = false := decide_eq_false (by omega)
          have t3 : decide ((57 : Int) < (zn : Int)) = false := decide_eq_false (by omega)
          go_wp2
          go_roundw
          case rel => exact ⟨j + 1, by go_num, by omega, trivial, Hok'⟩
          case measure => simp [intOf]; omega
        all_goals
          go_wp2
          go_roundw
          case rel => exact ⟨j + 1, by go_num, by omega, trivial, Hok'⟩
          case measure => simp [intOf]; omega
      · unfold okc at hc
        have u1 : ((zn : Int) != 47) = true := by simp; omega
        have u2 : ((zn : Int) != 46) = true := by simp; omega
        have u3 : ((zn : Int) != 45) = true := by simp; omega
        clear hzn
        by_cases k1 : zn < 97
        · have t1 : decide ((zn : Int) < 97) = true := decide_eq_true (by omega)
          by_cases k2 : zn < 48
          · have t2 : decide ((zn : Int) < 48) = true := decide_eq_true (by omega)
            clear hc k1 k2
            go_wp2
            go_ret
            exact ⟨by simp, rfl⟩
          · have t2 : decide ((zn : Int) < 48) = false := decide_eq_false (by omega)
            have t3 : decide ((57 : Int) < (zn : Int)) = true := decide_eq_true (by omega)
            clear hc k1 k2
            go_wp2
            go_ret
            exact ⟨by simp, rfl⟩
        · have t1 : decide ((zn : Int) < 97) = false := decide_eq_false (by omega)
          have t2 : decide ((122 : Int) < (zn : Int)) = true := decide_eq_true (by omega)
          have t3 : decide ((zn : Int) < 48) = false := decide_eq_false (by omega)
          have t4 : decide ((57 : Int) < (zn : Int)) = true := decide_eq_true (by omega)
          clear hc k1
          go_wp2
          go_ret
          exact ⟨by simp, rfl⟩
    · obtain rfl : j = n := by omega
      exact absurd (fun i h => Hok.out i h (by omega)) Hbad.out

def oN : ByteArray := ⟨#[111, 47]⟩
def tN : ByteArray := ⟨#[116, 47]⟩
def keyB (x : ByteArray) : Bool := decide (x.size ≤ 56) && nameB x && !Lib.hasPrefix (lst x) (lst oN) && !Lib.hasPrefix (lst x) (lst tN)

set_option maxHeartbeats 1000000 in
theorem named_any (x : ByteArray) (w : World) : Calls Try.prog 30 #[.string x] w fun e w' => e = .returned (.bool (keyB x)) ∧ w = w' := by
  have hN := name_any x
  have hp : ∀ y w, Calls Try.prog 37 #[.string x, .string y] w fun e w' => e = .returned (.bool (Lib.hasPrefix (lst x) (lst y))) ∧ w = w' := fun y w => prefix_any x y w
  unfold keyB
  have hp1 := hp oN
  have hp2 := hp tN
  unfold oN at hp1 ⊢
  unfold tN at hp2 ⊢
  obtain ⟨n, hn⟩ : ∃ n, x.size = n := ⟨_, rfl⟩
  rw [hn]
  by_cases h56 : n ≤ 56
  · have e0 : decide ((n : Int) ≤ 56) = true := decide_eq_true (by omega)
    have e0' : decide (n ≤ 56) = true := decide_eq_true h56
    rw [e0']
    clear e0' h56 hp
    generalize nameB x = b1 at *
    generalize Lib.hasPrefix (lst x) (lst ⟨#[111, 47]⟩) = b2 at *
    generalize Lib.hasPrefix (lst x) (lst ⟨#[116, 47]⟩) = b3 at *
    go_enter Try.func30, Try.ntmps30
    go_wp2_with fail
    refine (hN _).mono ?_
    rintro e w1 ⟨rfl, rfl⟩
    cases b1
    · go_wp2
      go_ret
      exact ⟨by simp, rfl⟩
    go_wp2_with fail
    refine (hp1 _).mono ?_
    rintro e w1 ⟨rfl, rfl⟩
    cases b2
    · go_wp2_with fail
      refine (hp2 _).mono ?_
      rintro e w1 ⟨rfl, rfl⟩
      go_wp2
      go_ret
      exact ⟨by simp, rfl⟩
    · go_wp2
      go_ret
      exact ⟨by simp, rfl⟩
  · have e0 : decide ((n : Int) ≤ 56) = false := decide_eq_false (by omega)
    have e0' : decide (n ≤ 56) = false := decide_eq_false h56
    rw [e0']
    clear e0' h56 hp hN hp1 hp2
    go_enter Try.func30, Try.ntmps30
    go_wp2
    go_ret
    exact ⟨by simp, rfl⟩
def mayC (x : ByteArray) (n : Nat) : Nat := if keyB x = false then 110 else if 1048576 < n then 113 else 0
set_option maxHeartbeats 1000000 in
theorem may_any (x : ByteArray) (A : Option Addr) (n c : Nat) (w : World) : Calls Try.prog 28 #[.string x, .slice A n c] w fun e w' => e = .returned (.int .i64 (mayC x n : Int)) ∧ w = w' := by
  have hN := named_any x
  unfold mayC
  generalize keyB x = b at *
  go_enter Try.func28, Try.ntmps28
  go_wp2_with fail
  refine (hN _).mono ?_
  rintro e w1 ⟨rfl, rfl⟩
  clear hN
  cases b
  · go_wp2
    go_ret
    exact ⟨by simp, rfl⟩
  by_cases h : 1048576 < n
  · have e0 : decide ((1048576 : Int) < (n : Int)) = true := decide_eq_true (by omega)
    go_wp2
    go_ret
    exact ⟨by simp, rfl⟩
  · have e0 : decide ((1048576 : Int) < (n : Int)) = false := decide_eq_false (by omega)
    go_wp2
    go_ret
    exact ⟨by simp, rfl⟩
end Go.Proofs.Ytepncgeaehjhiaa

namespace Go.Proofs.Ytepncgeaehjhiaa
open Go.RowKit

set_option maxHeartbeats 1000000 in
theorem prefix_long (x y : ByteArray) (h : x.size < y.size) (w : World) : Calls Try.prog 37 #[.string x, .string y] w fun e w' => e = .returned (.bool false) ∧ w = w' := by
  have hin : Calls Try.prog 53 #[.string x, .string y] w fun e w' => e = .returned (.bool false) ∧ w = w' := by
    obtain ⟨a, ha⟩ : ∃ a, x.size = a := ⟨_, rfl⟩
    obtain ⟨b, hb⟩ : ∃ b, y.size = b := ⟨_, rfl⟩
    have e0 : decide ((b : Int) ≤ (a : Int)) = false := decide_eq_false (by omega)
    go_enter Try.func53, Try.ntmps53
    go_wp2
    go_ret
    exact ⟨by simp, rfl⟩
  go_enter Try.func37, Try.ntmps37
  go_wp2_with fail
  refine hin.mono ?_
  rintro e w1 ⟨rfl, rfl⟩
  go_wp2
  go_ret
  exact ⟨by simp, rfl⟩
set_option maxHeartbeats 1000000 in
theorem named_one (x : ByteArray) (hx : NmOk x) (h1 : x.size = 1) (w : World) : Calls Try.prog 30 #[.string x] w fun e w' => e = .returned (.bool true) ∧ w = w' := by
  have hN := name_ok x hx
  have hp := fun y hy => prefix_long x y hy
  go_enter Try.func30, Try.ntmps30
  go_wp2_with fail
  refine (hN _).mono ?_
  rintro e w1 ⟨rfl, rfl⟩
  go_wp2_with fail
  refine (hp _ (by rw [h1]; show 1 < 2; omega) _).mono ?_
  rintro e w1 ⟨rfl, rfl⟩
  go_wp2_with fail
  refine (hp _ (by rw [h1]; show 1 < 2; omega) _).mono ?_
  rintro e w1 ⟨rfl, rfl⟩
  go_wp2
  go_ret
  exact ⟨by simp, rfl⟩
set_option maxHeartbeats 1000000 in
theorem may_one (x : ByteArray) (hx : NmOk x) (h1 : x.size = 1) (A : Option Addr) (n c : Nat) (hn : n ≤ 1048576) (w : World) : Calls Try.prog 28 #[.string x, .slice A n c] w fun e w' => e = .returned (.int .i64 0) ∧ w = w' := by
  have hN := named_one x hx h1
  have e0 : decide ((1048576 : Int) < (n : Int)) = false := decide_eq_false (by omega)
  go_enter Try.func28, Try.ntmps28
  go_wp2_with fail
  refine (hN _).mono ?_
  rintro e w1 ⟨rfl, rfl⟩
  go_wp2
  go_ret
  exact ⟨by simp, rfl⟩
end Go.Proofs.Ytepncgeaehjhiaa

namespace Go.Proofs.Ytepncgeaehjhiaa
open Go.RowKit

set_option maxHeartbeats 1000000 in
theorem clear_none {O : Nat → Prop} {w : World} {d m : Nat} {es : Array MapEntry} {clock : Nat} {armed : Bool} {left keep : Int} {n : Nat} (hD : Dsk O w d m es clock true armed left keep n) (p s : Nat) (x : ByteArray) (u v : Value) (hP : Blk w p 63 #[.pointer (some ⟨s, 0, none⟩), .string x, u, v]) (hS : Blk w s 56 #[.pointer (some ⟨d, 0, none⟩)])
    (hx : NmOk ((⟨#[116, 47]⟩ : ByteArray) ++ x)) (hxs : x.size ≤ 64) (h : Instr.findNow .string (.string ((⟨#[116, 47]⟩ : ByteArray) ++ x)) es.toList 0 = some none) :
    Calls Try.prog 31 #[.pointer (some ⟨p, 0, none⟩)] w fun e w' => e = .returned (.int .i64 0) ∧ Grew w w' := by
  have p0 : w.cell? ⟨p, 0, none⟩ = some (.pointer (some ⟨s, 0, none⟩)) := hP.cell 0
  have p1 : w.cell? ⟨p, 1, none⟩ = some (.string x) := hP.cell 1
  have s0 : w.cell? ⟨s, 0, none⟩ = some (.pointer (some ⟨d, 0, none⟩)) := hS.cell 0
  have hC := delete_none (hD.grew (Chg.refl _ w).drew) _ hx h
  go_enter Try.func31, Try.ntmps31
  go_wp2_with fail
  refine wp_region_textS [(9, 2)] [p, s] (by kernel_rfl) (by kernel_rfl) (cellsIn_cons p0 (cellsIn_cons s0 (cellsIn_nil _))) ?_
  simp only [wpU, tagOf, chk, look, Nat.reduceBEq, if_true, if_false, Nat.reduceEqDiff, List.nil_append, List.cons_append]
  intro K hK
  go_wp2_with fail
  refine OnlyN.normal (hK _ _ (fun _ => ⟨_, _, _, rfl, rfl, by simp⟩) ?_)
  clear hK K
  intro K hK
  go_wp2_with fail
  refine OnlyN.normal (hK _ _ (fun _ => ⟨_, _, _, rfl, rfl, by simp⟩) ?_)
  clear hK K
  intro K hK
  go_wp2_with fail
  refine OnlyN.normal (hK _ _ (fun _ => ⟨_, _, _, rfl, rfl, by simp⟩) ?_)
  clear hK K
  intro K hK
  go_wp2_with fail
  refine hC.mono ?_
  rintro e w1 ⟨rfl, hg⟩
  have hg0 : Grew w w1 := (Chg.refl _ w).drew.trans hg
  go_wp2_with fail
  refine OnlyN.normal (hK _ _ (sameIn_all hg0 (by
    intro k hk
    simp only [List.mem_cons, List.not_mem_nil, or_false] at hk
    rcases hk with rfl | rfl
    · exact ⟨hP.lt, fun e => e⟩
    · exact ⟨hS.lt, fun e => e⟩)) ?_)
  clear hK K
  go_wp2_with fail
  refine OnlyN.normal ?_
  go_wp2
  go_ret
  exact ⟨by simp, hg0⟩

set_option maxHeartbeats 1000000 in
theorem sync_step {w : World} {d : Nat} (p s : Nat) (x : ByteArray) (u v : Value) (hP : Blk w p 63 #[.pointer (some ⟨s, 0, none⟩), .string x, u, v]) (hS : Blk w s 56 #[.pointer (some ⟨d, 0, none⟩)]) (hxs : x.size ≤ 64) {R : Ending → World → Prop} {S : Nat → Prop} (hp : ¬ S p) (hs : ¬ S s)
    (hC : Calls Try.prog 51 #[.pointer (some ⟨d, 0, none⟩), .string ((⟨#[116, 47]⟩ : ByteArray) ++ x)] w.drew fun e w' => e = .returned (.int .i64 0) ∧ R e w' ∧ Chg S w.drew w') :
    Calls Try.prog 33 #[.pointer (some ⟨p, 0, none⟩)] w fun e w' => e = .returned (.int .i64 0) ∧ R e w' ∧ Chg S w w' := by
  have p0 : w.cell? ⟨p, 0, none⟩ = some (.pointer (some ⟨s, 0, none⟩)) := hP.cell 0
  have p1 : w.cell? ⟨p, 1, none⟩ = some (.string x) := hP.cell 1
  have s0 : w.cell? ⟨s, 0, none⟩ = some (.pointer (some ⟨d, 0, none⟩)) := hS.cell 0
  go_enter Try.func33, Try.ntmps33
  go_wp2_with fail
  refine wp_region_textS [(9, 2)] [p, s] (by kernel_rfl) (by kernel_rfl) (cellsIn_cons p0 (cellsIn_cons s0 (cellsIn_nil _))) ?_
  simp only [wpU, tagOf, chk, look, Nat.reduceBEq, if_true, if_false, Nat.reduceEqDiff, List.nil_append, List.cons_append]
  intro K hK
  go_wp2_with fail
  refine OnlyN.normal (hK _ _ (fun _ => ⟨_, _, _, rfl, rfl, by simp⟩) ?_)
  clear hK K
  intro K hK
  go_wp2_with fail
  refine OnlyN.normal (hK _ _ (fun _ => ⟨_, _, _, rfl, rfl, by simp⟩) ?_)
  clear hK K
  intro K hK
  go_wp2_with fail
  refine OnlyN.normal (hK _ _ (fun _ => ⟨_, _, _, rfl, rfl, by simp⟩) ?_)
  clear hK K
  intro K hK
  go_wp2_with fail
  refine hC.mono ?_
  rintro e w1 ⟨rfl, hR, hg⟩
  have hg0 : Chg S w w1 := (Chg.refl _ w).drew.trans hg
  go_wp2_with fail
  refine OnlyN.normal (hK _ _ (sameIn_all hg0 (by
    intro k hk
    simp only [List.mem_cons, List.not_mem_nil, or_false] at hk
    rcases hk with rfl | rfl
    · exact ⟨hP.lt, hp⟩
    · exact ⟨hS.lt, hs⟩)) ?_)
  clear hK K
  go_wp2_with fail
  refine OnlyN.normal ?_
  go_wp2
  go_ret
  exact ⟨by simp, by simpa using hR, hg0⟩

set_option maxHeartbeats 1000000 in
theorem rename_step {w : World} {d : Nat} (p s : Nat) (x : ByteArray) (u v : Value) (hP : Blk w p 63 #[.pointer (some ⟨s, 0, none⟩), .string x, u, v]) (hS : Blk w s 56 #[.pointer (some ⟨d, 0, none⟩)]) (hxs : x.size ≤ 64) {R : Ending → World → Prop} {S : Nat → Prop} (hp : ¬ S p) (hs : ¬ S s)
    (hC : Calls Try.prog 52 #[.pointer (some ⟨d, 0, none⟩), .string ((⟨#[116, 47]⟩ : ByteArray) ++ x), .string ((⟨#[111, 47]⟩ : ByteArray) ++ x)] w.drew fun e w' => e = .returned (.int .i64 0) ∧ R e w' ∧ Chg S w.drew w') :
    Calls Try.prog 34 #[.pointer (some ⟨p, 0, none⟩)] w fun e w' => e = .returned (.int .i64 0) ∧ R e w' ∧ Chg S w w' := by
  have p0 : w.cell? ⟨p, 0, none⟩ = some (.pointer (some ⟨s, 0, none⟩)) := hP.cell 0
  have p1 : w.cell? ⟨p, 1, none⟩ = some (.string x) := hP.cell 1
  have s0 : w.cell? ⟨s, 0, none⟩ = some (.pointer (some ⟨d, 0, none⟩)) := hS.cell 0
  go_enter Try.func34, Try.ntmps34
  go_wp2_with fail
  refine wp_region_textS [(9, 2)] [p, s] (by kernel_rfl) (by kernel_rfl) (cellsIn_cons p0 (cellsIn_cons s0 (cellsIn_nil _))) ?_
  simp only [wpU, tagOf, chk, look, Nat.reduceBEq, if_true, if_false, Nat.reduceEqDiff, List.nil_append, List.cons_append]
  intro K hK
  go_wp2_with fail
  refine OnlyN.normal (hK _ _ (fun _ => ⟨_, _, _, rfl, rfl, by simp⟩) ?_)
  clear hK K
  intro K hK
  go_wp2_with fail
  refine OnlyN.normal (hK _ _ (fun _ => ⟨_, _, _, rfl, rfl, by simp⟩) ?_)
  clear hK K
  intro K hK
  go_wp2_with fail
  refine OnlyN.normal (hK _ _ (fun _ => ⟨_, _, _, rfl, rfl, by simp⟩) ?_)
  clear hK K
  intro K hK
  go_wp2_with fail
  refine OnlyN.normal (hK _ _ (fun _ => ⟨_, _, _, rfl, rfl, by simp⟩) ?_)
  clear hK K
  intro K hK
  go_wp2_with fail
  refine hC.mono ?_
  rintro e w1 ⟨rfl, hR, hg⟩
  have hg0 : Chg S w w1 := (Chg.refl _ w).drew.trans hg
  go_wp2_with fail
  refine OnlyN.normal (hK _ _ (sameIn_all hg0 (by
    intro k hk
    simp only [List.mem_cons, List.not_mem_nil, or_false] at hk
    rcases hk with rfl | rfl
    · exact ⟨hP.lt, hp⟩
    · exact ⟨hS.lt, hs⟩)) ?_)
  clear hK K
  go_wp2_with fail
  refine OnlyN.normal ?_
  go_wp2
  go_ret
  exact ⟨by simp, by simpa using hR, hg0⟩
end Go.Proofs.Ytepncgeaehjhiaa

namespace Go.Proofs.Ytepncgeaehjhiaa
open Go.RowKit

section
variable {P : Program} (w : World)
theorem firstCells_str (s : ByteArray) : (Builtin.firstCells 1 s.size (.string s)).run P w = .ok ((s.data.toList.map byt).toArray) w := by
  simp only [Builtin.firstCells, Sem.run_pure]
  congr 1
  apply Array.ext'
  simp [byt]

theorem run_appS (t u ty e : TypeId) (i : TypeInfo) (z : Value) (ht : P.underlying t = some (.slice e)) (hu : P.underlying u = some .string) (hi : P.info? e = some i) (hz : i.zero = some z)
    (hsize : i.size = 1) (hby : i.bytes = 1) (hzs : z.cells.size = 1)
    (base : Nat) (A : Option Addr) (n c : Nat) (xs : List Value) (hown : Own w base e 1 A n c xs) (hbase : base ≤ w.heap.size)
    (s : ByteArray) (h63 : n + s.size ≤ maxLen) (hbytes : (n + s.size) * 1 ≤ 140737488355328) :
    ∃ A' c' w', (Builtin.append_ #[t, u] ty #[.slice A n c, .string s]).run P w = .ok (.slice A' (n + s.size) c') w' ∧ Apped w base e 1 A (n + s.size) c (xs ++ s.data.toList.map byt) A' c' w' := by
  have hl : (s.data.toList.map byt).length = s.size * 1 := by simp
  have hlen : (xs ++ s.data.toList.map byt).length = (n + s.size) * 1 := by rw [List.length_append, hown.len, hl, Nat.add_mul]
  have h1 := byt_one s.data.toList
  have hf : ∀ w : World, (Builtin.firstCells 1 s.size (.string s)).run P w = .ok ((s.data.toList.map byt).toArray) w := fun w => firstCells_str w s
  by_cases hroom : n + s.size ≤ c
  · rcases hown.2 with ⟨e', h3⟩ | ⟨g, cap, cur, e', hbg, hg, hnc, hcm, hcs, htake⟩
    · injection e' with e1 e2 e3
      subst e1; subst e3; subst h3
      have hn : s.data.toList.map byt = [] := List.eq_nil_of_length_eq_zero (by rw [hl]; omega)
      rw [hn]
      have h0 : s.size = 0 := by omega
      refine ⟨none, 0, w, ?_, by simpa [h0] using hown, Chg.refl _ _, .inl ⟨rfl, rfl, by omega, rfl⟩⟩
      have hf0 := hf w
      rw [hn, h0] at hf0
      simp [Builtin.append_, run_underlying ht, run_underlying hu, sizeOf, typeInfo, hi, hsize, Builtin.lenOf, hf0, h0]
    · injection e' with e1 e2 e3
      subst e1; subst e3
      have hfit : n * 1 + (s.data.toList.map byt).length ≤ cur.size := by rw [hl, hcs, ← Nat.add_mul]; exact Nat.mul_le_mul_right _ hroom
      have hst := run_storeCells_at P g (n * 1) e (s.data.toList.map byt) 0 cur w hg (by simpa using hfit) h1
      simp only [Nat.add_zero, Nat.mul_one] at hst
      refine ⟨some ⟨g, 0, none⟩, c, w.setRow g (cur.toList.take (n * 1) ++ s.data.toList.map byt ++ cur.toList.drop (n * 1 + (s.data.toList.map byt).length)).toArray, ?_, ⟨hlen, .inr ⟨g, c, _, rfl, hbg, setRow_heap w g cur _ e _ hg, hroom, hcm, ?_, ?_⟩⟩,
        ⟨rfl, rfl, rfl, by simp, fun k _ hk => setRow_other w g k _ (fun e => hk ⟨_, rfl, e⟩)⟩, .inl ⟨rfl, rfl, hroom, by simp⟩⟩
      · simp [Builtin.append_, run_underlying ht, run_underlying hu, sizeOf, typeInfo, hi, hsize, Builtin.lenOf, hroom, hf, Addr.add_lit]
        simp at hst
        rw [hst]
        simp
      · simp only [List.size_toArray, List.length_append, List.length_take, List.length_drop, Array.length_toList]
        omega
      · rw [htake, ← hlen]
        exact List.take_left
  · have hsmall : n + s.size ≤ 9223372036854775807 := by simp only [maxLen] at h63; omega
    have h63' : ¬ (9223372036854775807 < ((n : Int) + (s.size : Int))) := by omega
    have hgf := growslice_fits (old := c) (need := n + s.size) (bytes := 1) (by omega) hbytes
    have h48' : ¬ (281474976710656 < Builtin.nextslicecap (n + s.size) c) := by omega
    have hfo := firstCells_rd (P := P) w.drew 1 n c A xs hown.len hown.rd
    have hge := grownCap_ge w (n + s.size) c e
    have hcm : grownCap w (n + s.size) c e ≤ maxLen := grownCap_le_maxLen w (n + s.size) c e h63
    refine ⟨some ⟨w.heap.size, 0, none⟩, grownCap w (n + s.size) c e, w.drew.alloc (.cells (xs.toArray ++ (s.data.toList.map byt).toArray ++ Builtin.zeroCells z.cells (grownCap w (n + s.size) c e - (n + s.size))) e), ?_, ?_, ?_, .inr ⟨rfl, (Chg.refl _ w).drew.alloc _, by simp⟩⟩
    · have hfd := hf w.drew
      simp [Builtin.append_, run_underlying ht, run_underlying hu, sizeOf, typeInfo, zeroValue, hi, hz, hsize, hby, Builtin.lenOf, hroom, h63', h48', Question.forced, hfd, hfo, newRow, grownCap]
      congr 2
      apply Array.ext'
      simp [List.append_assoc]
    · refine ⟨hlen, .inr ⟨w.heap.size, _, _, rfl, hbase, heap_alloc_new w.drew _, hge, hcm, ?_, ?_⟩⟩
      · simp only [Array.size_append, List.size_toArray, size_zeroCells, hzs, hown.len, hl, ← Nat.add_mul]
        congr 1
        omega
      · simp only [Array.toList_append, List.append_assoc]
        rw [← List.append_assoc, ← hlen]
        exact List.take_left
    · exact (Chg.refl _ w).drew.alloc _
end

/-- append of a string onto a row of bytes of the call's own -/
theorem wpList_appS {ops : Array Oper} {rest : List Oper} {o : Oper} {a : Act} {w : World} {Q : Exit → Act → World → Prop} (hgd : o.guard = none) (s x : Operand)
    (ho : o.op = .call { callee := .builtin .append, args := #[s, x], argTypes := #[23, 9] })
    (base : Nat) (A : Option Addr) (n c : Nat) (l : List UInt8) (hs : a.eval s = .slice A n c) (hown : OB w base 5 A n c l) (hbase : base ≤ w.heap.size)
    (r : ByteArray) (hx : a.eval x = .string r) (hbytes : n + r.size ≤ 140737488355328)
    (h : ∀ A' c' w', ApB w base A (n + r.size) c (l ++ r.data.toList) A' c' w' → wpList Try.prog ops Q rest (a.put o.dst (.slice A' (n + r.size) c')) w') : wpList Try.prog ops Q (o :: rest) a w := by
  obtain ⟨i0, hi, hz0, hz1, hz2⟩ := info_parts infoU8
  obtain ⟨A', c', w', hrun, h2⟩ := run_appS (P := Try.prog) w 23 9 o.type 5 i0 (.int .u8 0) Try.underlying23 Try.underlying9 hi hz0 hz1 hz2 rfl base A n c _ hown hbase r (by unfold maxLen; omega) (by omega)
  refine wpList_plain hgd fun K hK => ?_
  unfold Oper.wp execOp
  simp only [ho, resolve, invoke, builtin, Sem.run_bind, Sem.run_pure, Result.andThen_ok, List.map_toArray, List.map_cons, List.map_nil, hs, hx, hrun]
  exact hK _ _ (h A' c' w' (by unfold ApB; rw [List.map_append]; exact h2))
end Go.Proofs.Ytepncgeaehjhiaa
