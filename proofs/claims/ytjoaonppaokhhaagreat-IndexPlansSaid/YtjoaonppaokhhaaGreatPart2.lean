/-
  Several texts in one:
  Arguments that came in, opened: bytes, with the form's own reach. Conditions: none; no program in sight.
  Rows of elements that take some cells each: read (RE), owned (OE), appended to. Conditions: none; no program in sight.
  The bound of the second form, opened: bytes that came in are no longer than their bulk. Conditions: none; no program in sight.
  Arguments that came in, opened: slices whose elements take some cells each. Conditions: none.
  Arguments that came in, opened: rows of whole numbers, of numbers without a sign. Conditions: none.
-/
import Derived.Test.YtjoaonppaokhhaaGreatPart1
import Derived.ProofKit
import Derived.OpenShut
import Derived.ShutString
import Derived.ChangeOld
import Derived.SizedLaws
import Derived.Deep.Slices
import Derived.Deep.Fields
import Derived.Test.YtjoaonppaokhhaaGreatRows
import Derived.Deep.SlicePairs

namespace Go.Proofs.YtjoaonppaokhhaaGreat
open Go.ChangeShapes Go.WideShapes Go.ChangeAt Go.RowKit

theorem u8_of_wf {z : Int} (h : (Lit.int .u8 z).wf = true) : ((UInt8.ofNat z.toNat).toNat : Int) = z := by
  have := Go.bounds_u8 h
  rw [UInt8.toNat_ofNat']
  omega

theorem open_bytes {H : Type} {enc : TypeId × Value → H} {P : Program} {W : World} {base : Nat} {spare : Nat → Bool} {held : Bool} {t e : TypeId} (ht : P.underlying t = some (.slice e)) (he : P.underlying e = some (.int .u8)) (hC : P.cellsOf e = 1) (hB : P.bytesOf e = 1)
    {ts : List TypeId} {ds : List (DataW H)} {j : Nat} {d : DataW H} (hsz : (DataW.weightsEach P ts ds).all (· ≤ reachBytes) = true) (htj : ts[j]? = some t) (hdj : ds[j]? = some d)
    {A : Option Addr} {n c : Nat} {p : List MemPlace} (h : DataW.Trod enc P W base spare held t (.slice A n c) d p) : ∃ l : List UInt8, RB W A n l ∧ n ≤ 140737488351232 := by
  obtain ⟨fuel, hf⟩ := h
  rcases open_ints ht he hC hf with ⟨hcs, _⟩ | ⟨x, l, c', zs, hcs, _, hl, hm, hz, hx, hcell, hwz⟩
  · simp [Value.cells] at hcs
    obtain ⟨rfl, rfl, rfl⟩ := hcs
    exact ⟨[], ⟨rfl, Rd.nil _ _⟩, by omega⟩
  · simp [Value.cells] at hcs
    obtain ⟨rfl, rfl, rfl⟩ := hcs
    simp only [Prod.mk.injEq] at hx
    obtain ⟨rfl, _⟩ := hx
    have hlen : n ≤ zs.length := by rw [hz]; split <;> omega
    refine ⟨(zs.take n).map fun z => UInt8.ofNat z.toNat, ⟨by simp; omega, ?_⟩, ?_⟩
    · intro k u hu
      refine ⟨x, rfl, ?_⟩
      simp only [List.map_map, List.getElem?_map, List.getElem?_take] at hu
      split at hu
      · rename_i hk
        rw [hcell k (by omega)]
        rw [List.getElem?_eq_getElem (by omega)] at hu
        simp only [Option.map_some, Option.some.injEq, Function.comp, byt] at hu
        rw [← hu, u8_of_wf (hwz _ (List.getElem_mem _)), List.getD_eq_getElem?_getD, List.getElem?_eq_getElem (by omega)]
        rfl
      · simp at hu
    · have := sized_slice hsz htj hdj ht
      rw [hB] at this
      simp only [Go.ChangeShapes.lits, List.length_map, List.length_take, List.length_drop, reachBytes] at this
      omega

theorem open_bytes2 {H : Type} {enc : TypeId × Value → H} {P : Program} {W : World} {base : Nat} {spare : Nat → Bool} {held : Bool} {t e : TypeId} (ht : P.underlying t = some (.slice e)) (he : P.underlying e = some (.int .u8)) (hC : P.cellsOf e = 1) (hB : P.bytesOf e = 1)
    {ts : List TypeId} {ds : List (DataW H)} {j : Nat} {d : DataW H} (hsz : (DataW.weightsEach P ts ds).all (· ≤ reachBytes) = true) (htj : ts[j]? = some t) (hdj : ds[j]? = some d)
    {A : Option Addr} {n c : Nat} {p : List MemPlace} (h : DataW.Trod enc P W base spare held t (.slice A n c) d p) : ∃ l : List UInt8, RB W A n l ∧ n ≤ 140737488351232 ∧ (n ≤ c ∧ c ≤ 9223372036854775807) := by
  have hc : n ≤ c ∧ c ≤ 9223372036854775807 := by
    obtain ⟨fuel, hf⟩ := h
    rcases open_ints ht he hC hf with ⟨hcs, _⟩ | ⟨x, l, c', zs, hcs, _, hl, hm, hz, hx, hcell, hwz⟩
    · simp [Value.cells] at hcs
      obtain ⟨rfl, rfl, rfl⟩ := hcs
      omega
    · simp [Value.cells] at hcs
      obtain ⟨rfl, rfl, rfl⟩ := hcs
      unfold maxLen at hm
      omega
  obtain ⟨l, h1, h2⟩ := open_bytes ht he hC hB hsz htj hdj h
  exact ⟨l, h1, h2, hc⟩
end Go.Proofs.YtjoaonppaokhhaaGreat

namespace Go.Proofs.YtjoaonppaokhhaaGreat

/-- how an element lies in cells -/
structure El (α : Type) where
  cells : α → List Value
  sz : Nat
  len : ∀ x, (cells x).length = sz
  one : ∀ x, ∀ u ∈ cells x, u.oneCell' = true

namespace El
variable {α : Type} (E : El α)
def flat (l : List α) : List Value := l.flatMap E.cells
theorem flat_nil : E.flat [] = [] := rfl
theorem flat_cons (x : α) (l : List α) : E.flat (x :: l) = E.cells x ++ E.flat l := rfl
theorem flat_append (a b : List α) : E.flat (a ++ b) = E.flat a ++ E.flat b := by simp [flat]
theorem flat_one (x : α) : E.flat [x] = E.cells x := by simp [flat]
theorem flat_length (l : List α) : (E.flat l).length = l.length * E.sz := by
  induction l with
  | nil => simp [flat]
  | cons x l ih => rw [flat_cons, List.length_append, ih, E.len, List.length_cons, Nat.succ_mul]; omega
theorem flat_one' (l : List α) : ∀ u ∈ E.flat l, u.oneCell' = true := by
  intro u hu
  obtain ⟨x, _, hx⟩ := List.mem_flatMap.1 hu
  exact E.one x u hx
theorem flat_take (l : List α) (k : Nat) : (E.flat l).take (k * E.sz) = E.flat (l.take k) := by
  induction l generalizing k with
  | nil => simp [flat]
  | cons x l ih =>
    cases k with
    | zero => simp [flat]
    | succ k => rw [List.take_succ_cons, flat_cons, flat_cons, Nat.succ_mul, Nat.add_comm, List.take_length_add_append' (E.len x), ih]
  where
  List.take_length_add_append' {l1 l2 : List Value} {n i : Nat} (h : l1.length = n) : (l1 ++ l2).take (n + i) = l1 ++ l2.take i := by
    subst h; rw [List.take_append]; simp [List.take_of_length_le]
theorem flat_drop (l : List α) (k : Nat) : (E.flat l).drop (k * E.sz) = E.flat (l.drop k) := by
  have h1 : E.flat l = E.flat (l.take k) ++ E.flat (l.drop k) := by rw [← flat_append, List.take_append_drop]
  rcases Nat.lt_or_ge l.length k with h | h
  · rw [List.drop_of_length_le (by rw [flat_length]; exact Nat.mul_le_mul_right _ (by omega)), List.drop_of_length_le (by omega)]
    rfl
  · rw [h1, List.drop_left' (by rw [flat_length, List.length_take, Nat.min_eq_left h])]
theorem flat_get (l : List α) {k j : Nat} {x : α} (hk : l[k]? = some x) (hj : j < E.sz) : (E.flat l)[k * E.sz + j]? = (E.cells x)[j]? := by
  have hlt : k < l.length := (List.getElem?_eq_some_iff.1 hk).1
  have hx : l[k] = x := (List.getElem?_eq_some_iff.1 hk).2
  have h1 : E.flat l = E.flat (l.take k) ++ (E.cells x ++ E.flat (l.drop (k + 1))) := by
    rw [← flat_cons, ← flat_append, ← hx, ← List.drop_eq_getElem_cons hlt, List.take_append_drop]
  have h2 : (E.flat (l.take k)).length = k * E.sz := by rw [flat_length, List.length_take, Nat.min_eq_left (by omega)]
  rw [h1, List.getElem?_append_right (by omega), h2, Nat.add_sub_cancel_left, List.getElem?_append_left (by rw [E.len]; exact hj)]
theorem flat_set (l : List α) (k : Nat) (x : α) (hk : k < l.length) : E.flat (l.set k x) = E.flat (l.take k) ++ (E.cells x ++ E.flat (l.drop (k + 1))) := by
  rw [List.set_eq_take_append_cons_drop, if_pos hk, flat_append, flat_cons]
end El

theorem add_pos {a : Addr} {j : Nat} (hj : 0 < j) : a.add j = ⟨a.block, a.off + j, none⟩ := by
  unfold Addr.add
  rw [if_neg (by omega)]
/-- the walk's spelling of a later cell of an element -/
theorem cell_off {w : World} {ad : Addr} {i j : Nat} {u : Value} (hj : 0 < j) (h : w.cell? (ad.add (i + j)) = some u) : w.cell? ⟨(ad.add i).block, (ad.add i).off + j, none⟩ = some u := by
  rw [← add_add, add_pos hj] at h
  exact h

section
variable {α : Type} {E : El α}
/-- a slice's cells are these elements -/
def RE (E : El α) (w : World) (A : Option Addr) (n : Nat) (l : List α) : Prop := l.length = n ∧ Rd w A (E.flat l)
/-- a row of elements of the call's own -/
def OE (E : El α) (w : World) (base : Nat) (t : TypeId) (A : Option Addr) (n c : Nat) (l : List α) : Prop := Own w base t E.sz A n c (E.flat l)

theorem RE.at_ {w : World} {A : Option Addr} {n : Nat} {l : List α} (h : RE E w A n l) {k : Nat} (hk : k < n) (hs : 0 < E.sz) :
    ∃ ad x, A = some ad ∧ l[k]? = some x ∧ ∀ j u, (E.cells x)[j]? = some u → w.cell? (ad.add (k * E.sz + j)) = some u := by
  have hl : k < l.length := by rw [h.1]; exact hk
  have hx : l[k]? = some l[k] := List.getElem?_eq_getElem hl
  have h0 := E.flat_get l (x := l[k]) hx hs
  obtain ⟨u0, hu0⟩ : ∃ u, (E.cells l[k])[0]? = some u := ⟨(E.cells l[k])[0]'(by rw [E.len]; exact hs), List.getElem?_eq_getElem _⟩
  rw [hu0] at h0
  obtain ⟨ad, rfl, _⟩ := h.2 _ _ h0
  refine ⟨ad, l[k], rfl, hx, fun j u hu => ?_⟩
  have hj : j < E.sz := by have := (List.getElem?_eq_some_iff.1 hu).1; rwa [E.len] at this
  obtain ⟨ad', e, hc⟩ := h.2 _ u ((E.flat_get l hx hj).trans hu)
  injection e with e
  subst e
  exact hc
theorem RE.nil (w : World) (A : Option Addr) : RE E w A 0 [] := ⟨rfl, Rd.nil _ _⟩
theorem RE.chg {S : Nat → Prop} {w w' : World} {A : Option Addr} {n : Nat} {l : List α} (h : RE E w A n l) (hc : Chg S w w') (hn : ∀ ad, A = some ad → ¬ S ad.block) : RE E w' A n l := ⟨h.1, h.2.chg hc hn⟩
theorem RE.grew {w w' : World} {A : Option Addr} {n : Nat} {l : List α} (h : RE E w A n l) (hc : Grew w w') : RE E w' A n l := ⟨h.1, h.2.grew hc⟩
theorem RE.drewN {w : World} {A : Option Addr} {n : Nat} {l : List α} (h : RE E w A n l) (k : Nat) : RE E (w.drewN k) A n l := h
theorem RE.lt {w : World} {A : Option Addr} {n : Nat} {l : List α} (h : RE E w A n l) (hs : 0 < E.sz) : ∀ ad, A = some ad → 0 < n → ad.block < w.heap.size := by
  rintro ad rfl hn
  refine h.2.lt ?_
  intro e
  have := congrArg List.length e
  rw [E.flat_length, h.1, List.length_nil] at this
  have := Nat.mul_pos hn hs
  omega
theorem RE.far {S : Nat → Prop} {w w' : World} {A : Option Addr} {n : Nat} {l : List α} (h : RE E w A n l) (hc : Chg S w w') (hn : ∀ ad, A = some ad → 0 < n → ¬ S ad.block) : RE E w' A n l := by
  rcases Nat.eq_zero_or_pos n with h0 | h0
  · have : l = [] := List.eq_nil_of_length_eq_zero (by rw [h.1, h0])
    subst this
    exact ⟨h.1, Rd.nil _ _⟩
  · exact ⟨h.1, h.2.chg hc (fun ad e => hn ad e h0)⟩
theorem RE.drop {w : World} {ad : Addr} {n : Nat} {l : List α} (h : RE E w (some ad) n l) (i : Nat) : RE E w (some (ad.add (i * E.sz))) (n - i) (l.drop i) := by
  refine ⟨by rw [List.length_drop, h.1], ?_⟩
  rw [← E.flat_drop]
  exact h.2.drop (i * E.sz)
theorem RE.take {w : World} {A : Option Addr} {n : Nat} {l : List α} (h : RE E w A n l) {i : Nat} (hi : i ≤ n) : RE E w A i (l.take i) := by
  refine ⟨by rw [List.length_take, h.1]; omega, ?_⟩
  rw [← E.flat_take]
  exact h.2.take _
theorem RE.take0 {w : World} {A : Option Addr} {n : Nat} {l r : List α} (h : RE E w A (n + r.length) (l ++ r)) : RE E w A n l := by
  have h1 : l.length = n := by have := h.1; simp at this; omega
  have := h.take (i := n) (by omega)
  rwa [List.take_left' h1] at this
theorem RE.newAt {w : World} {B : Nat} {l : List α} {n : Nat} {cs : Array Value} {t : TypeId} (hB : B = w.heap.size) (hn : l.length = n) (hc : cs = (E.flat l).toArray) : RE E (w.alloc (.cells cs t)) (some ⟨B, 0, none⟩) n l := by
  subst hB; subst hc
  exact ⟨hn, Rd.new w (E.flat l).toArray t⟩
theorem OE.len {w : World} {base : Nat} {t : TypeId} {A : Option Addr} {n c : Nat} {l : List α} (hs : 0 < E.sz) (h : OE E w base t A n c l) : l.length = n := by
  have := Own.len h
  rw [E.flat_length] at this
  exact Nat.eq_of_mul_eq_mul_right hs this
theorem OE.cap {w : World} {base : Nat} {t : TypeId} {A : Option Addr} {n c : Nat} {l : List α} (h : OE E w base t A n c l) : n ≤ c ∧ c ≤ 9223372036854775807 := by have := Own.cap h; unfold maxLen at this; omega
theorem OE.re {w : World} {base : Nat} {t : TypeId} {A : Option Addr} {n c : Nat} {l : List α} (hs : 0 < E.sz) (h : OE E w base t A n c l) : RE E w A n l := ⟨h.len hs, Own.rd h⟩
theorem OE.chg {S : Nat → Prop} {w w' : World} {base : Nat} {t : TypeId} {A : Option Addr} {n c : Nat} {l : List α} (h : OE E w base t A n c l) (hc : Chg S w w') (hn : ∀ ad, A = some ad → ¬ S ad.block) : OE E w' base t A n c l := Own.chg h hc hn
theorem OE.grew {w w' : World} {base : Nat} {t : TypeId} {A : Option Addr} {n c : Nat} {l : List α} (h : OE E w base t A n c l) (hc : Grew w w') : OE E w' base t A n c l := Own.grew h hc
theorem OE.drewN {w : World} {base : Nat} {t : TypeId} {A : Option Addr} {n c : Nat} {l : List α} (h : OE E w base t A n c l) (k : Nat) : OE E (w.drewN k) base t A n c l := h
theorem OE.nil (w : World) (base : Nat) (t : TypeId) : OE E w base t none 0 0 [] := Own.nil w base t E.sz
theorem OE.made (w : World) (base : Nat) (t : TypeId) (hb : base ≤ w.heap.size) : OE E (w.alloc (.cells #[] t)) base t (some ⟨w.heap.size, 0, none⟩) 0 0 [] := Own.made w base t E.sz hb
theorem OE.lit (w : World) (base : Nat) (t : TypeId) (n : Nat) (l : List α) (cs : Array Value) (hb : base ≤ w.heap.size) (hm : n ≤ maxLen) (hn : l.length = n) (hc : cs = (E.flat l).toArray) :
    OE E (w.alloc (.cells cs t)) base t (some ⟨w.heap.size, 0, none⟩) n n l := by
  have := Own.lit w base t E.sz n cs hb hm (by rw [hc, List.size_toArray, E.flat_length, hn])
  rw [hc] at this ⊢
  exact this
/-- one element stored into -/
theorem flat_set_cells (E : El α) (l : List α) (k : Nat) (x y : α) (hk : l[k]? = some y) : ∀ i, (E.flat (l.set k x))[i]? = if k * E.sz ≤ i ∧ i < k * E.sz + E.sz then (E.cells x)[i - k * E.sz]? else (E.flat l)[i]? := by
  intro i
  have hlt : k < l.length := (List.getElem?_eq_some_iff.1 hk).1
  have hy : l[k] = y := (List.getElem?_eq_some_iff.1 hk).2
  have h1 : E.flat l = E.flat (l.take k) ++ (E.cells y ++ E.flat (l.drop (k + 1))) := by
    rw [← E.flat_cons, ← E.flat_append, ← hy, ← List.drop_eq_getElem_cons hlt, List.take_append_drop]
  have h2 : (E.flat (l.take k)).length = k * E.sz := by rw [E.flat_length, List.length_take, Nat.min_eq_left (by omega)]
  have hx := E.len x
  have hy := E.len y
  rw [E.flat_set l k x hlt, h1]
  generalize E.flat (l.take k) = a at *
  generalize E.flat (l.drop (k + 1)) = b at *
  by_cases ha : i < k * E.sz
  · rw [List.getElem?_append_left (by omega), if_neg (by omega), List.getElem?_append_left (by omega)]
  · by_cases hb : i < k * E.sz + E.sz
    · rw [if_pos (by omega), List.getElem?_append_right (by omega), h2, List.getElem?_append_left (by omega)]
    · rw [if_neg (by omega), List.getElem?_append_right (by omega), List.getElem?_append_right (by omega), List.getElem?_append_right (l₁ := a) (by omega), List.getElem?_append_right (by omega), hx, hy]
end

theorem take_step {α : Type} {l r : List α} {k : Nat} {x : α} (h : l.take k = r.take k) (hx : l[k]? = some x) (hy : r[k]? = some x) : l.take (k + 1) = r.take (k + 1) := by
  rw [List.take_add_one, List.take_add_one, h, hx, hy]
theorem ne_at {α : Type} {l r : List α} {k : Nat} {x y : α} (hx : l[k]? = some x) (hy : r[k]? = some y) (hn : x ≠ y) : l ≠ r := by
  rintro rfl
  rw [hx] at hy
  injection hy with hy
  exact hn hy

/-- what an append of elements leaves -/
def ApE {α : Type} (E : El α) (w : World) (base : Nat) (t : TypeId) (A : Option Addr) (n c : Nat) (l : List α) (A' : Option Addr) (c' : Nat) (w' : World) : Prop := Apped w base t E.sz A n c (E.flat l) A' c' w'
section
variable {α : Type} {E : El α}
theorem ApE.oe {w w' : World} {base : Nat} {t : TypeId} {A A' : Option Addr} {n c c' : Nat} {l : List α} (h : ApE E w base t A n c l A' c' w') : OE E w' base t A' n c' l := h.1
theorem ApE.chg {w w' : World} {base : Nat} {t : TypeId} {A A' : Option Addr} {n c c' : Nat} {l : List α} (h : ApE E w base t A n c l A' c' w') : Chg (fun k => ∃ ad, A = some ad ∧ k = ad.block) w w' := h.2.1
theorem ApE.grew {w0 w w' : World} {base : Nat} {t : TypeId} {A A' : Option Addr} {n c c' : Nat} {l : List α} (h : ApE E w base t A n c l A' c' w') (hg : Grew w0 w) (hA : ∀ ad, A = some ad → w0.heap.size ≤ ad.block) : Grew w0 w' :=
  hg.step h.chg fun k hk ⟨ad, e, he⟩ => by have := hA ad e; omega

variable {P : Program}
theorem wpList_appE {ops : Array Oper} {rest : List Oper} {o : Oper} {a : Act} {w : World} {Q : Exit → Act → World → Prop} (hgd : o.guard = none) (s x : Operand) (ts t : TypeId) {z : Value} {bytes : Nat}
    (hinfo : (P.info? t).map (fun i => (i.zero, i.size, i.bytes)) = some (some z, E.sz, bytes)) (hzs : z.cells.size = E.sz) (ht : P.underlying ts = some (.slice t))
    (ho : o.op = .call { callee := .builtin .append, args := #[s, x], argTypes := #[ts, ts] })
    (base : Nat) (A : Option Addr) (n c : Nat) (l : List α) (hs : a.eval s = .slice A n c) (hown : OE E w base t A n c l) (hbase : base ≤ w.heap.size)
    (B : Option Addr) (m d : Nat) (r : List α) (hx : a.eval x = .slice B m d) (hr : RE E w B m r) (h63 : n + m ≤ maxLen) (hbytes : (n + m) * bytes ≤ 140737488355328)
    (h : ∀ A' c' w', ApE E w base t A (n + m) c (l ++ r) A' c' w' → wpList P ops Q rest (a.put o.dst (.slice A' (n + m) c')) w') : wpList P ops Q (o :: rest) a w := by
  obtain ⟨i0, hi, hz0, hz1, hz2⟩ := info_parts hinfo
  refine wpList_app w hgd s x ts t ho i0 z E.sz bytes ht hi hz0 hz1 hz2 hzs base A n c _ hs hown hbase B m d _ hx (by rw [E.flat_length, hr.1]) hr.2 (E.flat_one' r) h63 hbytes ?_
  intro A' c' w' h1
  exact h A' c' w' (by unfold ApE; rw [E.flat_append]; exact h1)
end
end Go.Proofs.YtjoaonppaokhhaaGreat

namespace Go.Proofs.YtjoaonppaokhhaaGreat
open Go.ChangeShapes Go.WideShapes Go.ChangeAt Go.RowKit

theorem bulk_one {H : Type} (d : DataW H) : 1 ≤ Rows.uptoBulk d := by
  cases d with
  | lit l => cases l <;> simp [Rows.uptoBulk]
  | _ => simp [Rows.uptoBulk]
theorem bulk_len {H : Type} (l : List (DataW H)) : l.length ≤ Rows.uptoBulkAll l := by
  induction l with
  | nil => simp [Rows.uptoBulkAll]
  | cons x r ih => have := bulk_one x; simp only [Rows.uptoBulkAll, List.length_cons]; omega

theorem open_bulk {H : Type} {enc : TypeId × Value → H} {P : Program} {W : World} {base : Nat} {spare : Nat → Bool} {held : Bool} {t e : TypeId} (ht : P.underlying t = some (.slice e)) (he : P.underlying e = some (.int .u8)) (hC : P.cellsOf e = 1)
    {d : DataW H} {A : Option Addr} {n c : Nat} {p : List MemPlace} (h : DataW.Trod enc P W base spare held t (.slice A n c) d p) : n ≤ Rows.uptoBulk d := by
  obtain ⟨fuel, hf⟩ := h
  rcases open_ints ht he hC hf with ⟨hcs, _⟩ | ⟨x, l, c', zs, hcs, _, hl, hm, hz, hx, hcell, hwz⟩
  · simp [Value.cells] at hcs
    obtain ⟨rfl, rfl, rfl⟩ := hcs
    exact Nat.zero_le _
  · simp [Value.cells] at hcs
    obtain ⟨rfl, rfl, rfl⟩ := hcs
    simp only [Prod.mk.injEq] at hx
    obtain ⟨rfl, _⟩ := hx
    have hlen : n ≤ zs.length := by rw [hz]; split <;> omega
    have := bulk_len (H := H) (Go.ChangeShapes.lits .u8 (zs.take n))
    simp only [Go.ChangeShapes.lits, List.length_map, List.length_take] at this
    simp only [Rows.uptoBulk, Go.ChangeShapes.lits]
    omega
end Go.Proofs.YtjoaonppaokhhaaGreat

namespace Go.Proofs.YtjoaonppaokhhaaGreat
open Go.ChangeShapes Go.WideShapes Go.ChangeAt Go.RowKit Go.Deep

theorem list_of {α : Type} (n : Nat) (p : Nat → α → Prop) (h : ∀ i, i < n → ∃ x, p i x) : ∃ l : List α, l.length = n ∧ ∀ i x, l[i]? = some x → p i x := by
  induction n with
  | zero => exact ⟨[], rfl, fun i x hx => by simp at hx⟩
  | succ n ih =>
    obtain ⟨l, hl, hp⟩ := ih fun i hi => h i (by omega)
    obtain ⟨x, hx⟩ := h n (by omega)
    refine ⟨l ++ [x], by simp [hl], fun i y hy => ?_⟩
    rcases Nat.lt_or_ge i l.length with hi | hi
    · rw [List.getElem?_append_left hi] at hy
      exact hp i y hy
    · rw [List.getElem?_append_right hi] at hy
      have : i - l.length = 0 := by
        rcases Nat.eq_zero_or_pos (i - l.length) with e | e
        · exact e
        · rw [List.getElem?_eq_none (by simp; omega)] at hy; cases hy
      rw [this] at hy
      obtain rfl := Option.some.inj hy
      rw [show i = n by omega]
      exact hx
theorem bulk_all_mem {H : Type} {d : DataW H} : ∀ {l : List (DataW H)}, d ∈ l → Rows.uptoBulk d ≤ Rows.uptoBulkAll l
  | x :: r, h => by
    simp only [Rows.uptoBulkAll]
    rcases List.mem_cons.1 h with rfl | h
    · omega
    · have := bulk_all_mem h; omega

section
variable {H : Type} {enc : TypeId × Value → H} {P : Program} {W : World} {base : Nat} {spare : Nat → Bool} {held : Bool}
theorem open_elems {α : Type} (E : El α) (Q : α → DataW H → Prop) {t e : TypeId} (ht : P.underlying t = some (.slice e)) (ce : P.cellsOf e = E.sz)
    (dec : ∀ n cs x, DataW.trod enc P W base spare held n e cs = some x → cs.length = P.cellsOf e → ∃ y, cs = E.cells y ∧ Q y x.1)
    {A : Option Addr} {n c : Nat} {d : DataW H} {p : List MemPlace} (h : DataW.Trod enc P W base spare held t (.slice A n c) d p) :
    ∃ l : List α, RE E W A n l ∧ n ≤ Rows.uptoBulk d ∧ (n ≤ c ∧ c ≤ 9223372036854775807) ∧ ∀ y ∈ l, ∃ dd, Q y dd ∧ Rows.uptoBulk dd ≤ Rows.uptoBulk d := by
  obtain ⟨fuel, hf⟩ := h
  rcases open_slice ht hf with ⟨hcs, _⟩ | ⟨a, len, cap, m, n', D, Pl, hcs, hb, hl, hm, hmm, hx, hel⟩
  · simp [Value.cells] at hcs
    obtain ⟨rfl, rfl, rfl⟩ := hcs
    exact ⟨[], RE.nil _ _, Nat.zero_le _, by omega, fun y hy => by cases hy⟩
  · simp [Value.cells] at hcs
    obtain ⟨rfl, rfl, rfl⟩ := hcs
    simp only [Prod.mk.injEq] at hx
    obtain ⟨rfl, _⟩ := hx
    have hlm : n ≤ m := by rw [hmm]; split <;> omega
    have key : ∀ i, i < n → ∃ y, (∀ j u, (E.cells y)[j]? = some u → W.cell? (a.add (i * E.sz + j)) = some u) ∧ Q y (D i) := fun i hi => by
      obtain ⟨cs', h1, h2⟩ := hel i (by omega)
      obtain ⟨_, hlen, hcell⟩ := World.cells?_some h1
      obtain ⟨y, rfl, hq⟩ := dec _ _ _ h2 hlen
      refine ⟨y, fun j u hu => ?_, hq⟩
      have hj : j < (E.cells y).length := (List.getElem?_eq_some_iff.1 hu).1
      have h3 := hcell j (by rw [← hlen]; exact hj)
      rw [add_add, ce] at h3
      rw [h3]
      exact hu
    obtain ⟨l, hll, hlp⟩ := list_of n _ key
    refine ⟨l, ⟨hll, fun k u hu => ⟨a, rfl, ?_⟩⟩, ?_, by unfold maxLen at hm; omega, fun y hy => ?_⟩
    · have hk := (List.getElem?_eq_some_iff.1 hu).1
      rw [El.flat_length, hll] at hk
      have hs : 0 < E.sz := by
        rcases Nat.eq_zero_or_pos E.sz with e0 | e0
        · rw [e0] at hk; omega
        · exact e0
      obtain ⟨i, j, rfl, hj⟩ : ∃ i j, k = i * E.sz + j ∧ j < E.sz := ⟨k / E.sz, k % E.sz, by rw [Nat.mul_comm]; exact (Nat.div_add_mod k E.sz).symm, Nat.mod_lt _ hs⟩
      have hi : i < n := by
        rcases Nat.lt_or_ge i n with h1 | h1
        · exact h1
        · have := Nat.mul_le_mul_right E.sz h1; omega
      have hx : l[i]? = some l[i] := List.getElem?_eq_getElem (by omega)
      rw [E.flat_get l hx hj] at hu
      exact (hlp i _ hx).1 j u hu
    · have := bulk_len (H := H) ((List.range n).map D)
      simp only [List.length_map, List.length_range] at this
      simp only [Rows.uptoBulk]
      omega
    · obtain ⟨i, hi⟩ := List.mem_iff_getElem?.1 hy
      have hin : i < n := by have := (List.getElem?_eq_some_iff.1 hi).1; omega
      refine ⟨D i, (hlp i y hi).2, ?_⟩
      have : D i ∈ (List.range n).map D := List.mem_map.2 ⟨i, List.mem_range.2 hin, rfl⟩
      have := bulk_all_mem this
      simp only [Rows.uptoBulk]
      omega
end
end Go.Proofs.YtjoaonppaokhhaaGreat

namespace Go.Proofs.YtjoaonppaokhhaaGreat
open Go.ChangeShapes Go.WideShapes Go.ChangeAt Go.RowKit Go.Deep

def elI : El Int := ⟨fun z => [.int .i64 z], 1, fun _ => rfl, by
  intro x u hu
  simp at hu
  subst hu
  rfl⟩
def elU : El Nat := ⟨fun z => [.int .u64 (z : Int)], 1, fun _ => rfl, by
  intro x u hu
  simp at hu
  subst hu
  rfl⟩

section
variable {H : Type} {enc : TypeId × Value → H} {W : World} {base : Nat} {spare : Nat → Bool} {held : Bool}
theorem cells_int : Tryz.prog.cellsOf 3 = 1 := by kernel_rfl
theorem cells_u64 : Tryz.prog.cellsOf 22 = 1 := by kernel_rfl
theorem one_cell {cs : List Value} (h : cs.length = 1) : ∃ v, cs = [v] := by
  match cs, h with
  | [v], _ => exact ⟨v, rfl⟩

theorem open_ints0 {A : Option Addr} {n c : Nat} {d : DataW H} {p : List MemPlace} (h : DataW.Trod enc Tryz.prog W base spare held 65 (.slice A n c) d p) :
    ∃ l : List Int, RE elI W A n l ∧ (n ≤ c ∧ c ≤ 9223372036854775807) ∧ ∀ x ∈ l, (Lit.int .i64 x).wf = true := by
  obtain ⟨l, h1, h2, h3, h4⟩ := open_elems elI (fun y _ => (Lit.int .i64 y).wf = true) Tryz.underlying65 (by kernel_rfl) (fun n cs x hx hl => by
    obtain ⟨v, rfl⟩ := one_cell (hl.trans cells_int)
    obtain ⟨z, e0, d0, hz⟩ := DataW.trod_int Tryz.underlying3 hx
    obtain rfl := (List.cons.inj e0).1
    exact ⟨z, rfl, hz⟩) h
  exact ⟨l, h1, h3, fun x hx => by obtain ⟨dd, h5, _⟩ := h4 x hx; exact h5⟩
theorem open_u64s0 {A : Option Addr} {n c : Nat} {d : DataW H} {p : List MemPlace} (h : DataW.Trod enc Tryz.prog W base spare held 26 (.slice A n c) d p) :
    ∃ l : List Nat, RE elU W A n l ∧ (n ≤ c ∧ c ≤ 9223372036854775807) ∧ ∀ x ∈ l, x < 18446744073709551616 := by
  obtain ⟨l, h1, h2, h3, h4⟩ := open_elems elU (fun y _ => y < 18446744073709551616) Tryz.underlying26 (by kernel_rfl) (fun n cs x hx hl => by
    obtain ⟨v, rfl⟩ := one_cell (hl.trans cells_u64)
    obtain ⟨z, e0, d0, hz⟩ := DataW.trod_int Tryz.underlying22 hx
    obtain rfl := (List.cons.inj e0).1
    have hb := Go.bounds_u64 hz
    exact ⟨z.toNat, by simp [elU]; omega, by omega⟩) h
  exact ⟨l, h1, h3, fun x hx => by obtain ⟨dd, h5, _⟩ := h4 x hx; exact h5⟩
end
end Go.Proofs.YtjoaonppaokhhaaGreat
