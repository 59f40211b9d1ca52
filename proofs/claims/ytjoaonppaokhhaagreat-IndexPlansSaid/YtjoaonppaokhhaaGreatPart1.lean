/-
  Several texts in one:
  Words for memory: frames (Chg: what may have turned), readings of slices (Rd), rows of the call's own (Own), blocks known whole (Blk), and appending with them. Conditions: none; no program in sight.
-/
import Derived.WalkKit
import Derived.WalkSpells
import Derived.WalkLawsBesides
import Derived.BigQuiet
import Derived.BigRegion
import Derived.Deep.QuietTactic
import Derived.Deep.Draws
import Derived.Deep.DeepMust
import Derived.Maps.AppendAt
import Derived.ScopeJumps
import Derived.WalkMore
import Derived.StillTailTactics
import Derived.Deep.DeepCutAuto
import Derived.Lib.Hide

namespace Go.Proofs.YtjoaonppaokhhaaGreat
open Go.RowKit

/-- Of what was there nothing has turned but blocks of S. -/
structure Chg (S : Nat → Prop) (w w' : World) : Prop where
  os : w'.os = w.os
  tape : w'.tape = w.tape
  output : w'.output = w.output
  size : w.heap.size ≤ w'.heap.size
  block : ∀ k, k < w.heap.size → ¬ S k → w'.heap[k]? = w.heap[k]?

/-- Nothing that was there has turned. -/
abbrev Grew (w w' : World) : Prop := Chg (fun _ => False) w w'

theorem Chg.refl (S : Nat → Prop) (w : World) : Chg S w w := ⟨rfl, rfl, rfl, Nat.le_refl _, fun _ _ _ => rfl⟩
theorem Chg.step {S S' : Nat → Prop} {a b c : World} (h : Chg S a b) (h' : Chg S' b c) (hs : ∀ k, k < a.heap.size → S' k → S k) : Chg S a c :=
  ⟨h'.os.trans h.os, h'.tape.trans h.tape, h'.output.trans h.output, Nat.le_trans h.size h'.size, fun k hk hn =>
    (h'.block k (Nat.lt_of_lt_of_le hk h.size) (fun e => hn (hs k hk e))).trans (h.block k hk hn)⟩
theorem Chg.trans {S : Nat → Prop} {a b c : World} (h : Chg S a b) (h' : Chg S b c) : Chg S a c := h.step h' fun _ _ e => e
theorem Chg.mono {S S' : Nat → Prop} {a b : World} (h : Chg S a b) (hs : ∀ k, k < a.heap.size → S k → S' k) : Chg S' a b :=
  ⟨h.os, h.tape, h.output, h.size, fun k hk hn => h.block k hk (fun e => hn (hs k hk e))⟩
theorem Chg.grow {S : Nat → Prop} {a b c : World} (h : Chg S a b) (h' : Grew b c) : Chg S a c := h.step h' fun _ _ e => e.elim
theorem Chg.of_grew {S : Nat → Prop} {a b : World} (h : Grew a b) : Chg S a b := h.mono fun _ _ e => e.elim
theorem Chg.drew {S : Nat → Prop} {a b : World} (h : Chg S a b) : Chg S a b.drew := ⟨h.os, h.tape, h.output, h.size, h.block⟩
theorem Chg.drewN {S : Nat → Prop} {a b : World} (h : Chg S a b) (n : Nat) : Chg S a (b.drewN n) := ⟨h.os, h.tape, h.output, h.size, h.block⟩
theorem Chg.alloc {S : Nat → Prop} {a b : World} (h : Chg S a b) (o : Obj) : Chg S a (b.alloc o) :=
  ⟨h.os, h.tape, h.output, by have := h.size; simp; omega, fun k hk hn => (Below.heap_alloc b o k (Nat.lt_of_lt_of_le hk h.size)).trans (h.block k hk hn)⟩
theorem Chg.setCell {S : Nat → Prop} {a b : World} (h : Chg S a b) {p : Addr} (hp : a.heap.size ≤ p.block ∨ S p.block) (u : Value) : Chg S a (b.setCell p u) :=
  ⟨h.os, h.tape, h.output, by simpa [World.setCell] using h.size, fun k hk hn => (Below.heap_setCell b p u k (by
    rintro rfl
    rcases hp with hp | hp
    · omega
    · exact hn hp)).trans (h.block k hk hn)⟩
theorem Chg.of_grownBy {a b : World} {row : Option Nat} (h : a.grownBy b row) : Chg (fun k => some k = row) a b := ⟨h.os, h.tape, h.output, h.size, h.block⟩
theorem Chg.of_below {a b : World} (h : Below a.heap.size a b) : Grew a b := ⟨h.os, h.tape, h.output, h.size, fun k hk _ => h.block k hk⟩
theorem Chg.below {S : Nat → Prop} {B : Nat} {a b : World} (h : Chg S a b) (hB : B ≤ a.heap.size) (hs : ∀ k, S k → B ≤ k) : Below B a b :=
  ⟨h.os, h.tape, h.output, h.size, fun k hk => h.block k (by omega) (fun e => by have := hs k e; omega)⟩
theorem Grew.below {a b : World} (h : Grew a b) : Below a.heap.size a b := Chg.below h (Nat.le_refl _) fun _ e => e.elim
theorem Chg.cell {S : Nat → Prop} {a b : World} (h : Chg S a b) {p : Addr} {u : Value} (hp : a.cell? p = some u) (hn : ¬ S p.block) : b.cell? p = some u :=
  (World.cell?_of_block (h.block p.block (World.block_lt_of_cell? a p hp) hn)).trans hp
theorem Chg.frozen {S : Nat → Prop} {a b : World} (h : Chg S a b) {p : Addr} (hp : p.block < a.heap.size) (hn : ¬ S p.block) : b.frozen? p = a.frozen? p :=
  World.frozen?_of_block (h.block p.block hp hn)

theorem add_add (a : Addr) (i j : Nat) : (a.add i).add j = a.add (i + j) := by
  unfold Addr.add
  by_cases hi : i = 0 <;> by_cases hj : j = 0 <;> simp [hi, hj, Nat.add_assoc]
theorem block_add (a : Addr) (n : Nat) : (a.add n).block = a.block := by unfold Addr.add; split <;> rfl
theorem add_head (g j : Nat) : (⟨g, 0, none⟩ : Addr).add j = ⟨g, j, none⟩ := by unfold Addr.add; split <;> simp_all

/-- The cells from A on are cs. -/
def Rd (w : World) (A : Option Addr) (cs : List Value) : Prop := ∀ k u, cs[k]? = some u → ∃ ad, A = some ad ∧ w.cell? (ad.add k) = some u

theorem Rd.nil (w : World) (A : Option Addr) : Rd w A [] := fun k u h => by simp at h
theorem Rd.chg {S : Nat → Prop} {w w' : World} {A : Option Addr} {cs : List Value} (h : Rd w A cs) (hc : Chg S w w') (hn : ∀ ad, A = some ad → ¬ S ad.block) : Rd w' A cs := fun k u hu => by
  obtain ⟨ad, rfl, hx⟩ := h k u hu
  exact ⟨ad, rfl, hc.cell hx (by rw [block_add]; exact hn ad rfl)⟩
theorem Rd.grew {w w' : World} {A : Option Addr} {cs : List Value} (h : Rd w A cs) (hc : Grew w w') : Rd w' A cs := h.chg hc fun _ _ e => e
theorem Rd.drewN {w : World} {A : Option Addr} {cs : List Value} (h : Rd w A cs) (n : Nat) : Rd (w.drewN n) A cs := h
theorem Rd.alloc {w : World} {A : Option Addr} {cs : List Value} (h : Rd w A cs) (o : Obj) : Rd (w.alloc o) A cs := h.grew ((Chg.refl _ w).alloc o)
theorem Rd.drop {w : World} {A : Option Addr} {cs : List Value} (h : Rd w A cs) (i : Nat) : Rd w (A.map (·.add i)) (cs.drop i) := fun k u hu => by
  rw [List.getElem?_drop] at hu
  obtain ⟨ad, rfl, hx⟩ := h _ u hu
  exact ⟨ad.add i, rfl, by rw [add_add]; exact hx⟩
theorem Rd.take {w : World} {A : Option Addr} {cs : List Value} (h : Rd w A cs) (i : Nat) : Rd w A (cs.take i) := fun k u hu => by
  rw [List.getElem?_take] at hu
  split at hu
  · exact h k u hu
  · cases hu
theorem Rd.new (w : World) (cs : Array Value) (t : TypeId) : Rd (w.alloc (.cells cs t)) (some ⟨w.heap.size, 0, none⟩) cs.toList := fun k u hu => by
  refine ⟨_, rfl, ?_⟩
  rw [add_head]
  simpa using hu
theorem Rd.lt {w : World} {ad : Addr} {cs : List Value} (h : Rd w (some ad) cs) (hn : cs ≠ []) : ad.block < w.heap.size := by
  obtain ⟨c, r, rfl⟩ := List.exists_cons_of_ne_nil hn
  obtain ⟨ad', e, hx⟩ := h 0 c rfl
  injection e with e
  subst e
  have := World.block_lt_of_cell? w _ hx
  rwa [block_add] at this

/-- A row of the call's own, in a block from 'base' on: n elements of type t, of sz cells each. -/
def Own (w : World) (base : Nat) (t : TypeId) (sz : Nat) (A : Option Addr) (n c : Nat) (cs : List Value) : Prop := w.ownsRow base t sz (.slice A n c) n cs

theorem Own.rd {w : World} {base : Nat} {t : TypeId} {sz n c : Nat} {A : Option Addr} {cs : List Value} (h : Own w base t sz A n c cs) : Rd w A cs := fun k u hu => by
  obtain ⟨h1, h2⟩ := id h
  rcases h2 with ⟨e, h3⟩ | ⟨g, cap, cur, e, hb, hg, h3, h4, h5, h6⟩
  · subst h3
    have : cs = [] := List.eq_nil_of_length_eq_zero (by simpa using h1)
    subst this
    simp at hu
  · injection e with e1 e2 e3
    subst e1
    exact ⟨_, rfl, World.ownsRow.cells h (g := g) rfl k u hu⟩
theorem Own.len {w : World} {base : Nat} {t : TypeId} {sz n c : Nat} {A : Option Addr} {cs : List Value} (h : Own w base t sz A n c cs) : cs.length = n * sz := h.1
theorem Own.chg {S : Nat → Prop} {w w' : World} {base : Nat} {t : TypeId} {sz n c : Nat} {A : Option Addr} {cs : List Value} (h : Own w base t sz A n c cs) (hc : Chg S w w')
    (hn : ∀ ad, A = some ad → ¬ S ad.block) : Own w' base t sz A n c cs := by
  obtain ⟨h1, h2⟩ := id h
  refine ⟨h1, ?_⟩
  rcases h2 with h3 | ⟨g, cap, cur, e, hb, hg, rest⟩
  · exact .inl h3
  · injection e with e1 e2 e3
    subst e1
    refine .inr ⟨g, cap, cur, by rw [e3], hb, ?_, rest⟩
    rw [hc.block g (Array.getElem?_eq_some_iff.1 hg).1 (hn _ rfl)]
    exact hg
theorem Own.grew {w w' : World} {base : Nat} {t : TypeId} {sz n c : Nat} {A : Option Addr} {cs : List Value} (h : Own w base t sz A n c cs) (hc : Grew w w') : Own w' base t sz A n c cs := h.chg hc fun _ _ e => e
theorem Own.drewN {w : World} {base : Nat} {t : TypeId} {sz n c : Nat} {A : Option Addr} {cs : List Value} (h : Own w base t sz A n c cs) (k : Nat) : Own (w.drewN k) base t sz A n c cs := h
theorem Own.alloc {w : World} {base : Nat} {t : TypeId} {sz n c : Nat} {A : Option Addr} {cs : List Value} (h : Own w base t sz A n c cs) (o : Obj) : Own (w.alloc o) base t sz A n c cs := h.grew ((Chg.refl _ w).alloc o)
theorem Own.nil (w : World) (base : Nat) (t : TypeId) (sz : Nat) : Own w base t sz none 0 0 [] := World.ownsRow_nil w base t sz
theorem Own.made (w : World) (base : Nat) (t : TypeId) (sz : Nat) (hb : base ≤ w.heap.size) : Own (w.alloc (.cells #[] t)) base t sz (some ⟨w.heap.size, 0, none⟩) 0 0 [] :=
  World.ownsRow_made w #[] 0 hb (by unfold maxLen; omega) (by simp)
theorem Own.lit (w : World) (base : Nat) (t : TypeId) (sz n : Nat) (cs : Array Value) (hb : base ≤ w.heap.size) (hm : n ≤ maxLen) (hs : cs.size = n * sz) :
    Own (w.alloc (.cells cs t)) base t sz (some ⟨w.heap.size, 0, none⟩) n n cs.toList :=
  ⟨by simpa using hs, .inr ⟨w.heap.size, n, cs, rfl, hb, heap_alloc_new w _, Nat.le_refl _, hm, hs, by rw [← hs]; exact List.take_of_length_le (by simp)⟩⟩
theorem Own.at_ {w : World} {base : Nat} {t : TypeId} {sz n c : Nat} {A : Option Addr} {cs : List Value} (h : Own w base t sz A n c cs) (hn : 0 < n) :
    ∃ g, A = some ⟨g, 0, none⟩ ∧ base ≤ g ∧ g < w.heap.size ∧ (∀ j, j < n * sz → w.cell? ⟨g, j, none⟩ = cs[j]?) ∧ (∀ j, w.frozen? ⟨g, j, none⟩ = false) ∧ n ≤ c ∧ c ≤ maxLen := by
  rcases h.2 with ⟨e, h3⟩ | ⟨g, cap, cur, e, hb, hg, h3, h4, h5, h6⟩
  · omega
  · injection e with e1 e2 e3
    subst e1
    subst e3
    exact ⟨g, rfl, hb, (Array.getElem?_eq_some_iff.1 hg).1, fun j hj => World.ownsRow.cellAt h j hj, fun j => World.ownsRow.frozenAt h j, h3, h4⟩
theorem Own.form {w : World} {base : Nat} {t : TypeId} {sz n c : Nat} {A : Option Addr} {cs : List Value} (h : Own w base t sz A n c cs) :
    (A = none ∧ n = 0 ∧ c = 0 ∧ cs = []) ∨ ∃ g, A = some ⟨g, 0, none⟩ ∧ base ≤ g ∧ g < w.heap.size := by
  rcases h.2 with ⟨e, h3⟩ | ⟨g, cap, cur, e, hb, hg, h3, h4, h5, h6⟩
  · injection e with e1 e2 e3
    subst h3
    exact .inl ⟨e1, rfl, e3, List.eq_nil_of_length_eq_zero (by simpa using h.1)⟩
  · injection e with e1 e2 e3
    exact .inr ⟨g, e1, hb, (Array.getElem?_eq_some_iff.1 hg).1⟩
theorem Own.blk_lt {w : World} {base : Nat} {t : TypeId} {sz n c : Nat} {A : Option Addr} {cs : List Value} (h : Own w base t sz A n c cs) : ∀ ad, A = some ad → base ≤ ad.block ∧ ad.block < w.heap.size := by
  rintro ad rfl
  rcases h.form with ⟨e, _⟩ | ⟨g, e, hb, hl⟩
  · cases e
  · injection e with e
    subst e
    exact ⟨hb, hl⟩
theorem Own.cap {w : World} {base : Nat} {t : TypeId} {sz n c : Nat} {A : Option Addr} {cs : List Value} (h : Own w base t sz A n c cs) : n ≤ c ∧ c ≤ maxLen := by
  rcases h.2 with ⟨e, h3⟩ | ⟨g, cap, cur, e, hb, hg, h3, h4, h5, h6⟩
  · injection e with e1 e2 e3
    exact ⟨by omega, by subst e3; unfold maxLen; omega⟩
  · injection e with e1 e2 e3
    exact ⟨by omega, by omega⟩
theorem Own.mono {w : World} {base base' : Nat} {t : TypeId} {sz n c : Nat} {A : Option Addr} {cs : List Value} (h : Own w base t sz A n c cs) (hb : base' ≤ base) : Own w base' t sz A n c cs := by
  obtain ⟨h1, h2⟩ := h
  refine ⟨h1, ?_⟩
  rcases h2 with h3 | ⟨g, cap, cur, e, hg, rest⟩
  · exact .inl h3
  · exact .inr ⟨g, cap, cur, e, by omega, rest⟩
/-- a lower bound on the block that a later fact tells -/
theorem Own.raise {w : World} {base base' : Nat} {t : TypeId} {sz n c : Nat} {A : Option Addr} {cs : List Value} (h : Own w base t sz A n c cs) (hb : ∀ ad, A = some ad → base' ≤ ad.block) : Own w base' t sz A n c cs := by
  obtain ⟨h1, h2⟩ := h
  refine ⟨h1, ?_⟩
  rcases h2 with h3 | ⟨g, cap, cur, e, hg, rest⟩
  · exact .inl h3
  · injection e with e1 e2 e3
    subst e1
    exact .inr ⟨g, cap, cur, by rw [e3], hb _ rfl, rest⟩
/-- one cell stored into -/
theorem Own.set {w : World} {base : Nat} {t : TypeId} {sz n c g : Nat} {cs : List Value} (h : Own w base t sz (some ⟨g, 0, none⟩) n c cs) (j : Nat) (u : Value) :
    Own (w.setCell ⟨g, j, none⟩ u) base t sz (some ⟨g, 0, none⟩) n c (cs.set j u) := (World.ownsRow.stored h j u).1
/-- a beginning of the row, with the same room -/
theorem Own.shrink {w : World} {base : Nat} {t : TypeId} {sz n c : Nat} {A : Option Addr} {cs : List Value} (h : Own w base t sz A n c cs) {m : Nat} (hm : m ≤ n) : Own w base t sz A m c (cs.take (m * sz)) := by
  have hl := h.1
  have hmul : m * sz ≤ n * sz := Nat.mul_le_mul_right _ hm
  refine ⟨by rw [List.length_take, hl]; omega, ?_⟩
  rcases h.2 with ⟨e, h3⟩ | ⟨g, cap, cur, e, hb, hg, h3, h4, h5, h6⟩
  · injection e with e1 e2 e3
    exact .inl ⟨by rw [e1, e3, show m = 0 from by omega], by omega⟩
  · injection e with e1 e2 e3
    refine .inr ⟨g, cap, cur, by rw [e1, e3], hb, hg, by omega, h4, h5, ?_⟩
    rw [← h6, List.take_take, Nat.min_eq_left hmul]

/-- Block g is just these cells, none frozen. -/
def Blk (w : World) (g : Nat) (t : TypeId) (cs : Array Value) : Prop := w.heap[g]? = some (.cells cs t (0, 0))

theorem Blk.lt {w : World} {g : Nat} {t : TypeId} {cs : Array Value} (h : Blk w g t cs) : g < w.heap.size := (Array.getElem?_eq_some_iff.1 h).1
theorem Blk.cell {w : World} {g : Nat} {t : TypeId} {cs : Array Value} (h : Blk w g t cs) (i : Nat) : w.cell? ⟨g, i, none⟩ = cs[i]? := cell_of_row w g i cs t (0, 0) h
theorem Blk.frozen {w : World} {g : Nat} {t : TypeId} {cs : Array Value} (h : Blk w g t cs) (i : Nat) : w.frozen? ⟨g, i, none⟩ = false := frozen_of_row w g i cs t h
theorem Blk.new (w : World) (t : TypeId) (cs : Array Value) : Blk (w.alloc (.cells cs t)) w.heap.size t cs := heap_alloc_new w _
theorem Blk.chg {S : Nat → Prop} {w w' : World} {g : Nat} {t : TypeId} {cs : Array Value} (h : Blk w g t cs) (hc : Chg S w w') (hn : ¬ S g) : Blk w' g t cs := (hc.block g h.lt hn).trans h
theorem Blk.grew {w w' : World} {g : Nat} {t : TypeId} {cs : Array Value} (h : Blk w g t cs) (hc : Grew w w') : Blk w' g t cs := h.chg hc fun e => e
theorem Blk.drewN {w : World} {g : Nat} {t : TypeId} {cs : Array Value} (h : Blk w g t cs) (n : Nat) : Blk (w.drewN n) g t cs := h
theorem Blk.alloc {w : World} {g : Nat} {t : TypeId} {cs : Array Value} (h : Blk w g t cs) (o : Obj) : Blk (w.alloc o) g t cs := h.grew ((Chg.refl _ w).alloc o)
theorem Blk.set {w : World} {g : Nat} {t : TypeId} {cs : Array Value} (h : Blk w g t cs) (i : Nat) (u : Value) : Blk (w.setCell ⟨g, i, none⟩ u) g t (cs.setIfInBounds i u) := by
  unfold Blk at h ⊢
  simp [World.setCell, Array.getElem?_modify, h]
theorem Blk.far {w : World} {g : Nat} {t : TypeId} {cs : Array Value} (h : Blk w g t cs) {p : Addr} (hp : g ≠ p.block) (u : Value) : Blk (w.setCell p u) g t cs := (Below.heap_setCell w p u g hp).trans h
theorem Own.ne_blk {w : World} {base : Nat} {e t : TypeId} {sz n c g : Nat} {A : Option Addr} {xs : List Value} {cs : Array Value} (h : Own w base e sz A n c xs) (hb : Blk w g t cs) (hne : e ≠ t) : ∀ ad, A = some ad → ad.block ≠ g := by
  rintro ad rfl
  rcases h.2 with ⟨e, h3⟩ | ⟨g', cap, cur, e', hb', hg, rest⟩
  · cases e
  · injection e' with e1 e2 e3
    injection e1 with e1
    subst e1
    rintro rfl
    unfold Blk at hb
    rw [hb] at hg
    injection hg with hg
    injection hg with _ ht
    exact hne ht.symm
theorem Own.setFar {w : World} {base : Nat} {t : TypeId} {sz n c : Nat} {A : Option Addr} {cs : List Value} (h : Own w base t sz A n c cs) {p : Addr} (hp : ∀ ad, A = some ad → ad.block ≠ p.block) (u : Value) : Own (w.setCell p u) base t sz A n c cs :=
  h.chg (S := fun k => k = p.block) ((Chg.refl (fun k => k = p.block) w).setCell (p := p) (.inr rfl) u) hp
theorem Rd.setFar {w : World} {A : Option Addr} {cs : List Value} (h : Rd w A cs) {p : Addr} (hp : ∀ ad, A = some ad → ad.block ≠ p.block) (u : Value) : Rd (w.setCell p u) A cs :=
  h.chg (S := fun k => k = p.block) ((Chg.refl (fun k => k = p.block) w).setCell (p := p) (.inr rfl) u) hp

/-- The first m cells from A on are there and not frozen. -/
def Wr (w : World) (A : Option Addr) (m : Nat) : Prop := ∀ j, j < m → ∃ ad u, A = some ad ∧ w.cell? (ad.add j) = some u ∧ w.frozen? (ad.add j) = false
theorem Wr.at_ {w : World} {A : Option Addr} {m : Nat} (h : Wr w A m) {j : Nat} (hj : j < m) : ∃ ad u, A = some ad ∧ w.cell? (ad.add j) = some u ∧ w.frozen? (ad.add j) = false := h j hj
theorem Wr.set {w : World} {A : Option Addr} {m : Nat} (h : Wr w A m) (p : Addr) (u : Value) : Wr (w.setCell p u) A m := fun j hj => by
  obtain ⟨ad, v, rfl, hc, hf⟩ := h j hj
  by_cases hp : p = ad.add j
  · subst hp
    exact ⟨ad, u, rfl, World.cell?_setCell_same w _ _ hc, by rw [World.frozen?_setCell]; exact hf⟩
  · exact ⟨ad, v, rfl, by rw [World.cell?_setCell_other w _ _ _ hp]; exact hc, by rw [World.frozen?_setCell]; exact hf⟩
theorem Wr.chg {S : Nat → Prop} {w w' : World} {A : Option Addr} {m : Nat} (h : Wr w A m) (hc : Chg S w w') (hn : ∀ ad, A = some ad → ¬ S ad.block) : Wr w' A m := fun j hj => by
  obtain ⟨ad, v, rfl, hx, hf⟩ := h j hj
  exact ⟨ad, v, rfl, hc.cell hx (by rw [block_add]; exact hn ad rfl), by rw [hc.frozen (World.block_lt_of_cell? w _ hx) (by rw [block_add]; exact hn ad rfl)]; exact hf⟩
theorem Wr.mono {w : World} {A : Option Addr} {m m' : Nat} (h : Wr w A m) (hm : m' ≤ m) : Wr w A m' := fun j hj => h j (by omega)
theorem Own.wr {w : World} {base : Nat} {t : TypeId} {sz n c : Nat} {A : Option Addr} {cs : List Value} (h : Own w base t sz A n c cs) : Wr w A (n * sz) := fun j hj => by
  have hl := h.len
  obtain ⟨g, rfl, _, _, hc, hf, _⟩ := h.at_ (by rcases Nat.eq_zero_or_pos n with h0 | h0 <;> simp_all)
  refine ⟨_, cs[j], rfl, ?_, ?_⟩
  · rw [add_head, hc j hj]
    exact List.getElem?_eq_getElem (by omega)
  · rw [add_head]
    exact hf j

section
variable {P : Program} (w : World)

theorem firstCells_rd (sz n c : Nat) (A : Option Addr) (xs : List Value) (hl : xs.length = n * sz) (hr : Rd w A xs) : (Builtin.firstCells sz n (.slice A n c)).run P w = .ok xs.toArray w := by
  rcases A with _ | ad
  · have hx : xs = [] := by
      rcases xs with _ | ⟨u, r⟩
      · rfl
      · obtain ⟨ad, h, _⟩ := hr 0 u rfl
        cases h
    subst hx
    simp [run_firstCells_none]
  · exact run_firstCells_some (P := P) w sz n ad n c xs hl fun j u hu => by
      obtain ⟨ad', e, hc⟩ := hr j u hu
      injection e with e
      subst e
      exact hc

/-- append where there is no room: new memory, whatever slice it is. -/
theorem run_app_new (t ty e : TypeId) (i : TypeInfo) (z : Value) (sz bytes : Nat) (ht : P.underlying t = some (.slice e)) (hi : P.info? e = some i) (hz : i.zero = some z)
    (hsize : i.size = sz) (hby : i.bytes = bytes) (hzs : z.cells.size = sz)
    (A : Option Addr) (n c : Nat) (xs : List Value) (hlx : xs.length = n * sz) (hrx : Rd w A xs)
    (B : Option Addr) (m d : Nat) (news : List Value) (hl : news.length = m * sz) (hr : Rd w B news)
    (hnc : c < n + m) (hbytes : (n + m) * bytes ≤ 140737488355328) (h63 : n + m ≤ maxLen) :
    ∃ c' w', (Builtin.append_ #[t, t] ty #[.slice A n c, .slice B m d]).run P w = .ok (.slice (some ⟨w.heap.size, 0, none⟩) (n + m) c') w' ∧
      Own w' w.heap.size e sz (some ⟨w.heap.size, 0, none⟩) (n + m) c' (xs ++ news) ∧ Grew w w' ∧ w.heap.size < w'.heap.size := by
  subst hsize
  subst hby
  have hsmall : n + m ≤ 9223372036854775807 := by simp only [maxLen] at h63; omega
  have hlen : (xs ++ news).length = (n + m) * i.size := by rw [List.length_append, hlx, hl, Nat.add_mul]
  have hn : ¬ (n + m ≤ c) := by omega
  have h63' : ¬ (9223372036854775807 < ((n : Int) + (m : Int))) := by omega
  have hgf := growslice_fits (old := c) (need := n + m) (bytes := i.bytes) (by omega) hbytes
  have h48' : ¬ (281474976710656 < Builtin.nextslicecap (n + m) c * i.bytes) := by omega
  have hf := firstCells_rd (P := P) w.drew i.size m d B news hl hr
  have hfo := firstCells_rd (P := P) w.drew i.size n c A xs hlx hrx
  have hge := grownCap_ge w (n + m) c e
  have hcm : grownCap w (n + m) c e ≤ maxLen := grownCap_le_maxLen w (n + m) c e h63
  refine ⟨grownCap w (n + m) c e, w.drew.alloc (.cells (xs.toArray ++ news.toArray ++ Builtin.zeroCells z.cells (grownCap w (n + m) c e - (n + m))) e), ?_, ?_, ?_, by simp⟩
  · simp [Builtin.append_, run_underlying ht, sizeOf, typeInfo, zeroValue, hi, hz, Builtin.lenOf, hn, h63', h48', Question.forced, hf, hfo, newRow, grownCap]
    congr 2
    apply Array.ext'
    simp [List.append_assoc]
  · refine ⟨hlen, .inr ⟨w.heap.size, _, _, rfl, Nat.le_refl _, heap_alloc_new w.drew _, hge, hcm, ?_, ?_⟩⟩
    · simp only [Array.size_append, List.size_toArray, size_zeroCells, hzs, hlx, hl, ← Nat.add_mul]
      congr 1
      omega
    · simp only [Array.toList_append, List.append_assoc]
      rw [← List.append_assoc, ← hlen]
      exact List.take_left
  · exact (Chg.refl _ w).drew.alloc _

/-- What an append onto a row of the call's own leaves: the row with what is appended, in its old place or in a new block. -/
def Apped (w : World) (base : Nat) (e : TypeId) (sz : Nat) (A : Option Addr) (n c : Nat) (xs : List Value) (A' : Option Addr) (c' : Nat) (w' : World) : Prop :=
  Own w' base e sz A' n c' xs ∧ Chg (fun k => ∃ ad, A = some ad ∧ k = ad.block) w w' ∧ ((A' = A ∧ c' = c ∧ n ≤ c ∧ w'.heap.size = w.heap.size) ∨ (A' = some ⟨w.heap.size, 0, none⟩ ∧ Grew w w' ∧ w.heap.size < w'.heap.size))

theorem Apped.own {w w' : World} {base : Nat} {e : TypeId} {sz n c c' : Nat} {xs : List Value} {A A' : Option Addr} (h : Apped w base e sz A n c xs A' c' w') : Own w' base e sz A' n c' xs := h.1
theorem Apped.chg {w w' : World} {base : Nat} {e : TypeId} {sz n c c' : Nat} {xs : List Value} {A A' : Option Addr} (h : Apped w base e sz A n c xs A' c' w') : Chg (fun k => ∃ ad, A = some ad ∧ k = ad.block) w w' := h.2.1

/-- append onto a row of the call's own, whatever is appended. -/
theorem run_app (t ty e : TypeId) (i : TypeInfo) (z : Value) (sz bytes : Nat) (ht : P.underlying t = some (.slice e)) (hi : P.info? e = some i) (hz : i.zero = some z)
    (hsize : i.size = sz) (hby : i.bytes = bytes) (hzs : z.cells.size = sz)
    (base : Nat) (A : Option Addr) (n c : Nat) (xs : List Value) (hown : Own w base e sz A n c xs) (hbase : base ≤ w.heap.size)
    (B : Option Addr) (m d : Nat) (news : List Value) (hl : news.length = m * sz) (hr : Rd w B news) (h1 : ∀ u ∈ news, u.oneCell' = true)
    (h63 : n + m ≤ maxLen) (hbytes : (n + m) * bytes ≤ 140737488355328) :
    ∃ A' c' w', (Builtin.append_ #[t, t] ty #[.slice A n c, .slice B m d]).run P w = .ok (.slice A' (n + m) c') w' ∧ Apped w base e sz A (n + m) c (xs ++ news) A' c' w' := by
  by_cases hroom : n + m ≤ c
  · have hlen : (xs ++ news).length = (n + m) * sz := by rw [List.length_append, hown.len, hl, Nat.add_mul]
    have hf := firstCells_rd (P := P) w sz m d B news hl hr
    rcases hown.2 with ⟨e', h3⟩ | ⟨g, cap, cur, e', hbg, hg, hnc, hcm, hcs, htake⟩
    · injection e' with e1 e2 e3
      subst e1; subst e3; subst h3
      obtain rfl : m = 0 := by omega
      have hn : news = [] := List.eq_nil_of_length_eq_zero (by simpa using hl)
      subst hn
      refine ⟨none, 0, w, ?_, by simpa using hown, Chg.refl _ _, .inl ⟨rfl, rfl, Nat.le_refl _, rfl⟩⟩
      subst hsize
      simp [Builtin.append_, run_underlying ht, sizeOf, typeInfo, hi, Builtin.lenOf, hf]
    · injection e' with e1 e2 e3
      subst e1; subst e3
      subst hsize
      have hfit : n * i.size + news.length ≤ cur.size := by rw [hl, hcs, ← Nat.add_mul]; exact Nat.mul_le_mul_right _ hroom
      have hst := run_storeCells_at P g (n * i.size) e news 0 cur w hg (by simpa using hfit) h1
      simp only [Nat.add_zero] at hst
      refine ⟨some ⟨g, 0, none⟩, c, w.setRow g (cur.toList.take (n * i.size) ++ news ++ cur.toList.drop (n * i.size + news.length)).toArray, ?_, ⟨hlen, .inr ⟨g, c, _, rfl, hbg, setRow_heap w g cur _ e _ hg, hroom, hcm, ?_, ?_⟩⟩,
        ⟨rfl, rfl, rfl, by simp, fun k _ hk => setRow_other w g k _ (fun e => hk ⟨_, rfl, e⟩)⟩, .inl ⟨rfl, rfl, hroom, by simp⟩⟩
      · simp [Builtin.append_, run_underlying ht, sizeOf, typeInfo, hi, Builtin.lenOf, hroom, hf, Addr.add_lit, hst]
      · simp only [List.size_toArray, List.length_append, List.length_take, List.length_drop, Array.length_toList]
        omega
      · rw [htake, ← hlen]
        exact List.take_left
  · obtain ⟨c', w', hrun, h2, h3, h4⟩ := run_app_new (P := P) w t ty e i z sz bytes ht hi hz hsize hby hzs A n c xs hown.len hown.rd B m d news hl hr (by omega) hbytes h63
    exact ⟨_, c', w', hrun, h2.mono hbase, Chg.of_grew h3, .inr ⟨rfl, h3, h4⟩⟩

theorem wp_app {o : Oper} {a : Act} {K : Act → World → Prop} {Q : Exit → Act → World → Prop} (s x : Operand) (t e : TypeId)
    (ho : o.op = .call { callee := .builtin .append, args := #[s, x], argTypes := #[t, t] })
    (i : TypeInfo) (z : Value) (sz bytes : Nat) (ht : P.underlying t = some (.slice e)) (hi : P.info? e = some i) (hz : i.zero = some z)
    (hsize : i.size = sz) (hby : i.bytes = bytes) (hzs : z.cells.size = sz)
    (base : Nat) (A : Option Addr) (n c : Nat) (xs : List Value) (hs : a.eval s = .slice A n c) (hown : Own w base e sz A n c xs) (hbase : base ≤ w.heap.size)
    (B : Option Addr) (m d : Nat) (news : List Value) (hx : a.eval x = .slice B m d) (hl : news.length = m * sz) (hr : Rd w B news) (h1 : ∀ u ∈ news, u.oneCell' = true)
    (h63 : n + m ≤ maxLen) (hbytes : (n + m) * bytes ≤ 140737488355328)
    (h : ∀ A' c' w', Apped w base e sz A (n + m) c (xs ++ news) A' c' w' → K (a.put o.dst (.slice A' (n + m) c')) w') : o.wp P a w K Q := by
  obtain ⟨A', c', w', hrun, h2⟩ := run_app (P := P) w t o.type e i z sz bytes ht hi hz hsize hby hzs base A n c xs hown hbase B m d news hl hr h1 h63 hbytes
  unfold Oper.wp execOp
  simp only [ho, resolve, invoke, builtin, Sem.run_bind, Sem.run_pure, Result.andThen_ok, List.map_toArray, List.map_cons, List.map_nil, hs, hx, hrun]
  exact h A' c' w' h2

theorem wpList_app {ops : Array Oper} {rest : List Oper} {o : Oper} {a : Act} {Q : Exit → Act → World → Prop} (hgd : o.guard = none) (s x : Operand) (t e : TypeId)
    (ho : o.op = .call { callee := .builtin .append, args := #[s, x], argTypes := #[t, t] })
    (i : TypeInfo) (z : Value) (sz bytes : Nat) (ht : P.underlying t = some (.slice e)) (hi : P.info? e = some i) (hz : i.zero = some z)
    (hsize : i.size = sz) (hby : i.bytes = bytes) (hzs : z.cells.size = sz)
    (base : Nat) (A : Option Addr) (n c : Nat) (xs : List Value) (hs : a.eval s = .slice A n c) (hown : Own w base e sz A n c xs) (hbase : base ≤ w.heap.size)
    (B : Option Addr) (m d : Nat) (news : List Value) (hx : a.eval x = .slice B m d) (hl : news.length = m * sz) (hr : Rd w B news) (h1 : ∀ u ∈ news, u.oneCell' = true)
    (h63 : n + m ≤ maxLen) (hbytes : (n + m) * bytes ≤ 140737488355328)
    (h : ∀ A' c' w', Apped w base e sz A (n + m) c (xs ++ news) A' c' w' → wpList P ops Q rest (a.put o.dst (.slice A' (n + m) c')) w') : wpList P ops Q (o :: rest) a w :=
  wpList_plain hgd fun _ hK => wp_app w s x t e ho i z sz bytes ht hi hz hsize hby hzs base A n c xs hs hown hbase B m d news hx hl hr h1 h63 hbytes fun A' c' w' h2 => hK _ _ (h A' c' w' h2)
end

/-- A scope whose label is jumped back to: what holds at the label (J), and what each pass lowers (μ). -/
theorem wp_scope_label {P : Program} {c body : Code} {Q : Exit → Act → World → Prop} {a : Act} {w : World} (l : Nat) (J : Act → World → Prop) (μ : Act → World → Nat) (hf : findLabel c l = some (.seq .skip body))
    (pass : ∀ a w, J a w → body.wp P (Exit.jump l (fun a' w' => J a' w' ∧ μ a' w' < μ a w) Q) a w)
    (first : (∀ a w, J a w → body.wp P (Exit.jump l J Q) a w) → c.wp P (Exit.jump l J Q) a w) : (Code.scope c).wp P Q a w := by
  refine wp_scope_jumps l J μ hf (first fun a w h => Code.wp_mono (fun e a' w' hq => ?_) (pass a w h)) fun a w h => ?_
  · cases e <;> simp only [Exit.jump] at hq ⊢ <;> first | exact hq | exact ⟨hq.1, hq.2.1⟩
  · apply wp_seq_k
    intro K hK
    apply wp_skip
    exact hK _ _ (pass a w h)

/-- a byte in a cell -/
def byt (c : UInt8) : Value := .int .u8 (c.toNat : Int)
theorem byt_one (l : List UInt8) : ∀ u ∈ l.map byt, u.oneCell' = true := by
  intro u hu
  obtain ⟨c, _, rfl⟩ := List.mem_map.1 hu
  rfl
/-- a slice's cells are these bytes -/
def RB (w : World) (A : Option Addr) (n : Nat) (l : List UInt8) : Prop := l.length = n ∧ Rd w A (l.map byt)
theorem RB.at_ {w : World} {A : Option Addr} {n : Nat} {l : List UInt8} (h : RB w A n l) {k : Nat} (hk : k < n) :
    ∃ ad c, A = some ad ∧ l[k]? = some c ∧ w.cell? (ad.add k) = some (.int .u8 (c.toNat : Int)) := by
  have hl : k < l.length := by rw [h.1]; exact hk
  obtain ⟨ad, e, hc⟩ := h.2 k (byt l[k]) (by simp [hl])
  exact ⟨ad, l[k], e, List.getElem?_eq_getElem hl, hc⟩
theorem RB.chg {S : Nat → Prop} {w w' : World} {A : Option Addr} {n : Nat} {l : List UInt8} (h : RB w A n l) (hc : Chg S w w') (hn : ∀ ad, A = some ad → ¬ S ad.block) : RB w' A n l := ⟨h.1, h.2.chg hc hn⟩
theorem RB.far {S : Nat → Prop} {w w' : World} {A : Option Addr} {n : Nat} {l : List UInt8} (h : RB w A n l) (hc : Chg S w w') (hn : ∀ ad, A = some ad → 0 < n → ¬ S ad.block) : RB w' A n l := by
  rcases Nat.eq_zero_or_pos n with h0 | h0
  · have : l = [] := List.eq_nil_of_length_eq_zero (by rw [h.1, h0])
    subst this
    exact ⟨h.1, Rd.nil _ _⟩
  · exact ⟨h.1, h.2.chg hc (fun ad e => hn ad e h0)⟩
theorem RB.grew {w w' : World} {A : Option Addr} {n : Nat} {l : List UInt8} (h : RB w A n l) (hc : Grew w w') : RB w' A n l := ⟨h.1, h.2.grew hc⟩
theorem RB.drewN {w : World} {A : Option Addr} {n : Nat} {l : List UInt8} (h : RB w A n l) (k : Nat) : RB (w.drewN k) A n l := h
theorem RB.lt {w : World} {A : Option Addr} {n : Nat} {l : List UInt8} (h : RB w A n l) : ∀ ad, A = some ad → 0 < n → ad.block < w.heap.size := by
  rintro ad rfl hn
  refine h.2.lt ?_
  intro e
  have := h.1
  have : l = [] := by simpa using e
  subst this
  simp at *
  omega
theorem RB.setFar {w : World} {A : Option Addr} {n : Nat} {l : List UInt8} (h : RB w A n l) {p : Addr} (hp : ∀ ad, A = some ad → 0 < n → ad.block ≠ p.block) (u : Value) : RB (w.setCell p u) A n l := by
  rcases Nat.eq_zero_or_pos n with h0 | h0
  · have : l = [] := List.eq_nil_of_length_eq_zero (by rw [h.1, h0])
    subst this
    exact ⟨h.1, Rd.nil _ _⟩
  · exact ⟨h.1, h.2.setFar (fun ad e => hp ad e h0) u⟩
/-- a row of bytes of the call's own -/
def OB (w : World) (base : Nat) (e : TypeId) (A : Option Addr) (n c : Nat) (l : List UInt8) : Prop := Own w base e 1 A n c (l.map byt)
theorem OB.len {w : World} {base : Nat} {e : TypeId} {A : Option Addr} {n c : Nat} {l : List UInt8} (h : OB w base e A n c l) : l.length = n := by simpa using Own.len h
theorem OB.cap {w : World} {base : Nat} {e : TypeId} {A : Option Addr} {n c : Nat} {l : List UInt8} (h : OB w base e A n c l) : n ≤ c ∧ c ≤ 9223372036854775807 := by have := Own.cap h; unfold maxLen at this; omega
theorem OB.rb {w : World} {base : Nat} {e : TypeId} {A : Option Addr} {n c : Nat} {l : List UInt8} (h : OB w base e A n c l) : RB w A n l := ⟨h.len, Own.rd h⟩
theorem OB.chg {S : Nat → Prop} {w w' : World} {base : Nat} {e : TypeId} {A : Option Addr} {n c : Nat} {l : List UInt8} (h : OB w base e A n c l) (hc : Chg S w w') (hn : ∀ ad, A = some ad → ¬ S ad.block) : OB w' base e A n c l := Own.chg h hc hn
theorem OB.grew {w w' : World} {base : Nat} {e : TypeId} {A : Option Addr} {n c : Nat} {l : List UInt8} (h : OB w base e A n c l) (hc : Grew w w') : OB w' base e A n c l := Own.grew h hc
theorem OB.drewN {w : World} {base : Nat} {e : TypeId} {A : Option Addr} {n c : Nat} {l : List UInt8} (h : OB w base e A n c l) (k : Nat) : OB (w.drewN k) base e A n c l := h

end Go.Proofs.YtjoaonppaokhhaaGreat
