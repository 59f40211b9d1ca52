/-
  Several texts in one:
  A heap of cursors in memory: Swap, Push and Pop of a list of cursors. Conditions: lengths that memory bears.
  A heap of cursors: moving up and down over the library's heap. Conditions: lengths that memory bears.
  A heap of cursors: moving up over the library's heap. Conditions: lengths that memory bears.
  A heap of cursors: moving down over the library's heap. Conditions: lengths that memory bears.
  A heap of cursors: Push, Fix and Pop of the library's heap. Conditions: lengths that memory bears.
  A range over a function whose iterator keeps state of its own in cells: what iterator and body owe each other, and the law of the loop. Conditions: none; no program in sight.
  Lists of series on the way to one, in plain words. Conditions: none; no program in sight.
  The iterator over lists of series by their labels: what comes, and that a loop's body may do what it likes beside it. Conditions: lengths that memory bears.
  The form of a list of series. Conditions: none.
  The form of a list of series, and what a merge of lists keeps of it: plain. Conditions: none.
-/
import Derived.Test.YtailooldnelecaaGreatDoorPart15
import Derived.Test.YtailooldnelecaaGreatDoorPart1
import Derived.RangeFuncWrites
import Derived.Test.YtailooldnelecaaGreatDoorPart4
import Derived.RangeFuncCalls
import Derived.RangeFuncLeaves
import Derived.Shelf.Abstract
import Derived.OwnWalkIn
import Derived.TacticsInMore
import Derived.LoopNIn
import Derived.LoopIn
import Derived.Sort.LoopGhostIn
import Derived.Test.YtailooldnelecaaGreatDoorPart12
import Derived.Test.YtailooldnelecaaGreatDoorPart14
import Derived.Test.YtailooldnelecaaGreatDoorPart13

namespace Go.Proofs.YtailooldnelecaaGreatDoor
open Go.RowKit

theorem flatCu (l : List Cur) : elCu.flat l = l.map fun x => Value.pointer (some ⟨x.g, 0, none⟩) := by
  induction l with
  | nil => rfl
  | cons x l ih => rw [El.flat_cons, ih]; rfl
theorem OE.setCu {w : World} {base n c g i : Nat} {t : TypeId} {l : List Cur} (h : OE elCu w base t (some ⟨g, 0, none⟩) n c l) (x : Cur) : OE elCu (w.setCell ⟨g, i, none⟩ (.pointer (some ⟨x.g, 0, none⟩))) base t (some ⟨g, 0, none⟩) n c (l.set i x) := by
  have := Own.set h i (.pointer (some ⟨x.g, 0, none⟩))
  unfold OE
  rw [flatCu, List.map_set, ← flatCu]
  exact this
theorem swapL_other {α : Type} {l : List α} {i j : Nat} {x y : α} (hi : l[i]? = some x) (hj : l[j]? = some y) : swapL l i j = (l.set j x).set i y := by
  rw [swapL_some hi hj]
  by_cases h : i = j
  · subst h
    rw [hi] at hj
    injection hj with hj
    rw [hj]
  · exact List.set_comm _ _ h

theorem OE.cuAt {w : World} {base n c : Nat} {t : TypeId} {A : Option Addr} {l : List Cur} {x : Cur} (h : OE elCu w base t A (n + 1) c (l ++ [x])) : OE elCu w base t A n c l ∧ l.length = n ∧ n ≤ c := by
  have hl := h.len (by decide)
  simp only [List.length_append, List.length_cons, List.length_nil] at hl
  have h2 := Own.shrink h (m := n) (by omega)
  rw [elCu.flat_take, List.take_left' (by omega)] at h2
  exact ⟨h2, by omega, h2.cap.1⟩
end Go.Proofs.YtailooldnelecaaGreatDoor

namespace Go.Proofs.YtailooldnelecaaGreatDoor
open Go.RowKit

end Go.Proofs.YtailooldnelecaaGreatDoor

namespace Go.Proofs.YtailooldnelecaaGreatDoor
open Go.RowKit

/-- none of the first m is spent -/
def Live (m : Nat) (l : List Cur) : Prop := ∀ i x, i < m → l[i]? = some x → 0 < x.ln
theorem Live.swap {m i j : Nat} {l : List Cur} (h : Live m l) (hi : i < m) (hj : j < m) : Live m (swapL l i j) := by
  intro k x hk hx
  unfold swapL at hx
  split at hx
  · rename_i y z hy hz
    rw [List.getElem?_set] at hx
    split at hx
    · split at hx
      · injection hx with hx
        rw [← hx]
        exact h i y hi hy
      · cases hx
    · rw [List.getElem?_set] at hx
      split at hx
      · split at hx
        · injection hx with hx
          rw [← hx]
          exact h j z hj hz
        · cases hx
      · exact h k x hk hx
  · exact h k x hk hx
end Go.Proofs.YtailooldnelecaaGreatDoor

namespace Go.Proofs.YtailooldnelecaaGreatDoor
open Go.RowKit

/-- in order among the first m -/
def Ord (l : List Cur) (m : Nat) : Prop := ∀ k x y, 0 < k → k < m → l[k]? = some x → l[(k - 1) / 2]? = some y → ltC x y = false
theorem swapL_far {α : Type} {l : List α} {i j m : Nat} (hi : i < m) (hj : j < m) : ∀ q, m ≤ q → (swapL l i j)[q]? = l[q]? := by
  intro q hq
  unfold swapL
  split
  · rw [List.getElem?_set, if_neg (by omega), List.getElem?_set, if_neg (by omega)]
  · rfl

def FarS (m : Nat) (l l' : List Cur) : Prop := ∀ q, m ≤ q → l'[q]? = l[q]?
theorem ltmin {l1 : List Cur} {m k p : Nat} {x y : Cur} (hu : DnH ltC l1 m k) (hy : l1[k]? = some y) (hmin : ∀ q z, (q = 2 * k + 1 ∨ q = 2 * k + 2) → q < m → l1[q]? = some z → ltC z x = false) (hlt : ltC x y = false) (_ : l1[p]? = some x) : Ord l1 m :=
  hu.done (fun q z y' hq hqm hz hy' => by
    have h1 := hmin q z hq hqm hz
    rw [hy] at hy'
    injection hy' with hy'
    rw [← hy']
    exact wkC.tr _ _ _ hlt h1)

end Go.Proofs.YtailooldnelecaaGreatDoor

namespace Go.Proofs.YtailooldnelecaaGreatDoor
open Go.RowKit

theorem Blk.tyne {w : World} {g k : Nat} {t u : TypeId} {cs ds : Array Value} (h : Blk w g t cs) (h' : Blk w k u ds) (hne : t ≠ u) : g ≠ k := by
  rintro rfl
  unfold Blk at h h'
  rw [h] at h'
  injection h' with h'
  injection h' with _ h'
  exact hne h'
/-- blocks of the list of cursors: its box and its row -/
def InH (hb : Nat) (A : Option Addr) (k : Nat) : Prop := k = hb ∨ ∃ ad, A = some ad ∧ k = ad.block

theorem Own.heapTy {w : World} {base sz n c : Nat} {A : Option Addr} {t : TypeId} {cs : List Value} (h : Own w base t sz A n c cs) {k : Nat} (hk : ∃ ad, A = some ad ∧ k = ad.block) : base ≤ k ∧ ∃ cs fr, w.heap[k]? = some (.cells cs t fr) := by
  obtain ⟨ad, rfl, rfl⟩ := hk
  rcases h.2 with ⟨e, h3⟩ | ⟨g, cap, cur, e, hb, hg, _⟩
  · cases e
  · injection e with e1 e2 e3
    injection e1 with e1
    subst e1
    exact ⟨hb, _, _, hg⟩
theorem Ord.ish {l : List Cur} (h : Ord l l.length) : IsH ltC l := IsH.of h
theorem isH_up {l : List Cur} (h : IsH ltC l) : UpH ltC l 0 := ⟨fun i x y hi _ hx hy => h i x y hi hx hy, fun i x y h0 => by omega⟩
end Go.Proofs.YtailooldnelecaaGreatDoor

namespace Go.Proofs.YtailooldnelecaaGreatDoor
open Go.RowKit

section
variable {F : Fence} {n : Nat} {P : Program}

/-- An iterator's word: its own steps are 'Ab'; a round goes on, and does 'Kp'; S tells what has come at the end, Adm what may come. -/
def SeqM {α : Type} (F : Fence) (n : Nat) (P : Program) (g : Nat) (lb : Array Value) (encs : α → Array Value) (Ab : Nat → World → World → Prop) (Kp : World → World → Prop) (Adm S : List α → Prop) (w : World) : Prop :=
  ∀ (l : Nat) (J : List α → World → Prop) (W : World), Below w.heap.size w W → (∀ s A B, J s A → Ab W.heap.size A B → J s B) →
    (∀ pre x W1, J pre W1 → Adm (pre ++ [x]) → YieldAt F (n - 1) P l (encs x) W1 fun e W' => e = .returned (.bool true) ∧ J (pre ++ [x]) W' ∧ Kp W1 W') →
    J [] W →
    CallsIn F n P g (#[.func (.yield l) #[] #[]] ++ lb) W fun e W' => (∃ v, e = .returned v) ∧ ∃ xs, S xs ∧ J xs W'

/-- how a round's body is left: it goes on -/
def postM {α : Type} (B : Nat) (Kp : World → World → Prop) (I : List α → World → Prop) (xs : List α) (W : World) : Exit → Act → World → Prop
  | .normal, _, W' => KeepsFrom B W W' ∧ Kp W W' ∧ I xs W'
  | _, _, _ => False

theorem wpIn_rangeFuncM {α : Type} {g : Operand} {ps : Array Tmp} {assign body : Code} {Q : Exit → Act → World → Prop} {a : Act} {w : World}
    (hro : F.round = none) (h1 : 1 ≤ n) {gf : Nat} {lb : Array Value} (hg : a.eval g = .func (.func gf) #[] lb) (hFg : F.fn gf) (eg : ∀ args w, (callFunc gf args).run P w = .ok (.enter gf args) w)
    {encs : α → Array Value} {Ab : Nat → World → World → Prop} {Kp : World → World → Prop} {Adm S : List α → Prop} {w0 : World} (hseq : SeqM F (n - 1) P gf lb encs Ab Kp Adm S w0)
    (hAb : ∀ (B : Nat) (W W' : World) (k : Nat) (o : Obj), Ab B W W' → W.heap[k]? = some o → o.isCells = false → W'.heap[k]? = some o)
    (hKt : ∀ {A B C : World}, Kp A B → Kp B C → Kp A C) (hKb : ∀ (W : World) (l : Nat) (o o' : Obj), w.heap.size ≤ l → W.heap[l]? = some o → o.isCells = false → Kp W (W.putObj l o')) (hb0 : Below w0.heap.size w0 w) (hps : ∀ x, (encs x).size = ps.size)
    (I : List α → World → Prop) (hI : OwnFrom w.heap.size I) (hIa : ∀ s B A C, w.heap.size ≤ B → I s A → Ab B A C → I s C) (h0 : I [] w)
    (Ax : List α → α → Act → World → Prop) (hAx : ∀ pre x a', OwnFrom w.heap.size (fun (_ : Unit) W => Ax pre x a' W))
    (hassign : ∀ (l : Nat) (pre : List α) (x : α) (W : World) (K : Act → World → Prop), I pre W → Adm (pre ++ [x]) → (∀ a' W', KeepsFrom w.heap.size W W' → Kp W W' → Ax pre x a' W' → K a' W') →
      assign.wpIn (F.inRound l) (n - 1 - 1) P (Exit.then K (fun _ _ _ => False)) { tmps := (ps.zip (encs x)).foldl (fun t (p, v) => t.setIfInBounds p v) a.tmps, defers := [] } W)
    (hbody : ∀ (l : Nat) (pre : List α) (x : α) (a' : Act) (W : World), Ax pre x a' W → Adm (pre ++ [x]) → body.wpIn (F.inRound l) (n - 1 - 1) P (postM w.heap.size Kp I (pre ++ [x]) W) a' W)
    (hdone : ∀ (D : Nat) (xs : List α) (W : World), w.heap.size ≤ D → S xs → I xs W → W.heap[D]? = some (.deferred (some [])) → Q .normal { a with defers := { target := .collected D, args := #[] } :: a.defers } W) :
    (Code.rangeFunc g ps assign body).wpIn F n P Q a w := by
  refine wpIn_rangeFunc ?_
  intro fn hfn
  rw [hro]
  obtain ⟨rec, hrec⟩ : ∃ rec : LoopState → Option Code → Loop, rec = fun st pe => { state := st, pending := pe, fn, tmps := a.tmps, params := ps, assign, body, defers := w.heap.size } := ⟨_, rfl⟩
  obtain ⟨W1, hW1⟩ : ∃ W1, (w.alloc (.deferred (some []))).alloc (.loop (rec .ready none)) = W1 := ⟨_, rfl⟩
  have hL1 : W1.heap[w.heap.size + 1]? = some (.loop (rec .ready none)) := by
    rw [← hW1]; have := World.alloc_heap_new (w.alloc (.deferred (some []))) (.loop (rec .ready none)); rwa [World.size_alloc] at this
  have hK1 : W1.heap[w.heap.size]? = some (.deferred (some [])) := by
    rw [← hW1]; exact (Below.heap_alloc _ _ _ (by simp)).trans (World.alloc_heap_new w _)
  have hI1 : I [] W1 := by rw [← hW1]; exact hI.alloc _ (hI.alloc _ h0)
  have hb1 : Below w0.heap.size w0 W1 := by
    rw [← hW1]; exact hb0.trans ((((Below.refl _ w).alloc (Nat.le_refl _) _).alloc (by simp) _).mono hb0.size)
  have hs1 : w.heap.size ≤ W1.heap.size := by rw [← hW1, World.size_alloc, World.size_alloc]; omega
  refine ⟨w.heap.size + 1, [{ target := .collected w.heap.size, args := #[] }], W1, { target := .fn (.func gf) lb, args := #[.func (.yield (w.heap.size + 1)) #[] #[]] }, W1, gf,
    #[.func (.yield (w.heap.size + 1)) #[] #[]] ++ lb, W1, ?_, ?_, ?_, ?_, fun _ => h1, ?_⟩
  · rw [← hW1, hrec]; exact run_enterLoop_outer _ _ _ _ _
  · simp only [resolve, hg]
    simp [go_sem]
  · intro f' hf'; simp [Target.leads] at hf'; subst hf'; exact hFg
  · simp [invoke, go_sem, eg]
  · refine (hseq (w.heap.size + 1)
      (fun pre W => I pre W ∧ W.heap[w.heap.size + 1]? = some (.loop (rec .ready none)) ∧ W.heap[w.heap.size]? = some (.deferred (some [])))
      W1 hb1
      (fun s A B hs hab => ⟨hIa s _ A B hs1 hs.1 hab, hAb _ A B _ _ hab hs.2.1 rfl, hAb _ A B _ _ hab hs.2.2 rfl⟩)
      ?_ ⟨hI1, hL1, hK1⟩).mono ?_
    · rintro pre x W ⟨hi, hl, hk⟩ hadm
      have hy := run_yield (P := P) (args := encs x) hl (by rw [hrec]; exact hps x)
      rw [hrec] at hy
      refine ⟨fn, _, assign, body, hy, roundIn_of_wpIn hfn (hassign _ pre x W _ hi hadm fun a' Wa hka hkp hax => ?_)⟩
      have hla := hka.same _ _ (by omega) hl rfl
      have hka2 := hka.same _ _ (Nat.le_refl _) hk rfl
      have hlt : w.heap.size + 1 < Wa.heap.size := (Array.getElem?_eq_some_iff.1 hla).1
      refine ⟨_, run_beginRound hla (by rw [hrec]), ?_⟩
      have hl2 : (Wa.putObj (w.heap.size + 1) (.loop { rec .ready none with state := .busy })).heap[w.heap.size + 1]? = some (.loop { rec .ready none with state := .busy }) := World.putObj_heap_same hlt
      have hk2 : (Wa.putObj (w.heap.size + 1) (.loop { rec .ready none with state := .busy })).heap[w.heap.size]? = some (.deferred (some [])) := (World.putObj_heap_other (by omega)).trans hka2
      have hw2 : Kp Wa (Wa.putObj (w.heap.size + 1) (.loop { rec .ready none with state := .busy })) := hKb _ _ _ _ (by omega) hla rfl
      refine wpIn_mono (hbody _ pre x _ _ ((hAx pre x a').putObj (s := ()) _ hax (by omega) hla rfl) hadm) ?_
      rintro e a3 W3 hp
      cases e with
      | normal =>
        obtain ⟨hk3, hkp3, hi3⟩ := hp
        have hl3 := hk3.same _ _ (by omega) hl2 rfl
        have hr : (Instr.endRound (w.heap.size + 1) none).run P W3 = .ok (.bool true) (W3.putObj (w.heap.size + 1) (.loop (rec .ready none))) := by
          have := run_endRound (P := P) none hl3
          rw [hrec] at this ⊢
          exact this
        have hl4 : (W3.putObj (w.heap.size + 1) (.loop (rec .ready none))).heap[w.heap.size + 1]? = some (.loop (rec .ready none)) := World.putObj_heap_same (Array.getElem?_eq_some_iff.1 hl3).1
        have hk4 : (W3.putObj (w.heap.size + 1) (.loop (rec .ready none))).heap[w.heap.size]? = some (.deferred (some [])) := (World.putObj_heap_other (by omega)).trans (hk3.same _ _ (Nat.le_refl _) hk2 rfl)
        exact ⟨_, _, hr, rfl, ⟨hI.putObj _ hi3 (by omega) hl3 rfl, hl4, hk4⟩, hKt (hKt hkp (hKt hw2 hkp3)) (hKb _ _ _ _ (by omega) hl3 rfl)⟩
      | ret => exact hp.elim
      | exit id => exact hp.elim
      | goto t => exact hp.elim
      | panic ch => exact hp.elim
      | outgrown => exact hp.elim
    · rintro e W2 ⟨⟨v, rfl⟩, xs, hS, hi, hl, hk⟩
      exact ⟨none, _, by have := run_endLoop (P := P) hl (by rw [hrec]; simp); rw [hrec] at this; exact this, hdone _ xs _ (Nat.le_refl _) hS (hI.putObj _ hi (by omega) hl rfl) ((World.putObj_heap_other (by omega)).trans hk)⟩
end
end Go.Proofs.YtailooldnelecaaGreatDoor

namespace Go.Proofs.YtailooldnelecaaGreatDoor

def fullL (ls : List (List Ser)) : List (List Ser) := ls.filter fun a => !a.isEmpty
theorem fullL_cons (a : List Ser) (ls : List (List Ser)) : fullL (a :: ls) = if a = [] then fullL ls else a :: fullL ls := by
  unfold fullL
  cases a <;> simp
theorem maxL_full (ls : List (List Ser)) (L : List Lab) (t : Int) : maxL (fullL ls) L t = maxL ls L t := by
  induction ls with
  | nil => rfl
  | cons a ls ih =>
    rw [fullL_cons]
    split
    · rename_i h
      rw [maxL_cons, h, atV_nil, ih]
      rfl
    · rw [maxL_cons, maxL_cons, ih]
theorem mem_full {ls : List (List Ser)} {a : List Ser} (h : a ∈ fullL ls) : a ∈ ls ∧ a ≠ [] := by
  unfold fullL at h
  rw [List.mem_filter] at h
  refine ⟨h.1, ?_⟩
  rintro rfl
  simp at h
theorem flat_full (ls : List (List Ser)) : (fullL ls).flatten = ls.flatten := by
  induction ls with
  | nil => rfl
  | cons a ls ih =>
    rw [fullL_cons]
    split
    · rename_i h
      rw [ih, h]
      rfl
    · rw [List.flatten_cons, List.flatten_cons, ih]
theorem MOn.start {ls : List (List Ser)} (hv : ∀ a ∈ ls, Vs a) : MOn ls [] (fullL ls) :=
  ⟨Vs.nil, fun h hh => hv h (mem_full hh).1, fun h hh => (mem_full hh).2, fun s r _ o ho => (by cases ho), fun L t => by rw [atV_nil, maxL_full]; rfl⟩
theorem MOn.perm {ls : List (List Ser)} {out : List Ser} {hs hs' : List (List Ser)} (h : MOn ls out hs) (hp : hs'.Perm hs) : MOn ls out hs' :=
  ⟨h.vs, fun x hx => h.hv x (hp.subset hx), fun x hx => h.hn x (hp.subset hx), fun s r hx => h.upto s r (hp.subset hx), fun L t => by rw [maxL_perm hp, h.at_]⟩
/-- what has been told so far, as one list -/
def addAll (xs : List Ser) : List Ser := xs.foldl addS []
theorem addAll_snoc (xs : List Ser) (s : Ser) : addAll (xs ++ [s]) = addS (addAll xs) s := by
  unfold addAll
  rw [List.foldl_append]
  rfl
theorem cmpLs_nil (L : List Lab) : ¬ cmpLs L [] < 0 := by
  cases L <;> simp [cmpLs, cmpL]
end Go.Proofs.YtailooldnelecaaGreatDoor

namespace Go.Proofs.YtailooldnelecaaGreatDoor
open Go.RowKit
attribute [local go_sem] Oper.semAt_some

/-- a list of series as it lies in a cell -/
structure Lst where
  a : Option Addr
  n : Nat
  c : Nat
  ss : List Ser
def elLs : El Lst := ⟨fun x => [.slice x.a x.n x.c], 1, fun _ => rfl, by
  intro x u hu
  simp only [List.mem_cons, List.not_mem_nil, or_false] at hu
  rcases hu with rfl
  rfl⟩
structure LsOk (w0 : World) (x : Lst) : Prop where
  rs : RS w0 x.a x.n x.ss
  cap : x.n ≤ x.c ∧ x.c ≤ 9223372036854775807
  vs : Vs x.ss
/-- a series that is told -/
abbrev SX (w0 : World) := { x : SerM × Ser // SrIs w0 x.1 x.2 }
def sersOf {w0 : World} (xs : List (SX w0)) : List Ser := xs.map (·.1.2)
theorem sersOf_snoc {w0 : World} (xs : List (SX w0)) (x : SX w0) : sersOf (xs ++ [x]) = sersOf xs ++ [x.1.2] := by simp [sersOf]
def encS {w0 : World} (x : SX w0) : Array Value := #[.agg #[.slice x.1.1.la x.1.1.ln x.1.1.lc, .slice x.1.1.pa x.1.1.pn x.1.1.pc]]
def sss (ls : List Lst) : List (List Ser) := ls.map Lst.ss
/-- what may come: no series twice -/
def AdmS (ls : List Lst) {w0 : World} (xs : List (SX w0)) : Prop := ∃ rest, (sersOf xs ++ rest).Perm (sss ls).flatten
def EndS (ls : List Lst) {w0 : World} (xs : List (SX w0)) : Prop := Mrg (sss ls) (addAll (sersOf xs)) ∧ (sersOf xs).Perm (sss ls).flatten
theorem RE.ls {w : World} {A : Option Addr} {n : Nat} {l : List Lst} (h : RE elLs w A n l) {k : Nat} (hk : k < n) : ∃ ad x, A = some ad ∧ l[k]? = some x ∧ w.cell? (ad.add k) = some (.slice x.a x.n x.c) := by
  obtain ⟨ad, x, e, hx, hc⟩ := h.at_ hk (by decide)
  have := hc 0 _ rfl
  rw [show k * elLs.sz + 0 = k by show k * 1 + 0 = k; omega] at this
  exact ⟨ad, x, e, hx, this⟩
theorem live_all {n : Nat} {l : List Cur} (h : Live n l) (hl : l.length = n) : ∀ x ∈ l, 0 < x.ln := fun x hx => by
  obtain ⟨i, hi, hx⟩ := List.getElem_of_mem hx
  exact h i x (by omega) (List.getElem?_eq_some_iff.2 ⟨hi, hx⟩)
theorem live_of {n : Nat} {l : List Cur} (h : ∀ x ∈ l, 0 < x.ln) : Live n l := fun _ x _ hx => h x (List.mem_of_getElem? hx)
theorem full_snoc {ls : List Lst} {k : Nat} {x : Lst} (hx : ls[k]? = some x) : fullL (sss (ls.take (k + 1))) = if x.ss = [] then fullL (sss (ls.take k)) else fullL (sss (ls.take k)) ++ [x.ss] := by
  rw [take_snoc hx, sss, List.map_append]
  unfold fullL
  rw [List.filter_append]
  split
  · rename_i h
    simp [h, sss]
  · rename_i h
    have : (!x.ss.isEmpty) = true := by cases hh : x.ss <;> simp_all
    simp [this, sss]
theorem far_cell {w0 w : World} {ad : Addr} {u : Value} (hfar : Chg (fun k => w0.heap.size ≤ k) w0 w) (h : w0.cell? ad = some u) : w.cell? ad = some u := hfar.cell h (by have := World.block_lt_of_cell? w0 _ h; omega)
theorem isH_spent {x : Cur} {l : List Cur} {y : Cur} (h : IsH ltC (y :: l)) (hx : x.ss = []) : IsH ltC (x :: l) := by
  intro k a b hk ha hb
  by_cases h0 : (k - 1) / 2 = 0
  · rw [h0] at hb
    obtain rfl : x = b := by simpa using hb
    unfold ltC
    rw [hx]
    exact decide_eq_false (cmpLs_nil _)
  · obtain ⟨k', rfl⟩ : ∃ k', k = k' + 1 := ⟨k - 1, by omega⟩
    obtain ⟨p', hp'⟩ : ∃ p', (k' + 1 - 1) / 2 = p' + 1 := ⟨(k' + 1 - 1) / 2 - 1, by omega⟩
    rw [hp', List.getElem?_cons_succ] at hb
    rw [List.getElem?_cons_succ] at ha
    exact h (k' + 1) a b (by omega) (by rw [List.getElem?_cons_succ]; exact ha) (by rw [hp', List.getElem?_cons_succ]; exact hb)
theorem min_of {l : List Cur} {x : Cur} {s : Ser} {r : List Ser} (h : IsH ltC (x :: l)) (hx : x.ss = s :: r) : ∀ s' r', s' :: r' ∈ l.map Cur.ss → cmpLs s.lbs s'.lbs ≤ 0 := by
  intro s' r' hm
  obtain ⟨y, hy, e⟩ := List.mem_map.1 hm
  obtain ⟨i, hi, hy⟩ := List.getElem_of_mem hy
  have h1 := h.head wkC (x := x) rfl (i + 1) y (by simp [List.getElem?_eq_some_iff.2 ⟨hi, hy⟩])
  unfold ltC at h1
  rw [decide_eq_false_iff_not, hx, e] at h1
  have h2 := (cmpLs_ok.anti s'.lbs s.lbs)
  have h3 : hdL (s' :: r') = s'.lbs := rfl
  have h4 : hdL (s :: r) = s.lbs := rfl
  rw [h3, h4, h2] at h1
  omega
theorem step_all {w0 : World} {ls : List Lst} {pre : List (SX w0)} {rest l' : List Cur} {s : Ser} {r : List Ser} (sx : SX w0) (hsx : sx.1.2 = s) (hM : MOn (sss ls) (addAll (sersOf pre)) ((s :: r) :: rest.map Cur.ss)) (hF : (sersOf pre ++ ((s :: r) :: rest.map Cur.ss).flatten).Perm (sss ls).flatten)
    (hmin : ∀ s' r', s' :: r' ∈ rest.map Cur.ss → cmpLs s.lbs s'.lbs ≤ 0) (hp : (l'.map Cur.ss).Perm (if r = [] then rest.map Cur.ss else r :: rest.map Cur.ss)) :
    MOn (sss ls) (addAll (sersOf (pre ++ [sx]))) (l'.map Cur.ss) ∧ (sersOf (pre ++ [sx]) ++ (l'.map Cur.ss).flatten).Perm (sss ls).flatten ∧ ((l'.map Cur.ss).flatten).length < (((s :: r) :: rest.map Cur.ss).flatten).length := by
  have hfl : ((l'.map Cur.ss).flatten).Perm (r ++ (rest.map Cur.ss).flatten) := by
    refine hp.flatten.trans ?_
    split
    · rename_i h
      rw [h]
      exact List.Perm.refl _
    · exact List.Perm.refl _
  rw [sersOf_snoc, hsx, addAll_snoc]
  refine ⟨hM.step hmin hp, ?_, ?_⟩
  · refine List.Perm.trans ?_ hF
    rw [List.append_assoc]
    refine List.Perm.append_left _ ?_
    exact (List.Perm.cons s hfl)
  · rw [hfl.length_eq]
    simp
end Go.Proofs.YtailooldnelecaaGreatDoor

namespace Go.Proofs.YtailooldnelecaaGreatDoor
open Go.RowKit

def onB (L : List Lab) : Option (List Lab) → Bool
  | some p => decide (cmpLs p L < 0)
  | none => true
def okS : Option (List Lab) → List Ser → Bool
  | _, [] => true
  | prev, s :: r => decide (chkL s.lbs = 0) && (risB s.pts && (onB s.lbs prev && okS (some s.lbs) r))
theorem okS_cons (prev : Option (List Lab)) (s : Ser) (r : List Ser) : okS prev (s :: r) = (decide (chkL s.lbs = 0) && (risB s.pts && (onB s.lbs prev && okS (some s.lbs) r))) := rfl
def prevS (ss : List Ser) (k : Nat) : Option (List Lab) := if k = 0 then none else (ss[k - 1]?).map Ser.lbs
def errS (ss : List Ser) : Nat := if okS none ss then 0 else 100
theorem absP {b : Bool} (h : some undef = some (Value.bool b)) : False := by simp [undef] at h
theorem sameIn_refl {bs : List Nat} {W w : World} (h : w.heap = W.heap) : SameIn bs W w := fun k _ => by rw [h]

end Go.Proofs.YtailooldnelecaaGreatDoor

namespace Go.Proofs.YtailooldnelecaaGreatDoor

/-- a list as the document wants it -/
def OkL (ss : List Ser) : Prop := Vs ss ∧ ∀ s ∈ ss, chkL s.lbs = 0
theorem okS_tail {prev : Option (List Lab)} : ∀ {ss : List Ser}, okS prev ss = true → (∀ s ∈ ss, chkL s.lbs = 0 ∧ Rise s.pts ∧ s.pts ≠ []) ∧ SortS ss ∧ ∀ p, prev = some p → ∀ s ∈ ss, cmpLs p s.lbs < 0
  | [], _ => ⟨fun s h => (by cases h), List.Pairwise.nil, fun p _ s h => (by cases h)⟩
  | s :: r, h => by
    rw [okS_cons, Bool.and_eq_true, Bool.and_eq_true, Bool.and_eq_true, decide_eq_true_iff, risB_iff] at h
    obtain ⟨h1, h2, h3, h4⟩ := h
    obtain ⟨k1, k2, k3⟩ := okS_tail h4
    refine ⟨fun x hx => ?_, List.pairwise_cons.2 ⟨fun x hx => k3 _ rfl x hx, k2⟩, fun p hp x hx => ?_⟩
    · rcases List.mem_cons.1 hx with rfl | hx
      · exact ⟨h1, h2⟩
      · exact k1 x hx
    · subst hp
      have h5 : cmpLs p s.lbs < 0 := of_decide_eq_true h3
      rcases List.mem_cons.1 hx with rfl | hx
      · exact h5
      · exact cmpLs_ok.trans _ _ _ h5 (k3 _ rfl x hx)
theorem okS_of {prev : Option (List Lab)} : ∀ {ss : List Ser}, (∀ s ∈ ss, chkL s.lbs = 0 ∧ Rise s.pts ∧ s.pts ≠ []) → SortS ss → (∀ p, prev = some p → ∀ s ∈ ss, cmpLs p s.lbs < 0) → okS prev ss = true
  | [], _, _, _ => rfl
  | s :: r, h1, h2, h3 => by
    have h2 := List.pairwise_cons.1 h2
    obtain ⟨a, b, c⟩ := h1 s (by simp)
    rw [okS_cons, Bool.and_eq_true, Bool.and_eq_true, Bool.and_eq_true, decide_eq_true_iff, risB_iff]
    refine ⟨a, ⟨b, c⟩, ?_, okS_of (fun x hx => h1 x (by simp [hx])) h2.2 fun p hp x hx => ?_⟩
    · cases prev with
      | none => rfl
      | some p => exact decide_eq_true (h3 p rfl s (by simp))
    · injection hp with hp
      rw [← hp]
      exact h2.1 x hx
theorem okS_iff {ss : List Ser} : okS none ss = true ↔ OkL ss := by
  constructor
  · intro h
    obtain ⟨h1, h2, _⟩ := okS_tail h
    exact ⟨⟨h2, fun s hs => (h1 s hs).2.1, fun s hs => (h1 s hs).2.2⟩, fun s hs => (h1 s hs).1⟩
  · rintro ⟨⟨h1, h2, h3⟩, h4⟩
    exact okS_of (fun s hs => ⟨h4 s hs, h2 s hs, h3 s hs⟩) h1 fun p hp => by cases hp
theorem errS_ok {ss : List Ser} (h : OkL ss) : errS ss = 0 := by
  unfold errS
  rw [if_pos (okS_iff.2 h)]
theorem errS_no {ss : List Ser} (h : ¬ OkL ss) : errS ss = 100 := by
  unfold errS
  rw [if_neg fun e => h (okS_iff.1 e)]

theorem tot_append (a b : List Ser) : tot (a ++ b) = tot a + tot b := by simp [tot]
theorem tot_cons (s : Ser) (a : List Ser) : tot (s :: a) = s.pts.length + tot a := by simp [tot]
theorem tot_perm {a b : List Ser} (h : a.Perm b) : tot a = tot b := by
  unfold tot
  exact (h.map _).sum_nat
theorem mergeP_len : ∀ (a b : List Ptn), (mergeP a b).length ≤ a.length + b.length
  | [], b => by rw [mergeP]; simp
  | p :: a, [] => by rw [mergeP]; simp
  | p :: a, q :: b => by
    rw [mergeP]
    split
    · have := mergeP_len a (q :: b)
      simp only [List.length_cons] at *
      omega
    · split
      · have := mergeP_len (p :: a) b
        simp only [List.length_cons] at *
        omega
      · have := mergeP_len a b
        simp only [List.length_cons] at *
        omega
termination_by a b => a.length + b.length
theorem addS_tot (out : List Ser) (s : Ser) : tot (addS out s) ≤ tot out + s.pts.length := by
  rcases List.eq_nil_or_concat out with rfl | ⟨r, o, rfl⟩
  · simp [addS, tot]
  · rw [List.concat_eq_append]
    unfold addS
    rw [show (r ++ [o]).getLast? = some o by simp]
    dsimp only
    split
    · rw [List.dropLast_concat, tot_append, tot_append, tot_cons, tot_cons]
      have := mergeP_len o.pts s.pts
      show _ + ((mergeP o.pts s.pts).length + tot []) ≤ _
      omega
    · rw [tot_append, tot_cons]
      show _ + (_ + 0) ≤ _
      omega
theorem addS_len (out : List Ser) (s : Ser) : (addS out s).length ≤ out.length + 1 := by
  rcases List.eq_nil_or_concat out with rfl | ⟨r, o, rfl⟩
  · simp [addS]
  · rw [List.concat_eq_append]
    unfold addS
    rw [show (r ++ [o]).getLast? = some o by simp]
    dsimp only
    split
    · rw [List.dropLast_concat]
      simp
    · simp
theorem addAll_tot (xs : List Ser) : tot (addAll xs) ≤ tot xs ∧ (addAll xs).length ≤ xs.length := by
  suffices h : ∀ out, tot (xs.foldl addS out) ≤ tot out + tot xs ∧ (xs.foldl addS out).length ≤ out.length + xs.length by
    have := h []
    simpa [addAll, tot] using this
  induction xs with
  | nil => intro out; simp [tot]
  | cons s xs ih =>
    intro out
    have h1 := ih (addS out s)
    have h2 := addS_tot out s
    have h3 := addS_len out s
    rw [tot_cons]
    simp only [List.foldl_cons, List.length_cons]
    omega
theorem addS_eq {ss : List Ser} {o s : Ser} (h : cmpLs o.lbs s.lbs = 0) : addS (ss ++ [o]) s = ss ++ [⟨o.lbs, mergeP o.pts s.pts⟩] := by
  unfold addS
  rw [show (ss ++ [o]).getLast? = some o by simp]
  dsimp only
  rw [if_pos h, List.dropLast_concat]
theorem addS_ne {ss : List Ser} {o s : Ser} (h : cmpLs o.lbs s.lbs ≠ 0) : addS (ss ++ [o]) s = ss ++ [o] ++ [s] := by
  unfold addS
  rw [show (ss ++ [o]).getLast? = some o by simp]
  dsimp only
  rw [if_neg h]
theorem tot_mem {ss : List Ser} {s : Ser} (h : s ∈ ss) : s.pts.length ≤ tot ss := by
  obtain ⟨l1, l2, rfl⟩ := List.append_of_mem h
  rw [tot_append, tot_cons]
  omega
/-- of the merge's labels each is of one of the lists -/
theorem Mrg.from {ls : List (List Ser)} {m : List Ser} (h : Mrg ls m) {s : Ser} (hs : s ∈ m) : ∃ a ∈ ls, ∃ s' ∈ a, s'.lbs = s.lbs := by
  obtain ⟨p, r, hp⟩ := List.exists_cons_of_ne_nil (h.vs.some s hs)
  have hl := (lookS_mem h.vs.sort).2 ⟨hs, rfl⟩
  have h1 : atV m s.lbs p.1 = some p.2 := by
    unfold atV
    rw [hl]
    exact (lookP_mem (h.vs.rise s hs)).2 (by rw [hp]; simp)
  rw [h.at_] at h1
  clear h hl
  induction ls with
  | nil => cases h1
  | cons a ls ih =>
    rw [maxL_cons] at h1
    cases h2 : atV a s.lbs p.1 with
    | none =>
      rw [h2] at h1
      obtain ⟨a', ha, x, hx, e⟩ := ih h1
      exact ⟨a', by simp [ha], x, hx, e⟩
    | some v =>
      unfold atV at h2
      cases h3 : lookS a s.lbs with
      | none => rw [h3] at h2; cases h2
      | some x =>
        unfold lookS at h3
        have h4 := List.find?_some h3
        exact ⟨a, by simp, x, List.mem_of_find?_eq_some h3, by simpa using h4⟩
theorem Mrg.ok {ls : List (List Ser)} {m : List Ser} (h : Mrg ls m) (hl : ∀ a ∈ ls, OkL a) : OkL m := ⟨h.vs, fun s hs => by
  obtain ⟨a, ha, x, hx, e⟩ := h.from hs
  rw [← e]
  exact (hl a ha).2 x hx⟩
end Go.Proofs.YtailooldnelecaaGreatDoor
