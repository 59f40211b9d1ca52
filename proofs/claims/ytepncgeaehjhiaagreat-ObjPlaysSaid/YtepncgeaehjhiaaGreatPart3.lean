/-
  Several texts in one:
  Files by rising names: plain. Conditions: none; no program in sight.
  Maps keyed by texts, as their blocks hold them: look-ups, stores, strikes, a range over one entry. Conditions: those that each law names; no program in sight.
-/
import Derived.Test.YtepncgeaehjhiaaGreatPart2
import Derived.Maps.OwnOps
import Derived.Laws.IdiomRangeMap
import Derived.Test.YtepncgeaehjhiaaGreatPart1

namespace Go.Proofs.YtepncgeaehjhiaaGreat
open Go.RowKit

/-- a file: its name, its bytes, how many of them are synced -/
abbrev Vw := ByteArray × List UInt8 × Nat
theorem lst_tri {a b : ByteArray} (h : ¬ lst a < lst b) (h2 : a ≠ b) : lst b < lst a := by
  rcases List.le_iff_lt_or_eq.1 (List.not_lt.1 h) with h3 | h3
  · exact h3
  · exact absurd (lst_inj.1 h3).symm h2
theorem twv_at {α : Type} {p : α → Bool} : ∀ {l : List α} {n : Nat}, n ≤ (l.takeWhile p).length → (∀ x, l[n]? = some x → p x = false) → (l.takeWhile p).length = n
  | [], n, h, _ => by
    have h : n ≤ 0 := h
    show 0 = n
    omega
  | a :: r, 0, _, hp => by
    rw [List.takeWhile_cons, hp a rfl]
    rfl
  | a :: r, n + 1, h, hp => by
    rw [List.takeWhile_cons] at h ⊢
    by_cases ha : p a = true
    · rw [if_pos ha, List.length_cons] at h
      rw [if_pos ha, List.length_cons, twv_at (l := r) (n := n) (by omega) fun x hx => hp x (by simpa using hx)]
    · rw [if_neg ha] at h
      simp at h
theorem twv_go {α : Type} {p : α → Bool} : ∀ {l : List α} {n : Nat} {x : α}, n ≤ (l.takeWhile p).length → l[n]? = some x → p x = true → n + 1 ≤ (l.takeWhile p).length
  | [], n, x, _, h, _ => by cases h
  | a :: r, 0, x, _, h, hp => by
    obtain rfl : a = x := by simpa using h
    rw [List.takeWhile_cons, if_pos hp, List.length_cons]
    omega
  | a :: r, n + 1, x, h, hx, hp => by
    rw [List.takeWhile_cons] at h ⊢
    by_cases ha : p a = true
    · rw [if_pos ha, List.length_cons] at h ⊢
      have := twv_go (l := r) (n := n) (x := x) (by omega) (by simpa using hx) hp
      omega
    · rw [if_neg ha] at h
      simp at h
def posV (V : List Vw) (x : ByteArray) : Nat := (V.takeWhile fun v => decide (lst v.1 < lst x)).length
theorem posV_le (V : List Vw) (x : ByteArray) : posV V x ≤ V.length := List.IsPrefix.length_le (List.takeWhile_prefix _)
def hasV (V : List Vw) (x : ByteArray) : Bool := match V[posV V x]? with
  | some v => decide (v.1 = x)
  | none => false
def SortV (V : List Vw) : Prop := V.Pairwise fun a b => lst a.1 < lst b.1
def insV (V : List Vw) (v : Vw) : List Vw := V.take (posV V v.1) ++ v :: V.drop (posV V v.1)
theorem posV_cons (v : Vw) (r : List Vw) (x : ByteArray) : posV (v :: r) x = if lst v.1 < lst x then posV r x + 1 else 0 := by
  unfold posV
  rw [List.takeWhile_cons]
  by_cases h : lst v.1 < lst x
  · rw [if_pos h, if_pos (by simpa using h)]
    rfl
  · rw [if_neg h, if_neg (by simpa using h)]
    rfl
theorem hasV_at {V : List Vw} {x : ByteArray} (h : hasV V x = true) : ∃ v, V[posV V x]? = some v ∧ v.1 = x := by
  unfold hasV at h
  cases h1 : V[posV V x]? with
  | none => rw [h1] at h; cases h
  | some v =>
    rw [h1] at h
    exact ⟨v, rfl, by simpa using h⟩
theorem hasV_mem {x : ByteArray} : ∀ {V : List Vw}, SortV V → ∀ {v : Vw}, v ∈ V → v.1 = x → hasV V x = true ∧ V[posV V x]? = some v
  | [], _, v, h, _ => by cases h
  | a :: r, hs, v, h, he => by
    unfold SortV at hs
    rw [List.pairwise_cons] at hs
    unfold hasV
    rw [posV_cons]
    rcases List.mem_cons.1 h with rfl | h
    · rw [if_neg (by rw [he]; exact List.lt_irrefl _), List.getElem?_cons_zero]
      exact ⟨by simpa using he, rfl⟩
    · have h1 := hs.1 v h
      rw [he] at h1
      rw [if_pos h1, List.getElem?_cons_succ]
      have := hasV_mem (V := r) hs.2 h he
      unfold hasV at this
      exact this
theorem notV {V : List Vw} (hs : SortV V) {x : ByteArray} (h : hasV V x = false) : ∀ v ∈ V, v.1 ≠ x := fun v hv e => by
  rw [(hasV_mem hs hv e).1] at h
  cases h
theorem hasV_not {V : List Vw} {x : ByteArray} (h : ∀ v ∈ V, v.1 ≠ x) : hasV V x = false := by
  cases hc : hasV V x with
  | false => rfl
  | true =>
    obtain ⟨v, h1, h2⟩ := hasV_at hc
    exact absurd h2 (h v (List.mem_of_getElem? h1))
theorem insV_perm (V : List Vw) (v : Vw) : (insV V v).Perm (v :: V) := by
  unfold insV
  have h1 : (V.take (posV V v.1) ++ v :: V.drop (posV V v.1)).Perm (v :: (V.take (posV V v.1) ++ V.drop (posV V v.1))) := List.perm_middle
  rwa [List.take_append_drop] at h1
theorem insV_len (V : List Vw) (v : Vw) : (insV V v).length = V.length + 1 := by
  rw [(insV_perm V v).length_eq]
  rfl
theorem insV_sort {V : List Vw} (h : SortV V) {v : Vw} (hn : hasV V v.1 = false) : SortV (insV V v) := by
  unfold insV
  have hno := notV h hn
  have hlo : ∀ x ∈ V.take (posV V v.1), lst x.1 < lst v.1 := fun x hx => by
    have h1 : V.take (posV V v.1) = V.takeWhile fun s => decide (lst s.1 < lst v.1) := by
      unfold posV
      exact (List.prefix_iff_eq_take.1 (List.takeWhile_prefix _)).symm
    rw [h1] at hx
    simpa using List.all_eq_true.1 List.all_takeWhile x hx
  have hhi : ∀ x ∈ V.drop (posV V v.1), lst v.1 < lst x.1 := by
    have hd : (V.drop (posV V v.1)).Pairwise fun a b => lst a.1 < lst b.1 := List.Pairwise.sublist (List.drop_sublist _ _) h
    cases hc : V.drop (posV V v.1) with
    | nil => intro x hx; cases hx
    | cons s r =>
      have h1 : V[posV V v.1]? = some s := by
        have := congrArg (fun l => l[0]?) hc
        simpa using this
      have h2 : ¬ lst s.1 < lst v.1 := fun h3 => by
        have := twv_go (p := fun s : Vw => decide (lst s.1 < lst v.1)) (Nat.le_refl _) h1 (by simpa using h3)
        unfold posV at this
        omega
      have h4 : lst v.1 < lst s.1 := lst_tri h2 (hno s (List.mem_of_getElem? h1))
      rw [hc, List.pairwise_cons] at hd
      intro x hx
      rcases List.mem_cons.1 hx with rfl | hx
      · exact h4
      · exact List.lt_trans h4 (hd.1 x hx)
  refine List.pairwise_append.2 ⟨List.Pairwise.sublist (List.take_sublist _ _) h, List.Pairwise.cons hhi (List.Pairwise.sublist (List.drop_sublist _ _) h), fun a ha b hb => ?_⟩
  rcases List.mem_cons.1 hb with rfl | hb
  · exact hlo a ha
  · exact List.lt_trans (hlo a ha) (hhi b hb)
theorem delV_sort {V : List Vw} (h : SortV V) (k : Nat) : SortV (V.eraseIdx k) := List.Pairwise.sublist (List.eraseIdx_sublist _ _) h
theorem delV_perm {V : List Vw} {k : Nat} {v : Vw} (h : V[k]? = some v) : V.Perm (v :: V.eraseIdx k) := by
  induction V generalizing k with
  | nil => cases h
  | cons a r ih =>
    cases k with
    | zero =>
      obtain rfl : a = v := by simpa using h
      exact List.Perm.refl _
    | succ k =>
      have h1 : r[k]? = some v := by simpa using h
      rw [List.eraseIdx_cons_succ]
      exact ((ih h1).cons a).trans (List.Perm.swap v a _)
theorem setV_sort {V : List Vw} (h : SortV V) {k : Nat} {v v' : Vw} (hk : V[k]? = some v) (hn : v'.1 = v.1) : SortV (V.set k v') := by
  have key : ∀ {V : List Vw}, SortV V ↔ (V.map Prod.fst).Pairwise fun a b => lst a < lst b := by
    intro V
    unfold SortV
    rw [List.pairwise_map]
  rw [key, List.map_set]
  have : (V.map Prod.fst).set k v'.1 = V.map Prod.fst := by
    refine List.ext_getElem? fun j => ?_
    rw [List.getElem?_set]
    split
    · rename_i e
      subst e
      split
      · rw [List.getElem?_map, hk]
        simp [hn]
      · rename_i h3
        rw [List.length_map] at h3
        rw [List.getElem?_eq_none (by rw [List.length_map]; omega)]
    · rfl
  rw [this]
  exact key.1 h
theorem setV_perm {V : List Vw} {k : Nat} {v v' : Vw} (hk : V[k]? = some v) : (V.set k v').Perm (v' :: V.eraseIdx k) := by
  have hl := (List.getElem?_eq_some_iff.1 hk).1
  have := delV_perm (V := V.set k v') (k := k) (v := v') (by rw [List.getElem?_set, if_pos rfl, if_pos hl])
  rwa [List.eraseIdx_set_eq] at this
theorem sortV_nd {V : List Vw} (h : SortV V) : (V.map Prod.fst).Nodup := by
  refine List.Pairwise.map _ (fun a b (h1 : lst a.1 < lst b.1) e => ?_) h
  rw [e] at h1
  exact List.lt_irrefl _ h1
/-- a name is there, or not, whatever the order -/
theorem hasV_iff {V : List Vw} (hs : SortV V) {x : ByteArray} : hasV V x = true ↔ ∃ v ∈ V, v.1 = x := by
  constructor
  · intro h
    obtain ⟨v, h1, h2⟩ := hasV_at h
    exact ⟨v, List.mem_of_getElem? h1, h2⟩
  · rintro ⟨v, h1, h2⟩
    exact (hasV_mem hs h1 h2).1
theorem lessN (a b : ByteArray) : Op.bytesLess a.toList b.toList = decide (lst a < lst b) := by
  rw [ByteArray.toList_eq, ByteArray.toList_eq]
  have key : ∀ (x y : List UInt8), Op.bytesLess x y = decide (x < y) := fun x => by
    induction x with
    | nil =>
      intro y
      cases y <;> simp [Op.bytesLess]
    | cons a x ih =>
      intro y
      cases y with
      | nil => simp [Op.bytesLess]
      | cons b y =>
        rw [Op.bytesLess, ih y]
        by_cases h1 : a < b
        · simp [h1, List.cons_lt_cons_iff]
        · by_cases h2 : a = b
          · subst h2
            simp []
          · simp [h1, h2, List.cons_lt_cons_iff]
  exact key _ _
end Go.Proofs.YtepncgeaehjhiaaGreat

namespace Go.Proofs.YtepncgeaehjhiaaGreat
open Go.RowKit

def MapB (w : World) (b : Nat) (es : Array MapEntry) (clock : Nat) : Prop := w.heap[b]? = some (.map es clock)
def IterB (w : World) (r m since : Nat) (seen : Array Nat) (c0 : Nat) : Prop := w.heap[r]? = some (.mapIter (some m) since seen c0)
def setB (w : World) (b : Nat) (o : Obj) : World := { w with heap := w.heap.setIfInBounds b o }

theorem MapB.lt {w : World} {b : Nat} {es : Array MapEntry} {clock : Nat} (h : MapB w b es clock) : b < w.heap.size := (Array.getElem?_eq_some_iff.1 h).1
theorem IterB.lt {w : World} {r m since c0 : Nat} {seen : Array Nat} (h : IterB w r m since seen c0) : r < w.heap.size := (Array.getElem?_eq_some_iff.1 h).1
theorem MapB.chg {S : Nat → Prop} {w w' : World} {b : Nat} {es : Array MapEntry} {clock : Nat} (h : MapB w b es clock) (hc : Chg S w w') (hn : ¬ S b) : MapB w' b es clock := (hc.block b h.lt hn).trans h
theorem MapB.grew {w w' : World} {b : Nat} {es : Array MapEntry} {clock : Nat} (h : MapB w b es clock) (hc : Grew w w') : MapB w' b es clock := h.chg hc fun e => e
theorem MapB.new (w : World) (es : Array MapEntry) (clock : Nat) : MapB (w.alloc (.map es clock)) w.heap.size es clock := heap_alloc_new w _
theorem setB_size (w : World) (b : Nat) (o : Obj) : (setB w b o).heap.size = w.heap.size := by simp [setB]
theorem setB_here {w : World} {b : Nat} (hb : b < w.heap.size) (o : Obj) : (setB w b o).heap[b]? = some o := by simp [setB, hb]
theorem setB_far (w : World) {b k : Nat} (hk : k ≠ b) (o : Obj) : (setB w b o).heap[k]? = w.heap[k]? := by simp [setB, Ne.symm hk]
theorem Chg.setB {S : Nat → Prop} {a b : World} (h : Chg S a b) {k : Nat} (hk : a.heap.size ≤ k ∨ S k) (o : Obj) : Chg S a (setB b k o) :=
  ⟨h.os, h.tape, h.output, Nat.le_trans h.size (by rw [setB_size]; exact Nat.le_refl _), fun i hi hn => by
    rw [setB_far b (fun e => by subst e; rcases hk with h' | h'; omega; exact hn h')]
    exact h.block i hi hn⟩
theorem Blk.setB {w : World} {g b : Nat} {t : TypeId} {cs : Array Value} (h : Blk w g t cs) (hne : g ≠ b) (o : Obj) : Blk (setB w b o) g t cs := (setB_far w hne o).trans h
theorem MapB.set {w : World} {b : Nat} {es : Array MapEntry} {clock : Nat} (h : MapB w b es clock) (es' : Array MapEntry) (clock' : Nat) : MapB (setB w b (.map es' clock')) b es' clock' := setB_here h.lt _
theorem MapB.setB {w : World} {b k : Nat} {es : Array MapEntry} {clock : Nat} (h : MapB w b es clock) (hne : b ≠ k) (o : Obj) : MapB (setB w k o) b es clock := (setB_far w hne o).trans h
theorem MapB.setCell {w : World} {b : Nat} {es : Array MapEntry} {clock : Nat} (h : MapB w b es clock) {p : Addr} (hne : b ≠ p.block) (u : Value) : MapB (w.setCell p u) b es clock := (Below.heap_setCell w p u b hne).trans h
theorem MapB.ne_blk {w : World} {b g : Nat} {es : Array MapEntry} {clock : Nat} {t : TypeId} {cs : Array Value} (h : MapB w b es clock) (h' : Blk w g t cs) : b ≠ g := fun e => by
  subst e
  have := Eq.trans (Eq.symm h) h'
  cases this

section
variable {P : Program} {t k e : TypeId} {w : World} {b clock : Nat} {es : Array MapEntry} {s : ByteArray}

theorem run_look (ht : P.underlying t = some (.map k e)) (hk : P.underlying k = some .string) {z : Value} (hz : (zeroValue e).run P w = .ok z w) (hb : MapB w b es clock) {r : Option (Nat × Value)} (h : Instr.findNow .string (.string s) es.toList 0 = some r) :
    (Instr.lookup t (.map (some b)) (.string s) false).run P w = .ok (match r with | some (_, v) => v | none => z) w := by
  unfold MapB at hb
  cases r with
  | none => simp [Instr.lookup, run_underlying ht, MapKept.run_getObj_map hb, MapKept.run_checkKey hk (k := .string s) trivial, MapKept.run_findKey hk h, hz, Result.andThen]
  | some x => simp [Instr.lookup, run_underlying ht, MapKept.run_getObj_map hb, MapKept.run_checkKey hk (k := .string s) trivial, MapKept.run_findKey hk h, Result.andThen]
theorem run_put_new (ht : P.underlying t = some (.map k e)) (hk : P.underlying k = some .string) (hb : MapB w b es clock) (v : Value) (h : Instr.findNow .string (.string s) es.toList 0 = some none) :
    (Instr.mapUpdate t (.map (some b)) (.string s) v).run P w = .ok () (setB w b (.map (es.push ⟨.string s, v, clock⟩) (clock + 1))) := by
  unfold MapB at hb
  simp [Instr.mapUpdate, run_underlying ht, MapKept.run_getObj_map hb, MapKept.run_checkKey hk (k := .string s) trivial, MapKept.run_findKey hk h, MapKept.run_setObj_map _ hb, Result.andThen, setB]
theorem run_put_old (ht : P.underlying t = some (.map k e)) (hk : P.underlying k = some .string) (hb : MapB w b es clock) (v : Value) {i : Nat} {u : Value} {x : MapEntry} (h : Instr.findNow .string (.string s) es.toList 0 = some (some (i, u))) (hi : es[i]? = some x) (hx : x.key = .string s) :
    (Instr.mapUpdate t (.map (some b)) (.string s) v).run P w = .ok () (setB w b (.map (es.modify i fun y => { y with key := .string s, val := v }) clock)) := by
  unfold MapB at hb
  simp [Instr.mapUpdate, run_underlying ht, MapKept.run_getObj_map hb, MapKept.run_checkKey hk (k := .string s) trivial, MapKept.run_findKey hk h, hi, hx, MapKept.run_keyThatStays (d := .string) (k := .string s) trivial, MapKept.run_setObj_map _ hb, Result.andThen, setB]
theorem run_strike (ty : TypeId) (ht : P.underlying t = some (.map k e)) (hk : P.underlying k = some .string) (hb : MapB w b es clock) {i : Nat} {u : Value} (h : Instr.findNow .string (.string s) es.toList 0 = some (some (i, u))) :
    (Builtin.delete_ #[t, k] ty #[.map (some b), .string s]).run P w = .ok (.tuple #[]) (setB w b (.map (es.eraseIdxIfInBounds i) clock)) := by
  unfold MapB at hb
  simp [Builtin.delete_, run_underlying ht, MapKept.run_getObj_map hb, MapKept.run_checkKey hk (k := .string s) trivial, MapKept.run_findKey hk h, MapKept.run_setObj_map _ hb, Result.andThen, setB]

theorem run_next_one (ty : TypeId) {r since c0 : Nat} {x : MapEntry} (hr : IterB w r b since #[] c0) (hb : MapB w b #[x] clock) (hx : x.born < since) :
    (Instr.next (.pointer (some ⟨r, 0, none⟩)) false ty).run P w = .ok (.tuple #[.bool true, x.key, x.val]) (setB w r (.mapIter (some b) since #[x.born] clock)) := by
  unfold MapB at hb
  unfold IterB at hr
  have h2 : ¬ since ≤ x.born := by omega
  simp only [Instr.next, getObj, setObj, Sem.run_bind, Sem.run, hr, hb, Result.andThen]
  simp [hx, h2, choose, Sem.run, Question.forced, hr, setB, Sem.run_bind]
theorem run_entry_one {r since : Nat} {x : MapEntry} (hr : IterB w r b since #[x.born] clock) (hb : MapB w b #[x] clock) :
    (Instr.entry (.pointer (some ⟨r, 0, none⟩))).run P w = .ok (.tuple #[x.key, x.val]) w := by
  unfold MapB at hb
  unfold IterB at hr
  simp [Instr.entry, getObj, Sem.run_bind, Sem.run, hr, hb, Result.andThen]
theorem run_next_end (ty : TypeId) {r since c0 : Nat} {x : MapEntry} (hr : IterB w r b since #[x.born] c0) (hb : MapB w b #[x] clock) (hx : x.born < c0) :
    (Instr.next (.pointer (some ⟨r, 0, none⟩)) false ty).run P w = .ok (.tuple #[.bool false]) w := by
  unfold MapB at hb
  unfold IterB at hr
  have h2 : ¬ c0 ≤ x.born := by omega
  simp [Instr.next, getObj, Sem.run_bind, Sem.run, hr, hb, Result.andThen, h2, choose, Question.forced]
theorem run_next_none (ty : TypeId) {r since c0 : Nat} (hr : IterB w r b since #[] c0) (hb : MapB w b #[] clock) :
    (Instr.next (.pointer (some ⟨r, 0, none⟩)) false ty).run P w = .ok (.tuple #[.bool false]) w := by
  unfold MapB at hb
  unfold IterB at hr
  simp [Instr.next, getObj, Sem.run_bind, Sem.run, hr, hb, Result.andThen, choose, Question.forced]
theorem run_range_b (ht : P.underlying t = some (.map k e)) (hb : MapB w b es clock) :
    (Instr.range t (.map (some b))).run P w = .ok (.pointer (some ⟨w.heap.size, 0, none⟩)) (w.alloc (.mapIter (some b) clock #[] clock)) := run_range_map w t k e b es clock ht hb

/-! ### At the operation -/
variable {ops : Array Oper} {rest : List Oper} {o : Oper} {a : Act} {Q : Exit → Act → World → Prop}
theorem wpList_look (hg : o.guard = none) (m x : Operand) (t : TypeId) (hop : o.op = Op.lookup t m x false) (ht : P.underlying t = some (.map k e)) (hk : P.underlying k = some .string) {z : Value} (hz : (zeroValue e).run P w = .ok z w)
    (b : Nat) (hm : a.eval m = .map (some b)) (es : Array MapEntry) (clock : Nat) (hb : MapB w b es clock) (s : ByteArray) (hx : a.eval x = .string s) (r : Option (Nat × Value)) (h : Instr.findNow .string (.string s) es.toList 0 = some r)
    (hK : wpList P ops Q rest (a.put o.dst (match r with | some (_, v) => v | none => z)) w) : wpList P ops Q (o :: rest) a w := by
  refine wpList_plain hg fun K' hK' => ?_
  have hrun := run_look (P := P) ht hk hz hb h
  unfold Oper.wp
  simp [execOp, hop, hm, hx, hrun, Result.andThen]
  exact hK' _ _ hK
theorem wpList_put (hg : o.guard = none) (m x v : Operand) (t : TypeId) (hop : o.op = Op.mapUpdate t m x v) (b : Nat) (hm : a.eval m = .map (some b)) (s : ByteArray) (hx : a.eval x = .string s) (u : Value) (hv : a.eval v = u) (w' : World)
    (hrun : (Instr.mapUpdate t (.map (some b)) (.string s) u).run P w = .ok () w') (hK : wpList P ops Q rest (a.put o.dst undef) w') : wpList P ops Q (o :: rest) a w := by
  refine wpList_plain hg fun K' hK' => ?_
  unfold Oper.wp
  simp [execOp, hop, hm, hx, hv, hrun, Result.andThen]
  exact hK' _ _ hK
end
end Go.Proofs.YtepncgeaehjhiaaGreat
