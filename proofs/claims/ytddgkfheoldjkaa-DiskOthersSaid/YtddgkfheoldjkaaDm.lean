/-
  Maps keyed by texts, as their blocks hold them: look-ups, stores, strikes, a range over one entry. Conditions: those that each law names; no program in sight.
-/
import Derived.Maps.OwnOps
import Derived.Laws.IdiomRangeMap
import Derived.Test.YtddgkfheoldjkaaMem
namespace Go.Proofs.Ytddgkfheoldjkaa
open Go.RowKit

def MapB (w : World) (b : Nat) (es : Array MapEntry) (clock : Nat) : Prop := w.heap[b]? = some (.map es clock)
def IterB (w : World) (r m since : Nat) (seen : Array Nat) (c0 : Nat) : Prop := w.heap[r]? = some (.mapIter (some m) since seen c0)
def setB (w : World) (b : Nat) (o : Obj) : World := { w with heap := w.heap.setIfInBounds b o }

theorem MapB.lt {w : World} {b : Nat} {es : Array MapEntry} {clock : Nat} (h : MapB w b es clock) : b < w.heap.size := (Array.getElem?_eq_some_iff.1 h).1
theorem IterB.lt {w : World} {r m since c0 : Nat} {seen : Array Nat} (h : IterB w r m since seen c0) : r < w.heap.size := (Array.getElem?_eq_some_iff.1 h).1
theorem MapB.chg {S : Nat → Prop} {w w' : World} {b : Nat} {es : Array MapEntry} {clock : Nat} (h : MapB w b es clock) (hc : Chg S w w') (hn : ¬ S b) : MapB w' b es clock := (hc.block b h.lt hn).trans h
theorem MapB.grew {w w' : World} {b : Nat} {es : Array MapEntry} {clock : Nat} (h : MapB w b es clock) (hc : Grew w w') : MapB w' b es clock := h.chg hc fun e => e
theorem MapB.new (w : World) (es : Array MapEntry) (clock : Nat) : MapB (w.alloc (.map es clock)) w.heap.size es clock := heap_alloc_new w _
theorem setB_size (w : World) (b : Nat) (o : Obj) : (setB w b o).heap.size = w.heap.size := by simp [setB]
theorem setB_here {w : World} {b : Nat} (hb : b < w.heap.size) (o : Obj) : (setB w b o).heap[b]? = some o := by simp [setB, hb]
theorem setB_far (w : World) {b k : Nat} (hk : k ≠ b) (o : Obj) : (setB w b o).heap[k]? = w.heap[k]? := by simp [setB, Ne.symm hk]
theorem Chg.setB {S : Nat → Prop} {a b : World} (h : Chg S a b) {k : Nat} (hk : a.heap.size ≤ k ∨ S k) (o : Obj) : Chg S a (setB b k o) :=
  ⟨h.os, h.tape, h.output, Nat.le_trans h.size (by rw [setB_size]; exact Nat.le_refl _), fun i hi hn => by
    rw [setB_far b (fun e => by subst e; rcases hk with h' | h'; omega; exact hn h')]
    exact h.block i hi hn⟩
theorem Blk.setB {w : World} {g b : Nat} {t : TypeId} {cs : Array Value} (h : Blk w g t cs) (hne : g ≠ b) (o : Obj) : Blk (setB w b o) g t cs := (setB_far w hne o).trans h
theorem MapB.set {w : World} {b : Nat} {es : Array MapEntry} {clock : Nat} (h : MapB w b es clock) (es' : Array MapEntry) (clock' : Nat) : MapB (setB w b (.map es' clock')) b es' clock' := setB_here h.lt _
theorem MapB.setB {w : World} {b k : Nat} {es : Array MapEntry} {clock : Nat} (h : MapB w b es clock) (hne : b ≠ k) (o : Obj) : MapB (setB w k o) b es clock := (setB_far w hne o).trans h
theorem MapB.setCell {w : World} {b : Nat} {es : Array MapEntry} {clock : Nat} (h : MapB w b es clock) {p : Addr} (hne : b ≠ p.block) (u : Value) : MapB (w.setCell p u) b es clock := (Below.heap_setCell w p u b hne).trans h
theorem MapB.ne_blk {w : World} {b g : Nat} {es : Array MapEntry} {clock : Nat} {t : TypeId} {cs : Array Value} (h : MapB w b es clock) (h' : Blk w g t cs) : b ≠ g := fun e => by
  subst e
  have := Eq.trans (Eq.symm h) h'
  cases this

section
variable {P : Program} {t k e : TypeId} {w : World} {b clock : Nat} {es : Array MapEntry} {s : ByteArray}

theorem run_look (ht : P.underlying t = some (.map k e)) (hk : P.underlying k = some .string) {z : Value} (hz : (zeroValue e).run P w = .ok z w) (hb : MapB w b es clock) {r : Option (Nat × Value)} (h : Instr.findNow .string (.string s) es.toList 0 = some r) :
    (Instr.lookup t (.map (some b)) (.string s) false).run P w = .ok (match r with | some (_, v) => v | none => z) w := by
  unfold MapB at hb
  cases r with
  | none => simp [Instr.lookup, run_underlying ht, MapKept.run_getObj_map hb, MapKept.run_checkKey hk (k := .string s) trivial, MapKept.run_findKey hk h, hz, Result.andThen]
  | some x => simp [Instr.lookup, run_underlying ht, MapKept.run_getObj_map hb, MapKept.run_checkKey hk (k := .string s) trivial, MapKept.run_findKey hk h, Result.andThen]
theorem run_put_new (ht : P.underlying t = some (.map k e)) (hk : P.underlying k = some .string) (hb : MapB w b es clock) (v : Value) (h : Instr.findNow .string (.string s) es.toList 0 = some none) :
    (Instr.mapUpdate t (.map (some b)) (.string s) v).run P w = .ok () (setB w b (.map (es.push ⟨.string s, v, clock⟩) (clock + 1))) := by
  unfold MapB at hb
  simp [Instr.mapUpdate, run_underlying ht, MapKept.run_getObj_map hb, MapKept.run_checkKey hk (k := .string s) trivial, MapKept.run_findKey hk h, MapKept.run_setObj_map _ hb, Result.andThen, setB]
theorem run_put_old (ht : P.underlying t = some (.map k e)) (hk : P.underlying k = some .string) (hb : MapB w b es clock) (v : Value) {i : Nat} {u : Value} {x : MapEntry} (h : Instr.findNow .string (.string s) es.toList 0 = some (some (i, u))) (hi : es[i]? = some x) (hx : x.key = .string s) :
    (Instr.mapUpdate t (.map (some b)) (.string s) v).run P w = .ok () (setB w b (.map (es.modify i fun y => { y with key := .string s, val := v }) clock)) := by
  unfold MapB at hb
  simp [Instr.mapUpdate, run_underlying ht, MapKept.run_getObj_map hb, MapKept.run_checkKey hk (k := .string s) trivial, MapKept.run_findKey hk h, hi, hx, MapKept.run_keyThatStays (d := .string) (k := .string s) trivial, MapKept.run_setObj_map _ hb, Result.andThen, setB]
theorem run_strike (ty : TypeId) (ht : P.underlying t = some (.map k e)) (hk : P.underlying k = some .string) (hb : MapB w b es clock) {i : Nat} {u : Value} (h : Instr.findNow .string (.string s) es.toList 0 = some (some (i, u))) :
    (Builtin.delete_ #[t, k] ty #[.map (some b), .string s]).run P w = .ok (.tuple #[]) (setB w b (.map (es.eraseIdxIfInBounds i) clock)) := by
  unfold MapB at hb
  simp [Builtin.delete_, run_underlying ht, MapKept.run_getObj_map hb, MapKept.run_checkKey hk (k := .string s) trivial, MapKept.run_findKey hk h, MapKept.run_setObj_map _ hb, Result.andThen, setB]

theorem run_next_one (ty : TypeId) {r since c0 : Nat} {x : MapEntry} (hr : IterB w r b since #[] c0) (hb : MapB w b #[x] clock) (hx : x.born < since) :
    (Instr.next (.pointer (some ⟨r, 0, none⟩)) false ty).run P w = .ok (.tuple #[.bool true, x.key, x.val]) (setB w r (.mapIter (some b) since #[x.born] clock)) := by
  unfold MapB at hb
  unfold IterB at hr
  have h2 : ¬ since ≤ x.born := by omega
  simp only [Instr.next, getObj, setObj, Sem.run_bind, Sem.run, hr, hb, Result.andThen]
  simp [hx, h2, choose, Sem.run, Question.forced, hr, setB, Sem.run_bind]
theorem run_entry_one {r since : Nat} {x : MapEntry} (hr : IterB w r b since #[x.born] clock) (hb : MapB w b #[x] clock) :
    (Instr.entry (.pointer (some ⟨r, 0, none⟩))).run P w = .ok (.tuple #[x.key, x.val]) w := by
  unfold MapB at hb
  unfold IterB at hr
  simp [Instr.entry, getObj, Sem.run_bind, Sem.run, hr, hb, Result.andThen]
theorem run_next_end (ty : TypeId) {r since c0 : Nat} {x : MapEntry} (hr : IterB w r b since #[x.born] c0) (hb : MapB w b #[x] clock) (hx : x.born < c0) :
    (Instr.next (.pointer (some ⟨r, 0, none⟩)) false ty).run P w = .ok (.tuple #[.bool false]) w := by
  unfold MapB at hb
  unfold IterB at hr
  have h2 : ¬ c0 ≤ x.born := by omega
  simp [Instr.next, getObj, Sem.run_bind, Sem.run, hr, hb, Result.andThen, h2, choose, Question.forced]
theorem run_next_none (ty : TypeId) {r since c0 : Nat} (hr : IterB w r b since #[] c0) (hb : MapB w b #[] clock) :
    (Instr.next (.pointer (some ⟨r, 0, none⟩)) false ty).run P w = .ok (.tuple #[.bool false]) w := by
  unfold MapB at hb
  unfold IterB at hr
  simp [Instr.next, getObj, Sem.run_bind, Sem.run, hr, hb, Result.andThen, choose, Question.forced]
theorem run_range_b (ht : P.underlying t = some (.map k e)) (hb : MapB w b es clock) :
    (Instr.range t (.map (some b))).run P w = .ok (.pointer (some ⟨w.heap.size, 0, none⟩)) (w.alloc (.mapIter (some b) clock #[] clock)) := run_range_map w t k e b es clock ht hb

/-! ### At the operation -/
variable {ops : Array Oper} {rest : List Oper} {o : Oper} {a : Act} {Q : Exit → Act → World → Prop}
theorem wpList_look (hg : o.guard = none) (m x : Operand) (t : TypeId) (hop : o.op = Op.lookup t m x false) (ht : P.underlying t = some (.map k e)) (hk : P.underlying k = some .string) {z : Value} (hz : (zeroValue e).run P w = .ok z w)
    (b : Nat) (hm : a.eval m = .map (some b)) (es : Array MapEntry) (clock : Nat) (hb : MapB w b es clock) (s : ByteArray) (hx : a.eval x = .string s) (r : Option (Nat × Value)) (h : Instr.findNow .string (.string s) es.toList 0 = some r)
    (hK : wpList P ops Q rest (a.put o.dst (match r with | some (_, v) => v | none => z)) w) : wpList P ops Q (o :: rest) a w := by
  refine wpList_plain hg fun K' hK' => ?_
  have hrun := run_look (P := P) ht hk hz hb h
  unfold Oper.wp
  simp [execOp, hop, hm, hx, hrun, Result.andThen]
  exact hK' _ _ hK
theorem wpList_put (hg : o.guard = none) (m x v : Operand) (t : TypeId) (hop : o.op = Op.mapUpdate t m x v) (b : Nat) (hm : a.eval m = .map (some b)) (s : ByteArray) (hx : a.eval x = .string s) (u : Value) (hv : a.eval v = u) (w' : World)
    (hrun : (Instr.mapUpdate t (.map (some b)) (.string s) u).run P w = .ok () w') (hK : wpList P ops Q rest (a.put o.dst undef) w') : wpList P ops Q (o :: rest) a w := by
  refine wpList_plain hg fun K' hK' => ?_
  unfold Oper.wp
  simp [execOp, hop, hm, hx, hv, hrun, Result.andThen]
  exact hK' _ _ hK
end
end Go.Proofs.Ytddgkfheoldjkaa
