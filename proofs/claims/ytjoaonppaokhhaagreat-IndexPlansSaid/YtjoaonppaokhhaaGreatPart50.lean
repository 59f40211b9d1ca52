/-
  Several texts in one:
  Maps keyed by texts, as their blocks hold them: look-ups, stores, strikes, a range over one entry. Conditions: those that each law names; no program in sight.
  Maps keyed by whatever a key law holds of (texts, structs of texts), as their blocks hold them: look-ups, stores, strikes, ranges. Conditions: those that each law names; no program in sight.
-/
import Derived.Maps.OwnOps
import Derived.Laws.IdiomRangeMap
import Derived.Test.YtjoaonppaokhhaaGreatPart1
import Derived.DeepKeys3
import Derived.Maps.RangeRun

namespace Go.Proofs.YtjoaonppaokhhaaGreat
open Go.RowKit

def MapB (w : World) (b : Nat) (es : Array MapEntry) (clock : Nat) : Prop := w.heap[b]? = some (.map es clock)
def IterB (w : World) (r m since : Nat) (seen : Array Nat) (c0 : Nat) : Prop := w.heap[r]? = some (.mapIter (some m) since seen c0)
def setB (w : World) (b : Nat) (o : Obj) : World := { w with heap := w.heap.setIfInBounds b o }

theorem MapB.lt {w : World} {b : Nat} {es : Array MapEntry} {clock : Nat} (h : MapB w b es clock) : b < w.heap.size := (Array.getElem?_eq_some_iff.1 h).1
theorem IterB.lt {w : World} {r m since c0 : Nat} {seen : Array Nat} (h : IterB w r m since seen c0) : r < w.heap.size := (Array.getElem?_eq_some_iff.1 h).1
theorem MapB.chg {S : Nat → Prop} {w w' : World} {b : Nat} {es : Array MapEntry} {clock : Nat} (h : MapB w b es clock) (hc : Chg S w w') (hn : ¬ S b) : MapB w' b es clock := (hc.block b h.lt hn).trans h
theorem MapB.grew {w w' : World} {b : Nat} {es : Array MapEntry} {clock : Nat} (h : MapB w b es clock) (hc : Grew w w') : MapB w' b es clock := h.chg hc fun e => e
theorem MapB.new (w : World) (es : Array MapEntry) (clock : Nat) : MapB (w.alloc (.map es clock)) w.heap.size es clock := heap_alloc_new w _
theorem setB_size (w : World) (b : Nat) (o : Obj) : (setB w b o).heap.size = w.heap.size := by simp [setB]
theorem setB_here {w : World} {b : Nat} (hb : b < w.heap.size) (o : Obj) : (setB w b o).heap[b]? = some o := by simp [setB, hb]
theorem setB_far (w : World) {b k : Nat} (hk : k ≠ b) (o : Obj) : (setB w b o).heap[k]? = w.heap[k]? := by simp [setB, Ne.symm hk]
theorem Chg.setB {S : Nat → Prop} {a b : World} (h : Chg S a b) {k : Nat} (hk : a.heap.size ≤ k ∨ S k) (o : Obj) : Chg S a (setB b k o) :=
  ⟨h.os, h.tape, h.output, Nat.le_trans h.size (by rw [setB_size]; exact Nat.le_refl _), fun i hi hn => by
    rw [setB_far b (fun e => by subst e; rcases hk with h' | h'; omega; exact hn h')]
    exact h.block i hi hn⟩
theorem Blk.setB {w : World} {g b : Nat} {t : TypeId} {cs : Array Value} (h : Blk w g t cs) (hne : g ≠ b) (o : Obj) : Blk (setB w b o) g t cs := (setB_far w hne o).trans h
theorem MapB.set {w : World} {b : Nat} {es : Array MapEntry} {clock : Nat} (h : MapB w b es clock) (es' : Array MapEntry) (clock' : Nat) : MapB (setB w b (.map es' clock')) b es' clock' := setB_here h.lt _
theorem MapB.setB {w : World} {b k : Nat} {es : Array MapEntry} {clock : Nat} (h : MapB w b es clock) (hne : b ≠ k) (o : Obj) : MapB (setB w k o) b es clock := (setB_far w hne o).trans h
theorem MapB.setCell {w : World} {b : Nat} {es : Array MapEntry} {clock : Nat} (h : MapB w b es clock) {p : Addr} (hne : b ≠ p.block) (u : Value) : MapB (w.setCell p u) b es clock := (Below.heap_setCell w p u b hne).trans h
theorem MapB.ne_blk {w : World} {b g : Nat} {es : Array MapEntry} {clock : Nat} {t : TypeId} {cs : Array Value} (h : MapB w b es clock) (h' : Blk w g t cs) : b ≠ g := fun e => by
  subst e
  have := Eq.trans (Eq.symm h) h'
  cases this

section
variable {P : Program} {t k e : TypeId} {w : World} {b clock : Nat} {es : Array MapEntry} {s : ByteArray}

theorem run_look (ht : P.underlying t = some (.map k e)) (hk : P.underlying k = some .string) {z : Value} (hz : (zeroValue e).run P w = .ok z w) (hb : MapB w b es clock) {r : Option (Nat × Value)} (h : Instr.findNow .string (.string s) es.toList 0 = some r) :
    (Instr.lookup t (.map (some b)) (.string s) false).run P w = .ok (match r with | some (_, v) => v | none => z) w := by
  unfold MapB at hb
  cases r with
  | none => simp [Instr.lookup, run_underlying ht, MapKept.run_getObj_map hb, MapKept.run_checkKey hk (k := .string s) trivial, MapKept.run_findKey hk h, hz, Result.andThen]
  | some x => simp [Instr.lookup, run_underlying ht, MapKept.run_getObj_map hb, MapKept.run_checkKey hk (k := .string s) trivial, MapKept.run_findKey hk h, Result.andThen]
theorem run_put_new (ht : P.underlying t = some (.map k e)) (hk : P.underlying k = some .string) (hb : MapB w b es clock) (v : Value) (h : Instr.findNow .string (.string s) es.toList 0 = some none) :
    (Instr.mapUpdate t (.map (some b)) (.string s) v).run P w = .ok () (setB w b (.map (es.push ⟨.string s, v, clock⟩) (clock + 1))) := by
  unfold MapB at hb
  simp [Instr.mapUpdate, run_underlying ht, MapKept.run_getObj_map hb, MapKept.run_checkKey hk (k := .string s) trivial, MapKept.run_findKey hk h, MapKept.run_setObj_map _ hb, Result.andThen, setB]
theorem run_put_old (ht : P.underlying t = some (.map k e)) (hk : P.underlying k = some .string) (hb : MapB w b es clock) (v : Value) {i : Nat} {u : Value} {x : MapEntry} (h : Instr.findNow .string (.string s) es.toList 0 = some (some (i, u))) (hi : es[i]? = some x) (hx : x.key = .string s) :
    (Instr.mapUpdate t (.map (some b)) (.string s) v).run P w = .ok () (setB w b (.map (es.modify i fun y => { y with key := .string s, val := v }) clock)) := by
  unfold MapB at hb
  simp [Instr.mapUpdate, run_underlying ht, MapKept.run_getObj_map hb, MapKept.run_checkKey hk (k := .string s) trivial, MapKept.run_findKey hk h, hi, hx, MapKept.run_keyThatStays (d := .string) (k := .string s) trivial, MapKept.run_setObj_map _ hb, Result.andThen, setB]
theorem run_strike (ty : TypeId) (ht : P.underlying t = some (.map k e)) (hk : P.underlying k = some .string) (hb : MapB w b es clock) {i : Nat} {u : Value} (h : Instr.findNow .string (.string s) es.toList 0 = some (some (i, u))) :
    (Builtin.delete_ #[t, k] ty #[.map (some b), .string s]).run P w = .ok (.tuple #[]) (setB w b (.map (es.eraseIdxIfInBounds i) clock)) := by
  unfold MapB at hb
  simp [Builtin.delete_, run_underlying ht, MapKept.run_getObj_map hb, MapKept.run_checkKey hk (k := .string s) trivial, MapKept.run_findKey hk h, MapKept.run_setObj_map _ hb, Result.andThen, setB]

theorem run_next_one (ty : TypeId) {r since c0 : Nat} {x : MapEntry} (hr : IterB w r b since #[] c0) (hb : MapB w b #[x] clock) (hx : x.born < since) :
    (Instr.next (.pointer (some ⟨r, 0, none⟩)) false ty).run P w = .ok (.tuple #[.bool true, x.key, x.val]) (setB w r (.mapIter (some b) since #[x.born] clock)) := by
  unfold MapB at hb
  unfold IterB at hr
  have h2 : ¬ since ≤ x.born := by omega
  simp only [Instr.next, getObj, setObj, Sem.run_bind, Sem.run, hr, hb, Result.andThen]
  simp [hx, h2, choose, Sem.run, Question.forced, hr, setB, Sem.run_bind]
theorem run_entry_one {r since : Nat} {x : MapEntry} (hr : IterB w r b since #[x.born] clock) (hb : MapB w b #[x] clock) :
    (Instr.entry (.pointer (some ⟨r, 0, none⟩))).run P w = .ok (.tuple #[x.key, x.val]) w := by
  unfold MapB at hb
  unfold IterB at hr
  simp [Instr.entry, getObj, Sem.run_bind, Sem.run, hr, hb, Result.andThen]
theorem run_next_end (ty : TypeId) {r since c0 : Nat} {x : MapEntry} (hr : IterB w r b since #[x.born] c0) (hb : MapB w b #[x] clock) (hx : x.born < c0) :
    (Instr.next (.pointer (some ⟨r, 0, none⟩)) false ty).run P w = .ok (.tuple #[.bool false]) w := by
  unfold MapB at hb
  unfold IterB at hr
  have h2 : ¬ c0 ≤ x.born := by omega
  simp [Instr.next, getObj, Sem.run_bind, Sem.run, hr, hb, Result.andThen, h2, choose, Question.forced]
theorem run_next_none (ty : TypeId) {r since c0 : Nat} (hr : IterB w r b since #[] c0) (hb : MapB w b #[] clock) :
    (Instr.next (.pointer (some ⟨r, 0, none⟩)) false ty).run P w = .ok (.tuple #[.bool false]) w := by
  unfold MapB at hb
  unfold IterB at hr
  simp [Instr.next, getObj, Sem.run_bind, Sem.run, hr, hb, Result.andThen, choose, Question.forced]
theorem run_range_b (ht : P.underlying t = some (.map k e)) (hb : MapB w b es clock) :
    (Instr.range t (.map (some b))).run P w = .ok (.pointer (some ⟨w.heap.size, 0, none⟩)) (w.alloc (.mapIter (some b) clock #[] clock)) := run_range_map w t k e b es clock ht hb

/-! ### At the operation -/
variable {ops : Array Oper} {rest : List Oper} {o : Oper} {a : Act} {Q : Exit → Act → World → Prop}
theorem wpList_look (hg : o.guard = none) (m x : Operand) (t : TypeId) (hop : o.op = Op.lookup t m x false) (ht : P.underlying t = some (.map k e)) (hk : P.underlying k = some .string) {z : Value} (hz : (zeroValue e).run P w = .ok z w)
    (b : Nat) (hm : a.eval m = .map (some b)) (es : Array MapEntry) (clock : Nat) (hb : MapB w b es clock) (s : ByteArray) (hx : a.eval x = .string s) (r : Option (Nat × Value)) (h : Instr.findNow .string (.string s) es.toList 0 = some r)
    (hK : wpList P ops Q rest (a.put o.dst (match r with | some (_, v) => v | none => z)) w) : wpList P ops Q (o :: rest) a w := by
  refine wpList_plain hg fun K' hK' => ?_
  have hrun := run_look (P := P) ht hk hz hb h
  unfold Oper.wp
  simp [execOp, hop, hm, hx, hrun, Result.andThen]
  exact hK' _ _ hK
theorem wpList_put (hg : o.guard = none) (m x v : Operand) (t : TypeId) (hop : o.op = Op.mapUpdate t m x v) (b : Nat) (hm : a.eval m = .map (some b)) (s : ByteArray) (hx : a.eval x = .string s) (u : Value) (hv : a.eval v = u) (w' : World)
    (hrun : (Instr.mapUpdate t (.map (some b)) (.string s) u).run P w = .ok () w') (hK : wpList P ops Q rest (a.put o.dst undef) w') : wpList P ops Q (o :: rest) a w := by
  refine wpList_plain hg fun K' hK' => ?_
  unfold Oper.wp
  simp [execOp, hop, hm, hx, hv, hrun, Result.andThen]
  exact hK' _ _ hK
end
end Go.Proofs.YtjoaonppaokhhaaGreat

namespace Go.Proofs.YtjoaonppaokhhaaGreat
open Go.RowKit

/-- what a map's keys must bear -/
structure KL (P : Program) (k : TypeId) (ok : Value → Prop) : Prop where
  check : ∀ (w : World) (em : Bool) {v : Value}, ok v → (Instr.checkKey em 10000 k v).run P w = .ok () w
  find : ∀ (w : World) {x : Value}, ok x → ∀ es : List MapEntry, (∀ e ∈ es, ok e.key) →
    ((Instr.findKey k x es).run P w = .ok none w ∧ ∀ e ∈ es, e.key ≠ x) ∨ ∃ (j : Nat) (e : MapEntry), (Instr.findKey k x es).run P w = .ok (some (j, e.val)) w ∧ es[j]? = some e ∧ e.key = x
  stays : ∀ (w : World) {v : Value}, ok v → (Instr.keyThatStays v v).run P w = .ok v w

theorem findNow_str (x : ByteArray) : ∀ (es : List MapEntry) (i : Nat), (∀ e ∈ es, ∃ s, e.key = .string s) →
    (Instr.findNow .string (.string x) es i = some none ∧ ∀ e ∈ es, e.key ≠ .string x) ∨ ∃ (j : Nat) (e : MapEntry), Instr.findNow .string (.string x) es i = some (some (i + j, e.val)) ∧ es[j]? = some e ∧ e.key = .string x
  | [], i, _ => .inl ⟨rfl, fun e h => by cases h⟩
  | e :: es, i, h => by
    obtain ⟨s, hs⟩ := h e (by simp)
    by_cases hx : x = s
    · subst hx
      refine .inr ⟨0, e, ?_, rfl, hs⟩
      have : (x == x) = true := (MapKept.bytes_beq x x).2 rfl
      simp [Instr.findNow, hs, Instr.sameNow, this]
    · have hb : (x == s) = false := by
        cases hb : (x == s) with
        | false => rfl
        | true => exact absurd ((MapKept.bytes_beq x s).1 hb) hx
      rcases findNow_str x es (i + 1) (fun y hy => h y (by simp [hy])) with ⟨h1, h2⟩ | ⟨j, e', h1, h2, h3⟩
      · refine .inl ⟨by simp [Instr.findNow, hs, Instr.sameNow, hb, h1], fun y hy => ?_⟩
        rcases List.mem_cons.1 hy with rfl | hy
        · rw [hs]
          intro e
          injection e with e
          exact hx e.symm
        · exact h2 y hy
      · exact .inr ⟨j + 1, e', by simp [Instr.findNow, hs, Instr.sameNow, hb, h1, Nat.add_assoc, Nat.add_comm 1 j], by simpa using h2, h3⟩
theorem kl_string {P : Program} {k : TypeId} (hk : P.underlying k = some .string) : KL P k (fun v => ∃ s, v = .string s) where
  check := fun w em v ⟨s, e⟩ => by
    subst e
    exact MapKept.run_checkKey hk (k := .string s) trivial em 9999
  find := fun w x ⟨s, e⟩ es hall => by
    subst e
    rcases findNow_str s es 0 hall with ⟨h1, h2⟩ | ⟨j, e, h1, h2, h3⟩
    · exact .inl ⟨MapKept.run_findKey hk h1, h2⟩
    · exact .inr ⟨j, e, by have := MapKept.run_findKey (P := P) (w := w) hk h1; simpa using this, h2, h3⟩
  stays := fun w v ⟨s, e⟩ => by
    subst e
    exact MapKept.run_keyThatStays (d := .string) (k := .string s) trivial
theorem kl_wide {P : Program} {k : TypeId} {ok : Value → Prop} (K : WideMaps.KeyLaw P k) (hok : ∀ v, ok v → ∃ l, keyOf P k v = some l) : KL P k ok where
  check := fun w em v h => by
    obtain ⟨l, hl⟩ := hok v h
    exact K.check w em hl
  find := fun w x h es hall => by
    obtain ⟨l, hl⟩ := hok x h
    exact K.find w hl es fun e he => hok _ (hall e he)
  stays := fun w v h => by
    obtain ⟨l, hl⟩ := hok v h
    exact K.stays w hl

/-- keys apart -/
def KAp (es : List MapEntry) : Prop := es.Pairwise fun a b => a.key ≠ b.key
theorem KAp.at_ {es : List MapEntry} (h : KAp es) {i j : Nat} {a b : MapEntry} (ha : es[i]? = some a) (hb : es[j]? = some b) (e : a.key = b.key) : i = j := by
  rcases Nat.lt_trichotomy i j with h1 | h1 | h1
  · obtain ⟨hi, rfl⟩ := List.getElem?_eq_some_iff.1 ha
    obtain ⟨hj, rfl⟩ := List.getElem?_eq_some_iff.1 hb
    exact absurd e (List.pairwise_iff_getElem.1 h i j hi hj h1)
  · exact h1
  · obtain ⟨hi, rfl⟩ := List.getElem?_eq_some_iff.1 ha
    obtain ⟨hj, rfl⟩ := List.getElem?_eq_some_iff.1 hb
    exact absurd e.symm (List.pairwise_iff_getElem.1 h j i hj hi h1)

section
variable {P : Program} {t k e : TypeId} {w : World} {b clock : Nat} {es : Array MapEntry} {ok : Value → Prop} {x : Value}
theorem find_none (K : KL P k ok) (hx : ok x) (hall : ∀ y ∈ es.toList, ok y.key) (hno : ∀ y ∈ es.toList, y.key ≠ x) : (Instr.findKey k x es.toList).run P w = .ok none w := by
  rcases K.find w hx es.toList hall with ⟨h1, _⟩ | ⟨j, y, _, h2, h3⟩
  · exact h1
  · exact absurd h3 (hno y (List.mem_of_getElem? h2))
theorem find_some (K : KL P k ok) (hx : ok x) (hall : ∀ y ∈ es.toList, ok y.key) (hap : KAp es.toList) {i : Nat} {y : MapEntry} (hi : es.toList[i]? = some y) (hy : y.key = x) : (Instr.findKey k x es.toList).run P w = .ok (some (i, y.val)) w := by
  rcases K.find w hx es.toList hall with ⟨_, h2⟩ | ⟨j, z, h1, h2, h3⟩
  · exact absurd hy (h2 y (List.mem_of_getElem? hi))
  · have hij := hap.at_ hi h2 (hy.trans h3.symm)
    subst hij
    rw [hi] at h2
    injection h2 with h2
    subst h2
    exact h1
theorem run_lookN (K : KL P k ok) (ht : P.underlying t = some (.map k e)) {z : Value} (hz : (zeroValue e).run P w = .ok z w) (hb : MapB w b es clock) (hx : ok x) (hall : ∀ y ∈ es.toList, ok y.key) (hno : ∀ y ∈ es.toList, y.key ≠ x) :
    (Instr.lookup t (.map (some b)) x false).run P w = .ok z w := by
  unfold MapB at hb
  have hf := find_none (P := P) (w := w) K hx hall hno
  simp [Instr.lookup, run_underlying ht, MapKept.run_getObj_map hb, K.check w _ hx, hf, hz, Result.andThen]
theorem run_lookS (K : KL P k ok) (ht : P.underlying t = some (.map k e)) (hb : MapB w b es clock) (hx : ok x) (hall : ∀ y ∈ es.toList, ok y.key) (hap : KAp es.toList) {i : Nat} {y : MapEntry} (hi : es.toList[i]? = some y) (hy : y.key = x) :
    (Instr.lookup t (.map (some b)) x false).run P w = .ok y.val w := by
  unfold MapB at hb
  have hf := find_some (P := P) (w := w) K hx hall hap hi hy
  simp [Instr.lookup, run_underlying ht, MapKept.run_getObj_map hb, K.check w _ hx, hf, Result.andThen]
theorem run_putN (K : KL P k ok) (ht : P.underlying t = some (.map k e)) (hb : MapB w b es clock) (v : Value) (hx : ok x) (hall : ∀ y ∈ es.toList, ok y.key) (hno : ∀ y ∈ es.toList, y.key ≠ x) :
    (Instr.mapUpdate t (.map (some b)) x v).run P w = .ok () (setB w b (.map (es.push ⟨x, v, clock⟩) (clock + 1))) := by
  unfold MapB at hb
  have hf := find_none (P := P) (w := w) K hx hall hno
  simp [Instr.mapUpdate, run_underlying ht, MapKept.run_getObj_map hb, K.check w _ hx, hf, MapKept.run_setObj_map _ hb, Result.andThen, setB]
theorem run_putS (K : KL P k ok) (ht : P.underlying t = some (.map k e)) (hb : MapB w b es clock) (v : Value) (hx : ok x) (hall : ∀ y ∈ es.toList, ok y.key) (hap : KAp es.toList) {i : Nat} {y : MapEntry} (hi : es.toList[i]? = some y) (hy : y.key = x) :
    (Instr.mapUpdate t (.map (some b)) x v).run P w = .ok () (setB w b (.map (es.modify i fun z => { z with key := x, val := v }) clock)) := by
  unfold MapB at hb
  have hf := find_some (P := P) (w := w) K hx hall hap hi hy
  have hi' : es[i]? = some y := by rw [← Array.getElem?_toList]; exact hi
  subst hy
  simp [Instr.mapUpdate, run_underlying ht, MapKept.run_getObj_map hb, K.check w _ hx, hf, hi', K.stays w hx, MapKept.run_setObj_map _ hb, Result.andThen, setB]
theorem run_strikeS (ty : TypeId) (K : KL P k ok) (ht : P.underlying t = some (.map k e)) (hb : MapB w b es clock) (hx : ok x) (hall : ∀ y ∈ es.toList, ok y.key) (hap : KAp es.toList) {i : Nat} {y : MapEntry} (hi : es.toList[i]? = some y) (hy : y.key = x) :
    (Builtin.delete_ #[t, k] ty #[.map (some b), x]).run P w = .ok (.tuple #[]) (setB w b (.map (es.eraseIdxIfInBounds i) clock)) := by
  unfold MapB at hb
  have hf := find_some (P := P) (w := w) K hx hall hap hi hy
  simp [Builtin.delete_, run_underlying ht, MapKept.run_getObj_map hb, K.check w _ hx, hf, MapKept.run_setObj_map _ hb, Result.andThen, setB]
end

theorem run_lenM {P : Program} {t k e ty : TypeId} {w : World} {b clock : Nat} {es : Array MapEntry} (ht : P.underlying t = some (.map k e)) (hb : MapB w b es clock) : (Builtin.len_ #[t] ty #[.map (some b)]).run P w = .ok (.int .i64 (es.size : Int)) w := by
  unfold MapB at hb
  simp [Builtin.len_, run_underlying ht, MapKept.run_getObj_map hb, Result.andThen]
  rfl

/-! ### A range over a map that stays as it is -/
/-- the entries met so far, each once -/
def ItM (w : World) (r m clock : Nat) (V : List MapEntry) : Prop := ∃ c0, IterB w r m clock (V.map MapEntry.born).toArray c0 ∧ clock ≤ c0
theorem ItM.lt {w : World} {r m clock : Nat} {V : List MapEntry} (h : ItM w r m clock V) : r < w.heap.size := h.choose_spec.1.lt
theorem IterB.chg2 {T : Nat → Prop} {w w' : World} {r m since c0 : Nat} {seen : Array Nat} (h : IterB w r m since seen c0) (hc : Chg T w w') (hn : ¬ T r) : IterB w' r m since seen c0 := (hc.block r h.lt hn).trans h
theorem ItM.chg {T : Nat → Prop} {w w' : World} {r m clock : Nat} {V : List MapEntry} (h : ItM w r m clock V) (hc : Chg T w w') (hn : ¬ T r) : ItM w' r m clock V := by
  obtain ⟨c0, h1, h2⟩ := h
  exact ⟨c0, h1.chg2 hc hn, h2⟩
structure BAp (es : List MapEntry) (clock : Nat) : Prop where
  nd : (es.map MapEntry.born).Nodup
  old : ∀ x ∈ es, x.born < clock
structure PartM (V es : List MapEntry) : Prop where
  sub : ∀ f ∈ V, f ∈ es
  nd : V.Nodup
theorem PartM.nil (es : List MapEntry) : PartM [] es := ⟨fun f h => (by cases h), List.nodup_nil⟩
theorem born_uniq {es : List MapEntry} (h : (es.map MapEntry.born).Nodup) {f g : MapEntry} (hf : f ∈ es) (hg : g ∈ es) (e : f.born = g.born) : f = g := by
  obtain ⟨i, hi⟩ := List.getElem?_of_mem hf
  obtain ⟨j, hj⟩ := List.getElem?_of_mem hg
  have hi2 : (es.map MapEntry.born)[i]? = some f.born := by rw [List.getElem?_map, hi]; rfl
  have hj2 : (es.map MapEntry.born)[j]? = some g.born := by rw [List.getElem?_map, hj]; rfl
  obtain ⟨hil, hie⟩ := List.getElem?_eq_some_iff.1 hi2
  obtain ⟨hjl, hje⟩ := List.getElem?_eq_some_iff.1 hj2
  have hij : i = j := (List.getElem_inj h).1 (by rw [hie, hje, e])
  subst hij
  rw [hi] at hj
  injection hj
theorem nodup_es {es : List MapEntry} (h : (es.map MapEntry.born).Nodup) : es.Nodup := (List.pairwise_map.1 h).imp fun h e => h (by rw [e])
theorem subM_len : ∀ (V E : List MapEntry), V.Nodup → (∀ f ∈ V, f ∈ E) → V.length ≤ E.length
  | [], E, _, _ => by simp
  | a :: V, E, h, hs => by
    obtain ⟨s, t, rfl⟩ := List.append_of_mem (hs a (by simp))
    obtain ⟨h1, h2⟩ := List.nodup_cons.1 h
    have := subM_len V (s ++ t) h2 (fun f hf => by
      have h3 := hs f (by simp [hf])
      simp only [List.mem_append, List.mem_cons] at h3 ⊢
      rcases h3 with h3 | rfl | h3
      · exact .inl h3
      · exact absurd hf h1
      · exact .inr h3)
    simp only [List.length_append, List.length_cons] at this ⊢
    omega
theorem PartM.le {V es : List MapEntry} (h : PartM V es) : V.length ≤ es.length := subM_len V es h.nd h.sub
theorem mem_leftM {V es : List MapEntry} (h : PartM V es) (hb : (es.map MapEntry.born).Nodup) (x : MapEntry) : x ∈ (leftOf es.toArray (V.map MapEntry.born).toArray).toList ↔ x ∈ es ∧ x ∉ V := by
  unfold leftOf
  simp only [Array.toList_filter, List.mem_filter]
  constructor
  · rintro ⟨hx, h2⟩
    refine ⟨hx, fun hV => ?_⟩
    simp at h2
    exact h2 x hV rfl
  · rintro ⟨hx, hV⟩
    refine ⟨hx, ?_⟩
    simp
    exact fun g hg e => hV (born_uniq hb (h.sub g hg) hx e ▸ hg)
theorem itm_start {w : World} {m clock : Nat} : ItM (w.alloc (.mapIter (some m) clock #[] clock)) w.heap.size m clock [] := ⟨clock, heap_alloc_new w _, Nat.le_refl _⟩
/-- the next entry, or none is left -/
theorem itm_next {P : Program} {w : World} {m clock r : Nat} {es V : List MapEntry} (hm : MapB w m es.toArray clock) (hbo : BAp es clock) (hi : ItM w r m clock V) (hp : PartM V es) :
    (V.Perm es ∧ ∀ ty, (Instr.next (.pointer (some ⟨r, 0, none⟩)) false ty).run P w = .ok (.tuple #[.bool false]) w) ∨
    ∃ f ∈ es, f ∉ V ∧ PartM (V ++ [f]) es ∧ ∃ w1 : World, Chg (fun k => k = r) w w1 ∧ w1.heap.size = w.heap.size ∧ (∀ ty, (Instr.next (.pointer (some ⟨r, 0, none⟩)) false ty).run P w = .ok (.tuple #[.bool true, f.key, f.val]) w1) ∧
      ItM w1 r m clock (V ++ [f]) ∧ MapB w1 m es.toArray clock ∧ (Instr.entry (.pointer (some ⟨r, 0, none⟩))).run P w1 = .ok (.tuple #[f.key, f.val]) w1 := by
  obtain ⟨c0, hi, hc0⟩ := hi
  have hold : ∀ x ∈ (es.toArray).toList, x.born < clock := fun x hx => hbo.old x (by simpa using hx)
  have key := fun ty => run_next_at (P := P) w ty r m clock c0 (V.map MapEntry.born).toArray es.toArray clock hi hm hold hc0
  by_cases h0 : (leftOf es.toArray (V.map MapEntry.born).toArray).size = 0
  · left
    refine ⟨(List.perm_ext_iff_of_nodup hp.nd (nodup_es hbo.nd)).2 fun f => ⟨hp.sub f, fun hf => ?_⟩, fun ty => ?_⟩
    · by_cases hV : f ∈ V
      · exact hV
      · have := (mem_leftM hp hbo.nd f).2 ⟨hf, hV⟩
        rw [Array.eq_empty_of_size_eq_zero h0] at this
        simp at this
    · rcases key ty with ⟨_, h1⟩ | ⟨e, he, _⟩
      · exact h1
      · rw [Array.eq_empty_of_size_eq_zero h0] at he
        simp at he
  · right
    rcases key 0 with ⟨h1, _⟩ | ⟨f, he, w1, hw1, hrun⟩
    · exact absurd h1 h0
    obtain ⟨hf, hV⟩ := (mem_leftM hp hbo.nd f).1 he
    have hr1 : r < w1.heap.size := by rcases hw1 with rfl | rfl <;> exact hi.lt
    have hw1s : w1.heap.size = w.heap.size := by rcases hw1 with rfl | rfl <;> rfl
    have hc1 : Chg (fun k => k = r) w w1 := by rcases hw1 with rfl | rfl; exact Chg.refl _ _; exact (Chg.refl _ _).drew
    have hc2 : Chg (fun k => k = r) w (setB w1 r (.mapIter (some m) clock ((V.map MapEntry.born).toArray.push f.born) clock)) := Chg.setB (S := fun k => k = r) hc1 (.inr rfl) _
    have hi2 : ItM (setB w1 r (.mapIter (some m) clock ((V.map MapEntry.born).toArray.push f.born) clock)) r m clock (V ++ [f]) := ⟨clock, by
      rw [show ((V ++ [f]).map MapEntry.born).toArray = (V.map MapEntry.born).toArray.push f.born by simp]
      exact setB_here hr1 _, Nat.le_refl _⟩
    have hrm : r ≠ m := fun e => by
      subst e
      have := Eq.trans (Eq.symm hi) hm
      cases this
    have hm2 := hm.chg hc2 (fun e => hrm e.symm)
    refine ⟨f, hf, hV, ⟨fun g hg => ?_, ?_⟩, _, hc2, by rw [setB_size]; exact hw1s, fun ty => hrun, hi2, hm2, ?_⟩
    · rcases List.mem_append.1 hg with hg | hg
      · exact hp.sub g hg
      · obtain rfl : g = f := by simpa using hg
        exact hf
    · rw [List.nodup_append]
      refine ⟨hp.nd, by simp, fun a ha b hb => ?_⟩
      obtain rfl : b = f := by simpa using hb
      exact fun e => hV (e ▸ ha)
    · exact run_entry_at (P := P) _ r m clock (V.map MapEntry.born).toArray es.toArray clock f (setB_here hr1 _) hm2 (by simpa using hf) (by simpa using hbo.nd)
theorem Own.ne_iterM {w : World} {base : Nat} {t : TypeId} {sz n c r m clock : Nat} {A : Option Addr} {cs : List Value} {V : List MapEntry} (h : Own w base t sz A n c cs) (hi : ItM w r m clock V) : ∀ ad, A = some ad → ad.block ≠ r := by
  rintro ad rfl
  obtain ⟨c0, hi, _⟩ := hi
  rcases h.2 with ⟨e, h3⟩ | ⟨g', cap, cur, e', hb', hg, rest⟩
  · cases e
  · injection e' with e1 e2 e3
    injection e1 with e1
    subst e1
    rintro rfl
    have := Eq.trans (Eq.symm hi) hg
    cases this
theorem ItM.size {w : World} {r m clock : Nat} {V : List MapEntry} (h : ItM w r m clock V) (n : Nat) : (match w.heap[r]? with | some (.mapIter _ _ seen _) => n - seen.size | _ => 0) = n - V.length := by
  obtain ⟨c0, h1, _⟩ := h
  unfold IterB at h1
  rw [h1]
  simp
end Go.Proofs.YtjoaonppaokhhaaGreat
