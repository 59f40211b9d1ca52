/-
  Several texts in one:
  Maps keyed by whatever a key law holds of (texts, structs of texts), as their blocks hold them: look-ups, stores, strikes, ranges. Conditions: those that each law names; no program in sight.
  Plain laws of package codec: numbers as bytes, and read back; signed ones; the sum of bytes. Conditions: none; no program in sight.
-/
import Derived.DeepKeys3
import Derived.Maps.RangeRun
import Derived.Test.YtailooldnelecaaGreatDoorPart2
import Derived.Laws.BitsAllLaws

namespace Go.Proofs.YtailooldnelecaaGreatDoor
open Go.RowKit

/-- what a map's keys must bear -/
structure KL (P : Program) (k : TypeId) (ok : Value → Prop) : Prop where
  check : ∀ (w : World) (em : Bool) {v : Value}, ok v → (Instr.checkKey em 10000 k v).run P w = .ok () w
  find : ∀ (w : World) {x : Value}, ok x → ∀ es : List MapEntry, (∀ e ∈ es, ok e.key) →
    ((Instr.findKey k x es).run P w = .ok none w ∧ ∀ e ∈ es, e.key ≠ x) ∨ ∃ (j : Nat) (e : MapEntry), (Instr.findKey k x es).run P w = .ok (some (j, e.val)) w ∧ es[j]? = some e ∧ e.key = x
  stays : ∀ (w : World) {v : Value}, ok v → (Instr.keyThatStays v v).run P w = .ok v w

theorem findNow_str (x : ByteArray) : ∀ (es : List MapEntry) (i : Nat), (∀ e ∈ es, ∃ s, e.key = .string s) →
    (Instr.findNow .string (.string x) es i = some none ∧ ∀ e ∈ es, e.key ≠ .string x) ∨ ∃ (j : Nat) (e : MapEntry), Instr.findNow .string (.string x) es i = some (some (i + j, e.val)) ∧ es[j]? = some e ∧ e.key = .string x
  | [], i, _ => .inl ⟨rfl, fun e h => by cases h⟩
  | e :: es, i, h => by
    obtain ⟨s, hs⟩ := h e (by simp)
    by_cases hx : x = s
    · subst hx
      refine .inr ⟨0, e, ?_, rfl, hs⟩
      have : (x == x) = true := (MapKept.bytes_beq x x).2 rfl
      simp [Instr.findNow, hs, Instr.sameNow, this]
    · have hb : (x == s) = false := by
        cases hb : (x == s) with
        | false => rfl
        | true => exact absurd ((MapKept.bytes_beq x s).1 hb) hx
      rcases findNow_str x es (i + 1) (fun y hy => h y (by simp [hy])) with ⟨h1, h2⟩ | ⟨j, e', h1, h2, h3⟩
      · refine .inl ⟨by simp [Instr.findNow, hs, Instr.sameNow, hb, h1], fun y hy => ?_⟩
        rcases List.mem_cons.1 hy with rfl | hy
        · rw [hs]
          intro e
          injection e with e
          exact hx e.symm
        · exact h2 y hy
      · exact .inr ⟨j + 1, e', by simp [Instr.findNow, hs, Instr.sameNow, hb, h1, Nat.add_assoc, Nat.add_comm 1 j], by simpa using h2, h3⟩
theorem kl_string {P : Program} {k : TypeId} (hk : P.underlying k = some .string) : KL P k (fun v => ∃ s, v = .string s) where
  check := fun w em v ⟨s, e⟩ => by
    subst e
    exact MapKept.run_checkKey hk (k := .string s) trivial em 9999
  find := fun w x ⟨s, e⟩ es hall => by
    subst e
    rcases findNow_str s es 0 hall with ⟨h1, h2⟩ | ⟨j, e, h1, h2, h3⟩
    · exact .inl ⟨MapKept.run_findKey hk h1, h2⟩
    · exact .inr ⟨j, e, by have := MapKept.run_findKey (P := P) (w := w) hk h1; simpa using this, h2, h3⟩
  stays := fun w v ⟨s, e⟩ => by
    subst e
    exact MapKept.run_keyThatStays (d := .string) (k := .string s) trivial
theorem kl_wide {P : Program} {k : TypeId} {ok : Value → Prop} (K : WideMaps.KeyLaw P k) (hok : ∀ v, ok v → ∃ l, keyOf P k v = some l) : KL P k ok where
  check := fun w em v h => by
    obtain ⟨l, hl⟩ := hok v h
    exact K.check w em hl
  find := fun w x h es hall => by
    obtain ⟨l, hl⟩ := hok x h
    exact K.find w hl es fun e he => hok _ (hall e he)
  stays := fun w v h => by
    obtain ⟨l, hl⟩ := hok v h
    exact K.stays w hl

/-- keys apart -/
def KAp (es : List MapEntry) : Prop := es.Pairwise fun a b => a.key ≠ b.key
theorem KAp.at_ {es : List MapEntry} (h : KAp es) {i j : Nat} {a b : MapEntry} (ha : es[i]? = some a) (hb : es[j]? = some b) (e : a.key = b.key) : i = j := by
  rcases Nat.lt_trichotomy i j with h1 | h1 | h1
  · obtain ⟨hi, rfl⟩ := List.getElem?_eq_some_iff.1 ha
    obtain ⟨hj, rfl⟩ := List.getElem?_eq_some_iff.1 hb
    exact absurd e (List.pairwise_iff_getElem.1 h i j hi hj h1)
  · exact h1
  · obtain ⟨hi, rfl⟩ := List.getElem?_eq_some_iff.1 ha
    obtain ⟨hj, rfl⟩ := List.getElem?_eq_some_iff.1 hb
    exact absurd e.symm (List.pairwise_iff_getElem.1 h j i hj hi h1)

section
variable {P : Program} {t k e : TypeId} {w : World} {b clock : Nat} {es : Array MapEntry} {ok : Value → Prop} {x : Value}
theorem find_none (K : KL P k ok) (hx : ok x) (hall : ∀ y ∈ es.toList, ok y.key) (hno : ∀ y ∈ es.toList, y.key ≠ x) : (Instr.findKey k x es.toList).run P w = .ok none w := by
  rcases K.find w hx es.toList hall with ⟨h1, _⟩ | ⟨j, y, _, h2, h3⟩
  · exact h1
  · exact absurd h3 (hno y (List.mem_of_getElem? h2))
theorem find_some (K : KL P k ok) (hx : ok x) (hall : ∀ y ∈ es.toList, ok y.key) (hap : KAp es.toList) {i : Nat} {y : MapEntry} (hi : es.toList[i]? = some y) (hy : y.key = x) : (Instr.findKey k x es.toList).run P w = .ok (some (i, y.val)) w := by
  rcases K.find w hx es.toList hall with ⟨_, h2⟩ | ⟨j, z, h1, h2, h3⟩
  · exact absurd hy (h2 y (List.mem_of_getElem? hi))
  · have hij := hap.at_ hi h2 (hy.trans h3.symm)
    subst hij
    rw [hi] at h2
    injection h2 with h2
    subst h2
    exact h1
theorem run_lookN (K : KL P k ok) (ht : P.underlying t = some (.map k e)) {z : Value} (hz : (zeroValue e).run P w = .ok z w) (hb : MapB w b es clock) (hx : ok x) (hall : ∀ y ∈ es.toList, ok y.key) (hno : ∀ y ∈ es.toList, y.key ≠ x) :
    (Instr.lookup t (.map (some b)) x false).run P w = .ok z w := by
  unfold MapB at hb
  have hf := find_none (P := P) (w := w) K hx hall hno
  simp [Instr.lookup, run_underlying ht, MapKept.run_getObj_map hb, K.check w _ hx, hf, hz, Result.andThen]
theorem run_lookS (K : KL P k ok) (ht : P.underlying t = some (.map k e)) (hb : MapB w b es clock) (hx : ok x) (hall : ∀ y ∈ es.toList, ok y.key) (hap : KAp es.toList) {i : Nat} {y : MapEntry} (hi : es.toList[i]? = some y) (hy : y.key = x) :
    (Instr.lookup t (.map (some b)) x false).run P w = .ok y.val w := by
  unfold MapB at hb
  have hf := find_some (P := P) (w := w) K hx hall hap hi hy
  simp [Instr.lookup, run_underlying ht, MapKept.run_getObj_map hb, K.check w _ hx, hf, Result.andThen]
theorem run_putN (K : KL P k ok) (ht : P.underlying t = some (.map k e)) (hb : MapB w b es clock) (v : Value) (hx : ok x) (hall : ∀ y ∈ es.toList, ok y.key) (hno : ∀ y ∈ es.toList, y.key ≠ x) :
    (Instr.mapUpdate t (.map (some b)) x v).run P w = .ok () (setB w b (.map (es.push ⟨x, v, clock⟩) (clock + 1))) := by
  unfold MapB at hb
  have hf := find_none (P := P) (w := w) K hx hall hno
  simp [Instr.mapUpdate, run_underlying ht, MapKept.run_getObj_map hb, K.check w _ hx, hf, MapKept.run_setObj_map _ hb, Result.andThen, setB]
theorem run_putS (K : KL P k ok) (ht : P.underlying t = some (.map k e)) (hb : MapB w b es clock) (v : Value) (hx : ok x) (hall : ∀ y ∈ es.toList, ok y.key) (hap : KAp es.toList) {i : Nat} {y : MapEntry} (hi : es.toList[i]? = some y) (hy : y.key = x) :
    (Instr.mapUpdate t (.map (some b)) x v).run P w = .ok () (setB w b (.map (es.modify i fun z => { z with key := x, val := v }) clock)) := by
  unfold MapB at hb
  have hf := find_some (P := P) (w := w) K hx hall hap hi hy
  have hi' : es[i]? = some y := by rw [← Array.getElem?_toList]; exact hi
  subst hy
  simp [Instr.mapUpdate, run_underlying ht, MapKept.run_getObj_map hb, K.check w _ hx, hf, hi', K.stays w hx, MapKept.run_setObj_map _ hb, Result.andThen, setB]
theorem run_strikeS (ty : TypeId) (K : KL P k ok) (ht : P.underlying t = some (.map k e)) (hb : MapB w b es clock) (hx : ok x) (hall : ∀ y ∈ es.toList, ok y.key) (hap : KAp es.toList) {i : Nat} {y : MapEntry} (hi : es.toList[i]? = some y) (hy : y.key = x) :
    (Builtin.delete_ #[t, k] ty #[.map (some b), x]).run P w = .ok (.tuple #[]) (setB w b (.map (es.eraseIdxIfInBounds i) clock)) := by
  unfold MapB at hb
  have hf := find_some (P := P) (w := w) K hx hall hap hi hy
  simp [Builtin.delete_, run_underlying ht, MapKept.run_getObj_map hb, K.check w _ hx, hf, MapKept.run_setObj_map _ hb, Result.andThen, setB]
end

theorem run_lenM {P : Program} {t k e ty : TypeId} {w : World} {b clock : Nat} {es : Array MapEntry} (ht : P.underlying t = some (.map k e)) (hb : MapB w b es clock) : (Builtin.len_ #[t] ty #[.map (some b)]).run P w = .ok (.int .i64 (es.size : Int)) w := by
  unfold MapB at hb
  simp [Builtin.len_, run_underlying ht, MapKept.run_getObj_map hb, Result.andThen]
  rfl

/-! ### A range over a map that stays as it is -/
/-- the entries met so far, each once -/
def ItM (w : World) (r m clock : Nat) (V : List MapEntry) : Prop := ∃ c0, IterB w r m clock (V.map MapEntry.born).toArray c0 ∧ clock ≤ c0
theorem ItM.lt {w : World} {r m clock : Nat} {V : List MapEntry} (h : ItM w r m clock V) : r < w.heap.size := h.choose_spec.1.lt
theorem IterB.chg2 {T : Nat → Prop} {w w' : World} {r m since c0 : Nat} {seen : Array Nat} (h : IterB w r m since seen c0) (hc : Chg T w w') (hn : ¬ T r) : IterB w' r m since seen c0 := (hc.block r h.lt hn).trans h
theorem ItM.chg {T : Nat → Prop} {w w' : World} {r m clock : Nat} {V : List MapEntry} (h : ItM w r m clock V) (hc : Chg T w w') (hn : ¬ T r) : ItM w' r m clock V := by
  obtain ⟨c0, h1, h2⟩ := h
  exact ⟨c0, h1.chg2 hc hn, h2⟩
structure BAp (es : List MapEntry) (clock : Nat) : Prop where
  nd : (es.map MapEntry.born).Nodup
  old : ∀ x ∈ es, x.born < clock
structure PartM (V es : List MapEntry) : Prop where
  sub : ∀ f ∈ V, f ∈ es
  nd : V.Nodup
theorem PartM.nil (es : List MapEntry) : PartM [] es := ⟨fun f h => (by cases h), List.nodup_nil⟩
theorem born_uniq {es : List MapEntry} (h : (es.map MapEntry.born).Nodup) {f g : MapEntry} (hf : f ∈ es) (hg : g ∈ es) (e : f.born = g.born) : f = g := by
  obtain ⟨i, hi⟩ := List.getElem?_of_mem hf
  obtain ⟨j, hj⟩ := List.getElem?_of_mem hg
  have hi2 : (es.map MapEntry.born)[i]? = some f.born := by rw [List.getElem?_map, hi]; rfl
  have hj2 : (es.map MapEntry.born)[j]? = some g.born := by rw [List.getElem?_map, hj]; rfl
  obtain ⟨hil, hie⟩ := List.getElem?_eq_some_iff.1 hi2
  obtain ⟨hjl, hje⟩ := List.getElem?_eq_some_iff.1 hj2
  have hij : i = j := (List.getElem_inj h).1 (by rw [hie, hje, e])
  subst hij
  rw [hi] at hj
  injection hj
theorem nodup_es {es : List MapEntry} (h : (es.map MapEntry.born).Nodup) : es.Nodup := (List.pairwise_map.1 h).imp fun h e => h (by rw [e])
theorem subM_len : ∀ (V E : List MapEntry), V.Nodup → (∀ f ∈ V, f ∈ E) → V.length ≤ E.length
  | [], E, _, _ => by simp
  | a :: V, E, h, hs => by
    obtain ⟨s, t, rfl⟩ := List.append_of_mem (hs a (by simp))
    obtain ⟨h1, h2⟩ := List.nodup_cons.1 h
    have := subM_len V (s ++ t) h2 (fun f hf => by
      have h3 := hs f (by simp [hf])
      simp only [List.mem_append, List.mem_cons] at h3 ⊢
      rcases h3 with h3 | rfl | h3
      · exact .inl h3
      · exact absurd hf h1
      · exact .inr h3)
    simp only [List.length_append, List.length_cons] at this ⊢
    omega
theorem PartM.le {V es : List MapEntry} (h : PartM V es) : V.length ≤ es.length := subM_len V es h.nd h.sub
theorem mem_leftM {V es : List MapEntry} (h : PartM V es) (hb : (es.map MapEntry.born).Nodup) (x : MapEntry) : x ∈ (leftOf es.toArray (V.map MapEntry.born).toArray).toList ↔ x ∈ es ∧ x ∉ V := by
  unfold leftOf
  simp only [Array.toList_filter, List.mem_filter]
  constructor
  · rintro ⟨hx, h2⟩
    refine ⟨hx, fun hV => ?_⟩
    simp at h2
    exact h2 x hV rfl
  · rintro ⟨hx, hV⟩
    refine ⟨hx, ?_⟩
    simp
    exact fun g hg e => hV (born_uniq hb (h.sub g hg) hx e ▸ hg)
theorem itm_start {w : World} {m clock : Nat} : ItM (w.alloc (.mapIter (some m) clock #[] clock)) w.heap.size m clock [] := ⟨clock, heap_alloc_new w _, Nat.le_refl _⟩
/-- the next entry, or none is left -/
theorem itm_next {P : Program} {w : World} {m clock r : Nat} {es V : List MapEntry} (hm : MapB w m es.toArray clock) (hbo : BAp es clock) (hi : ItM w r m clock V) (hp : PartM V es) :
    (V.Perm es ∧ ∀ ty, (Instr.next (.pointer (some ⟨r, 0, none⟩)) false ty).run P w = .ok (.tuple #[.bool false]) w) ∨
    ∃ f ∈ es, f ∉ V ∧ PartM (V ++ [f]) es ∧ ∃ w1 : World, Chg (fun k => k = r) w w1 ∧ w1.heap.size = w.heap.size ∧ (∀ ty, (Instr.next (.pointer (some ⟨r, 0, none⟩)) false ty).run P w = .ok (.tuple #[.bool true, f.key, f.val]) w1) ∧
      ItM w1 r m clock (V ++ [f]) ∧ MapB w1 m es.toArray clock ∧ (Instr.entry (.pointer (some ⟨r, 0, none⟩))).run P w1 = .ok (.tuple #[f.key, f.val]) w1 := by
  obtain ⟨c0, hi, hc0⟩ := hi
  have hold : ∀ x ∈ (es.toArray).toList, x.born < clock := fun x hx => hbo.old x (by simpa using hx)
  have key := fun ty => run_next_at (P := P) w ty r m clock c0 (V.map MapEntry.born).toArray es.toArray clock hi hm hold hc0
  by_cases h0 : (leftOf es.toArray (V.map MapEntry.born).toArray).size = 0
  · left
    refine ⟨(List.perm_ext_iff_of_nodup hp.nd (nodup_es hbo.nd)).2 fun f => ⟨hp.sub f, fun hf => ?_⟩, fun ty => ?_⟩
    · by_cases hV : f ∈ V
      · exact hV
      · have := (mem_leftM hp hbo.nd f).2 ⟨hf, hV⟩
        rw [Array.eq_empty_of_size_eq_zero h0] at this
        simp at this
    · rcases key ty with ⟨_, h1⟩ | ⟨e, he, _⟩
      · exact h1
      · rw [Array.eq_empty_of_size_eq_zero h0] at he
        simp at he
  · right
    rcases key 0 with ⟨h1, _⟩ | ⟨f, he, w1, hw1, hrun⟩
    · exact absurd h1 h0
    obtain ⟨hf, hV⟩ := (mem_leftM hp hbo.nd f).1 he
    have hr1 : r < w1.heap.size := by rcases hw1 with rfl | rfl <;> exact hi.lt
    have hw1s : w1.heap.size = w.heap.size := by rcases hw1 with rfl | rfl <;> rfl
    have hc1 : Chg (fun k => k = r) w w1 := by rcases hw1 with rfl | rfl; exact Chg.refl _ _; exact (Chg.refl _ _).drew
    have hc2 : Chg (fun k => k = r) w (setB w1 r (.mapIter (some m) clock ((V.map MapEntry.born).toArray.push f.born) clock)) := Chg.setB (S := fun k => k = r) hc1 (.inr rfl) _
    have hi2 : ItM (setB w1 r (.mapIter (some m) clock ((V.map MapEntry.born).toArray.push f.born) clock)) r m clock (V ++ [f]) := ⟨clock, by
      rw [show ((V ++ [f]).map MapEntry.born).toArray = (V.map MapEntry.born).toArray.push f.born by simp]
      exact setB_here hr1 _, Nat.le_refl _⟩
    have hrm : r ≠ m := fun e => by
      subst e
      have := Eq.trans (Eq.symm hi) hm
      cases this
    have hm2 := hm.chg hc2 (fun e => hrm e.symm)
    refine ⟨f, hf, hV, ⟨fun g hg => ?_, ?_⟩, _, hc2, by rw [setB_size]; exact hw1s, fun ty => hrun, hi2, hm2, ?_⟩
    · rcases List.mem_append.1 hg with hg | hg
      · exact hp.sub g hg
      · obtain rfl : g = f := by simpa using hg
        exact hf
    · rw [List.nodup_append]
      refine ⟨hp.nd, by simp, fun a ha b hb => ?_⟩
      obtain rfl : b = f := by simpa using hb
      exact fun e => hV (e ▸ ha)
    · exact run_entry_at (P := P) _ r m clock (V.map MapEntry.born).toArray es.toArray clock f (setB_here hr1 _) hm2 (by simpa using hf) (by simpa using hbo.nd)
theorem Own.ne_iterM {w : World} {base : Nat} {t : TypeId} {sz n c r m clock : Nat} {A : Option Addr} {cs : List Value} {V : List MapEntry} (h : Own w base t sz A n c cs) (hi : ItM w r m clock V) : ∀ ad, A = some ad → ad.block ≠ r := by
  rintro ad rfl
  obtain ⟨c0, hi, _⟩ := hi
  rcases h.2 with ⟨e, h3⟩ | ⟨g', cap, cur, e', hb', hg, rest⟩
  · cases e
  · injection e' with e1 e2 e3
    injection e1 with e1
    subst e1
    rintro rfl
    have := Eq.trans (Eq.symm hi) hg
    cases this
theorem ItM.size {w : World} {r m clock : Nat} {V : List MapEntry} (h : ItM w r m clock V) (n : Nat) : (match w.heap[r]? with | some (.mapIter _ _ seen _) => n - seen.size | _ => 0) = n - V.length := by
  obtain ⟨c0, h1, _⟩ := h
  unfold IterB at h1
  rw [h1]
  simp
end Go.Proofs.YtailooldnelecaaGreatDoor

namespace Go.Proofs.YtailooldnelecaaGreatDoor

/-- a number's bytes, seven bits each, the lowest first -/
def uv (v : Nat) : List UInt8 := if v < 128 then [UInt8.ofNat v] else UInt8.ofNat (v % 128 + 128) :: uv (v / 128)
termination_by v
decreasing_by omega
theorem uv_small {v : Nat} (h : v < 128) : uv v = [UInt8.ofNat v] := by rw [uv, if_pos h]
theorem uv_big {v : Nat} (h : ¬ v < 128) : uv v = UInt8.ofNat (v % 128 + 128) :: uv (v / 128) := by rw [uv, if_neg h]
theorem uv_ne (v : Nat) : uv v ≠ [] := by
  by_cases h : v < 128
  · rw [uv_small h]; simp
  · rw [uv_big h]; simp
theorem uv_len (n : Nat) : ∀ v, v < 128 ^ (n + 1) → (uv v).length ≤ n + 1 := by
  induction n with
  | zero => intro v h; rw [uv_small (by omega)]; simp
  | succ n ih =>
    intro v h
    by_cases hv : v < 128
    · rw [uv_small hv]; simp
    · rw [uv_big hv]
      have := ih (v / 128) (by rw [Nat.pow_succ] at h; omega)
      simp
      omega
theorem uv_len10 {v : Nat} (h : v < 18446744073709551616) : (uv v).length ≤ 10 := uv_len 9 v (by omega)
theorem uv_len1 (v : Nat) : 1 ≤ (uv v).length := by
  have := uv_ne v
  rcases hl : uv v with _ | ⟨a, r⟩
  · exact absurd hl this
  · simp

/-- the signed numbers as numbers: 0, -1, 1, -2 .. -/
def zz (x : Int) : Nat := if 0 ≤ x then 2 * x.toNat else 2 * (-(x + 1)).toNat + 1
def uz (v : Nat) : Int := if v % 2 = 0 then ((v / 2 : Nat) : Int) else -((v / 2 : Nat) : Int) - 1
theorem uz_zz (x : Int) : uz (zz x) = x := by unfold uz zz; split <;> split <;> omega
theorem zz_uz (v : Nat) : zz (uz v) = v := by unfold uz zz; split <;> split <;> omega
theorem zz_lt {x : Int} (h1 : -9223372036854775808 ≤ x) (h2 : x ≤ 9223372036854775807) : zz x < 18446744073709551616 := by unfold zz; split <;> omega
theorem uz_ge {v : Nat} (h : v < 18446744073709551616) : -9223372036854775808 ≤ uz v ∧ uz v ≤ 9223372036854775807 := by unfold uz; split <;> omega

/-- reading a number: what it is, how many bytes it has, and the error -/
def ur : List UInt8 → Nat → Nat → Nat × Nat × Nat
  | [], _, _ => (0, 0, 20)
  | c :: r, k, a => if (k = 9 ∧ 1 < c.toNat) ∨ (0 < k ∧ c.toNat = 0) then (0, 0, 21) else if c.toNat < 128 then (a + c.toNat * 2 ^ (7 * k), k + 1, 0) else ur r (k + 1) (a + c.toNat % 128 * 2 ^ (7 * k))
/-- the same from a place of some bytes on, with the place behind it -/
def uintR (l : List UInt8) (at_ : Int) : Nat × Nat × Nat :=
  if 0 ≤ at_ ∧ at_ ≤ l.length then (if (ur (l.drop at_.toNat) 0 0).2.2 = 0 then ((ur (l.drop at_.toNat) 0 0).1, at_.toNat + (ur (l.drop at_.toNat) 0 0).2.1, 0) else (0, 0, (ur (l.drop at_.toNat) 0 0).2.2)) else (0, 0, 20)

theorem ofNat_toNat {v : Nat} (h : v < 256) : (UInt8.ofNat v).toNat = v := by rw [UInt8.toNat_ofNat']; exact Nat.mod_eq_of_lt h

theorem ur_uv (r : List UInt8) : ∀ v k a, (k = 0 ∨ 0 < v) → v * 2 ^ (7 * k) < 18446744073709551616 → k ≤ 9 → ur (uv v ++ r) k a = (a + v * 2 ^ (7 * k), k + (uv v).length, 0) := by
  intro v
  induction v using Nat.strongRecOn with
  | _ v ih =>
    intro k a h0 h1 hk
    have h9 : k = 9 → v < 2 := by
      rintro rfl
      rw [show 2 ^ (7 * 9) = 9223372036854775808 from rfl] at h1
      omega
    by_cases hv : v < 128
    · rw [uv_small hv]
      show ur (UInt8.ofNat v :: r) k a = _
      unfold ur
      rw [ofNat_toNat (by omega), if_neg (by omega), if_pos hv]
      rfl
    · rw [uv_big hv]
      show ur (UInt8.ofNat (v % 128 + 128) :: (uv (v / 128) ++ r)) k a = _
      unfold ur
      rw [ofNat_toNat (by omega), if_neg (by omega), if_neg (by omega)]
      have e1 : 2 ^ (7 * (k + 1)) = 2 ^ (7 * k) * 128 := by rw [show 7 * (k + 1) = 7 * k + 7 from by omega, Nat.pow_add]
      have e2 : v / 128 * 2 ^ (7 * (k + 1)) = v / 128 * 128 * 2 ^ (7 * k) := by rw [e1, Nat.mul_comm (2 ^ (7 * k)), Nat.mul_assoc]
      have e3 : v * 2 ^ (7 * k) = (v % 128) * 2 ^ (7 * k) + v / 128 * 128 * 2 ^ (7 * k) := by rw [← Nat.add_mul]; congr 1; omega
      rw [ih (v / 128) (by omega) (k + 1) _ (.inr (by omega)) (by rw [e2]; omega) (by omega)]
      rw [show (v % 128 + 128) % 128 = v % 128 from by omega, e2, e3]
      simp
      omega

theorem ur_err (r : List UInt8) : ∀ k a, (ur r k a).2.2 = 0 ∨ (ur r k a).2.2 = 20 ∨ (ur r k a).2.2 = 21 := by
  induction r with
  | nil => intro k a; right; left; rfl
  | cons c r ih =>
    intro k a
    unfold ur
    split
    · right; right; rfl
    · split
      · left; rfl
      · exact ih _ _
theorem ur_bad (r : List UInt8) : ∀ k a, (ur r k a).2.2 ≠ 0 → (ur r k a).1 = 0 ∧ (ur r k a).2.1 = 0 := by
  induction r with
  | nil => intro k a _; exact ⟨rfl, rfl⟩
  | cons c r ih =>
    intro k a
    unfold ur
    split
    · intro _; exact ⟨rfl, rfl⟩
    · split
      · intro h; exact absurd rfl h
      · exact ih _ _
/-- what is read has just those bytes -/
theorem ur_back (r : List UInt8) : ∀ k a, k ≤ 9 → (ur r k a).2.2 = 0 → ∃ v, (ur r k a).1 = a + v * 2 ^ (7 * k) ∧ (ur r k a).2.1 = k + (uv v).length ∧ r.take (uv v).length = uv v ∧ (uv v).length ≤ r.length ∧ (k = 0 ∨ 0 < v) ∧ v * 2 ^ (7 * k) < 18446744073709551616 := by
  induction r with
  | nil => intro k a _ h; cases h
  | cons c r ih =>
    intro k a hk
    have hc := c.toNat_lt
    unfold ur
    split
    · intro h; cases h
    · rename_i h1
      split
      · rename_i h2
        intro _
        have e0 : UInt8.ofNat c.toNat = c := UInt8.toNat_inj.1 (by rw [ofNat_toNat hc])
        refine ⟨c.toNat, rfl, by rw [uv_small h2]; rfl, by rw [uv_small h2, e0]; rfl, by rw [uv_small h2]; simp, by omega, ?_⟩
        by_cases h9 : k = 9
        · subst h9
          rw [show 2 ^ (7 * 9) = 9223372036854775808 from rfl]
          omega
        · have hp : 2 ^ (7 * k) ≤ 2 ^ 56 := Nat.pow_le_pow_right (by omega) (by omega)
          have : c.toNat * 2 ^ (7 * k) ≤ 127 * 2 ^ 56 := Nat.mul_le_mul (by omega) hp
          omega
      · rename_i h2
        intro h
        have hk9 : k ≠ 9 := by omega
        obtain ⟨v, e1, e2, e3, e4, e5, e6⟩ := ih (k + 1) _ (by omega) h
        have hv0 : 0 < v := by omega
        have hv : ¬ (c.toNat % 128 + v * 128 < 128) := by omega
        have hm : (c.toNat % 128 + v * 128) % 128 = c.toNat % 128 := by omega
        have hd : (c.toNat % 128 + v * 128) / 128 = v := by omega
        have hcc : UInt8.ofNat (c.toNat % 128 + 128) = c := UInt8.toNat_inj.1 (by rw [ofNat_toNat (by omega)]; omega)
        have hu : uv (c.toNat % 128 + v * 128) = c :: uv v := by rw [uv_big hv, hm, hd, hcc]
        have p1 : 2 ^ (7 * (k + 1)) = 2 ^ (7 * k) * 128 := by rw [show 7 * (k + 1) = 7 * k + 7 from by omega, Nat.pow_add]
        have p2 : v * 2 ^ (7 * (k + 1)) = v * 128 * 2 ^ (7 * k) := by rw [p1, Nat.mul_comm (2 ^ (7 * k)), Nat.mul_assoc]
        have p3 : (c.toNat % 128 + v * 128) * 2 ^ (7 * k) = c.toNat % 128 * 2 ^ (7 * k) + v * 128 * 2 ^ (7 * k) := Nat.add_mul _ _ _
        refine ⟨c.toNat % 128 + v * 128, by rw [e1, p2, p3]; omega, by rw [e2, hu]; simp; omega, by rw [hu]; simp [e3], by rw [hu]; simp; omega, .inr (by omega), ?_⟩
        have hq : 0 < 2 ^ (7 * k) := Nat.two_pow_pos _
        have hk8 : k ≤ 8 := by omega
        -- the number below fits, with its lowest digit
        rw [p2] at e6
        rw [p3]
        have hp : 2 ^ (7 * k) ∣ 18446744073709551616 := by
          have : (18446744073709551616 : Nat) = 2 ^ (7 * k) * 2 ^ (64 - 7 * k) := by rw [← Nat.pow_add, show 7 * k + (64 - 7 * k) = 64 from by omega]
          exact ⟨_, this⟩
        obtain ⟨q, hq2⟩ := hp
        rw [hq2, Nat.mul_comm (2 ^ (7 * k)) q] at e6 ⊢
        have h128 : ∃ t, q = 128 * t ∨ k = 9 := by
          by_cases h : k ≤ 8
          · have : (18446744073709551616 : Nat) = 2 ^ (7 * k) * (128 * 2 ^ (57 - 7 * k)) := by
              rw [show (128 : Nat) = 2 ^ 7 from rfl, ← Nat.pow_add, ← Nat.pow_add, show 7 * k + (7 + (57 - 7 * k)) = 64 from by omega]
            rw [this] at hq2
            exact ⟨2 ^ (57 - 7 * k), .inl (Nat.eq_of_mul_eq_mul_left hq hq2).symm⟩
          · exact ⟨0, .inr (by omega)⟩
        obtain ⟨t, rfl | h⟩ := h128
        · have h3 : v * 128 < 128 * t := Nat.lt_of_mul_lt_mul_right e6
          rw [← Nat.add_mul]
          exact Nat.mul_lt_mul_of_pos_right (by omega) hq
        · omega
end Go.Proofs.YtailooldnelecaaGreatDoor
