/-
  Several texts in one:
  A head's postings while a series is laid in. Conditions: none.
  append of a string's bytes onto a row of bytes of the call's own; a string out of bytes. Conditions: none; the two types' numbers are the program's.
-/
import Derived.Test.YtailooldnelecaaDoorPart16
import Derived.Test.YtailooldnelecaaDoorPart15

namespace Go.Proofs.YtailooldnelecaaDoor
open Go.RowKit

/-- the postings alone -/
structure PT (S : Nat → Prop) (w : World) (p : Nat) (PL : List PEnt) (cp : Nat) : Prop where
  mp : MapB w p (PL.map PEnt.ent).toArray cp
  pok : ∀ q ∈ PL, q.Ok S w cp
  pap : PL.Pairwise PAp
  pb : ∀ q ∈ PL, q.q ≠ p

theorem pairwise_set {α : Type} {R : α → α → Prop} (hsym : ∀ a b, R a b → R b a) : ∀ {l : List α} {i : Nat} {x y : α}, l.Pairwise R → l[i]? = some x → (∀ j z, j ≠ i → l[j]? = some z → R z y) → (l.set i y).Pairwise R
  | a :: l, 0, x, y, h, _, hy => by
    rw [List.set_cons_zero]
    refine List.Pairwise.cons (fun z hz => ?_) (List.pairwise_cons.1 h).2
    obtain ⟨j, hj⟩ := List.getElem?_of_mem hz
    exact hsym _ _ (hy (j + 1) z (by omega) (by simpa using hj))
  | a :: l, i + 1, x, y, h, hi, hy => by
    rw [List.set_cons_succ]
    have h1 := List.pairwise_cons.1 h
    refine List.Pairwise.cons (fun z hz => ?_) (pairwise_set hsym h1.2 (by simpa using hi) fun j z hj hz => hy (j + 1) z (by omega) (by simpa using hz))
    rcases List.mem_or_eq_of_mem_set hz with hz | rfl
    · exact h1.1 z hz
    · exact hy 0 a (by omega) rfl
theorem mem_set {α : Type} {l : List α} {i : Nat} {y z : α} (h : z ∈ l.set i y) : z = y ∨ ∃ j, j ≠ i ∧ l[j]? = some z := by
  obtain ⟨j, hj⟩ := List.getElem?_of_mem h
  rw [List.getElem?_set] at hj
  by_cases e : i = j
  · rw [if_pos e] at hj
    split at hj
    · exact .inl (by simpa using hj.symm)
    · cases hj
  · rw [if_neg e] at hj
    exact .inr ⟨j, Ne.symm e, hj⟩
theorem pap_at {PL : List PEnt} (h : PL.Pairwise PAp) {i j : Nat} {a b : PEnt} (ha : PL[i]? = some a) (hb : PL[j]? = some b) (hne : i ≠ j) : PAp a b := by
  obtain ⟨h1, rfl⟩ := List.getElem?_eq_some_iff.1 ha
  obtain ⟨h2, rfl⟩ := List.getElem?_eq_some_iff.1 hb
  rcases Nat.lt_or_gt_of_ne hne with e | e
  · exact List.pairwise_iff_getElem.1 h i j h1 h2 e
  · exact (List.pairwise_iff_getElem.1 h j i h2 h1 e).symm

section
variable {S S' T : Nat → Prop} {w w' : World} {p : Nat} {PL : List PEnt} {cp : Nat}
theorem TB.pt {b : Nat} {L : List HEnt} {cb : Nat} (h : TB S w b p L cb PL cp) : PT S w p PL cp := ⟨h.mp, h.pok, h.pap, fun q hq => (h.pb q hq).2⟩
theorem PT.chg (h : PT S w p PL cp) (hc : Chg T w w') (hp : ¬ T p) (hT : ∀ q ∈ PL, ¬ T q.q) : PT S w' p PL cp :=
  ⟨h.mp.chg hc hp, fun q hq => (h.pok q hq).chg hc (hT q hq) (Nat.le_refl _), h.pap, h.pb⟩
theorem PT.grew (h : PT S w p PL cp) (hc : Grew w w') : PT S w' p PL cp := h.chg hc (fun e => e) fun _ _ e => e
theorem PT.mono (h : PT S w p PL cp) (hs : ∀ k, S k → S' k) : PT S' w p PL cp := ⟨h.mp, fun q hq => (h.pok q hq).mono hs, h.pap, h.pb⟩
theorem PT.lst (h : PT S w p PL cp) : ∀ y ∈ (PL.map PEnt.ent).toArray.toList, ∃ l, y.key = lbK l ∧ SzL l := fun y hy => by
  obtain ⟨e, he, rfl⟩ := List.mem_map.1 (by simpa using hy)
  exact ⟨e.l, rfl, (h.pok e he).sz⟩
theorem PT.lap (h : PT S w p PL cp) : KAp (PL.map PEnt.ent).toArray.toList := by
  show List.Pairwise _ _
  exact List.Pairwise.map _ (fun a b h e => h.l (lbK_inj e)) h.pap
theorem PT.askN (h : PT S w p PL cp) {l : Lab} (hz : SzL l) (hs : ∀ q ∈ PL, q.l ≠ l) : (Instr.lookup 55 (.map (some p)) (lbK l) false).run Tryd.prog w = .ok (.map none) w :=
  run_lookN klL Tryd.underlying55 (run_zeroMap w) h.mp ⟨l, rfl, hz⟩ h.lst fun y hy e => by
    obtain ⟨x, hx, rfl⟩ := List.mem_map.1 (by simpa using hy)
    exact hs x hx (lbK_inj e)
theorem PT.askS (h : PT S w p PL cp) {q : PEnt} (hq : q ∈ PL) : (Instr.lookup 55 (.map (some p)) (lbK q.l) false).run Tryd.prog w = .ok (.map (some q.q)) w := by
  obtain ⟨i, hi⟩ := List.getElem?_of_mem hq
  exact run_lookS (y := q.ent) klL Tryd.underlying55 h.mp ⟨q.l, rfl, (h.pok q hq).sz⟩ h.lst h.lap (i := i) (by simp [hi]) rfl
/-- a label that was not there -/
theorem PT.lay (h : PT S w p PL cp) {l : Lab} (hz : SzL l) (hs : ∀ q ∈ PL, q.l ≠ l) (m : Nat) : (Instr.mapUpdate 55 (.map (some p)) (lbK l) (.map (some m))).run Tryd.prog w = .ok () (setB w p (.map ((PL.map PEnt.ent).toArray.push ⟨lbK l, .map (some m), cp⟩) (cp + 1))) :=
  run_putN klL Tryd.underlying55 h.mp _ ⟨l, rfl, hz⟩ h.lst fun y hy e => by
    obtain ⟨x, hx, rfl⟩ := List.mem_map.1 (by simpa using hy)
    exact hs x hx (lbK_inj e)
theorem PT.addN (h : PT S w p PL cp) {l : Lab} (hz : SzL l) (hs : ∀ q ∈ PL, q.l ≠ l) {m c : Nat} (hm : MapB w m #[] c) (hmp : m ≠ p) (hmq : ∀ q ∈ PL, q.q ≠ m) (hS : S m) :
    PT S (setB w p (.map ((PL.map PEnt.ent).toArray.push ⟨lbK l, .map (some m), cp⟩) (cp + 1))) p (PL ++ [⟨l, m, cp, [], c⟩]) (cp + 1) := by
  refine ⟨?_, fun q hq => ?_, ?_, fun q hq => ?_⟩
  · have := h.mp.set ((PL.map PEnt.ent).toArray.push ⟨lbK l, .map (some m), cp⟩) (cp + 1)
    simpa [PEnt.ent, lbK] using this
  · rcases List.mem_append.1 hq with hq | hq
    · have := h.pok q hq
      exact ⟨this.mb.setB (h.pb q hq) _, this.oq, this.kap, this.kst, this.bap, by have := this.born; omega, this.sz⟩
    · obtain rfl := List.mem_singleton.1 hq
      exact ⟨hm.setB hmp _, hS, List.Pairwise.nil, fun y hy => (by cases hy), ⟨List.nodup_nil, fun y hy => (by cases hy)⟩, Nat.lt_succ_self _, hz⟩
  · refine List.pairwise_append.2 ⟨h.pap, List.pairwise_singleton _ _, fun a ha b hb => ?_⟩
    obtain rfl := List.mem_singleton.1 hb
    exact ⟨hs a ha, hmq a ha, fun e => by have := (h.pok a ha).born; dsimp only at e; omega⟩
  · rcases List.mem_append.1 hq with hq | hq
    · exact h.pb q hq
    · obtain rfl := List.mem_singleton.1 hq
      exact hmp
/-- a key into a label's entry -/
theorem PT.inN (h : PT S w p PL cp) {q : PEnt} (hq : q ∈ PL) {s : ByteArray} (hs : ∀ y ∈ q.es, y.key ≠ .string s) : (Instr.lookup 79 (.map (some q.q)) (.string s) false).run Tryd.prog w = .ok (.int .i64 0) w :=
  run_lookN klS Tryd.underlying79 (run_zeroInt w) (h.pok q hq).mb ⟨s, rfl⟩ (by simpa using (h.pok q hq).kst) (by simpa using hs)
theorem PT.inP (h : PT S w p PL cp) {q : PEnt} (hq : q ∈ PL) {s : ByteArray} (hs : ∀ y ∈ q.es, y.key ≠ .string s) (v : Value) : (Instr.mapUpdate 79 (.map (some q.q)) (.string s) v).run Tryd.prog w = .ok () (setB w q.q (.map (q.es.toArray.push ⟨.string s, v, q.c⟩) (q.c + 1))) :=
  run_putN klS Tryd.underlying79 (h.pok q hq).mb v ⟨s, rfl⟩ (by simpa using (h.pok q hq).kst) (by simpa using hs)
def PEnt.plus (q : PEnt) (s : ByteArray) (v : Value) : PEnt := { q with es := q.es ++ [⟨.string s, v, q.c⟩], c := q.c + 1 }
theorem PT.putN (h : PT S w p PL cp) {i : Nat} {q : PEnt} (hi : PL[i]? = some q) {s : ByteArray} (hs : ∀ y ∈ q.es, y.key ≠ .string s) (v : Value) :
    PT S (setB w q.q (.map (q.es.toArray.push ⟨.string s, v, q.c⟩) (q.c + 1))) p (PL.set i (q.plus s v)) cp := by
  have hq := List.mem_of_getElem? hi
  have hk := h.pok q hq
  refine ⟨?_, fun x hx => ?_, pairwise_set (fun _ _ h => h.symm) h.pap hi fun j z hj hz => ?_, fun x hx => ?_⟩
  · have := h.mp.setB (Ne.symm (h.pb q hq)) (.map (q.es.toArray.push ⟨.string s, v, q.c⟩) (q.c + 1))
    have e : (PL.set i (q.plus s v)).map PEnt.ent = PL.map PEnt.ent := by
      rw [List.map_set]
      refine List.ext_getElem? fun j => ?_
      rw [List.getElem?_set]
      split
      · rename_i e
        subst e
        split
        · simp [hi, PEnt.plus, PEnt.ent]
        · rename_i h1
          simp at h1
          simp [h1]
      · rfl
    rw [e]
    exact this
  · rcases mem_set hx with rfl | ⟨j, hj, hz⟩
    · refine ⟨?_, hk.oq, ?_, ?_, ⟨?_, ?_⟩, hk.born, hk.sz⟩
      · have := hk.mb.set (q.es.toArray.push ⟨.string s, v, q.c⟩) (q.c + 1)
        simpa [PEnt.plus] using this
      · exact List.pairwise_append.2 ⟨hk.kap, List.pairwise_singleton _ _, fun a ha b hb => by
          obtain rfl := List.mem_singleton.1 hb
          exact hs a ha⟩
      · intro y hy
        rcases List.mem_append.1 hy with hy | hy
        · exact hk.kst y hy
        · obtain rfl := List.mem_singleton.1 hy
          exact ⟨s, rfl⟩
      · show ((q.es ++ [_]).map MapEntry.born).Nodup
        rw [List.map_append]
        refine List.nodup_append.2 ⟨hk.bap.nd, by simp, fun a ha b hb => ?_⟩
        obtain ⟨y, hy, rfl⟩ := List.mem_map.1 ha
        have h1 := hk.bap.old y hy
        have h2 : b = q.c := by simpa using hb
        omega
      · intro y hy
        rcases List.mem_append.1 hy with hy | hy
        · have := hk.bap.old y hy
          show y.born < q.c + 1
          omega
        · obtain rfl := List.mem_singleton.1 hy
          exact Nat.lt_succ_self _
    · have hx2 := h.pok x (List.mem_of_getElem? hz)
      exact ⟨hx2.mb.setB (pap_at h.pap hz hi hj).q _, hx2.oq, hx2.kap, hx2.kst, hx2.bap, hx2.born, hx2.sz⟩
  · have := pap_at h.pap hz hi hj
    exact ⟨this.l, this.q, this.born⟩
  · rcases mem_set hx with rfl | ⟨j, hj, hz⟩
    · exact h.pb q hq
    · exact h.pb x (List.mem_of_getElem? hz)
end
theorem inP_addN {PL : List PEnt} {l : Lab} {m c d : Nat} (l' : Lab) (s : ByteArray) : InP (PL ++ [⟨l, m, c, [], d⟩]) l' s ↔ InP PL l' s := by
  constructor
  · rintro ⟨q, hq, h1, y, hy, h2⟩
    rcases List.mem_append.1 hq with hq | hq
    · exact ⟨q, hq, h1, y, hy, h2⟩
    · obtain rfl := List.mem_singleton.1 hq
      cases hy
  · rintro ⟨q, hq, h⟩
    exact ⟨q, List.mem_append_left _ hq, h⟩
theorem inP_putN {PL : List PEnt} {i : Nat} {q : PEnt} (hi : PL[i]? = some q) {s : ByteArray} (v : Value) (l' : Lab) (s' : ByteArray) : InP (PL.set i (q.plus s v)) l' s' ↔ InP PL l' s' ∨ l' = q.l ∧ s' = s := by
  have hlt := (List.getElem?_eq_some_iff.1 hi).1
  have hin : q.plus s v ∈ PL.set i (q.plus s v) := List.mem_of_getElem? (i := i) (by rw [List.getElem?_set, if_pos rfl, if_pos hlt])
  constructor
  · rintro ⟨x, hx, h1, y, hy, h2⟩
    rcases mem_set hx with rfl | ⟨j, hj, hz⟩
    · rcases List.mem_append.1 hy with hy | hy
      · exact .inl ⟨q, List.mem_of_getElem? hi, h1, y, hy, h2⟩
      · obtain rfl := List.mem_singleton.1 hy
        injection h2 with h2
        exact .inr ⟨h1.symm, h2.symm⟩
    · exact .inl ⟨x, List.mem_of_getElem? hz, h1, y, hy, h2⟩
  · rintro (⟨x, hx, h1, y, hy, h2⟩ | ⟨rfl, rfl⟩)
    · obtain ⟨j, hj⟩ := List.getElem?_of_mem hx
      by_cases e : i = j
      · subst e
        obtain rfl : q = x := by rw [hi] at hj; injection hj
        exact ⟨_, hin, h1, y, List.mem_append_left _ hy, h2⟩
      · exact ⟨x, List.mem_of_getElem? (i := j) (by rw [List.getElem?_set, if_neg e]; exact hj), h1, y, hy, h2⟩
    · exact ⟨_, hin, rfl, _, List.mem_append_right _ (List.mem_singleton.2 rfl), rfl⟩
end Go.Proofs.YtailooldnelecaaDoor

namespace Go.Proofs.YtailooldnelecaaDoor
open Go.RowKit

section
variable {P : Program} (w : World)
theorem firstCells_str (s : ByteArray) : (Builtin.firstCells 1 s.size (.string s)).run P w = .ok ((s.data.toList.map byt).toArray) w := by
  simp only [Builtin.firstCells, Sem.run_pure]
  congr 1
  apply Array.ext'
  simp [byt]

theorem run_appS (t u ty e : TypeId) (i : TypeInfo) (z : Value) (ht : P.underlying t = some (.slice e)) (hu : P.underlying u = some .string) (hi : P.info? e = some i) (hz : i.zero = some z)
    (hsize : i.size = 1) (hby : i.bytes = 1) (hzs : z.cells.size = 1)
    (base : Nat) (A : Option Addr) (n c : Nat) (xs : List Value) (hown : Own w base e 1 A n c xs) (hbase : base ≤ w.heap.size)
    (s : ByteArray) (h63 : n + s.size ≤ maxLen) (hbytes : (n + s.size) * 1 ≤ 140737488355328) :
    ∃ A' c' w', (Builtin.append_ #[t, u] ty #[.slice A n c, .string s]).run P w = .ok (.slice A' (n + s.size) c') w' ∧ Apped w base e 1 A (n + s.size) c (xs ++ s.data.toList.map byt) A' c' w' := by
  have hl : (s.data.toList.map byt).length = s.size * 1 := by simp
  have hlen : (xs ++ s.data.toList.map byt).length = (n + s.size) * 1 := by rw [List.length_append, hown.len, hl, Nat.add_mul]
  have h1 := byt_one s.data.toList
  have hf : ∀ w : World, (Builtin.firstCells 1 s.size (.string s)).run P w = .ok ((s.data.toList.map byt).toArray) w := fun w => firstCells_str w s
  by_cases hroom : n + s.size ≤ c
  · rcases hown.2 with ⟨e', h3⟩ | ⟨g, cap, cur, e', hbg, hg, hnc, hcm, hcs, htake⟩
    · injection e' with e1 e2 e3
      subst e1; subst e3; subst h3
      have hn : s.data.toList.map byt = [] := List.eq_nil_of_length_eq_zero (by rw [hl]; omega)
      rw [hn]
      have h0 : s.size = 0 := by omega
      refine ⟨none, 0, w, ?_, by simpa [h0] using hown, Chg.refl _ _, .inl ⟨rfl, rfl, by omega, rfl⟩⟩
      have hf0 := hf w
      rw [hn, h0] at hf0
      simp [Builtin.append_, run_underlying ht, run_underlying hu, sizeOf, typeInfo, hi, hsize, Builtin.lenOf, hf0, h0]
    · injection e' with e1 e2 e3
      subst e1; subst e3
      have hfit : n * 1 + (s.data.toList.map byt).length ≤ cur.size := by rw [hl, hcs, ← Nat.add_mul]; exact Nat.mul_le_mul_right _ hroom
      have hst := run_storeCells_at P g (n * 1) e (s.data.toList.map byt) 0 cur w hg (by simpa using hfit) h1
      simp only [Nat.add_zero, Nat.mul_one] at hst
      refine ⟨some ⟨g, 0, none⟩, c, w.setRow g (cur.toList.take (n * 1) ++ s.data.toList.map byt ++ cur.toList.drop (n * 1 + (s.data.toList.map byt).length)).toArray, ?_, ⟨hlen, .inr ⟨g, c, _, rfl, hbg, setRow_heap w g cur _ e _ hg, hroom, hcm, ?_, ?_⟩⟩,
        ⟨rfl, rfl, rfl, by simp, fun k _ hk => setRow_other w g k _ (fun e => hk ⟨_, rfl, e⟩)⟩, .inl ⟨rfl, rfl, hroom, by simp⟩⟩
      · simp [Builtin.append_, run_underlying ht, run_underlying hu, sizeOf, typeInfo, hi, hsize, Builtin.lenOf, hroom, hf, Addr.add_lit]
        simp at hst
        rw [hst]
        simp
      · simp only [List.size_toArray, List.length_append, List.length_take, List.length_drop, Array.length_toList]
        omega
      · rw [htake, ← hlen]
        exact List.take_left
  · have hsmall : n + s.size ≤ 9223372036854775807 := by simp only [maxLen] at h63; omega
    have h63' : ¬ (9223372036854775807 < ((n : Int) + (s.size : Int))) := by omega
    have hgf := growslice_fits (old := c) (need := n + s.size) (bytes := 1) (by omega) hbytes
    have h48' : ¬ (281474976710656 < Builtin.nextslicecap (n + s.size) c) := by omega
    have hfo := firstCells_rd (P := P) w.drew 1 n c A xs hown.len hown.rd
    have hge := grownCap_ge w (n + s.size) c e
    have hcm : grownCap w (n + s.size) c e ≤ maxLen := grownCap_le_maxLen w (n + s.size) c e h63
    refine ⟨some ⟨w.heap.size, 0, none⟩, grownCap w (n + s.size) c e, w.drew.alloc (.cells (xs.toArray ++ (s.data.toList.map byt).toArray ++ Builtin.zeroCells z.cells (grownCap w (n + s.size) c e - (n + s.size))) e), ?_, ?_, ?_, .inr ⟨rfl, (Chg.refl _ w).drew.alloc _, by simp⟩⟩
    · have hfd := hf w.drew
      simp [Builtin.append_, run_underlying ht, run_underlying hu, sizeOf, typeInfo, zeroValue, hi, hz, hsize, hby, Builtin.lenOf, hroom, h63', h48', Question.forced, hfd, hfo, newRow, grownCap]
      congr 2
      apply Array.ext'
      simp [List.append_assoc]
    · refine ⟨hlen, .inr ⟨w.heap.size, _, _, rfl, hbase, heap_alloc_new w.drew _, hge, hcm, ?_, ?_⟩⟩
      · simp only [Array.size_append, List.size_toArray, size_zeroCells, hzs, hown.len, hl, ← Nat.add_mul]
        congr 1
        omega
      · simp only [Array.toList_append, List.append_assoc]
        rw [← List.append_assoc, ← hlen]
        exact List.take_left
    · exact (Chg.refl _ w).drew.alloc _
end

/-- append of a string onto a row of bytes of the call's own -/
theorem wpList_appS {ops : Array Oper} {rest : List Oper} {o : Oper} {a : Act} {w : World} {Q : Exit → Act → World → Prop} (hgd : o.guard = none) (s x : Operand)
    (ho : o.op = .call { callee := .builtin .append, args := #[s, x], argTypes := #[63, 9] })
    (base : Nat) (A : Option Addr) (n c : Nat) (l : List UInt8) (hs : a.eval s = .slice A n c) (hown : OB w base 5 A n c l) (hbase : base ≤ w.heap.size)
    (r : ByteArray) (hx : a.eval x = .string r) (hbytes : n + r.size ≤ 140737488355328)
    (h : ∀ A' c' w', ApB w base A (n + r.size) c (l ++ r.data.toList) A' c' w' → wpList Tryd.prog ops Q rest (a.put o.dst (.slice A' (n + r.size) c')) w') : wpList Tryd.prog ops Q (o :: rest) a w := by
  obtain ⟨i0, hi, hz0, hz1, hz2⟩ := info_parts infoU8
  obtain ⟨A', c', w', hrun, h2⟩ := run_appS (P := Tryd.prog) w 63 9 o.type 5 i0 (.int .u8 0) Tryd.underlying63 Tryd.underlying9 hi hz0 hz1 hz2 rfl base A n c _ hown hbase r (by unfold maxLen; omega) (by omega)
  refine wpList_plain hgd fun K hK => ?_
  unfold Oper.wp execOp
  simp only [ho, resolve, invoke, builtin, Sem.run_bind, Sem.run_pure, Result.andThen_ok, List.map_toArray, List.map_cons, List.map_nil, hs, hx, hrun]
  exact hK _ _ (h A' c' w' (by unfold ApB; rw [List.map_append]; exact h2))
end Go.Proofs.YtailooldnelecaaDoor
