/-
  Several texts in one:
  A region whose order is drawn, walked in the order of its text: whatever order is drawn, what the text's order comes to is come to. Conditions: a check of the region that the kernel runs; no program in sight.
  A region whose order is drawn, walked in the order of its text, as one whose order is not drawn: ahead of each comparison, sum and conversion stands a look at its operands (they are integers, or texts). Conditions: a check of the region that the kernel runs; no program in sight.
-/
import Derived.Test.YtjoaonppaokhhaaGreatPart4

namespace Go.Proofs.YtjoaonppaokhhaaGreat

section
variable {P : Program} {ops : Array Oper} {Q : Exit → Act → World → Prop} {tys : List (Nat × Nat)}

/-- one operation behind the other, with what their kinds say -/
def wpI (P : Program) (ops : Array Oper) (Q : Exit → Act → World → Prop) (tys : List (Nat × Nat)) : List Oper → Act → World → Prop
  | [], a, w => OnlyN Q .normal a w
  | o :: rest, a, w => Ok P tys ops o a ∧ Stp P ops Q o (wpI P ops Q tys rest) a w

def Apart2 (P : Program) (ops : Array Oper) (tys : List (Nat × Nat)) (oj oi : Oper) : Prop :=
  oj.apart ops oi = true ∧ (kindB P tys oj = 0 ∨ kindB P tys oi = 0 ∨ (kindB P tys oj = 1 ∧ kindB P tys oi = 1))

theorem wpI.front (hsel : ∀ o : Oper, o ∈ ops → ∀ cs b, o.op ≠ .select cs b) (oi : Oper) (hi : oi ∈ ops) (l2 : List Oper) : ∀ (l1 : List Oper) (a : Act) (w : World), (∀ oj ∈ l1, oj ∈ ops ∧ Apart2 P ops tys oj oi) →
    wpI P ops Q tys (l1 ++ oi :: l2) a w → Ok P tys ops oi a ∧ Stp P ops Q oi (wpI P ops Q tys (l1 ++ l2)) a w
  | [], a, w, _, h => h
  | oj :: l1, a, w, hp, h => by
    obtain ⟨hm, h1, h2⟩ := hp oj (by simp)
    have h3 : Stp P ops Q oj (fun a' w' => Ok P tys ops oi a' ∧ Stp P ops Q oi (wpI P ops Q tys (l1 ++ l2)) a' w') a w :=
      h.2.mono fun a' w' h' => wpI.front hsel oi hi l2 l1 a' w' (fun o ho => hp o (by simp [ho])) h'
    exact Stp.swap h1 (hsel _ hm) (hsel _ hi) h2 h.1 h3

/-! ### What comes ahead of what -/
def ancRow (t : Array Nat) (o : Oper) : Nat := o.after.toList.foldr (fun e s => if Region.binds .any e then (2 ^ e.on ||| t.getD e.on 0) ||| s else s) 0
def ancTab : List Oper → Array Nat → Array Nat
  | [], t => t
  | o :: l, t => ancTab l (t.push (ancRow t o))

def AncGood (ops : Array Oper) (t : Array Nat) : Prop := ∀ i, i < t.size → ∃ o, ops[i]? = some o ∧ ∀ j, (t.getD i 0).testBit j = true →
  ∃ e ∈ o.after.toList, Region.binds .any e = true ∧ (e.on = j ∨ (e.on < i ∧ (t.getD e.on 0).testBit j = true))

theorem ancRow_bit (t : Array Nat) (j : Nat) : ∀ (l : List Edge), (l.foldr (fun e s => if Region.binds .any e then (2 ^ e.on ||| t.getD e.on 0) ||| s else s) 0).testBit j = true →
    ∃ e ∈ l, Region.binds .any e = true ∧ (e.on = j ∨ (e.on < t.size ∧ (t.getD e.on 0).testBit j = true))
  | [], h => by simp at h
  | e :: l, h => by
    simp only [List.foldr_cons] at h
    by_cases hb : Region.binds .any e = true
    · rw [if_pos hb, Nat.testBit_or, Nat.testBit_or, Nat.testBit_two_pow] at h
      simp only [Bool.or_eq_true, decide_eq_true_eq] at h
      rcases h with (h | h) | h
      · exact ⟨e, by simp, hb, .inl h⟩
      · refine ⟨e, by simp, hb, .inr ⟨?_, h⟩⟩
        rcases Nat.lt_or_ge e.on t.size with h' | h'
        · exact h'
        · simp [Array.getElem?_eq_none h'] at h
      · obtain ⟨e', he, h2⟩ := ancRow_bit t j l h
        exact ⟨e', by simp [he], h2⟩
    · rw [if_neg hb] at h
      obtain ⟨e', he, h2⟩ := ancRow_bit t j l h
      exact ⟨e', by simp [he], h2⟩

theorem getD_push_lt (t : Array Nat) (x i : Nat) (h : i < t.size) : (t.push x).getD i 0 = t.getD i 0 := by
  simp [Array.getElem?_push, Nat.ne_of_lt h, h]

theorem ancTab_good : ∀ (l : List Oper) (t : Array Nat), (∀ j, l[j]? = ops[t.size + j]?) → AncGood ops t → AncGood ops (ancTab l t) ∧ (ancTab l t).size = t.size + l.length
  | [], t, _, h => ⟨h, rfl⟩
  | o :: l, t, hl, h => by
    have h0 : ops[t.size]? = some o := by simpa using (hl 0).symm
    have hg : AncGood ops (t.push (ancRow t o)) := by
      intro i hi
      rw [Array.size_push] at hi
      rcases Nat.lt_or_ge i t.size with hlt | hge
      · obtain ⟨o', ho, hb⟩ := h i hlt
        refine ⟨o', ho, fun j hj => ?_⟩
        rw [getD_push_lt _ _ _ hlt] at hj
        obtain ⟨e, he, hbi, h2⟩ := hb j hj
        refine ⟨e, he, hbi, h2.imp id fun ⟨h3, h4⟩ => ⟨h3, ?_⟩⟩
        rw [getD_push_lt _ _ _ (by omega)]
        exact h4
      · obtain rfl : i = t.size := by omega
        refine ⟨o, h0, fun j hj => ?_⟩
        have e1 : (t.push (ancRow t o)).getD t.size 0 = ancRow t o := by simp
        rw [e1] at hj
        obtain ⟨e, he, hbi, h2⟩ := ancRow_bit t j _ hj
        refine ⟨e, he, hbi, h2.imp id fun ⟨h3, h4⟩ => ⟨h3, ?_⟩⟩
        rw [getD_push_lt _ _ _ h3]
        exact h4
    have := ancTab_good l (t.push (ancRow t o)) (fun j => by have := hl (j + 1); simp only [List.getElem?_cons_succ] at this; rw [this, Array.size_push]; congr 1; omega) hg
    refine ⟨this.1, ?_⟩
    show (ancTab l (t.push (ancRow t o))).size = _
    rw [this.2, Array.size_push, List.length_cons]
    omega

def Closed (ops : Array Oper) (listed : Array Bool) : Prop := ∀ i o, ops[i]? = some o → listed.getD i false = true → ∀ e ∈ o.after.toList, Region.binds .any e = true → listed.getD e.on false = true

theorem anc_listed {t : Array Nat} {listed : Array Bool} (hg : AncGood ops t) (hc : Closed ops listed) {j : Nat} : ∀ i o, i < t.size → ops[i]? = some o → (∀ e ∈ o.after.toList, Region.binds .any e = true → listed.getD e.on false = true) →
    (t.getD i 0).testBit j = true → listed.getD j false = true := by
  intro i
  induction i using Nat.strongRecOn with
  | ind i ih =>
    intro o hi ho hall hj
    obtain ⟨o', ho', hb⟩ := hg i hi
    obtain rfl : o' = o := Option.some.inj (ho'.symm.trans ho)
    obtain ⟨e, he, hbi, h2⟩ := hb j hj
    have hl := hall e he hbi
    rcases h2 with rfl | ⟨h3, h4⟩
    · exact hl
    · obtain ⟨oe, hoe, _⟩ := hg e.on (by omega)
      exact ih e.on h3 oe (by omega) hoe (hc e.on oe hoe hl) h4

/-! ### The check -/
def pairB (P : Program) (tys : List (Nat × Nat)) (ops : Array Oper) (oj oi : Oper) : Bool :=
  (kindB P tys oj == 0 || kindB P tys oi == 0 || (kindB P tys oj == 1 && kindB P tys oi == 1)) && oj.apart ops oi
/-- each of l (numbers from k on) against oi, number i, whose forebears are the bits of b -/
def rowB (P : Program) (tys : List (Nat × Nat)) (ops : Array Oper) (oi : Oper) (b : Nat) : Nat → Nat → List Oper → Bool
  | _, 0, _ => true
  | _, _, [] => true
  | k, n + 1, oj :: l => (b.testBit k || pairB P tys ops oj oi) && rowB P tys ops oi b (k + 1) n l
def colB (P : Program) (tys : List (Nat × Nat)) (ops : Array Oper) (all : List Oper) (t : Array Nat) : Nat → List Oper → Bool
  | _, [] => true
  | i, oi :: l => rowB P tys ops oi (t.getD i 0) 0 i all && (oi.after.all fun e => !Region.binds .any e || decide (e.on < i)) && colB P tys ops all t (i + 1) l
def textB (P : Program) (tys : List (Nat × Nat)) (l : List Oper) : Bool :=
  Region.noSelect l.toArray && colB P tys l.toArray l (ancTab l #[]) 0 l

theorem rowB_spec {oi : Oper} {b : Nat} : ∀ (l : List Oper) (k n : Nat), rowB P tys ops oi b k n l = true → ∀ j oj, j < n → l[j]? = some oj → b.testBit (k + j) = true ∨ pairB P tys ops oj oi = true
  | [], k, n, _, j, oj, _, h => by simp at h
  | o :: l, k, 0, _, j, oj, hj, _ => by omega
  | o :: l, k, n + 1, h, j, oj, hj, ho => by
    simp only [rowB, Bool.and_eq_true, Bool.or_eq_true] at h
    cases j with
    | zero => simp at ho; subst ho; exact h.1
    | succ j =>
      have := rowB_spec l (k + 1) n h.2 j oj (by omega) (by simpa using ho)
      rwa [show k + 1 + j = k + (j + 1) by omega] at this
theorem colB_spec {all : List Oper} {t : Array Nat} : ∀ (l : List Oper) (k : Nat), colB P tys ops all t k l = true → ∀ i oi, l[i]? = some oi →
    (∀ j oj, j < k + i → all[j]? = some oj → (t.getD (k + i) 0).testBit j = true ∨ pairB P tys ops oj oi = true) ∧ (∀ e ∈ oi.after.toList, Region.binds .any e = true → e.on < k + i)
  | [], k, _, i, oi, h => by simp at h
  | o :: l, k, h, i, oi, ho => by
    simp only [colB, Bool.and_eq_true] at h
    cases i with
    | zero =>
      simp at ho
      subst ho
      refine ⟨fun j oj hj hoj => ?_, fun e he hb => ?_⟩
      · have := rowB_spec all 0 k h.1.1 j oj hj hoj
        rwa [Nat.zero_add] at this
      · have := Array.all_eq_true_iff_forall_mem.1 h.1.2 e (by simpa using he)
        simpa [hb] using this
    | succ i =>
      have := colB_spec l (k + 1) h.2 i oi (by simpa using ho)
      rwa [show k + 1 + i = k + (i + 1) by omega] at this

/-! ### Any order -/
def rem (n : Nat) (listed : Array Bool) : List Nat := (List.range n).filter fun i => !listed.getD i true

theorem mem_rem {n i : Nat} {listed : Array Bool} : i ∈ rem n listed ↔ i < n ∧ listed.getD i true = false := by
  simp [rem]
theorem rem_sorted (n : Nat) (listed : Array Bool) : (rem n listed).Pairwise (· < ·) := List.Pairwise.filter _ List.pairwise_lt_range

theorem rem_set {n i : Nat} {listed : Array Bool} {l1 l2 : List Nat} (h : rem n listed = l1 ++ i :: l2) : rem n (listed.setIfInBounds i true) = l1 ++ l2 := by
  have hs := rem_sorted n listed
  rw [h] at hs
  have hi : i ∈ rem n listed := by rw [h]; simp
  have h1 : rem n (listed.setIfInBounds i true) = (rem n listed).filter (fun j => decide (j ≠ i)) := by
    unfold rem
    rw [List.filter_filter]
    refine List.filter_congr fun j _ => ?_
    by_cases hji : i = j
    · subst hji
      have hsz : i < listed.size := by
        rcases Nat.lt_or_ge i listed.size with h' | h'
        · exact h'
        · have := (mem_rem.1 hi).2
          simp [Array.getElem?_eq_none h'] at this
      simp [hsz]
    · rw [getD_set_ne true hji]
      simp [Ne.symm hji]
  rw [h1, h, List.filter_append, List.filter_cons]
  rw [List.pairwise_append] at hs
  obtain ⟨hs1, hs2, hs3⟩ := hs
  rw [List.pairwise_cons] at hs2
  have e1 : l1.filter (fun j => decide (j ≠ i)) = l1 := List.filter_eq_self.2 fun j hj => by have := hs3 j hj i (by simp); simp; omega
  have e2 : l2.filter (fun j => decide (j ≠ i)) = l2 := List.filter_eq_self.2 fun j hj => by have := hs2.1 j hj; simp; omega
  rw [e1, e2]
  simp

theorem any_of_text {l : List Oper} (hB : textB P tys l = true) : ∀ (fuel : Nat) (listed : Array Bool) (a : Act) (w : World), listed.size = l.length → Closed l.toArray listed → (rem l.length listed).length ≤ fuel →
    wpI P l.toArray Q tys ((rem l.length listed).filterMap (l.toArray[·]?)) a w → wpAny P .any l.toArray (OnlyN Q) fuel listed a w := by
  simp only [textB, Bool.and_eq_true] at hB
  obtain ⟨hno, hcol⟩ := hB
  have hsel := Region.noSelect_spec hno
  have hselm : ∀ o : Oper, o ∈ l.toArray → ∀ cs b, o.op ≠ .select cs b := fun o ho cs b => by
    obtain ⟨i, hi, rfl⟩ := Array.mem_iff_getElem.1 ho
    exact hsel i _ cs b (Array.getElem?_eq_getElem hi)
  obtain ⟨hgood, hsz⟩ := ancTab_good (ops := l.toArray) l #[] (fun j => by simp) (fun i hi => by simp at hi)
  simp only [List.size_toArray, List.length_nil, Nat.zero_add] at hsz
  have hcs := colB_spec l 0 hcol
  simp only [Nat.zero_add] at hcs
  have ready_rem : ∀ {listed : Array Bool} {i : Nat}, i ∈ Region.ready .any l.toArray listed → i ∈ rem l.length listed := fun {listed i} h => by
    obtain ⟨h0, o, ho, _⟩ := mem_ready.1 h
    exact mem_rem.2 ⟨by simpa using (Array.getElem?_eq_some_iff.1 ho).1, h0⟩
  intro fuel
  induction fuel with
  | zero =>
    intro listed a w _ _ hlen h
    have h0 : rem l.length listed = [] := List.eq_nil_of_length_eq_zero (by omega)
    rw [h0] at h
    refine ⟨?_, h⟩
    cases hr : Region.ready .any l.toArray listed with
    | nil => rfl
    | cons x xs =>
      have : x ∈ rem l.length listed := ready_rem (by rw [hr]; simp)
      rw [h0] at this
      cases this
  | succ fuel ih =>
    intro listed a w hls hcl hlen h
    have least : ∀ i0 rest, rem l.length listed = i0 :: rest → i0 ∈ Region.ready .any l.toArray listed := fun i0 rest he => by
      have hm : i0 ∈ rem l.length listed := by rw [he]; simp
      obtain ⟨hlt, hun⟩ := mem_rem.1 hm
      have ho : l.toArray[i0]? = some l[i0] := by simp [hlt]
      refine mem_ready.2 ⟨hun, _, ho, fun e hee hb => ?_⟩
      have hel := (hcs i0 l[i0] (by simp [hlt])).2 e (by simpa using hee) hb
      cases hv : listed.getD e.on false with
      | true => rfl
      | false =>
        have hm2 : e.on ∈ rem l.length listed := mem_rem.2 ⟨by omega, getD_in (by omega) hv⟩
        have hs := rem_sorted l.length listed
        rw [he] at hs hm2
        rcases List.mem_cons.1 hm2 with e1 | e1
        · omega
        · have := (List.pairwise_cons.1 hs).1 _ e1
          omega
    refine ⟨fun hr => ?_, fun i hi => ?_⟩
    · cases he : rem l.length listed with
      | nil => rw [he] at h; exact h
      | cons i0 rest =>
        have := least i0 rest he
        rw [hr] at this
        cases this
    · obtain ⟨l1, l2, he⟩ := List.append_of_mem (ready_rem hi)
      obtain ⟨hun, oi, hoi, hall⟩ := mem_ready.1 hi
      have hil : l[i]? = some oi := by simpa using hoi
      have hit : i < l.length := (List.getElem?_eq_some_iff.1 hil).1
      have hs := rem_sorted l.length listed
      rw [he, List.pairwise_append] at hs
      rw [he, List.filterMap_append, List.filterMap_cons_some hoi] at h
      have hfr := wpI.front hselm oi (Array.mem_of_getElem? hoi) (l2.filterMap (l.toArray[·]?)) (l1.filterMap (l.toArray[·]?)) a w (fun oj hoj => by
        obtain ⟨j, hj, hjo⟩ := List.mem_filterMap.1 hoj
        refine ⟨Array.mem_of_getElem? hjo, ?_⟩
        have hji : j < i := hs.2.2 j hj i (by simp)
        have hju : listed.getD j true = false := (mem_rem.1 (by rw [he]; simp [hj])).2
        rcases (hcs i oi hil).1 j oj hji (by simpa using hjo) with hb | hb
        · have := anc_listed hgood hcl i oi (by omega) hoi (fun e hee => hall e (by simpa using hee)) hb
          rw [getD_both hju] at this
          cases this
        · simp only [pairB, Bool.and_eq_true, Bool.or_eq_true, beq_iff_eq] at hb
          exact ⟨hb.2, by rcases hb.1 with (h1 | h1) | h1 <;> simp_all⟩) h
      have hcl' : Closed l.toArray (listed.setIfInBounds i true) := fun k ok hok hk e hee hb => by
        by_cases hik : i = k
        · subst hik
          obtain rfl : ok = oi := Option.some.inj (hok.symm.trans hoi)
          exact getD_set_true (hall e (by simpa using hee) hb)
        · rw [getD_set_ne false hik] at hk
          exact getD_set_true (hcl k ok hok hk e hee hb)
      have hrs := rem_set he
      have hst := hfr.2.mono fun a' w' h' => ih (listed.setIfInBounds i true) a' w' (by simpa using hls) hcl' (by rw [hrs]; rw [he] at hlen; simp at hlen ⊢; omega) (by rw [hrs, List.filterMap_append]; exact h')
      unfold wpOp
      rw [hoi]
      unfold Stp at hst
      dsimp only
      split
      · rename_i hw; rw [if_pos hw] at hst; exact .inl hst
      · rename_i hw; rw [if_neg hw] at hst; exact hst
end
end Go.Proofs.YtjoaonppaokhhaaGreat

namespace Go.Proofs.YtjoaonppaokhhaaGreat

section
variable {P : Program} {ops : Array Oper} {Q : Exit → Act → World → Prop} {tys : List (Nat × Nat)}

def instr (tys : List (Nat × Nat)) : List Oper → List Oper
  | [] => []
  | o :: l => chk tys o ++ o :: instr tys l

theorem stp_of_list {o : Oper} {rest : List Oper} {a : Act} {w : World} (h : wpList P ops (OnlyN Q) (o :: rest) a w) : Stp P ops Q o (wpList P ops (OnlyN Q) rest) a w := by
  unfold wpList at h
  unfold Stp
  split
  · rename_i hw
    rw [if_pos hw] at h
    exact h.resolve_right fun h => OnlyN.noOut h.2
  · rename_i hw; rw [if_neg hw] at h; exact h

theorem look_step {o : Oper} {rest : List Oper} {a : Act} {w : World} (hd : o.dst = none) (hr : ReadsV P (execOp a.eval o)) (h : wpList P ops (OnlyN Q) (o :: rest) a w) :
    wpList P ops (OnlyN Q) rest a w ∧ (Region.wanted o (yielded ops a.tmps) = true → ∃ v w', (execOp a.eval o).run P w = .ok (.value v) w') := by
  have h := stp_of_list h
  unfold Stp at h
  have hp : ∀ v, a.put o.dst v = a := fun v => by rw [hd]; rfl
  by_cases hw : Region.wanted o (yielded ops a.tmps) = true
  · rw [if_pos hw] at h
    unfold Oper.wp at h
    cases hx : (execOp a.eval o).run P w with
    | ok n w' =>
      obtain ⟨rfl, v, rfl⟩ := hr _ _ _ hx
      rw [hx] at h
      simp only [Oper.upon, hp] at h
      exact ⟨h, fun _ => ⟨v, _, rfl⟩⟩
    | halt x w' =>
      rw [hx] at h
      cases x <;> simp only [Oper.upon] at h
      exact (h : False).elim
  · rw [if_neg hw, hp] at h
    exact ⟨h, fun e => (hw e).elim⟩

theorem value_run {s : Sem Value} {v : Value} {w w' : World} (h : (do pure (.value (← s)) : Sem Next).run P w = .ok (.value v) w') : ∃ u w1, s.run P w = .ok u w1 := by
  rw [Sem.run_bind] at h
  cases hs : s.run P w with
  | ok u w1 => exact ⟨u, w1, rfl⟩
  | halt x w1 => rw [hs] at h; cases h

theorem look_int {o : Oper} {t : TypeId} {x : Operand} {rest : List Oper} {a : Act} {w : World} (h : wpList P ops (OnlyN Q) ({ o with dst := none, op := .unOp .xor t x } :: rest) a w) :
    wpList P ops (OnlyN Q) rest a w ∧ (Region.wanted o (yielded ops a.tmps) = true → ∃ k n, a.eval x = .int k n) := by
  obtain ⟨h1, h2⟩ := look_step rfl (ReadsV.of (calm_unary _ _).reads) h
  refine ⟨h1, fun hw => ?_⟩
  obtain ⟨v, w', hv⟩ := h2 hw
  obtain ⟨u, w1, hu⟩ := value_run (s := Op.unary .xor (a.eval x)) hv
  generalize a.eval x = y at hu ⊢
  cases y
  case int k n => exact ⟨k, n, rfl⟩
  case pointer p => cases p <;> (unfold Op.unary at hu; cases hu)
  all_goals (unfold Op.unary at hu; cases hu)

theorem reads_getObj (r : Nat) : Reads P (getObj r) := fun w v w' h => by
  unfold getObj at h
  unfold Sem.run at h
  split at h
  · cases h
  · unfold Sem.run at h
    injection h with h1 h2
    exact h2.symm
  · cases h
theorem reads_len (ts : Array TypeId) (ty : TypeId) (xs : Array Value) : Reads P (Builtin.len_ ts ty xs) := by
  unfold Builtin.len_
  split
  · refine Reads.bind (calm_underlying _).reads fun d => ?_
    repeat' (first | exact (Calm.pure _).reads | exact (calm_stuck _).reads | (refine Reads.bind (calm_underlying _).reads fun _ => ?_) | (refine Reads.bind (reads_getObj _) fun _ => ?_) | split)
  · exact (calm_stuck _).reads
theorem look_string {o : Oper} {t : TypeId} {x : Operand} {rest : List Oper} {a : Act} {w : World}
    (h : wpList P ops (OnlyN Q) ({ o with dst := none, op := .call { callee := .builtin .len, args := #[x], argTypes := #[t] } } :: rest) a w) :
    wpList P ops (OnlyN Q) rest a w ∧ (P.underlying t = some .string → Region.wanted o (yielded ops a.tmps) = true → ∃ s, a.eval x = .string s) := by
  obtain ⟨h1, h2⟩ := look_step rfl (ReadsV.of (s := Builtin.len_ #[t] o.type (#[x].map a.eval)) (reads_len _ _ _)) h
  refine ⟨h1, fun ht hw => ?_⟩
  obtain ⟨v, w', hv⟩ := h2 hw
  obtain ⟨u, w1, hu⟩ := value_run (s := Builtin.len_ #[t] o.type (#[x].map a.eval)) hv
  unfold Builtin.len_ at hu
  simp only [List.map_toArray, List.map_cons, List.map_nil, List.getElem?_toArray, List.getElem?_cons_zero, Sem.run_bind, run_underlying ht, Result.andThen_ok] at hu
  generalize a.eval x = y at hu ⊢
  cases y
  case string s => exact ⟨s, rfl⟩
  all_goals (cases hu)

theorem wpI_of_list : ∀ (l : List Oper) (a : Act) (w : World), wpList P ops (OnlyN Q) (instr tys l) a w → wpI P ops Q tys l a w
  | [], a, w, h => h
  | o :: l, a, w, h => by
    have key : plain tys o a ∨ kindB P tys o ≠ 0 ∨ Region.wanted o (yielded ops a.tmps) ≠ true → wpList P ops (OnlyN Q) (o :: instr tys l) a w → wpI P ops Q tys (o :: l) a w := fun hp h =>
      ⟨fun hk hw => hp.elim (fun hp => calmV_kind hk hp) fun hp => hp.elim (fun hp => (hp hk).elim) fun hp => (hp hw).elim, (stp_of_list h).mono fun a' w' h' => wpI_of_list l a' w' h'⟩
    obtain ⟨dst, op, type, pos, after, guard⟩ := o
    cases op
    case binOp op t x y yt =>
      simp only [instr, chk] at h
      by_cases h0 : look tys t = 0
      · rw [if_pos h0] at h
        exact key (.inr (.inl (by simp only [kindB]; rw [if_pos h0]; omega))) h
      · rw [if_neg h0] at h
        by_cases h1 : look tys t = 1
        · rw [if_pos h1] at h
          obtain ⟨h2, p1⟩ := look_int (o := ⟨dst, .binOp op t x y yt, type, pos, after, guard⟩) h
          obtain ⟨h3, p2⟩ := look_int (o := ⟨dst, .binOp op t x y yt, type, pos, after, guard⟩) h2
          by_cases hw : Region.wanted ⟨dst, .binOp op t x y yt, type, pos, after, guard⟩ (yielded ops a.tmps) = true
          · exact key (.inl ⟨fun _ => ⟨p1 hw, p2 hw⟩, fun e => (e h1).elim⟩) h3
          · exact key (.inr (.inr hw)) h3
        · rw [if_neg h1] at h
          obtain ⟨h2, p1⟩ := look_string (o := ⟨dst, .binOp op t x y yt, type, pos, after, guard⟩) h
          obtain ⟨h3, p2⟩ := look_string (o := ⟨dst, .binOp op t x y yt, type, pos, after, guard⟩) h2
          by_cases hw : Region.wanted ⟨dst, .binOp op t x y yt, type, pos, after, guard⟩ (yielded ops a.tmps) = true
          · by_cases ht : P.underlying t = some .string
            · exact key (.inl ⟨fun e => (h1 e).elim, fun _ _ => ⟨p1 ht hw, p2 ht hw⟩⟩) h3
            · refine key (.inr (.inl ?_)) h3
              simp only [kindB]
              rw [if_neg h0, if_neg h1]
              first | omega | (split <;> first | omega | (rename_i e; exact (ht e).elim))
          · exact key (.inr (.inr hw)) h3
    case convert s d x =>
      simp only [instr, chk] at h
      by_cases h1 : look tys d = 1
      · rw [if_pos h1] at h
        obtain ⟨h2, p1⟩ := look_int (o := ⟨dst, .convert s d x, type, pos, after, guard⟩) h
        by_cases hw : Region.wanted ⟨dst, .convert s d x, type, pos, after, guard⟩ (yielded ops a.tmps) = true
        · exact key (.inl fun _ => p1 hw) h2
        · exact key (.inr (.inr hw)) h2
      · rw [if_neg h1] at h
        exact key (.inl fun e => (h1 e).elim) h
    all_goals exact key (.inl trivial) h

theorem range_get {α : Type} : ∀ (m pre : List α), (List.range' pre.length m.length).filterMap (fun i => (pre ++ m)[i]?) = m
  | [], pre => rfl
  | x :: m, pre => by
    have ih := range_get m (pre ++ [x])
    simp only [List.length_append, List.length_cons, List.length_nil, List.append_assoc, List.singleton_append] at ih
    rw [List.length_cons, List.range'_succ, List.filterMap_cons_some (b := x) (by simp), ih]

/-- A region whose order is drawn, in the order of its text. -/
theorem wp_region_text (tys : List (Nat × Nat)) {id : Nat} {l : List Oper} {a : Act} {w : World} (hm : P.follows .mixedOrders = true) (hB : textB P tys l = true)
    (h : wpList P l.toArray (OnlyN Q) (instr tys l) a w.drew) : (Code.region id l.toArray true).wp P Q a w := by
  refine Code.wp_mono OnlyN.out (wp_region_any hm ?_)
  have hr : rem l.length (Array.replicate l.length false) = List.range l.length := List.filter_eq_self.2 fun i hi => by
    have := List.mem_range.1 hi
    simp [this]
  have hl : (List.range l.length).filterMap (l.toArray[·]?) = l := by
    have := range_get l []
    simpa [List.range_eq_range'] using this
  refine any_of_text hB _ _ _ _ (by simp) ?_ ?_ ?_
  · intro i o _ hi
    simp only [List.size_toArray] at hi
    rw [getD_replicate_false] at hi
    cases hi
  · simp only [List.size_toArray]
    rw [hr]
    simp
  · simp only [List.size_toArray]
    rw [hr, hl]
    exact wpI_of_list l a _ h
end
end Go.Proofs.YtjoaonppaokhhaaGreat
