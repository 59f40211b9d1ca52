/-
  Several texts in one:
  A region whose order is drawn, walked in the order of its text, with loads beside what acts: the cells that are loaded lie in blocks that stay as they are. Conditions: a check of the region that the kernel runs; no program in sight.
-/
import Derived.Test.YtjoaonppaokhhaaGreatPart5

namespace Go.Proofs.YtjoaonppaokhhaaGreat

section
variable {P : Program} {ops : Array Oper} {Q : Exit → Act → World → Prop} {tys : List (Nat × Nat)} {S : World → Prop}

/-- In the worlds of S: what is ok in one is ok in each, with the same value, and leaves the world. -/
def CalmS (P : Program) (S : World → Prop) (s : Sem Next) : Prop := ∀ w n w', S w → s.run P w = .ok n w' → w' = w ∧ ∃ v, n = .value v ∧ ∀ w2, S w2 → s.run P w2 = .ok (.value v) w2
theorem CalmV.calmS {s : Sem Next} (h : CalmV P s) : CalmS P S s := fun w n w' _ hr => by
  obtain ⟨e, v, hv, h2⟩ := h w n w' hr
  exact ⟨e, v, hv, fun w2 _ => h2 w2⟩

def OkT (P : Program) (tys : List (Nat × Nat)) (S : World → Prop) (ops : Array Oper) (o : Oper) (a : Act) : Prop :=
  kindB P tys o ≤ 1 → Region.wanted o (yielded ops a.tmps) = true → CalmS P S (execOp a.eval o)
theorem OkT.same {o : Oper} {a a' : Act} (h : OkT P tys S ops o a) (he : execOp a'.eval o = execOp a.eval o ∧ Region.wanted o (yielded ops a'.tmps) = Region.wanted o (yielded ops a.tmps)) : OkT P tys S ops o a' := by
  unfold OkT at *
  rw [he.1, he.2]
  exact h
theorem OkT.yv {o : Oper} {a : Act} {w : World} {K : Act → World → Prop} (h : OkT P tys S ops o a) (hk : kindB P tys o ≤ 1) (hS : S w) (hs : Stp P ops Q o K a w) : ∃ v, Yv P ops S o v a := by
  unfold Stp at hs
  by_cases hw : Region.wanted o (yielded ops a.tmps) = true
  · rw [if_pos hw] at hs
    unfold Oper.wp at hs
    cases hr : (execOp a.eval o).run P w with
    | ok n w' =>
      obtain ⟨_, v, _, hv⟩ := h hk hw _ _ _ hS hr
      exact ⟨v, .inl ⟨hw, hv⟩⟩
    | halt x w' =>
      rw [hr] at hs
      cases x <;> simp only [Oper.upon] at hs
      exact (hs : False).elim
  · exact ⟨undef, .inr ⟨by simpa using hw, rfl⟩⟩

/-- Two operations that no edge orders change places. -/
theorem Stp.swapT {oj oi : Oper} {K : Act → World → Prop} {a : Act} {w : World} (hap : oj.apart ops oi = true) (sj : ∀ cs b, oj.op ≠ .select cs b) (si : ∀ cs b, oi.op ≠ .select cs b)
    (hk : kindB P tys oj ≤ 1 ∨ kindB P tys oi ≤ 1) (hS : S w) (hj : OkT P tys S ops oj a)
    (h : Stp P ops Q oj (fun a' w' => S w' ∧ OkT P tys S ops oi a' ∧ Stp P ops Q oi (fun a'' w'' => S w'' ∧ K a'' w'') a' w') a w) :
    OkT P tys S ops oi a ∧ Stp P ops Q oi (fun a' w' => S w' ∧ OkT P tys S ops oj a' ∧ Stp P ops Q oj (fun a'' w'' => S w'' ∧ K a'' w'') a' w') a w := by
  obtain ⟨h1, h2, h3⟩ := Oper.apart_spec hap
  have h4 : ∀ t, oi.dst = some t → oj.dst ≠ some t := fun t e e' => h2 t e' e
  obtain ⟨a1, w1, ⟨u1, ht1⟩, hS1, hok1, hs1⟩ := h.frame.ends
  have e1 := same_put h1 si ht1
  refine ⟨hok1.same ⟨e1.1.symm, e1.2.symm⟩, ?_⟩
  rcases hk with hk | hk
  · obtain ⟨v, hy⟩ := hj.yv hk hS h
    have h5 := ((hy.stp hS).1 h).2.2
    have h6 := (Stp.put h1 h2 si).1 h5
    refine h6.frame.mono fun a' w' ⟨⟨u, ht⟩, hS', hK⟩ => ?_
    have hs := same_put h3 sj ht
    exact ⟨hS', hj.same hs, ((hy.same hs).stp hS').2 ⟨hS', hK⟩⟩
  · obtain ⟨v, hy1⟩ := hok1.yv hk hS1 hs1
    have hy : Yv P ops S oi v a := hy1.same ⟨e1.1.symm, e1.2.symm⟩
    refine (hy.stp hS).2 ⟨hS, hj.same (same_put (u := v) h3 sj rfl), ?_⟩
    refine (Stp.put h3 h4 sj).2 ?_
    refine h.frame.mono fun a' w' ⟨⟨u, ht⟩, hS', _, hs⟩ => ?_
    exact ⟨hS', (((hy.same (same_put h1 si ht)).stp hS').1 hs).2⟩

def wpT (P : Program) (ops : Array Oper) (Q : Exit → Act → World → Prop) (tys : List (Nat × Nat)) (S : World → Prop) : List Oper → Act → World → Prop
  | [], a, w => OnlyN Q .normal a w
  | o :: rest, a, w => OkT P tys S ops o a ∧ Stp P ops Q o (fun a' w' => S w' ∧ wpT P ops Q tys S rest a' w') a w

theorem wpT.front (hsel : ∀ o : Oper, o ∈ ops → ∀ cs b, o.op ≠ .select cs b) (oi : Oper) (hi : oi ∈ ops) (l2 : List Oper) : ∀ (l1 : List Oper) (a : Act) (w : World), S w →
    (∀ oj ∈ l1, oj ∈ ops ∧ oj.apart ops oi = true ∧ (kindB P tys oj ≤ 1 ∨ kindB P tys oi ≤ 1)) →
    wpT P ops Q tys S (l1 ++ oi :: l2) a w → OkT P tys S ops oi a ∧ Stp P ops Q oi (fun a' w' => S w' ∧ wpT P ops Q tys S (l1 ++ l2) a' w') a w
  | [], a, w, _, _, h => h
  | oj :: l1, a, w, hS, hp, h => by
    obtain ⟨hm, h1, h2⟩ := hp oj (by simp)
    have h3 : Stp P ops Q oj (fun a' w' => S w' ∧ OkT P tys S ops oi a' ∧ Stp P ops Q oi (fun a'' w'' => S w'' ∧ wpT P ops Q tys S (l1 ++ l2) a'' w'') a' w') a w :=
      h.2.mono fun a' w' ⟨hS', h'⟩ => ⟨hS', wpT.front hsel oi hi l2 l1 a' w' hS' (fun o ho => hp o (by simp [ho])) h'⟩
    exact Stp.swapT h1 (hsel _ hm) (hsel _ hi) h2 hS h.1 h3

/-! ### The check -/
def pairT (P : Program) (tys : List (Nat × Nat)) (ops : Array Oper) (oj oi : Oper) : Bool := (decide (kindB P tys oj ≤ 1) || decide (kindB P tys oi ≤ 1)) && oj.apart ops oi
def rowT (P : Program) (tys : List (Nat × Nat)) (ops : Array Oper) (oi : Oper) (b : Nat) : Nat → Nat → List Oper → Bool
  | _, 0, _ => true
  | _, _, [] => true
  | k, n + 1, oj :: l => (b.testBit k || pairT P tys ops oj oi) && rowT P tys ops oi b (k + 1) n l
def colT (P : Program) (tys : List (Nat × Nat)) (ops : Array Oper) (all : List Oper) (t : Array Nat) : Nat → List Oper → Bool
  | _, [] => true
  | i, oi :: l => rowT P tys ops oi (t.getD i 0) 0 i all && (oi.after.all fun e => !Region.binds .any e || decide (e.on < i)) && colT P tys ops all t (i + 1) l
def textT (P : Program) (tys : List (Nat × Nat)) (l : List Oper) : Bool :=
  Region.noSelect l.toArray && colT P tys l.toArray l (ancTab l #[]) 0 l

theorem rowT_spec {oi : Oper} {b : Nat} : ∀ (l : List Oper) (k n : Nat), rowT P tys ops oi b k n l = true → ∀ j oj, j < n → l[j]? = some oj → b.testBit (k + j) = true ∨ pairT P tys ops oj oi = true
  | [], k, n, _, j, oj, _, h => by simp at h
  | o :: l, k, 0, _, j, oj, hj, _ => by omega
  | o :: l, k, n + 1, h, j, oj, hj, ho => by
    simp only [rowT, Bool.and_eq_true, Bool.or_eq_true] at h
    cases j with
    | zero => simp at ho; subst ho; exact h.1
    | succ j =>
      have := rowT_spec l (k + 1) n h.2 j oj (by omega) (by simpa using ho)
      rwa [show k + 1 + j = k + (j + 1) by omega] at this
theorem colT_spec {all : List Oper} {t : Array Nat} : ∀ (l : List Oper) (k : Nat), colT P tys ops all t k l = true → ∀ i oi, l[i]? = some oi →
    (∀ j oj, j < k + i → all[j]? = some oj → (t.getD (k + i) 0).testBit j = true ∨ pairT P tys ops oj oi = true) ∧ (∀ e ∈ oi.after.toList, Region.binds .any e = true → e.on < k + i)
  | [], k, _, i, oi, h => by simp at h
  | o :: l, k, h, i, oi, ho => by
    simp only [colT, Bool.and_eq_true] at h
    cases i with
    | zero =>
      simp at ho
      subst ho
      refine ⟨fun j oj hj hoj => ?_, fun e he hb => ?_⟩
      · have := rowT_spec all 0 k h.1.1 j oj hj hoj
        rwa [Nat.zero_add] at this
      · have := Array.all_eq_true_iff_forall_mem.1 h.1.2 e (by simpa using he)
        simpa [hb] using this
    | succ i =>
      have := colT_spec l (k + 1) h.2 i oi (by simpa using ho)
      rwa [show k + 1 + i = k + (i + 1) by omega] at this

theorem any_of_textT {l : List Oper} (hB : textT P tys l = true) : ∀ (fuel : Nat) (listed : Array Bool) (a : Act) (w : World), S w → listed.size = l.length → Closed l.toArray listed → (rem l.length listed).length ≤ fuel →
    wpT P l.toArray Q tys S ((rem l.length listed).filterMap (l.toArray[·]?)) a w → wpAny P .any l.toArray (OnlyN Q) fuel listed a w := by
  simp only [textT, Bool.and_eq_true] at hB
  obtain ⟨hno, hcol⟩ := hB
  have hsel := Region.noSelect_spec hno
  have hselm : ∀ o : Oper, o ∈ l.toArray → ∀ cs b, o.op ≠ .select cs b := fun o ho cs b => by
    obtain ⟨i, hi, rfl⟩ := Array.mem_iff_getElem.1 ho
    exact hsel i _ cs b (Array.getElem?_eq_getElem hi)
  obtain ⟨hgood, hsz⟩ := ancTab_good (ops := l.toArray) l #[] (fun j => by simp) (fun i hi => by simp at hi)
  simp only [List.size_toArray, List.length_nil, Nat.zero_add] at hsz
  have hcs := colT_spec l 0 hcol
  simp only [Nat.zero_add] at hcs
  have ready_rem : ∀ {listed : Array Bool} {i : Nat}, i ∈ Region.ready .any l.toArray listed → i ∈ rem l.length listed := fun {listed i} h => by
    obtain ⟨h0, o, ho, _⟩ := mem_ready.1 h
    exact mem_rem.2 ⟨by simpa using (Array.getElem?_eq_some_iff.1 ho).1, h0⟩
  intro fuel
  induction fuel with
  | zero =>
    intro listed a w _ _ _ hlen h
    have h0 : rem l.length listed = [] := List.eq_nil_of_length_eq_zero (by omega)
    rw [h0] at h
    refine ⟨?_, h⟩
    cases hr : Region.ready .any l.toArray listed with
    | nil => rfl
    | cons x xs =>
      have : x ∈ rem l.length listed := ready_rem (by rw [hr]; simp)
      rw [h0] at this
      cases this
  | succ fuel ih =>
    intro listed a w hS hls hcl hlen h
    have least : ∀ i0 rest, rem l.length listed = i0 :: rest → i0 ∈ Region.ready .any l.toArray listed := fun i0 rest he => by
      have hm : i0 ∈ rem l.length listed := by rw [he]; simp
      obtain ⟨hlt, hun⟩ := mem_rem.1 hm
      have ho : l.toArray[i0]? = some l[i0] := by simp [hlt]
      refine mem_ready.2 ⟨hun, _, ho, fun e hee hb => ?_⟩
      have hel := (hcs i0 l[i0] (by simp [hlt])).2 e (by simpa using hee) hb
      cases hv : listed.getD e.on false with
      | true => rfl
      | false =>
        have hm2 : e.on ∈ rem l.length listed := mem_rem.2 ⟨by omega, getD_in (by omega) hv⟩
        have hs := rem_sorted l.length listed
        rw [he] at hs hm2
        rcases List.mem_cons.1 hm2 with e1 | e1
        · omega
        · have := (List.pairwise_cons.1 hs).1 _ e1
          omega
    refine ⟨fun hr => ?_, fun i hi => ?_⟩
    · cases he : rem l.length listed with
      | nil => rw [he] at h; exact h
      | cons i0 rest =>
        have := least i0 rest he
        rw [hr] at this
        cases this
    · obtain ⟨l1, l2, he⟩ := List.append_of_mem (ready_rem hi)
      obtain ⟨hun, oi, hoi, hall⟩ := mem_ready.1 hi
      have hil : l[i]? = some oi := by simpa using hoi
      have hit : i < l.length := (List.getElem?_eq_some_iff.1 hil).1
      have hs := rem_sorted l.length listed
      rw [he, List.pairwise_append] at hs
      rw [he, List.filterMap_append, List.filterMap_cons_some hoi] at h
      have hfr := wpT.front hselm oi (Array.mem_of_getElem? hoi) (l2.filterMap (l.toArray[·]?)) (l1.filterMap (l.toArray[·]?)) a w hS (fun oj hoj => by
        obtain ⟨j, hj, hjo⟩ := List.mem_filterMap.1 hoj
        refine ⟨Array.mem_of_getElem? hjo, ?_⟩
        have hji : j < i := hs.2.2 j hj i (by simp)
        have hju : listed.getD j true = false := (mem_rem.1 (by rw [he]; simp [hj])).2
        rcases (hcs i oi hil).1 j oj hji (by simpa using hjo) with hb | hb
        · have := anc_listed hgood hcl i oi (by omega) hoi (fun e hee => hall e (by simpa using hee)) hb
          rw [getD_both hju] at this
          cases this
        · simp only [pairT, Bool.and_eq_true, Bool.or_eq_true, decide_eq_true_eq] at hb
          exact ⟨hb.2, hb.1⟩) h
      have hcl' : Closed l.toArray (listed.setIfInBounds i true) := fun k ok hok hk e hee hb => by
        by_cases hik : i = k
        · subst hik
          obtain rfl : ok = oi := Option.some.inj (hok.symm.trans hoi)
          exact getD_set_true (hall e (by simpa using hee) hb)
        · rw [getD_set_ne false hik] at hk
          exact getD_set_true (hcl k ok hok hk e hee hb)
      have hrs := rem_set he
      have hst := hfr.2.mono fun a' w' ⟨hS', h'⟩ => ih (listed.setIfInBounds i true) a' w' hS' (by simpa using hls) hcl' (by rw [hrs]; rw [he] at hlen; simp at hlen ⊢; omega) (by rw [hrs, List.filterMap_append]; exact h')
      unfold wpOp
      rw [hoi]
      unfold Stp at hst
      dsimp only
      split
      · rename_i hw; rw [if_pos hw] at hst; exact .inl hst
      · rename_i hw; rw [if_neg hw] at hst; exact hst
end
end Go.Proofs.YtjoaonppaokhhaaGreat
