/-
  Several texts in one:
  The form of a list of series, and what a merge of lists keeps of it: plain. Conditions: none.
  Drawn regions in a round of a range over a function: the walks in the order of the text, there. Conditions: a check of the region that the kernel runs; no program in sight.
-/
import Derived.Test.YtjgbdkokcgcpjaaDoorPart24
import Derived.Test.YtjgbdkokcgcpjaaDoorPart20
import Derived.Test.YtjgbdkokcgcpjaaDoorPart15
import Derived.Test.YtjgbdkokcgcpjaaDoorPart9
import Derived.Test.YtjgbdkokcgcpjaaDoorPart10
import Derived.Test.YtjgbdkokcgcpjaaDoorPart4
import Derived.OrdersIn
import Derived.TacticsIn
import Derived.RangeFuncCalls

namespace Go.Proofs.YtjgbdkokcgcpjaaDoor

/-- a list as the document wants it -/
def OkL (ss : List Ser) : Prop := Vs ss ∧ ∀ s ∈ ss, chkL s.lbs = 0
theorem okS_tail {prev : Option (List Lab)} : ∀ {ss : List Ser}, okS prev ss = true → (∀ s ∈ ss, chkL s.lbs = 0 ∧ Rise s.pts ∧ s.pts ≠ []) ∧ SortS ss ∧ ∀ p, prev = some p → ∀ s ∈ ss, cmpLs p s.lbs < 0
  | [], _ => ⟨fun s h => (by cases h), List.Pairwise.nil, fun p _ s h => (by cases h)⟩
  | s :: r, h => by
    rw [okS_cons, Bool.and_eq_true, Bool.and_eq_true, Bool.and_eq_true, decide_eq_true_iff, risB_iff] at h
    obtain ⟨h1, h2, h3, h4⟩ := h
    obtain ⟨k1, k2, k3⟩ := okS_tail h4
    refine ⟨fun x hx => ?_, List.pairwise_cons.2 ⟨fun x hx => k3 _ rfl x hx, k2⟩, fun p hp x hx => ?_⟩
    · rcases List.mem_cons.1 hx with rfl | hx
      · exact ⟨h1, h2⟩
      · exact k1 x hx
    · subst hp
      have h5 : cmpLs p s.lbs < 0 := of_decide_eq_true h3
      rcases List.mem_cons.1 hx with rfl | hx
      · exact h5
      · exact cmpLs_ok.trans _ _ _ h5 (k3 _ rfl x hx)
theorem okS_of {prev : Option (List Lab)} : ∀ {ss : List Ser}, (∀ s ∈ ss, chkL s.lbs = 0 ∧ Rise s.pts ∧ s.pts ≠ []) → SortS ss → (∀ p, prev = some p → ∀ s ∈ ss, cmpLs p s.lbs < 0) → okS prev ss = true
  | [], _, _, _ => rfl
  | s :: r, h1, h2, h3 => by
    have h2 := List.pairwise_cons.1 h2
    obtain ⟨a, b, c⟩ := h1 s (by simp)
    rw [okS_cons, Bool.and_eq_true, Bool.and_eq_true, Bool.and_eq_true, decide_eq_true_iff, risB_iff]
    refine ⟨a, ⟨b, c⟩, ?_, okS_of (fun x hx => h1 x (by simp [hx])) h2.2 fun p hp x hx => ?_⟩
    · cases prev with
      | none => rfl
      | some p => exact decide_eq_true (h3 p rfl s (by simp))
    · injection hp with hp
      rw [← hp]
      exact h2.1 x hx
theorem okS_iff {ss : List Ser} : okS none ss = true ↔ OkL ss := by
  constructor
  · intro h
    obtain ⟨h1, h2, _⟩ := okS_tail h
    exact ⟨⟨h2, fun s hs => (h1 s hs).2.1, fun s hs => (h1 s hs).2.2⟩, fun s hs => (h1 s hs).1⟩
  · rintro ⟨⟨h1, h2, h3⟩, h4⟩
    exact okS_of (fun s hs => ⟨h4 s hs, h2 s hs, h3 s hs⟩) h1 fun p hp => by cases hp
theorem errS_ok {ss : List Ser} (h : OkL ss) : errS ss = 0 := by
  unfold errS
  rw [if_pos (okS_iff.2 h)]
theorem errS_no {ss : List Ser} (h : ¬ OkL ss) : errS ss = 100 := by
  unfold errS
  rw [if_neg fun e => h (okS_iff.1 e)]

theorem tot_append (a b : List Ser) : tot (a ++ b) = tot a + tot b := by simp [tot]
theorem tot_cons (s : Ser) (a : List Ser) : tot (s :: a) = s.pts.length + tot a := by simp [tot]
theorem tot_perm {a b : List Ser} (h : a.Perm b) : tot a = tot b := by
  unfold tot
  exact (h.map _).sum_nat
theorem mergeP_len : ∀ (a b : List Ptn), (mergeP a b).length ≤ a.length + b.length
  | [], b => by rw [mergeP]; simp
  | p :: a, [] => by rw [mergeP]; simp
  | p :: a, q :: b => by
    rw [mergeP]
    split
    · have := mergeP_len a (q :: b)
      simp only [List.length_cons] at *
      omega
    · split
      · have := mergeP_len (p :: a) b
        simp only [List.length_cons] at *
        omega
      · have := mergeP_len a b
        simp only [List.length_cons] at *
        omega
termination_by a b => a.length + b.length
theorem addS_tot (out : List Ser) (s : Ser) : tot (addS out s) ≤ tot out + s.pts.length := by
  rcases List.eq_nil_or_concat out with rfl | ⟨r, o, rfl⟩
  · simp [addS, tot]
  · rw [List.concat_eq_append]
    unfold addS
    rw [show (r ++ [o]).getLast? = some o by simp]
    dsimp only
    split
    · rw [List.dropLast_concat, tot_append, tot_append, tot_cons, tot_cons]
      have := mergeP_len o.pts s.pts
      show _ + ((mergeP o.pts s.pts).length + tot []) ≤ _
      omega
    · rw [tot_append, tot_cons]
      show _ + (_ + 0) ≤ _
      omega
theorem addS_len (out : List Ser) (s : Ser) : (addS out s).length ≤ out.length + 1 := by
  rcases List.eq_nil_or_concat out with rfl | ⟨r, o, rfl⟩
  · simp [addS]
  · rw [List.concat_eq_append]
    unfold addS
    rw [show (r ++ [o]).getLast? = some o by simp]
    dsimp only
    split
    · rw [List.dropLast_concat]
      simp
    · simp
theorem addAll_tot (xs : List Ser) : tot (addAll xs) ≤ tot xs ∧ (addAll xs).length ≤ xs.length := by
  suffices h : ∀ out, tot (xs.foldl addS out) ≤ tot out + tot xs ∧ (xs.foldl addS out).length ≤ out.length + xs.length by
    have := h []
    simpa [addAll, tot] using this
  induction xs with
  | nil => intro out; simp [tot]
  | cons s xs ih =>
    intro out
    have h1 := ih (addS out s)
    have h2 := addS_tot out s
    have h3 := addS_len out s
    rw [tot_cons]
    simp only [List.foldl_cons, List.length_cons]
    omega
theorem addS_eq {ss : List Ser} {o s : Ser} (h : cmpLs o.lbs s.lbs = 0) : addS (ss ++ [o]) s = ss ++ [⟨o.lbs, mergeP o.pts s.pts⟩] := by
  unfold addS
  rw [show (ss ++ [o]).getLast? = some o by simp]
  dsimp only
  rw [if_pos h, List.dropLast_concat]
theorem addS_ne {ss : List Ser} {o s : Ser} (h : cmpLs o.lbs s.lbs ≠ 0) : addS (ss ++ [o]) s = ss ++ [o] ++ [s] := by
  unfold addS
  rw [show (ss ++ [o]).getLast? = some o by simp]
  dsimp only
  rw [if_neg h]
theorem tot_mem {ss : List Ser} {s : Ser} (h : s ∈ ss) : s.pts.length ≤ tot ss := by
  obtain ⟨l1, l2, rfl⟩ := List.append_of_mem h
  rw [tot_append, tot_cons]
  omega
/-- of the merge's labels each is of one of the lists -/
theorem Mrg.from {ls : List (List Ser)} {m : List Ser} (h : Mrg ls m) {s : Ser} (hs : s ∈ m) : ∃ a ∈ ls, ∃ s' ∈ a, s'.lbs = s.lbs := by
  obtain ⟨p, r, hp⟩ := List.exists_cons_of_ne_nil (h.vs.some s hs)
  have hl := (lookS_mem h.vs.sort).2 ⟨hs, rfl⟩
  have h1 : atV m s.lbs p.1 = some p.2 := by
    unfold atV
    rw [hl]
    exact (lookP_mem (h.vs.rise s hs)).2 (by rw [hp]; simp)
  rw [h.at_] at h1
  clear h hl
  induction ls with
  | nil => cases h1
  | cons a ls ih =>
    rw [maxL_cons] at h1
    cases h2 : atV a s.lbs p.1 with
    | none =>
      rw [h2] at h1
      obtain ⟨a', ha, x, hx, e⟩ := ih h1
      exact ⟨a', by simp [ha], x, hx, e⟩
    | some v =>
      unfold atV at h2
      cases h3 : lookS a s.lbs with
      | none => rw [h3] at h2; cases h2
      | some x =>
        unfold lookS at h3
        have h4 := List.find?_some h3
        exact ⟨a, by simp, x, List.mem_of_find?_eq_some h3, by simpa using h4⟩
theorem Mrg.ok {ls : List (List Ser)} {m : List Ser} (h : Mrg ls m) (hl : ∀ a ∈ ls, OkL a) : OkL m := ⟨h.vs, fun s hs => by
  obtain ⟨a, ha, x, hx, e⟩ := h.from hs
  rw [← e]
  exact (hl a ha).2 x hx⟩
end Go.Proofs.YtjgbdkokcgcpjaaDoor

namespace Go.Proofs.YtjgbdkokcgcpjaaDoor

section
variable {P : Program} {Q : Exit → Act → World → Prop} {tys : List (Nat × Nat)} {bs : List Nat}

def noDefB (l : List Oper) : Bool := l.all fun o => match o.op with
  | .defer _ => false
  | _ => true
theorem noDefB_spec {l : List Oper} (h : noDefB l = true) : ∀ (i : Nat) (o : Oper), l.toArray[i]? = some o → ∀ c, o.op ≠ .defer c := fun i o ho c e => by
  have h1 : l[i]? = some o := by simpa using ho
  have := List.all_eq_true.1 h o (List.mem_of_getElem? h1)
  rw [e] at this
  cases this
theorem rows_in {lp n : Nat} {row : String} {args : Array Value} {w : World} {R : Value → World → Prop} (h : Rows P row args w R) : RowsIn (Fence.wide.inRound lp) n P row args w R := fun c cs _ => by
  obtain ⟨v, w', r, s⟩ := h c cs
  exact ⟨v, w', r, stepsIn_wide.2 s⟩
theorem wpIn_of {lp n : Nat} {o : Oper} {K : Act → World → Prop} {a : Act} {w : World} (hd : ∀ c, o.op ≠ .defer c) (h : o.wp P a w K Q) : o.wpIn (Fence.wide.inRound lp) n P a w K Q := by
  unfold Oper.wpIn
  refine ⟨fun _ _ => trivial, ?_⟩
  rw [Oper.semAt_eq _ _ _ hd]
  unfold Oper.wp at h
  generalize (execOp a.eval o).run P w = r at *
  cases r with
  | ok x w' =>
    cases x <;> simp only [Oper.upon, Oper.uponIn] at h ⊢ <;>
      first
        | exact h
        | exact ⟨fun e => (by cases e), CallsIn.inRound lp (callsIn_wide.2 h)⟩
        | exact ⟨fun e => (by cases e), rows_in h⟩
  | halt x w' => cases x <;> simp only [Oper.upon, Oper.uponIn] at h ⊢ <;> exact h
theorem wpAnyIn_of {lp n : Nat} {md : Region.Mode} {ops : Array Oper} (hd : ∀ (i : Nat) (o : Oper), ops[i]? = some o → ∀ c, o.op ≠ .defer c) : ∀ (fuel : Nat) (listed : Array Bool) (a : Act) (w : World), wpAny P md ops (OnlyN Q) fuel listed a w → wpAnyIn (Fence.wide.inRound lp) n P md ops (OnlyN Q) fuel listed a w
  | 0, listed, a, w, h => h
  | fuel + 1, listed, a, w, h => by
    refine ⟨h.1, fun i hi => ?_⟩
    have h2 := h.2 i hi
    unfold wpOp at h2
    unfold wpOpIn
    cases ho : ops[i]? with
    | none =>
      rw [ho] at h2
      exact wpAnyIn_of hd fuel _ a w h2
    | some o =>
      rw [ho] at h2
      dsimp only at h2 ⊢
      split
      · rename_i hw
        rw [if_pos hw] at h2
        rcases h2 with h2 | ⟨_, h2⟩
        · exact wpIn_of (hd i o ho) (Oper.wp_mono (fun a' w' h3 => wpAnyIn_of hd fuel _ a' w' h3) h2)
        · exact absurd h2 OnlyN.noOut
      · rename_i hw
        rw [if_neg hw] at h2
        exact ⟨fun _ _ => trivial, wpAnyIn_of hd fuel _ _ w h2⟩

theorem wp_region_textS_in {lp n : Nat} (tys : List (Nat × Nat)) (bs : List Nat) {id : Nat} {l : List Oper} {a : Act} {w : World} (hm : P.follows .mixedOrders = true) (hB : textS P tys l = true) (hd : noDefB l = true) (hc : CellsIn bs w)
    (h : wpU P l.toArray Q tys bs w [] l a w.drew) : (Code.region id l.toArray true).wpIn (Fence.wide.inRound lp) n P Q a w := by
  simp only [textS, Bool.and_eq_true] at hB
  refine Code.wpIn_mono OnlyN.out (wpIn_region_any hm (wpAnyIn_of (noDefB_spec hd) _ _ _ _ ?_))
  have hr : rem l.length (Array.replicate l.length false) = List.range l.length := List.filter_eq_self.2 fun i hi => by
    have := List.mem_range.1 hi
    simp [this]
  have hl : (List.range l.length).filterMap (l.toArray[·]?) = l := by
    have := range_get l []
    simpa [List.range_eq_range'] using this
  have hS : SameIn bs w { w with drawn := w.drawn + 1 } := fun k _ => rfl
  refine any_of_textT (S := SameIn bs w) hB.1 _ _ _ _ hS (by simp) ?_ ?_ ?_
  · intro i o _ hi
    simp only [List.size_toArray] at hi
    rw [getD_replicate_false] at hi
    cases hi
  · simp only [List.size_toArray]
    rw [hr]
    simp
  · simp only [List.size_toArray]
    rw [hr, hl]
    exact wpU_sound hc l none [] (fun o ho => by have := List.all_eq_true.1 hB.2 o ho; simpa using this) (fun x hx => by cases hx) a _ (fun x hx => by cases hx) hS h

theorem wp_region_textL_in {lp n : Nat} (tys : List (Nat × Nat)) (bs : List Nat) {id : Nat} {l : List Oper} {a : Act} {w : World} (hm : P.follows .mixedOrders = true) (hB : textL P tys l = true) (hd : noDefB l = true) (hc : CellsIn bs w)
    (h : wpUL P l.toArray Q tys bs w [] l a w.drew) : (Code.region id l.toArray true).wpIn (Fence.wide.inRound lp) n P Q a w := by
  simp only [textL, Bool.and_eq_true] at hB
  obtain ⟨hB, hL⟩ := hB
  refine Code.wpIn_mono OnlyN.out (wpIn_region_any hm (wpAnyIn_of (noDefB_spec hd) _ _ _ _ ?_))
  have hr : rem l.length (Array.replicate l.length false) = List.range l.length := List.filter_eq_self.2 fun i hi => by
    have := List.mem_range.1 hi
    simp [this]
  have hl : (List.range l.length).filterMap (l.toArray[·]?) = l := by
    have := range_get l []
    simpa [List.range_eq_range'] using this
  have hS : SameIn bs w { w with drawn := w.drawn + 1 } := fun k _ => rfl
  refine any_of_textL (S := SameIn bs w) hB.1 hL _ _ _ _ (.inr hS) (by simp) ?_ ?_ ?_
  · intro i o _ hi
    simp only [List.size_toArray] at hi
    rw [getD_replicate_false] at hi
    cases hi
  · simp only [List.size_toArray]
    rw [hr]
    simp
  · simp only [List.size_toArray]
    rw [hr, hl]
    exact wpUL_sound hc l none [] (fun o ho => by have := List.all_eq_true.1 hB.2 o ho; simpa using this) (fun x hx => by cases hx) a _ (fun x hx => by cases hx) hS h

variable {α : Type} {E : El α}
theorem wpListIn_appE {lp n' : Nat} {ops : Array Oper} {rest : List Oper} {o : Oper} {a : Act} {w : World} (hgd : o.guard = none) (s x : Operand) (ts t : TypeId) {z : Value} {bytes : Nat}
    (hinfo : (P.info? t).map (fun i => (i.zero, i.size, i.bytes)) = some (some z, E.sz, bytes)) (hzs : z.cells.size = E.sz) (ht : P.underlying ts = some (.slice t))
    (ho : o.op = .call { callee := .builtin .append, args := #[s, x], argTypes := #[ts, ts] })
    (base : Nat) (A : Option Addr) (n c : Nat) (l : List α) (hs : a.eval s = .slice A n c) (hown : OE E w base t A n c l) (hbase : base ≤ w.heap.size)
    (B : Option Addr) (m d : Nat) (r : List α) (hx : a.eval x = .slice B m d) (hr : RE E w B m r) (h63 : n + m ≤ maxLen) (hbytes : (n + m) * bytes ≤ 140737488355328)
    (h : ∀ A' c' w', ApE E w base t A (n + m) c (l ++ r) A' c' w' → wpListIn (Fence.wide.inRound lp) n' P ops Q rest (a.put o.dst (.slice A' (n + m) c')) w') : wpListIn (Fence.wide.inRound lp) n' P ops Q (o :: rest) a w := by
  obtain ⟨i0, hi, hz0, hz1, hz2⟩ := info_parts hinfo
  refine wpListIn_plain hgd fun K hK => wpIn_of (fun c e => by rw [ho] at e; cases e) ?_
  refine wp_app w s x ts t ho i0 z E.sz bytes ht hi hz0 hz1 hz2 hzs base A n c _ hs hown hbase B m d _ hx (by rw [E.flat_length, hr.1]) hr.2 (E.flat_one' r) h63 hbytes ?_
  intro A' c' w' h1
  exact hK _ _ (h A' c' w' (by unfold ApE; rw [E.flat_append]; exact h1))
end
end Go.Proofs.YtjgbdkokcgcpjaaDoor
