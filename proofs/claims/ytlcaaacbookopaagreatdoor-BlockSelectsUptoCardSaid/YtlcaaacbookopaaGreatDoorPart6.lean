/-
  Several texts in one:
  A region whose order is drawn, walked in the order of its text, as one whose order is not drawn: ahead of each comparison, sum and conversion stands a look at its operands (they are integers, or texts). Conditions: a check of the region that the kernel runs; no program in sight.
  A region whose order is drawn, walked in the order of its text, with loads beside what acts: the cells that are loaded lie in blocks that stay as they are. Conditions: a check of the region that the kernel runs; no program in sight.
  A region whose order is drawn, walked in the order of its text, with loads beside what acts: what the walk is to show, piece by piece. Conditions: a check of the region that the kernel runs; no program in sight.
-/
import Derived.Test.YtlcaaacbookopaaGreatDoorPart5

namespace Go.Proofs.YtlcaaacbookopaaGreatDoor

section
variable {P : Program} {ops : Array Oper} {Q : Exit → Act → World → Prop} {tys : List (Nat × Nat)}

def instr (tys : List (Nat × Nat)) : List Oper → List Oper
  | [] => []
  | o :: l => chk tys o ++ o :: instr tys l

theorem stp_of_list {o : Oper} {rest : List Oper} {a : Act} {w : World} (h : wpList P ops (OnlyN Q) (o :: rest) a w) : Stp P ops Q o (wpList P ops (OnlyN Q) rest) a w := by
  unfold wpList at h
  unfold Stp
  split
  · rename_i hw
    rw [if_pos hw] at h
    exact h.resolve_right fun h => OnlyN.noOut h.2
  · rename_i hw; rw [if_neg hw] at h; exact h

theorem look_step {o : Oper} {rest : List Oper} {a : Act} {w : World} (hd : o.dst = none) (hr : ReadsV P (execOp a.eval o)) (h : wpList P ops (OnlyN Q) (o :: rest) a w) :
    wpList P ops (OnlyN Q) rest a w ∧ (Region.wanted o (yielded ops a.tmps) = true → ∃ v w', (execOp a.eval o).run P w = .ok (.value v) w') := by
  have h := stp_of_list h
  unfold Stp at h
  have hp : ∀ v, a.put o.dst v = a := fun v => by rw [hd]; rfl
  by_cases hw : Region.wanted o (yielded ops a.tmps) = true
  · rw [if_pos hw] at h
    unfold Oper.wp at h
    cases hx : (execOp a.eval o).run P w with
    | ok n w' =>
      obtain ⟨rfl, v, rfl⟩ := hr _ _ _ hx
      rw [hx] at h
      simp only [Oper.upon, hp] at h
      exact ⟨h, fun _ => ⟨v, _, rfl⟩⟩
    | halt x w' =>
      rw [hx] at h
      cases x <;> simp only [Oper.upon] at h
      exact (h : False).elim
  · rw [if_neg hw, hp] at h
    exact ⟨h, fun e => (hw e).elim⟩

theorem value_run {s : Sem Value} {v : Value} {w w' : World} (h : (do pure (.value (← s)) : Sem Next).run P w = .ok (.value v) w') : ∃ u w1, s.run P w = .ok u w1 := by
  rw [Sem.run_bind] at h
  cases hs : s.run P w with
  | ok u w1 => exact ⟨u, w1, rfl⟩
  | halt x w1 => rw [hs] at h; cases h

theorem look_int {o : Oper} {t : TypeId} {x : Operand} {rest : List Oper} {a : Act} {w : World} (h : wpList P ops (OnlyN Q) ({ o with dst := none, op := .unOp .xor t x } :: rest) a w) :
    wpList P ops (OnlyN Q) rest a w ∧ (Region.wanted o (yielded ops a.tmps) = true → ∃ k n, a.eval x = .int k n) := by
  obtain ⟨h1, h2⟩ := look_step rfl (ReadsV.of (calm_unary _ _).reads) h
  refine ⟨h1, fun hw => ?_⟩
  obtain ⟨v, w', hv⟩ := h2 hw
  obtain ⟨u, w1, hu⟩ := value_run (s := Op.unary .xor (a.eval x)) hv
  generalize a.eval x = y at hu ⊢
  cases y
  case int k n => exact ⟨k, n, rfl⟩
  case pointer p => cases p <;> (unfold Op.unary at hu; cases hu)
  all_goals (unfold Op.unary at hu; cases hu)

theorem reads_getObj (r : Nat) : Reads P (getObj r) := fun w v w' h => by
  unfold getObj at h
  unfold Sem.run at h
  split at h
  · cases h
  · unfold Sem.run at h
    injection h with h1 h2
    exact h2.symm
  · cases h
theorem reads_len (ts : Array TypeId) (ty : TypeId) (xs : Array Value) : Reads P (Builtin.len_ ts ty xs) := by
  unfold Builtin.len_
  split
  · refine Reads.bind (calm_underlying _).reads fun d => ?_
    repeat' (first | exact (Calm.pure _).reads | exact (calm_stuck _).reads | (refine Reads.bind (calm_underlying _).reads fun _ => ?_) | (refine Reads.bind (reads_getObj _) fun _ => ?_) | split)
  · exact (calm_stuck _).reads
theorem look_string {o : Oper} {t : TypeId} {x : Operand} {rest : List Oper} {a : Act} {w : World}
    (h : wpList P ops (OnlyN Q) ({ o with dst := none, op := .call { callee := .builtin .len, args := #[x], argTypes := #[t] } } :: rest) a w) :
    wpList P ops (OnlyN Q) rest a w ∧ (P.underlying t = some .string → Region.wanted o (yielded ops a.tmps) = true → ∃ s, a.eval x = .string s) := by
  obtain ⟨h1, h2⟩ := look_step rfl (ReadsV.of (s := Builtin.len_ #[t] o.type (#[x].map a.eval)) (reads_len _ _ _)) h
  refine ⟨h1, fun ht hw => ?_⟩
  obtain ⟨v, w', hv⟩ := h2 hw
  obtain ⟨u, w1, hu⟩ := value_run (s := Builtin.len_ #[t] o.type (#[x].map a.eval)) hv
  unfold Builtin.len_ at hu
  simp only [List.map_toArray, List.map_cons, List.map_nil, List.getElem?_toArray, List.getElem?_cons_zero, Sem.run_bind, run_underlying ht, Result.andThen_ok] at hu
  generalize a.eval x = y at hu ⊢
  cases y
  case string s => exact ⟨s, rfl⟩
  all_goals (cases hu)

theorem wpI_of_list : ∀ (l : List Oper) (a : Act) (w : World), wpList P ops (OnlyN Q) (instr tys l) a w → wpI P ops Q tys l a w
  | [], a, w, h => h
  | o :: l, a, w, h => by
    have key : plain tys o a ∨ kindB P tys o ≠ 0 ∨ Region.wanted o (yielded ops a.tmps) ≠ true → wpList P ops (OnlyN Q) (o :: instr tys l) a w → wpI P ops Q tys (o :: l) a w := fun hp h =>
      ⟨fun hk hw => hp.elim (fun hp => calmV_kind hk hp) fun hp => hp.elim (fun hp => (hp hk).elim) fun hp => (hp hw).elim, (stp_of_list h).mono fun a' w' h' => wpI_of_list l a' w' h'⟩
    obtain ⟨dst, op, type, pos, after, guard⟩ := o
    cases op
    case binOp op t x y yt =>
      simp only [instr, chk] at h
      by_cases h0 : look tys t = 0
      · rw [if_pos h0] at h
        exact key (.inr (.inl (by simp only [kindB]; rw [if_pos h0]; omega))) h
      · rw [if_neg h0] at h
        by_cases h1 : look tys t = 1
        · rw [if_pos h1] at h
          obtain ⟨h2, p1⟩ := look_int (o := ⟨dst, .binOp op t x y yt, type, pos, after, guard⟩) h
          obtain ⟨h3, p2⟩ := look_int (o := ⟨dst, .binOp op t x y yt, type, pos, after, guard⟩) h2
          by_cases hw : Region.wanted ⟨dst, .binOp op t x y yt, type, pos, after, guard⟩ (yielded ops a.tmps) = true
          · exact key (.inl ⟨fun _ => ⟨p1 hw, p2 hw⟩, fun e => (e h1).elim⟩) h3
          · exact key (.inr (.inr hw)) h3
        · rw [if_neg h1] at h
          obtain ⟨h2, p1⟩ := look_string (o := ⟨dst, .binOp op t x y yt, type, pos, after, guard⟩) h
          obtain ⟨h3, p2⟩ := look_string (o := ⟨dst, .binOp op t x y yt, type, pos, after, guard⟩) h2
          by_cases hw : Region.wanted ⟨dst, .binOp op t x y yt, type, pos, after, guard⟩ (yielded ops a.tmps) = true
          · by_cases ht : P.underlying t = some .string
            · exact key (.inl ⟨fun e => (h1 e).elim, fun _ _ => ⟨p1 ht hw, p2 ht hw⟩⟩) h3
            · refine key (.inr (.inl ?_)) h3
              simp only [kindB]
              rw [if_neg h0, if_neg h1]
              first | omega | (split <;> first | omega | (rename_i e; exact (ht e).elim))
          · exact key (.inr (.inr hw)) h3
    case convert s d x =>
      simp only [instr, chk] at h
      by_cases h1 : look tys d = 1
      · rw [if_pos h1] at h
        obtain ⟨h2, p1⟩ := look_int (o := ⟨dst, .convert s d x, type, pos, after, guard⟩) h
        by_cases hw : Region.wanted ⟨dst, .convert s d x, type, pos, after, guard⟩ (yielded ops a.tmps) = true
        · exact key (.inl fun _ => p1 hw) h2
        · exact key (.inr (.inr hw)) h2
      · rw [if_neg h1] at h
        exact key (.inl fun e => (h1 e).elim) h
    all_goals exact key (.inl trivial) h

theorem range_get {α : Type} : ∀ (m pre : List α), (List.range' pre.length m.length).filterMap (fun i => (pre ++ m)[i]?) = m
  | [], pre => rfl
  | x :: m, pre => by
    have ih := range_get m (pre ++ [x])
    simp only [List.length_append, List.length_cons, List.length_nil, List.append_assoc, List.singleton_append] at ih
    rw [List.length_cons, List.range'_succ, List.filterMap_cons_some (b := x) (by simp), ih]

/-- A region whose order is drawn, in the order of its text. -/
theorem wp_region_text (tys : List (Nat × Nat)) {id : Nat} {l : List Oper} {a : Act} {w : World} (hm : P.follows .mixedOrders = true) (hB : textB P tys l = true)
    (h : wpList P l.toArray (OnlyN Q) (instr tys l) a w.drew) : (Code.region id l.toArray true).wp P Q a w := by
  refine Code.wp_mono OnlyN.out (wp_region_any hm ?_)
  have hr : rem l.length (Array.replicate l.length false) = List.range l.length := List.filter_eq_self.2 fun i hi => by
    have := List.mem_range.1 hi
    simp [this]
  have hl : (List.range l.length).filterMap (l.toArray[·]?) = l := by
    have := range_get l []
    simpa [List.range_eq_range'] using this
  refine any_of_text hB _ _ _ _ (by simp) ?_ ?_ ?_
  · intro i o _ hi
    simp only [List.size_toArray] at hi
    rw [getD_replicate_false] at hi
    cases hi
  · simp only [List.size_toArray]
    rw [hr]
    simp
  · simp only [List.size_toArray]
    rw [hr, hl]
    exact wpI_of_list l a _ h
end
end Go.Proofs.YtlcaaacbookopaaGreatDoor

namespace Go.Proofs.YtlcaaacbookopaaGreatDoor

section
variable {P : Program} {ops : Array Oper} {Q : Exit → Act → World → Prop} {tys : List (Nat × Nat)} {S : World → Prop}

/-- In the worlds of S: what is ok in one is ok in each, with the same value, and leaves the world. -/
def CalmS (P : Program) (S : World → Prop) (s : Sem Next) : Prop := ∀ w n w', S w → s.run P w = .ok n w' → w' = w ∧ ∃ v, n = .value v ∧ ∀ w2, S w2 → s.run P w2 = .ok (.value v) w2
theorem CalmV.calmS {s : Sem Next} (h : CalmV P s) : CalmS P S s := fun w n w' _ hr => by
  obtain ⟨e, v, hv, h2⟩ := h w n w' hr
  exact ⟨e, v, hv, fun w2 _ => h2 w2⟩

def OkT (P : Program) (tys : List (Nat × Nat)) (S : World → Prop) (ops : Array Oper) (o : Oper) (a : Act) : Prop :=
  kindB P tys o ≤ 1 → Region.wanted o (yielded ops a.tmps) = true → CalmS P S (execOp a.eval o)
theorem OkT.same {o : Oper} {a a' : Act} (h : OkT P tys S ops o a) (he : execOp a'.eval o = execOp a.eval o ∧ Region.wanted o (yielded ops a'.tmps) = Region.wanted o (yielded ops a.tmps)) : OkT P tys S ops o a' := by
  unfold OkT at *
  rw [he.1, he.2]
  exact h
theorem OkT.yv {o : Oper} {a : Act} {w : World} {K : Act → World → Prop} (h : OkT P tys S ops o a) (hk : kindB P tys o ≤ 1) (hS : S w) (hs : Stp P ops Q o K a w) : ∃ v, Yv P ops S o v a := by
  unfold Stp at hs
  by_cases hw : Region.wanted o (yielded ops a.tmps) = true
  · rw [if_pos hw] at hs
    unfold Oper.wp at hs
    cases hr : (execOp a.eval o).run P w with
    | ok n w' =>
      obtain ⟨_, v, _, hv⟩ := h hk hw _ _ _ hS hr
      exact ⟨v, .inl ⟨hw, hv⟩⟩
    | halt x w' =>
      rw [hr] at hs
      cases x <;> simp only [Oper.upon] at hs
      exact (hs : False).elim
  · exact ⟨undef, .inr ⟨by simpa using hw, rfl⟩⟩

/-- Two operations that no edge orders change places. -/
theorem Stp.swapT {oj oi : Oper} {K : Act → World → Prop} {a : Act} {w : World} (hap : oj.apart ops oi = true) (sj : ∀ cs b, oj.op ≠ .select cs b) (si : ∀ cs b, oi.op ≠ .select cs b)
    (hk : kindB P tys oj ≤ 1 ∨ kindB P tys oi ≤ 1) (hS : S w) (hj : OkT P tys S ops oj a)
    (h : Stp P ops Q oj (fun a' w' => S w' ∧ OkT P tys S ops oi a' ∧ Stp P ops Q oi (fun a'' w'' => S w'' ∧ K a'' w'') a' w') a w) :
    OkT P tys S ops oi a ∧ Stp P ops Q oi (fun a' w' => S w' ∧ OkT P tys S ops oj a' ∧ Stp P ops Q oj (fun a'' w'' => S w'' ∧ K a'' w'') a' w') a w := by
  obtain ⟨h1, h2, h3⟩ := Oper.apart_spec hap
  have h4 : ∀ t, oi.dst = some t → oj.dst ≠ some t := fun t e e' => h2 t e' e
  obtain ⟨a1, w1, ⟨u1, ht1⟩, hS1, hok1, hs1⟩ := h.frame.ends
  have e1 := same_put h1 si ht1
  refine ⟨hok1.same ⟨e1.1.symm, e1.2.symm⟩, ?_⟩
  rcases hk with hk | hk
  · obtain ⟨v, hy⟩ := hj.yv hk hS h
    have h5 := ((hy.stp hS).1 h).2.2
    have h6 := (Stp.put h1 h2 si).1 h5
    refine h6.frame.mono fun a' w' ⟨⟨u, ht⟩, hS', hK⟩ => ?_
    have hs := same_put h3 sj ht
    exact ⟨hS', hj.same hs, ((hy.same hs).stp hS').2 ⟨hS', hK⟩⟩
  · obtain ⟨v, hy1⟩ := hok1.yv hk hS1 hs1
    have hy : Yv P ops S oi v a := hy1.same ⟨e1.1.symm, e1.2.symm⟩
    refine (hy.stp hS).2 ⟨hS, hj.same (same_put (u := v) h3 sj rfl), ?_⟩
    refine (Stp.put h3 h4 sj).2 ?_
    refine h.frame.mono fun a' w' ⟨⟨u, ht⟩, hS', _, hs⟩ => ?_
    exact ⟨hS', (((hy.same (same_put h1 si ht)).stp hS').1 hs).2⟩

def wpT (P : Program) (ops : Array Oper) (Q : Exit → Act → World → Prop) (tys : List (Nat × Nat)) (S : World → Prop) : List Oper → Act → World → Prop
  | [], a, w => OnlyN Q .normal a w
  | o :: rest, a, w => OkT P tys S ops o a ∧ Stp P ops Q o (fun a' w' => S w' ∧ wpT P ops Q tys S rest a' w') a w

theorem wpT.front (hsel : ∀ o : Oper, o ∈ ops → ∀ cs b, o.op ≠ .select cs b) (oi : Oper) (hi : oi ∈ ops) (l2 : List Oper) : ∀ (l1 : List Oper) (a : Act) (w : World), S w →
    (∀ oj ∈ l1, oj ∈ ops ∧ oj.apart ops oi = true ∧ (kindB P tys oj ≤ 1 ∨ kindB P tys oi ≤ 1)) →
    wpT P ops Q tys S (l1 ++ oi :: l2) a w → OkT P tys S ops oi a ∧ Stp P ops Q oi (fun a' w' => S w' ∧ wpT P ops Q tys S (l1 ++ l2) a' w') a w
  | [], a, w, _, _, h => h
  | oj :: l1, a, w, hS, hp, h => by
    obtain ⟨hm, h1, h2⟩ := hp oj (by simp)
    have h3 : Stp P ops Q oj (fun a' w' => S w' ∧ OkT P tys S ops oi a' ∧ Stp P ops Q oi (fun a'' w'' => S w'' ∧ wpT P ops Q tys S (l1 ++ l2) a'' w'') a' w') a w :=
      h.2.mono fun a' w' ⟨hS', h'⟩ => ⟨hS', wpT.front hsel oi hi l2 l1 a' w' hS' (fun o ho => hp o (by simp [ho])) h'⟩
    exact Stp.swapT h1 (hsel _ hm) (hsel _ hi) h2 hS h.1 h3

/-! ### The check -/
def pairT (P : Program) (tys : List (Nat × Nat)) (ops : Array Oper) (oj oi : Oper) : Bool := (decide (kindB P tys oj ≤ 1) || decide (kindB P tys oi ≤ 1)) && oj.apart ops oi
def rowT (P : Program) (tys : List (Nat × Nat)) (ops : Array Oper) (oi : Oper) (b : Nat) : Nat → Nat → List Oper → Bool
  | _, 0, _ => true
  | _, _, [] => true
  | k, n + 1, oj :: l => (b.testBit k || pairT P tys ops oj oi) && rowT P tys ops oi b (k + 1) n l
def colT (P : Program) (tys : List (Nat × Nat)) (ops : Array Oper) (all : List Oper) (t : Array Nat) : Nat → List Oper → Bool
  | _, [] => true
  | i, oi :: l => rowT P tys ops oi (t.getD i 0) 0 i all && (oi.after.all fun e => !Region.binds .any e || decide (e.on < i)) && colT P tys ops all t (i + 1) l
def textT (P : Program) (tys : List (Nat × Nat)) (l : List Oper) : Bool :=
  Region.noSelect l.toArray && colT P tys l.toArray l (ancTab l #[]) 0 l

theorem rowT_spec {oi : Oper} {b : Nat} : ∀ (l : List Oper) (k n : Nat), rowT P tys ops oi b k n l = true → ∀ j oj, j < n → l[j]? = some oj → b.testBit (k + j) = true ∨ pairT P tys ops oj oi = true
  | [], k, n, _, j, oj, _, h => by simp at h
  | o :: l, k, 0, _, j, oj, hj, _ => by omega
  | o :: l, k, n + 1, h, j, oj, hj, ho => by
    simp only [rowT, Bool.and_eq_true, Bool.or_eq_true] at h
    cases j with
    | zero => simp at ho; subst ho; exact h.1
    | succ j =>
      have := rowT_spec l (k + 1) n h.2 j oj (by omega) (by simpa using ho)
      rwa [show k + 1 + j = k + (j + 1) by omega] at this
theorem colT_spec {all : List Oper} {t : Array Nat} : ∀ (l : List Oper) (k : Nat), colT P tys ops all t k l = true → ∀ i oi, l[i]? = some oi →
    (∀ j oj, j < k + i → all[j]? = some oj → (t.getD (k + i) 0).testBit j = true ∨ pairT P tys ops oj oi = true) ∧ (∀ e ∈ oi.after.toList, Region.binds .any e = true → e.on < k + i)
  | [], k, _, i, oi, h => by simp at h
  | o :: l, k, h, i, oi, ho => by
    simp only [colT, Bool.and_eq_true] at h
    cases i with
    | zero =>
      simp at ho
      subst ho
      refine ⟨fun j oj hj hoj => ?_, fun e he hb => ?_⟩
      · have := rowT_spec all 0 k h.1.1 j oj hj hoj
        rwa [Nat.zero_add] at this
      · have := Array.all_eq_true_iff_forall_mem.1 h.1.2 e (by simpa using he)
        simpa [hb] using this
    | succ i =>
      have := colT_spec l (k + 1) h.2 i oi (by simpa using ho)
      rwa [show k + 1 + i = k + (i + 1) by omega] at this

theorem any_of_textT {l : List Oper} (hB : textT P tys l = true) : ∀ (fuel : Nat) (listed : Array Bool) (a : Act) (w : World), S w → listed.size = l.length → Closed l.toArray listed → (rem l.length listed).length ≤ fuel →
    wpT P l.toArray Q tys S ((rem l.length listed).filterMap (l.toArray[·]?)) a w → wpAny P .any l.toArray (OnlyN Q) fuel listed a w := by
  simp only [textT, Bool.and_eq_true] at hB
  obtain ⟨hno, hcol⟩ := hB
  have hsel := Region.noSelect_spec hno
  have hselm : ∀ o : Oper, o ∈ l.toArray → ∀ cs b, o.op ≠ .select cs b := fun o ho cs b => by
    obtain ⟨i, hi, rfl⟩ := Array.mem_iff_getElem.1 ho
    exact hsel i _ cs b (Array.getElem?_eq_getElem hi)
  obtain ⟨hgood, hsz⟩ := ancTab_good (ops := l.toArray) l #[] (fun j => by simp) (fun i hi => by simp at hi)
  simp only [List.size_toArray, List.length_nil, Nat.zero_add] at hsz
  have hcs := colT_spec l 0 hcol
  simp only [Nat.zero_add] at hcs
  have ready_rem : ∀ {listed : Array Bool} {i : Nat}, i ∈ Region.ready .any l.toArray listed → i ∈ rem l.length listed := fun {listed i} h => by
    obtain ⟨h0, o, ho, _⟩ := mem_ready.1 h
    exact mem_rem.2 ⟨by simpa using (Array.getElem?_eq_some_iff.1 ho).1, h0⟩
  intro fuel
  induction fuel with
  | zero =>
    intro listed a w _ _ _ hlen h
    have h0 : rem l.length listed = [] := List.eq_nil_of_length_eq_zero (by omega)
    rw [h0] at h
    refine ⟨?_, h⟩
    cases hr : Region.ready .any l.toArray listed with
    | nil => rfl
    | cons x xs =>
      have : x ∈ rem l.length listed := ready_rem (by rw [hr]; simp)
      rw [h0] at this
      cases this
  | succ fuel ih =>
    intro listed a w hS hls hcl hlen h
    have least : ∀ i0 rest, rem l.length listed = i0 :: rest → i0 ∈ Region.ready .any l.toArray listed := fun i0 rest he => by
      have hm : i0 ∈ rem l.length listed := by rw [he]; simp
      obtain ⟨hlt, hun⟩ := mem_rem.1 hm
      have ho : l.toArray[i0]? = some l[i0] := by simp [hlt]
      refine mem_ready.2 ⟨hun, _, ho, fun e hee hb => ?_⟩
      have hel := (hcs i0 l[i0] (by simp [hlt])).2 e (by simpa using hee) hb
      cases hv : listed.getD e.on false with
      | true => rfl
      | false =>
        have hm2 : e.on ∈ rem l.length listed := mem_rem.2 ⟨by omega, getD_in (by omega) hv⟩
        have hs := rem_sorted l.length listed
        rw [he] at hs hm2
        rcases List.mem_cons.1 hm2 with e1 | e1
        · omega
        · have := (List.pairwise_cons.1 hs).1 _ e1
          omega
    refine ⟨fun hr => ?_, fun i hi => ?_⟩
    · cases he : rem l.length listed with
      | nil => rw [he] at h; exact h
      | cons i0 rest =>
        have := least i0 rest he
        rw [hr] at this
        cases this
    · obtain ⟨l1, l2, he⟩ := List.append_of_mem (ready_rem hi)
      obtain ⟨hun, oi, hoi, hall⟩ := mem_ready.1 hi
      have hil : l[i]? = some oi := by simpa using hoi
      have hit : i < l.length := (List.getElem?_eq_some_iff.1 hil).1
      have hs := rem_sorted l.length listed
      rw [he, List.pairwise_append] at hs
      rw [he, List.filterMap_append, List.filterMap_cons_some hoi] at h
      have hfr := wpT.front hselm oi (Array.mem_of_getElem? hoi) (l2.filterMap (l.toArray[·]?)) (l1.filterMap (l.toArray[·]?)) a w hS (fun oj hoj => by
        obtain ⟨j, hj, hjo⟩ := List.mem_filterMap.1 hoj
        refine ⟨Array.mem_of_getElem? hjo, ?_⟩
        have hji : j < i := hs.2.2 j hj i (by simp)
        have hju : listed.getD j true = false := (mem_rem.1 (by rw [he]; simp [hj])).2
        rcases (hcs i oi hil).1 j oj hji (by simpa using hjo) with hb | hb
        · have := anc_listed hgood hcl i oi (by omega) hoi (fun e hee => hall e (by simpa using hee)) hb
          rw [getD_both hju] at this
          cases this
        · simp only [pairT, Bool.and_eq_true, Bool.or_eq_true, decide_eq_true_eq] at hb
          exact ⟨hb.2, hb.1⟩) h
      have hcl' : Closed l.toArray (listed.setIfInBounds i true) := fun k ok hok hk e hee hb => by
        by_cases hik : i = k
        · subst hik
          obtain rfl : ok = oi := Option.some.inj (hok.symm.trans hoi)
          exact getD_set_true (hall e (by simpa using hee) hb)
        · rw [getD_set_ne false hik] at hk
          exact getD_set_true (hcl k ok hok hk e hee hb)
      have hrs := rem_set he
      have hst := hfr.2.mono fun a' w' ⟨hS', h'⟩ => ih (listed.setIfInBounds i true) a' w' hS' (by simpa using hls) hcl' (by rw [hrs]; rw [he] at hlen; simp at hlen ⊢; omega) (by rw [hrs, List.filterMap_append]; exact h')
      unfold wpOp
      rw [hoi]
      unfold Stp at hst
      dsimp only
      split
      · rename_i hw; rw [if_pos hw] at hst; exact .inl hst
      · rename_i hw; rw [if_neg hw] at hst; exact hst
end
end Go.Proofs.YtlcaaacbookopaaGreatDoor

namespace Go.Proofs.YtlcaaacbookopaaGreatDoor

section
variable {P : Program} {ops : Array Oper} {Q : Exit → Act → World → Prop} {tys : List (Nat × Nat)} {bs : List Nat} {W : World}

/-- the named blocks are as they were -/
def SameIn (bs : List Nat) (W w : World) : Prop := ∀ k, k ∈ bs → w.heap[k]? = W.heap[k]?
/-- the named blocks hold cells -/
def CellsIn (bs : List Nat) (W : World) : Prop := ∀ k, k ∈ bs → ∃ cs t fr, W.heap[k]? = some (.cells cs t fr)

theorem load_same {w w2 w' : World} {a : Addr} {m : Mode} {v : Value} (hc : CellsIn bs W) (h1 : SameIn bs W w) (h2 : SameIn bs W w2) (hb : a.block ∈ bs) (h : (load a m).run P w = .ok v w') : (load a m).run P w2 = .ok v w2 := by
  have e : w2.cell? a = w.cell? a := World.cell?_of_block ((h2 _ hb).trans (h1 _ hb).symm)
  unfold load at h ⊢
  unfold Sem.run at h ⊢
  rw [e]
  cases hx : w.cell? a with
  | some u =>
    rw [hx] at h
    simp only [Sem.run_pure'] at h ⊢
    injection h with h3 h4
    rw [h3]
  | none =>
    rw [hx] at h
    obtain ⟨cs, t, fr, hcs⟩ := hc _ hb
    have : w.heap[a.block]? = some (.cells cs t fr) := (h1 _ hb).trans hcs
    simp only [World.farLoad, this] at h
    cases h
theorem loadCellsFrom_same {w w2 : World} {a : Addr} (hc : CellsIn bs W) (h1 : SameIn bs W w) (h2 : SameIn bs W w2) (hb : a.block ∈ bs) : ∀ (n i : Nat) (acc : Array Value) (v : Array Value) (w' : World), (loadCellsFrom a i n acc).run P w = .ok v w' → (loadCellsFrom a i n acc).run P w2 = .ok v w2
  | 0, i, acc, v, w', h => by
    unfold loadCellsFrom at h ⊢
    rw [Sem.run_pure] at h ⊢
    injection h with h3 h4
    rw [h3]
  | n + 1, i, acc, v, w', h => by
    unfold loadCellsFrom at h ⊢
    rw [Sem.run_bind] at h ⊢
    cases hr : (load (a.add i)).run P w with
    | ok u w1 =>
      rw [hr, Result.andThen_ok] at h
      obtain rfl := reads_load _ _ _ _ _ hr
      rw [load_same hc h1 h2 (by rw [block_add]; exact hb) hr, Result.andThen_ok]
      exact loadCellsFrom_same hc h1 h2 hb n _ _ v w' h
    | halt x w1 => rw [hr] at h; cases h
theorem loadAt_same {w w2 w' : World} {t : TypeId} {p : Addr} {v : Value} (hc : CellsIn bs W) (h1 : SameIn bs W w) (h2 : SameIn bs W w2) (hb : p.block ∈ bs) (h : (Instr.loadAt t (.pointer (some p))).run P w = .ok v w') : (Instr.loadAt t (.pointer (some p))).run P w2 = .ok v w2 := by
  unfold Instr.loadAt Instr.sureAddr loadVar at h ⊢
  simp only [Sem.run_bind, Sem.run_pure, Result.andThen_ok] at h ⊢
  cases hr : (isAgg t).run P w with
  | ok b w1 =>
    obtain ⟨rfl, hb2⟩ := calm_isAgg (P := P) t _ _ _ hr
    rw [hr, Result.andThen_ok] at h
    rw [hb2 w2, Result.andThen_ok]
    cases b
    · exact load_same hc h1 h2 hb h
    · simp only [if_true, Sem.run_bind] at h ⊢
      cases hs : (sizeOf t).run P w1 with
      | ok n w3 =>
        obtain ⟨rfl, hs2⟩ := calm_sizeOf (P := P) t _ _ _ hs
        rw [hs, Result.andThen_ok] at h
        rw [hs2 w2, Result.andThen_ok]
        cases hl : (loadCells p n).run P w3 with
        | ok cs w4 =>
          rw [hl, Result.andThen_ok, Sem.run_pure] at h
          have := loadCellsFrom_same hc h1 h2 hb n 0 #[] cs w4 hl
          rw [show (loadCells p n).run P w2 = .ok cs w2 from this, Result.andThen_ok, Sem.run_pure]
          injection h with h3 h4
          rw [h3]
        | halt x w4 => rw [hl] at h; cases h
      | halt x w3 => rw [hs] at h; cases h
  | halt x w1 => rw [hr] at h; cases h

/-- what is loaded lies in the named blocks -/
def LoadIn (bs : List Nat) (ops : Array Oper) (o : Oper) (a : Act) : Prop :=
  Region.wanted o (yielded ops a.tmps) = true → ∃ t x p, o.op = .load t x ∧ a.eval x = .pointer (some p) ∧ p.block ∈ bs
theorem LoadIn.okT {o : Oper} {a : Act} (hc : CellsIn bs W) (h : LoadIn bs ops o a) : OkT P tys (SameIn bs W) ops o a := fun _ hw w n w' hS hr => by
  obtain ⟨t, x, p, ho, hx, hb⟩ := h hw
  have he : execOp a.eval o = (do pure (.value (← Instr.loadAt t (.pointer (some p))))) := by
    obtain ⟨d, op, ty, pos, af, g⟩ := o
    dsimp only at ho
    subst ho
    simp only [execOp, hx]
  rw [he] at hr ⊢
  rw [Sem.run_bind] at hr
  cases hl : (Instr.loadAt t (.pointer (some p))).run P w with
  | ok v w1 =>
    obtain rfl := reads_loadAt _ _ _ _ _ hl
    rw [hl, Result.andThen_ok, Sem.run_pure] at hr
    injection hr with h3 h4
    subst h3; subst h4
    exact ⟨rfl, v, rfl, fun w2 hS2 => by rw [Sem.run_bind, loadAt_same hc hS hS2 hb hl, Result.andThen_ok, Sem.run_pure]⟩
  | halt x w1 => rw [hl] at hr; cases hr

/-- 0: no world; 1: a load; 2: acts -/
def tagOf (tys : List (Nat × Nat)) (o : Oper) : Nat :=
  match o.op with
  | .move _ | .assign _ | .pick .. | .extract .. | .field .. | .unOp .. | .slice .. | .indexAddr .. | .index .. | .nilCheck _ | .fieldAddr .. | .build .. => 0
  | .binOp _ t _ _ _ => if look tys t = 0 then 2 else 0
  | .convert _ d _ => if look tys d = 1 then 0 else 2
  | .call c =>
    match c.callee with
    | .builtin .len =>
      match c.argTypes[0]? with
      | some t => if look tys t = 9 then 2 else 0
      | none => 0
    | _ => 2
  | .load .. => 1
  | _ => 2

/-- The walk's pieces: up to each load, and up to each operation that acts. -/
def wpU (P : Program) (ops : Array Oper) (Q : Exit → Act → World → Prop) (tys : List (Nat × Nat)) (bs : List Nat) (W : World) : List Oper → List Oper → Act → World → Prop
  | acc, [], a, w => wpList P ops (OnlyN Q) acc a w
  | acc, o :: rest, a, w =>
    match tagOf tys o with
    | 0 => wpU P ops Q tys bs W (acc ++ (chk tys o ++ [o])) rest a w
    | 1 => ∀ K : Act → World → Prop, (∀ a w, LoadIn bs ops o a → wpU P ops Q tys bs W [o] rest a w → K a w) → wpList P ops (OnlyN fun _ => K) acc a w
    | _ => ∀ K : Act → World → Prop, (∀ a w, SameIn bs W w → wpU P ops Q tys bs W [] rest a w → K a w) → wpList P ops (OnlyN fun _ => K) (acc ++ [o]) a w

theorem Stp.q {Q' : Exit → Act → World → Prop} {o : Oper} {K : Act → World → Prop} {a : Act} {w : World} (h : Stp P ops Q o K a w) : Stp P ops Q' o K a w := by
  unfold Stp at *
  split
  · rename_i hw
    rw [if_pos hw] at h
    unfold Oper.wp at *
    generalize (execOp a.eval o).run P w = r at *
    cases r with
    | ok n w' =>
      cases n <;> simp only [Oper.upon] at h ⊢
      case value u => exact h
      case skip => exact h
      case defer d => exact h
      case enter f args =>
        refine Calls.mono h fun e w'' he => ?_
        cases e with
        | returned u => exact he
        | panicked c => exact he
        | outgrown => exact (OnlyN.noOut he).elim
      case row row args => exact h
    | halt x w' =>
      cases x <;> simp only [Oper.upon] at h ⊢
      exact (h : False).elim
  · rename_i hw; rw [if_neg hw] at h; exact h

/-- one operation with the look at its operands -/
theorem chk_step {o : Oper} {more : List Oper} {a : Act} {w : World} (h : wpList P ops (OnlyN Q) (chk tys o ++ o :: more) a w) : Ok P tys ops o a ∧ Stp P ops Q o (wpList P ops (OnlyN Q) more) a w := by
  have key : plain tys o a ∨ kindB P tys o ≠ 0 ∨ Region.wanted o (yielded ops a.tmps) ≠ true → wpList P ops (OnlyN Q) (o :: more) a w → Ok P tys ops o a ∧ Stp P ops Q o (wpList P ops (OnlyN Q) more) a w := fun hp h =>
    ⟨fun hk hw => hp.elim (fun hp => calmV_kind hk hp) fun hp => hp.elim (fun hp => (hp hk).elim) fun hp => (hp hw).elim, stp_of_list h⟩
  obtain ⟨dst, op, type, pos, after, guard⟩ := o
  cases op
  case binOp op t x y yt =>
    simp only [chk] at h
    by_cases h0 : look tys t = 0
    · rw [if_pos h0] at h
      exact key (.inr (.inl (by simp only [kindB]; rw [if_pos h0]; omega))) h
    · rw [if_neg h0] at h
      by_cases h1 : look tys t = 1
      · rw [if_pos h1] at h
        obtain ⟨h2, p1⟩ := look_int (o := ⟨dst, .binOp op t x y yt, type, pos, after, guard⟩) h
        obtain ⟨h3, p2⟩ := look_int (o := ⟨dst, .binOp op t x y yt, type, pos, after, guard⟩) h2
        by_cases hw : Region.wanted ⟨dst, .binOp op t x y yt, type, pos, after, guard⟩ (yielded ops a.tmps) = true
        · exact key (.inl ⟨fun _ => ⟨p1 hw, p2 hw⟩, fun e => (e h1).elim⟩) h3
        · exact key (.inr (.inr hw)) h3
      · rw [if_neg h1] at h
        obtain ⟨h2, p1⟩ := look_string (o := ⟨dst, .binOp op t x y yt, type, pos, after, guard⟩) h
        obtain ⟨h3, p2⟩ := look_string (o := ⟨dst, .binOp op t x y yt, type, pos, after, guard⟩) h2
        by_cases hw : Region.wanted ⟨dst, .binOp op t x y yt, type, pos, after, guard⟩ (yielded ops a.tmps) = true
        · by_cases ht : P.underlying t = some .string
          · exact key (.inl ⟨fun e => (h1 e).elim, fun _ _ => ⟨p1 ht hw, p2 ht hw⟩⟩) h3
          · refine key (.inr (.inl ?_)) h3
            simp only [kindB]
            rw [if_neg h0, if_neg h1]
            first | omega | (split <;> first | omega | (rename_i e; exact (ht e).elim))
        · exact key (.inr (.inr hw)) h3
  case convert s d x =>
    simp only [chk] at h
    by_cases h1 : look tys d = 1
    · rw [if_pos h1] at h
      obtain ⟨h2, p1⟩ := look_int (o := ⟨dst, .convert s d x, type, pos, after, guard⟩) h
      by_cases hw : Region.wanted ⟨dst, .convert s d x, type, pos, after, guard⟩ (yielded ops a.tmps) = true
      · exact key (.inl fun _ => p1 hw) h2
      · exact key (.inr (.inr hw)) h2
    · rw [if_neg h1] at h
      exact key (.inl fun e => (h1 e).elim) h
  all_goals exact key (.inl trivial) h

theorem instr_append : ∀ (a b : List Oper), instr tys (a ++ b) = instr tys a ++ instr tys b
  | [], b => rfl
  | o :: a, b => by simp only [List.cons_append, instr, instr_append a b, List.append_assoc, List.cons_append]
theorem instr_one (o : Oper) : instr tys [o] = chk tys o ++ [o] := rfl

/-- a run of operations that hang on no world -/
theorem pend_sound {Q' : Exit → Act → World → Prop} {more T : List Oper} (hR : ∀ a w, SameIn bs W w → wpList P ops (OnlyN Q') more a w → wpT P ops Q tys (SameIn bs W) T a w) :
    ∀ (pend : List Oper), (∀ o ∈ pend, kindB P tys o = 0) → ∀ a w, SameIn bs W w → wpList P ops (OnlyN Q') (instr tys pend ++ more) a w → wpT P ops Q tys (SameIn bs W) (pend ++ T) a w
  | [], _, a, w, hS, h => hR a w hS h
  | o :: pend, hp, a, w, hS, h => by
    have hk := hp o (by simp)
    rw [instr, List.append_assoc, List.cons_append] at h
    obtain ⟨hok, hst⟩ := chk_step h
    obtain ⟨v, hy⟩ := hok.yv hk hst
    have h2 := (hy.stp trivial).1 hst
    exact ⟨fun _ hw => (hok hk hw).calmS, (hy.stp trivial).2 ⟨hS, pend_sound hR pend (fun o ho => hp o (by simp [ho])) _ _ hS h2⟩⟩

theorem full_sound {Q' : Exit → Act → World → Prop} {more T : List Oper} (hc : CellsIn bs W) (hR : ∀ a w, SameIn bs W w → wpList P ops (OnlyN Q') more a w → wpT P ops Q tys (SameIn bs W) T a w)
    (hd : Option Oper) (pend : List Oper) (hp : ∀ o ∈ pend, kindB P tys o = 0) (a : Act) (w : World) (hl : ∀ o ∈ hd, kindB P tys o = 1 ∧ LoadIn bs ops o a) (hS : SameIn bs W w)
    (h : wpList P ops (OnlyN Q') (hd.toList ++ instr tys pend ++ more) a w) : wpT P ops Q tys (SameIn bs W) (hd.toList ++ pend ++ T) a w := by
  cases hd with
  | none => exact pend_sound hR pend hp a w hS h
  | some o =>
    obtain ⟨hk, hli⟩ := hl o rfl
    simp only [Option.toList_some, List.cons_append] at h ⊢
    have hst := stp_of_list h
    have hok : OkT P tys (SameIn bs W) ops o a := hli.okT hc
    obtain ⟨v, hy⟩ := hok.yv (by omega) hS hst
    exact ⟨hok, (hy.stp hS).2 ⟨hS, pend_sound hR pend hp _ _ hS ((hy.stp hS).1 hst)⟩⟩

theorem wpU_sound (hc : CellsIn bs W) : ∀ (rest : List Oper) (hd : Option Oper) (pend : List Oper), (∀ o ∈ rest, kindB P tys o = tagOf tys o) → (∀ o ∈ pend, kindB P tys o = 0) →
    ∀ (a : Act) (w : World), (∀ o ∈ hd, kindB P tys o = 1 ∧ LoadIn bs ops o a) → SameIn bs W w → wpU P ops Q tys bs W (hd.toList ++ instr tys pend) rest a w → wpT P ops Q tys (SameIn bs W) (hd.toList ++ pend ++ rest) a w
  | [], hd, pend, _, hp, a, w, hl, hS, h => full_sound (Q' := Q) (more := []) (T := []) hc (fun a w _ h => h) hd pend hp a w hl hS (by rw [List.append_nil]; exact h)
  | o :: rest, hd, pend, hr, hp, a, w, hl, hS, h => by
    have hko := hr o (by simp)
    have hr' : ∀ o ∈ rest, kindB P tys o = tagOf tys o := fun x hx => hr x (by simp [hx])
    unfold wpU at h
    split at h
    · rename_i ht
      have := wpU_sound hc rest hd (pend ++ [o]) hr' (fun x hx => by
        rcases List.mem_append.1 hx with hx | hx
        · exact hp x hx
        · simp only [List.mem_cons, List.not_mem_nil, or_false] at hx
          subst hx
          rw [hko, ht]) a w hl hS (by rw [instr_append, instr_one, ← List.append_assoc]; exact h)
      simpa [List.append_assoc] using this
    · rename_i ht
      have h2 := h (fun a w => SameIn bs W w → wpT P ops Q tys (SameIn bs W) (o :: rest) a w) fun a w hli hu hS => by
        have := wpU_sound hc rest (some o) [] hr' (fun x hx => by cases hx) a w (fun x hx => by cases hx; exact ⟨by rw [hko, ht], hli⟩) hS hu
        exact this
      have := full_sound (Q' := fun _ => fun a w => SameIn bs W w → wpT P ops Q tys (SameIn bs W) (o :: rest) a w) (more := []) (T := o :: rest) hc (fun a w hS h => h hS) hd pend hp a w hl hS (by rw [List.append_nil]; exact h2)
      exact this
    · rename_i ht0 ht1
      have h2 := h (fun a w => SameIn bs W w ∧ wpT P ops Q tys (SameIn bs W) rest a w) fun a w hS hu =>
        ⟨hS, wpU_sound hc rest none [] hr' (fun x hx => by cases hx) a w (fun x hx => by cases hx) hS hu⟩
      have := full_sound (Q' := fun _ => fun a w => SameIn bs W w ∧ wpT P ops Q tys (SameIn bs W) rest a w) (more := [o]) (T := o :: rest) hc (fun a w hS h =>
        ⟨fun hk => by
          exfalso
          have : tagOf tys o ≤ 1 := by rw [← hko]; exact hk
          rcases Nat.le_one_iff_eq_zero_or_eq_one.1 this with h | h
          · exact ht0 h
          · exact ht1 h, (stp_of_list h).q⟩) hd pend hp a w hl hS h2
      exact this

/-- The check that the kernel runs. -/
def textS (P : Program) (tys : List (Nat × Nat)) (l : List Oper) : Bool := textT P tys l && l.all fun o => kindB P tys o == tagOf tys o

/-- A region whose order is drawn, in the order of its text; the blocks bs, in which what is loaded lies, stay as they are. -/
theorem wp_region_textS (tys : List (Nat × Nat)) (bs : List Nat) {id : Nat} {l : List Oper} {a : Act} {w : World} (hm : P.follows .mixedOrders = true) (hB : textS P tys l = true) (hc : CellsIn bs w)
    (h : wpU P l.toArray Q tys bs w [] l a w.drew) : (Code.region id l.toArray true).wp P Q a w := by
  simp only [textS, Bool.and_eq_true] at hB
  refine Code.wp_mono OnlyN.out (wp_region_any hm ?_)
  have hr : rem l.length (Array.replicate l.length false) = List.range l.length := List.filter_eq_self.2 fun i hi => by
    have := List.mem_range.1 hi
    simp [this]
  have hl : (List.range l.length).filterMap (l.toArray[·]?) = l := by
    have := range_get l []
    simpa [List.range_eq_range'] using this
  have hS : SameIn bs w { w with drawn := w.drawn + 1 } := fun k _ => rfl
  refine any_of_textT (S := SameIn bs w) hB.1 _ _ _ _ hS (by simp) ?_ ?_ ?_
  · intro i o _ hi
    simp only [List.size_toArray] at hi
    rw [getD_replicate_false] at hi
    cases hi
  · simp only [List.size_toArray]
    rw [hr]
    simp
  · simp only [List.size_toArray]
    rw [hr, hl]
    exact wpU_sound hc l none [] (fun o ho => by have := List.all_eq_true.1 hB.2 o ho; simpa using this) (fun x hx => by cases hx) a _ (fun x hx => by cases hx) hS h
end
end Go.Proofs.YtlcaaacbookopaaGreatDoor
