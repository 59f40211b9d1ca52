/-
  A region whose order is drawn, walked in the order of its text, as one whose order is not drawn: ahead of each comparison, sum and conversion stands a look at its operands (they are integers, or texts). Conditions: a check of the region that the kernel runs; no program in sight.
-/
import Derived.Test.YtddgkfheoldjkaaTr
namespace Go.Proofs.Ytddgkfheoldjkaa

section
variable {P : Program} {ops : Array Oper} {Q : Exit → Act → World → Prop} {tys : List (Nat × Nat)}

def instr (tys : List (Nat × Nat)) : List Oper → List Oper
  | [] => []
  | o :: l => chk tys o ++ o :: instr tys l

theorem stp_of_list {o : Oper} {rest : List Oper} {a : Act} {w : World} (h : wpList P ops (OnlyN Q) (o :: rest) a w) : Stp P ops Q o (wpList P ops (OnlyN Q) rest) a w := by
  unfold wpList at h
  unfold Stp
  split
  · rename_i hw
    rw [if_pos hw] at h
    exact h.resolve_right fun h => OnlyN.noOut h.2
  · rename_i hw; rw [if_neg hw] at h; exact h

theorem look_step {o : Oper} {rest : List Oper} {a : Act} {w : World} (hd : o.dst = none) (hr : ReadsV P (execOp a.eval o)) (h : wpList P ops (OnlyN Q) (o :: rest) a w) :
    wpList P ops (OnlyN Q) rest a w ∧ (Region.wanted o (yielded ops a.tmps) = true → ∃ v w', (execOp a.eval o).run P w = .ok (.value v) w') := by
  have h := stp_of_list h
  unfold Stp at h
  have hp : ∀ v, a.put o.dst v = a := fun v => by rw [hd]; rfl
  by_cases hw : Region.wanted o (yielded ops a.tmps) = true
  · rw [if_pos hw] at h
    unfold Oper.wp at h
    cases hx : (execOp a.eval o).run P w with
    | ok n w' =>
      obtain ⟨rfl, v, rfl⟩ := hr _ _ _ hx
      rw [hx] at h
      simp only [Oper.upon, hp] at h
      exact ⟨h, fun _ => ⟨v, _, rfl⟩⟩
    | halt x w' =>
      rw [hx] at h
      cases x <;> simp only [Oper.upon] at h
      exact (h : False).elim
  · rw [if_neg hw, hp] at h
    exact ⟨h, fun e => (hw e).elim⟩

theorem value_run {s : Sem Value} {v : Value} {w w' : World} (h : (do pure (.value (← s)) : Sem Next).run P w = .ok (.value v) w') : ∃ u w1, s.run P w = .ok u w1 := by
  rw [Sem.run_bind] at h
  cases hs : s.run P w with
  | ok u w1 => exact ⟨u, w1, rfl⟩
  | halt x w1 => rw [hs] at h; cases h

theorem look_int {o : Oper} {t : TypeId} {x : Operand} {rest : List Oper} {a : Act} {w : World} (h : wpList P ops (OnlyN Q) ({ o with dst := none, op := .unOp .xor t x } :: rest) a w) :
    wpList P ops (OnlyN Q) rest a w ∧ (Region.wanted o (yielded ops a.tmps) = true → ∃ k n, a.eval x = .int k n) := by
  obtain ⟨h1, h2⟩ := look_step rfl (ReadsV.of (calm_unary _ _).reads) h
  refine ⟨h1, fun hw => ?_⟩
  obtain ⟨v, w', hv⟩ := h2 hw
  obtain ⟨u, w1, hu⟩ := value_run (s := Op.unary .xor (a.eval x)) hv
  generalize a.eval x = y at hu ⊢
  cases y
  case int k n => exact ⟨k, n, rfl⟩
  case pointer p => cases p <;> (unfold Op.unary at hu; cases hu)
  all_goals (unfold Op.unary at hu; cases hu)

theorem reads_getObj (r : Nat) : Reads P (getObj r) := fun w v w' h => by
  unfold getObj at h
  unfold Sem.run at h
  split at h
  · cases h
  · unfold Sem.run at h
    injection h with h1 h2
    exact h2.symm
  · cases h
theorem reads_len (ts : Array TypeId) (ty : TypeId) (xs : Array Value) : Reads P (Builtin.len_ ts ty xs) := by
  unfold Builtin.len_
  split
  · refine Reads.bind (calm_underlying _).reads fun d => ?_
    repeat' (first | exact (Calm.pure _).reads | exact (calm_stuck _).reads | (refine Reads.bind (calm_underlying _).reads fun _ => ?_) | (refine Reads.bind (reads_getObj _) fun _ => ?_) | split)
  · exact (calm_stuck _).reads
theorem look_string {o : Oper} {t : TypeId} {x : Operand} {rest : List Oper} {a : Act} {w : World}
    (h : wpList P ops (OnlyN Q) ({ o with dst := none, op := .call { callee := .builtin .len, args := #[x], argTypes := #[t] } } :: rest) a w) :
    wpList P ops (OnlyN Q) rest a w ∧ (P.underlying t = some .string → Region.wanted o (yielded ops a.tmps) = true → ∃ s, a.eval x = .string s) := by
  obtain ⟨h1, h2⟩ := look_step rfl (ReadsV.of (s := Builtin.len_ #[t] o.type (#[x].map a.eval)) (reads_len _ _ _)) h
  refine ⟨h1, fun ht hw => ?_⟩
  obtain ⟨v, w', hv⟩ := h2 hw
  obtain ⟨u, w1, hu⟩ := value_run (s := Builtin.len_ #[t] o.type (#[x].map a.eval)) hv
  unfold Builtin.len_ at hu
  simp only [List.map_toArray, List.map_cons, List.map_nil, List.getElem?_toArray, List.getElem?_cons_zero, Sem.run_bind, run_underlying ht, Result.andThen_ok] at hu
  generalize a.eval x = y at hu ⊢
  cases y
  case string s => exact ⟨s, rfl⟩
  all_goals (cases hu)

theorem wpI_of_list : ∀ (l : List Oper) (a : Act) (w : World), wpList P ops (OnlyN Q) (instr tys l) a w → wpI P ops Q tys l a w
  | [], a, w, h => h
  | o :: l, a, w, h => by
    have key : plain tys o a ∨ kindB P tys o ≠ 0 ∨ Region.wanted o (yielded ops a.tmps) ≠ true → wpList P ops (OnlyN Q) (o :: instr tys l) a w → wpI P ops Q tys (o :: l) a w := fun hp h =>
      ⟨fun hk hw => hp.elim (fun hp => calmV_kind hk hp) fun hp => hp.elim (fun hp => (hp hk).elim) fun hp => (hp hw).elim, (stp_of_list h).mono fun a' w' h' => wpI_of_list l a' w' h'⟩
    obtain ⟨dst, op, type, pos, after, guard⟩ := o
    cases op
    case binOp op t x y yt =>
      simp only [instr, chk] at h
      by_cases h0 : look tys t = 0
      · rw [if_pos h0] at h
        exact key (.inr (.inl (by simp only [kindB]; rw [if_pos h0]; omega))) h
      · rw [if_neg h0] at h
        by_cases h1 : look tys t = 1
        · rw [if_pos h1] at h
          obtain ⟨h2, p1⟩ := look_int (o := ⟨dst, .binOp op t x y yt, type, pos, after, guard⟩) h
          obtain ⟨h3, p2⟩ := look_int (o := ⟨dst, .binOp op t x y yt, type, pos, after, guard⟩) h2
          by_cases hw : Region.wanted ⟨dst, .binOp op t x y yt, type, pos, after, guard⟩ (yielded ops a.tmps) = true
          · exact key (.inl ⟨fun _ => ⟨p1 hw, p2 hw⟩, fun e => (e h1).elim⟩) h3
          · exact key (.inr (.inr hw)) h3
        · rw [if_neg h1] at h
          obtain ⟨h2, p1⟩ := look_string (o := ⟨dst, .binOp op t x y yt, type, pos, after, guard⟩) h
          obtain ⟨h3, p2⟩ := look_string (o := ⟨dst, .binOp op t x y yt, type, pos, after, guard⟩) h2
          by_cases hw : Region.wanted ⟨dst, .binOp op t x y yt, type, pos, after, guard⟩ (yielded ops a.tmps) = true
          · by_cases ht : P.underlying t = some .string
            · exact key (.inl ⟨fun e => (h1 e).elim, fun _ _ => ⟨p1 ht hw, p2 ht hw⟩⟩) h3
            · refine key (.inr (.inl ?_)) h3
              simp only [kindB]
              rw [if_neg h0, if_neg h1]
              first | omega | (split <;> first | omega | (rename_i e; exact (ht e).elim))
          · exact key (.inr (.inr hw)) h3
    case convert s d x =>
      simp only [instr, chk] at h
      by_cases h1 : look tys d = 1
      · rw [if_pos h1] at h
        obtain ⟨h2, p1⟩ := look_int (o := ⟨dst, .convert s d x, type, pos, after, guard⟩) h
        by_cases hw : Region.wanted ⟨dst, .convert s d x, type, pos, after, guard⟩ (yielded ops a.tmps) = true
        · exact key (.inl fun _ => p1 hw) h2
        · exact key (.inr (.inr hw)) h2
      · rw [if_neg h1] at h
        exact key (.inl fun e => (h1 e).elim) h
    all_goals exact key (.inl trivial) h

theorem range_get {α : Type} : ∀ (m pre : List α), (List.range' pre.length m.length).filterMap (fun i => (pre ++ m)[i]?) = m
  | [], pre => rfl
  | x :: m, pre => by
    have ih := range_get m (pre ++ [x])
    simp only [List.length_append, List.length_cons, List.length_nil, List.append_assoc, List.singleton_append] at ih
    rw [List.length_cons, List.range'_succ, List.filterMap_cons_some (b := x) (by simp), ih]

/-- A region whose order is drawn, in the order of its text. -/
theorem wp_region_text (tys : List (Nat × Nat)) {id : Nat} {l : List Oper} {a : Act} {w : World} (hm : P.follows .mixedOrders = true) (hB : textB P tys l = true)
    (h : wpList P l.toArray (OnlyN Q) (instr tys l) a w.drew) : (Code.region id l.toArray true).wp P Q a w := by
  refine Code.wp_mono OnlyN.out (wp_region_any hm ?_)
  have hr : rem l.length (Array.replicate l.length false) = List.range l.length := List.filter_eq_self.2 fun i hi => by
    have := List.mem_range.1 hi
    simp [this]
  have hl : (List.range l.length).filterMap (l.toArray[·]?) = l := by
    have := range_get l []
    simpa [List.range_eq_range'] using this
  refine any_of_text hB _ _ _ _ (by simp) ?_ ?_ ?_
  · intro i o _ hi
    simp only [List.size_toArray] at hi
    rw [getD_replicate_false] at hi
    cases hi
  · simp only [List.size_toArray]
    rw [hr]
    simp
  · simp only [List.size_toArray]
    rw [hr, hl]
    exact wpI_of_list l a _ h
end
end Go.Proofs.Ytddgkfheoldjkaa
