/-
  A region whose order is drawn, walked in the order of its text: the theorem. Conditions: those that it names; no program in sight.
-/
import Derived.Test.YtddgkfheoldjkaaTx
namespace Go.Proofs.Ytddgkfheoldjkaa

section
variable {P : Program}
theorem reads_load (a : Addr) (m : Mode) : Reads P (load a m) := fun w v w' h => by
  unfold load at h
  unfold Sem.run at h
  split at h
  · unfold Sem.run at h
    injection h with h1 h2
    exact h2.symm
  · split at h
    · unfold Sem.run at h
      injection h with h1 h2
      exact h2.symm
    · cases h
theorem reads_loadCellsFrom (a : Addr) : ∀ (n i : Nat) (acc : Array Value), Reads P (loadCellsFrom a i n acc)
  | 0, _, _ => (Calm.pure _).reads
  | n + 1, i, acc => by
    unfold loadCellsFrom
    exact Reads.bind (reads_load _ _) fun _ => reads_loadCellsFrom a n _ _
theorem reads_loadAt (t : TypeId) (v : Value) : Reads P (Instr.loadAt t v) := by
  unfold Instr.loadAt loadVar
  refine Reads.bind (calm_sureAddr _).reads fun a => Reads.bind (calm_isAgg _).reads fun b => ?_
  split
  · exact Reads.bind (calm_sizeOf _).reads fun _ => Reads.bind (reads_loadCellsFrom _ _ _ _) fun _ => (Calm.pure _).reads
  · exact reads_load _ _
theorem calm_fieldAt {s : TypeId} {fs : Array Field} {k : Nat} {f : Field} {i : TypeInfo} (v : Value) (hs : P.underlying s = some (.struct fs)) (hf : fs[k]? = some f) (hi : P.info? f.type = some i) (hz : i.size ≠ 0) : Calm P (Instr.fieldAt s v k) := by
  have hrun : ∀ w, (Instr.fieldAt s v k).run P w = ((Instr.sureAddr v).run P w).andThen fun a w => .ok (.pointer (some (a.add f.offset))) w := fun w => by
    unfold Instr.fieldAt
    rw [Sem.run_bind, run_underlying hs, Result.andThen_ok]
    dsimp only
    rw [hf]
    dsimp only
    rw [Sem.run_bind]
    congr 1
    funext a w
    unfold fieldPlace sizeOf
    have ht : ∀ w, (typeInfo f.type).run P w = .ok i w := fun w => by
      unfold typeInfo
      rw [Sem.run_bind]
      show (Result.andThen (.ok P w) _) = _
      rw [Result.andThen_ok, hi]
      rfl
    simp only [Sem.run_bind, ht, Result.andThen_ok, Sem.run_pure, hz, if_false]
  intro w v' w' h
  rw [hrun] at h
  cases hr : (Instr.sureAddr v).run P w with
  | ok a w1 =>
    rw [hr, Result.andThen_ok] at h
    injection h with h1 h2
    subst h1; subst h2
    obtain ⟨rfl, hv⟩ := calm_sureAddr v _ _ _ hr
    exact ⟨rfl, fun w2 => by rw [hrun, hv w2, Result.andThen_ok]⟩
  | halt x w1 => rw [hr] at h; cases h
theorem calm_followBlind : ∀ (l : List FieldStep) (t : TypeId) (x : Option Value), Calm P (followBlind l t x)
  | [], t, x => Calm.pure _
  | s :: rest, t, x => by
    have ih := calm_followBlind rest
    unfold followBlind
    repeat' (first | exact Calm.pure _ | exact calm_stuck _ | exact ih _ _ | exact calm_underlying _ | exact calm_part _ _ _ | (refine Calm.bind ?_ fun _ => ?_) | split | dsimp only)
theorem calm_nilAhead : ∀ (n : Nat) (t : TypeId) (v : Value) (s : String), Calm P (nilAhead n t v s)
  | 0, _, _, _ => Calm.pure _
  | n + 1, t, v, s => by
    have ih := calm_nilAhead n
    unfold nilAhead
    repeat' (first | exact Calm.pure _ | exact calm_stuck _ | exact ih _ _ _ | exact calm_typeInfo _ | exact calm_underlying _ | exact calm_followBlind _ _ _ | (refine Calm.bind ?_ fun _ => ?_) | split | dsimp only)
end

/-! ### Operations by their kind -/
def look : List (Nat × Nat) → Nat → Nat
  | [], _ => 0
  | (a, b) :: l, t => if a == t then b else look l t

/-- 0: hangs on no world; 1: only reads; 2: acts; 3: is not borne -/
def kindB (P : Program) (tys : List (Nat × Nat)) (o : Oper) : Nat :=
  match o.op with
  | .move _ | .assign _ | .pick .. | .extract .. | .field .. | .unOp .. | .slice .. | .indexAddr .. | .index .. | .nilCheck _ | .build .. => 0
  | .fieldAddr s _ f =>
    match P.underlying s with
    | some (.struct fs) =>
      match fs[f]? with
      | some g =>
        match P.info? g.type with
        | some i => if i.size = 0 then 2 else 0
        | none => 2
      | none => 2
    | _ => 2
  | .binOp _ t _ _ _ =>
    if look tys t = 0 then 2 else
    if look tys t = 1 then 0 else
    match P.underlying t with
    | some .string => 0
    | _ => 3
  | .convert _ d _ =>
    if look tys d = 1 then
      match P.underlying d with
      | some (.int _) => 0
      | _ => 3
    else 2
  | .call c =>
    match c.callee with
    | .builtin .len =>
      match c.argTypes[0]? with
      | some t =>
        match P.underlying t with
        | some .string | some (.slice _) => 0
        | _ => 2
      | none => 2
    | _ => 2
  | .load .. => 1
  | .defer _ | .go _ | .select .. | .send .. | .recv .. | .panic _ => 3
  | _ => 2

/-- what is asked of the operands -/
def plain (tys : List (Nat × Nat)) (o : Oper) (a : Act) : Prop :=
  match o.op with
  | .binOp _ t x y _ => (look tys t = 1 → (∃ k n, a.eval x = .int k n) ∧ ∃ k n, a.eval y = .int k n) ∧ (look tys t ≠ 1 → look tys t ≠ 0 → (∃ s, a.eval x = .string s) ∧ ∃ s, a.eval y = .string s)
  | .convert _ d x => look tys d = 1 → ∃ k n, a.eval x = .int k n
  | _ => True

/-- operations that look whether the operands are what is asked -/
def chk (tys : List (Nat × Nat)) (o : Oper) : List Oper :=
  match o.op with
  | .binOp _ t x y _ =>
    if look tys t = 0 then [] else
    if look tys t = 1 then [{ o with dst := none, op := .unOp .xor t x }, { o with dst := none, op := .unOp .xor t y }]
    else [{ o with dst := none, op := .call { callee := .builtin .len, args := #[x], argTypes := #[t] } }, { o with dst := none, op := .call { callee := .builtin .len, args := #[y], argTypes := #[t] } }]
  | .convert _ d x => if look tys d = 1 then [{ o with dst := none, op := .unOp .xor d x }] else []
  | _ => []
end Go.Proofs.Ytddgkfheoldjkaa
