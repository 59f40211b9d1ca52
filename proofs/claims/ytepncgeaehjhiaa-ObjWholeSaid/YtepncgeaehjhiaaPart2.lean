/-
  Several texts in one:
  A region whose order is drawn may be walked in the order of its text, as one whose order is not drawn: where of each two operations that no edge orders one hangs on no world, or both only read. Conditions: those that the theorem names; no program in sight.
  A region whose order is drawn, walked in the order of its text: the theorem. Conditions: those that it names; no program in sight.
  A region whose order is drawn, walked in the order of its text: the theorem. Conditions: those that it names; no program in sight.
  A region whose order is drawn, walked in the order of its text: whatever order is drawn, what the text's order comes to is come to. Conditions: a check of the region that the kernel runs; no program in sight.
-/
import Derived.Test.YtepncgeaehjhiaaPart1

namespace Go.Proofs.Ytepncgeaehjhiaa

/-- Normal ends alone. -/
def OnlyN (Q : Exit → Act → World → Prop) : Exit → Act → World → Prop
  | .normal, a, w => Q .normal a w
  | _, _, _ => False
theorem OnlyN.normal {Q : Exit → Act → World → Prop} {a : Act} {w : World} (h : Q .normal a w) : OnlyN Q .normal a w := h
theorem OnlyN.out {Q : Exit → Act → World → Prop} : ∀ (e : Exit) (a : Act) (w : World), OnlyN Q e a w → Q e a w := fun e a w h => by
  cases e <;> first | exact h | exact (h : False).elim
theorem OnlyN.noOut {Q : Exit → Act → World → Prop} : ¬ LetsOut (OnlyN Q) := fun ⟨_, _, h⟩ => h

/-! ### What hangs on no world -/
def Calm (P : Program) {α : Type} (s : Sem α) : Prop := ∀ w v w', s.run P w = .ok v w' → w' = w ∧ ∀ w2, s.run P w2 = .ok v w2
def Never (P : Program) {α : Type} (s : Sem α) : Prop := ∀ w v w', s.run P w ≠ .ok v w'
def Reads (P : Program) {α : Type} (s : Sem α) : Prop := ∀ w v w', s.run P w = .ok v w' → w' = w

section
variable {P : Program} {α β : Type}
theorem Calm.pure (a : α) : Calm P (Pure.pure a : Sem α) := fun w v w' h => by
  rw [Sem.run_pure] at h
  injection h with h1 h2
  subst h1; subst h2
  exact ⟨rfl, fun w2 => rfl⟩
theorem Never.calm {s : Sem α} (h : Never P s) : Calm P s := fun w v w' e => (h w v w' e).elim
theorem Calm.bind {s : Sem α} {f : α → Sem β} (hs : Calm P s) (hf : ∀ a, Calm P (f a)) : Calm P (s >>= f) := fun w v w' h => by
  rw [Sem.run_bind] at h
  cases hr : s.run P w with
  | ok u w1 =>
    rw [hr] at h
    obtain ⟨rfl, hu⟩ := hs _ _ _ hr
    obtain ⟨e, hv⟩ := hf u _ _ _ h
    exact ⟨e, fun w2 => by rw [Sem.run_bind, hu w2]; exact hv w2⟩
  | halt x w1 => rw [hr] at h; cases h
theorem Never.bind {s : Sem α} {f : α → Sem β} (hf : ∀ a, Never P (f a)) : Never P (s >>= f) := fun w v w' h => by
  rw [Sem.run_bind] at h
  cases hr : s.run P w with
  | ok u w1 => rw [hr] at h; exact hf u _ _ _ h
  | halt x w1 => rw [hr] at h; cases h
theorem Reads.bind {s : Sem α} {f : α → Sem β} (hs : Reads P s) (hf : ∀ a, Reads P (f a)) : Reads P (s >>= f) := fun w v w' h => by
  rw [Sem.run_bind] at h
  cases hr : s.run P w with
  | ok u w1 =>
    rw [hr] at h
    obtain rfl := hs _ _ _ hr
    exact hf u _ _ _ h
  | halt x w1 => rw [hr] at h; cases h
theorem Calm.reads {s : Sem α} (h : Calm P s) : Reads P s := fun w v w' e => (h w v w' e).1
theorem never_halt (h : Halt) : Never P (.halt h : Sem α) := fun w v w' e => by simp only [Sem.run] at e; cases e
theorem calm_stuck (why : String) : Calm P (stuck why : Sem α) := (never_halt _).calm
theorem calm_unsupported (u : Unsupported) : Calm P (unsupported u : Sem α) := (never_halt _).calm
theorem never_goPanic (v : Value) : Never P (goPanic v : Sem α) := never_halt _
theorem never_runtimePanic (e : RuntimeError) : Never P (runtimePanic e : Sem α) := by
  unfold runtimePanic
  refine Never.bind fun p => ?_
  cases e
  all_goals first
    | exact never_goPanic _
    | (refine Never.bind fun _ => ?_; first | exact never_goPanic _ | (refine Never.bind fun _ => ?_; exact never_goPanic _))
theorem calm_runtimePanic (e : RuntimeError) : Calm P (runtimePanic e : Sem α) := (never_runtimePanic e).calm
theorem calm_boundsPanic (k : IntKind) (x y : Int) (c : BoundsCode) : Calm P (boundsPanic k x y c : Sem α) := by
  unfold boundsPanic
  refine Never.calm ?_
  dsimp only
  repeat' (first | exact never_runtimePanic _ | (refine Never.bind fun _ => ?_) | split | dsimp only)
theorem calm_program : Calm P program := fun w v w' h => by
  simp only [program, Sem.run] at h
  injection h with h1 h2
  subst h1; subst h2
  exact ⟨rfl, fun w2 => rfl⟩
theorem calm_typeInfo (t : TypeId) : Calm P (typeInfo t) := by
  unfold typeInfo
  refine Calm.bind calm_program fun p => ?_
  split
  · exact Calm.pure _
  · exact calm_stuck _
theorem calm_underlying (t : TypeId) : Calm P (underlying t) := by
  unfold underlying
  refine Calm.bind calm_program fun p => ?_
  split
  · exact Calm.pure _
  · exact calm_stuck _
theorem calm_sizeOf (t : TypeId) : Calm P (sizeOf t) := Calm.bind (calm_typeInfo t) fun _ => Calm.pure _
theorem calm_isAgg (t : TypeId) : Calm P (isAgg t) := by
  unfold isAgg
  refine Calm.bind (calm_underlying t) fun d => ?_
  split <;> exact Calm.pure _
theorem calm_asIntOf (v : Value) : Calm P (asIntOf v) := by
  unfold asIntOf
  split <;> first | exact Calm.pure _ | exact calm_unsupported _ | exact calm_stuck _
theorem calm_asBool (v : Value) : Calm P (asBool v) := by
  unfold asBool
  split <;> first | exact Calm.pure _ | exact calm_stuck _
theorem calm_asAgg (v : Value) : Calm P (asAgg v) := by
  unfold asAgg
  split <;> first | exact Calm.pure _ | exact calm_stuck _
theorem calm_sureAddr (v : Value) : Calm P (Instr.sureAddr v) := by
  unfold Instr.sureAddr
  split <;> first | exact Calm.pure _ | exact calm_stuck _
theorem calm_part (t : TypeId) (cs : Array Value) (off : Nat) : Calm P (part t cs off) := by
  unfold part
  refine Calm.bind (calm_isAgg t) fun b => ?_
  split
  · exact Calm.bind (calm_sizeOf t) fun _ => Calm.pure _
  · split
    · exact Calm.pure _
    · exact calm_stuck _
theorem calm_sliceBound (x : Value) (y : Nat) (c : BoundsCode) : Calm P (Instr.sliceBound x y c) := by
  unfold Instr.sliceBound
  repeat' (first | exact Calm.pure _ | exact calm_stuck _ | exact calm_unsupported _ | exact calm_boundsPanic _ _ _ _ | exact calm_runtimePanic _ | exact calm_asIntOf _ | exact calm_asBool _ | exact calm_asAgg _ | exact calm_sureAddr _ | exact calm_underlying _ | exact calm_sizeOf _ | exact calm_part _ _ _ | (refine Calm.bind ?_ fun _ => ?_) | split | dsimp only)
theorem calm_sliceBounds (b : Bool) (n m : Nat) (lo hi mx : Option Value) : Calm P (Instr.sliceBounds b n m lo hi mx) := by
  unfold Instr.sliceBounds
  repeat' (first | exact Calm.pure _ | exact calm_stuck _ | exact calm_unsupported _ | exact calm_boundsPanic _ _ _ _ | exact calm_runtimePanic _ | exact calm_asIntOf _ | exact calm_asBool _ | exact calm_asAgg _ | exact calm_sureAddr _ | exact calm_underlying _ | exact calm_sizeOf _ | exact calm_part _ _ _ | exact calm_sliceBound _ _ _ | (refine Calm.bind ?_ fun _ => ?_) | split | dsimp only)
theorem calm_asAddr (v : Value) : Calm P (asAddr v) := by
  unfold asAddr
  repeat' (first | exact Calm.pure _ | exact calm_stuck _ | exact calm_unsupported _ | exact calm_boundsPanic _ _ _ _ | exact calm_runtimePanic _ | exact calm_asIntOf _ | exact calm_asBool _ | exact calm_asAgg _ | exact calm_sureAddr _ | exact calm_underlying _ | exact calm_sizeOf _ | exact calm_part _ _ _ | (refine Calm.bind ?_ fun _ => ?_) | split | dsimp only)
theorem calm_slice (t : TypeId) (x : Value) (lo hi mx : Option Value) : Calm P (Instr.slice t x lo hi mx) := by
  unfold Instr.slice
  repeat' (first | exact Calm.pure _ | exact calm_stuck _ | exact calm_unsupported _ | exact calm_boundsPanic _ _ _ _ | exact calm_runtimePanic _ | exact calm_asIntOf _ | exact calm_asBool _ | exact calm_asAgg _ | exact calm_sureAddr _ | exact calm_underlying _ | exact calm_sizeOf _ | exact calm_part _ _ _ | exact calm_sliceBounds _ _ _ _ _ _ | exact calm_asAddr _ | (refine Calm.bind ?_ fun _ => ?_) | split | dsimp only)
theorem calm_sliceAt (t : TypeId) (x : Value) (lo hi mx : Option Value) : Calm P (Instr.sliceAt t x lo hi mx) := by
  unfold Instr.sliceAt
  repeat' (first | exact Calm.pure _ | exact calm_stuck _ | exact calm_unsupported _ | exact calm_boundsPanic _ _ _ _ | exact calm_runtimePanic _ | exact calm_asIntOf _ | exact calm_asBool _ | exact calm_asAgg _ | exact calm_sureAddr _ | exact calm_underlying _ | exact calm_sizeOf _ | exact calm_part _ _ _ | exact calm_sliceBounds _ _ _ _ _ _ | exact calm_slice _ _ _ _ _ | (refine Calm.bind ?_ fun _ => ?_) | split | dsimp only)
theorem calm_indexAt (t : TypeId) (x i : Value) : Calm P (Instr.indexAt t x i) := by
  unfold Instr.indexAt
  repeat' (first | exact Calm.pure _ | exact calm_stuck _ | exact calm_unsupported _ | exact calm_boundsPanic _ _ _ _ | exact calm_runtimePanic _ | exact calm_asIntOf _ | exact calm_asBool _ | exact calm_asAgg _ | exact calm_sureAddr _ | exact calm_underlying _ | exact calm_sizeOf _ | exact calm_part _ _ _ | (refine Calm.bind ?_ fun _ => ?_) | split | dsimp only)
theorem calm_index (t : TypeId) (x i : Value) : Calm P (Instr.index t x i) := by
  unfold Instr.index
  repeat' (first | exact Calm.pure _ | exact calm_stuck _ | exact calm_unsupported _ | exact calm_boundsPanic _ _ _ _ | exact calm_runtimePanic _ | exact calm_asIntOf _ | exact calm_asBool _ | exact calm_asAgg _ | exact calm_sureAddr _ | exact calm_underlying _ | exact calm_sizeOf _ | exact calm_part _ _ _ | (refine Calm.bind ?_ fun _ => ?_) | split | dsimp only)
theorem calm_field (t : TypeId) (x : Value) (f : Nat) : Calm P (Instr.field t x f) := by
  unfold Instr.field
  refine Calm.bind (calm_underlying t) fun d => ?_
  split
  · split
    · exact Calm.bind (calm_asAgg _) fun _ => calm_part _ _ _
    · exact calm_stuck _
  · exact calm_stuck _
theorem calm_zeroValue (t : TypeId) : Calm P (zeroValue t) := by
  unfold zeroValue
  repeat' (first | exact Calm.pure _ | exact calm_stuck _ | exact calm_unsupported _ | exact calm_typeInfo _ | (refine Calm.bind ?_ fun _ => ?_) | split | dsimp only)
theorem calm_mapM {α β : Type} (f : α → Sem β) (hf : ∀ x, Calm P (f x)) (xs : Array α) : Calm P (xs.mapM f) := by
  have key : ∀ l : List α, Calm P (l.mapM f) := by
    intro l
    induction l with
    | nil => rw [List.mapM_nil]; exact Calm.pure _
    | cons x l ih => rw [List.mapM_cons]; exact Calm.bind (hf x) fun _ => Calm.bind ih fun _ => Calm.pure _
  rw [Array.mapM_eq_mapM_toList]
  rw [map_eq_pure_bind]
  exact Calm.bind (key _) fun _ => Calm.pure _
theorem calm_build (t : TypeId) (parts : Array (Nat × Value)) : Calm P (Instr.build t parts) := by
  unfold Instr.build
  refine Calm.bind (calm_zeroValue _) fun z => Calm.bind (calm_underlying _) fun u => ?_
  split
  · refine Calm.bind (calm_mapM _ (fun f => Calm.bind (calm_sizeOf _) fun _ => Calm.pure _) _) fun ps => ?_
    split
    · exact Calm.pure _
    · exact calm_stuck _
  · refine Calm.bind (calm_sizeOf _) fun s => ?_
    split
    · exact Calm.pure _
    · exact calm_stuck _
  · exact calm_stuck _
theorem calm_extract (x : Value) (i : Nat) : Calm P (Instr.extract x i) := by
  unfold Instr.extract
  split
  · split
    · exact Calm.pure _
    · exact calm_stuck _
  · exact calm_stuck _
theorem calm_intArith (op : BinOp) (k : IntKind) (x y : Int) : Calm P (Op.intArith op k x y) := by
  unfold Op.intArith
  split <;> first | exact Calm.pure _ | exact calm_stuck _
theorem calm_intBits (op : BinOp) (k : IntKind) (x y : Int) : Calm P (Op.intBits op k x y) := by
  unfold Op.intBits
  dsimp only
  split <;> first | exact Calm.pure _ | exact calm_stuck _
theorem calm_intDiv (op : BinOp) (k : IntKind) (x y : Int) : Calm P (Op.intDiv op k x y) := by
  unfold Op.intDiv
  split
  · exact calm_runtimePanic _
  · split <;> first | exact Calm.pure _ | exact calm_stuck _
theorem calm_intCmp (op : BinOp) (x y : Int) : Calm P (Op.intCmp op x y) := by
  unfold Op.intCmp
  split <;> first | exact Calm.pure _ | exact calm_stuck _
theorem calm_shift (op : BinOp) (k j : IntKind) (x y : Int) : Calm P (Op.shift op k x j y) := by
  unfold Op.shift
  split
  · exact calm_runtimePanic _
  · dsimp only
    split <;> first | exact Calm.pure _ | exact calm_stuck _
theorem calm_stringOp (op : BinOp) (x y : ByteArray) : Calm P (Op.stringOp op x y) := by
  unfold Op.stringOp
  dsimp only
  split
  · split
    · exact calm_unsupported _
    · exact Calm.pure _
  all_goals first | exact Calm.pure _ | exact calm_stuck _
theorem calm_unary (op : UnOp) (x : Value) : Calm P (Op.unary op x) := by
  unfold Op.unary
  split <;> first | exact Calm.pure _ | exact calm_intArith _ _ _ _ | exact calm_intBits _ _ _ _ | exact calm_unsupported _ | exact calm_stuck _
theorem calm_binOp_int (op : BinOp) (t : TypeId) (k j : IntKind) (x y : Int) : Calm P (binOp op t (.int k x) (.int j y)) := by
  cases op <;> simp only [binOp] <;> repeat' (first | exact calm_shift _ _ _ _ _ | exact calm_stuck _ | exact calm_intArith _ _ _ _ | exact calm_intDiv _ _ _ _ | exact calm_intBits _ _ _ _ | exact calm_intCmp _ _ _ | split)
theorem calm_binOp_string (op : BinOp) (t : TypeId) (x y : ByteArray) : Calm P (binOp op t (.string x) (.string y)) := by
  cases op <;> simp only [binOp] <;> exact calm_stringOp _ _ _
theorem calm_eqGuard_int (op : BinOp) (t : TypeId) (x y : Operand) (k j : IntKind) (a b : Int) : Calm P (eqGuard op t x y (.int k a) (.int j b)) := by
  unfold eqGuard
  dsimp only
  repeat' (first | exact Calm.pure _ | split)
theorem calm_eqGuard_string (op : BinOp) (t : TypeId) (x y : Operand) (a b : ByteArray) : Calm P (eqGuard op t x y (.string a) (.string b)) := by
  unfold eqGuard
  dsimp only
  repeat' (first | exact Calm.pure _ | split)
theorem calm_len {t : TypeId} {ts : Array TypeId} {xs : Array Value} (ty : TypeId) (h0 : ts[0]? = some t) (h : P.underlying t = some .string ∨ ∃ e, P.underlying t = some (.slice e)) : Calm P (Builtin.len_ ts ty xs) := by
  unfold Builtin.len_
  rw [h0]
  cases hx : (xs[0]? : Option Value) with
  | none => exact calm_stuck _
  | some x =>
    dsimp only
    intro w v w' hr
    rcases h with h | ⟨e, h⟩
    all_goals
      rw [Sem.run_bind, run_underlying h, Result.andThen_ok] at hr
      cases x
      all_goals first | (simp only [run_stuck] at hr; cases hr; done) | skip
      simp only [Sem.run_pure] at hr
      injection hr with h1 h2
      subst h1; subst h2
      refine ⟨rfl, fun w2 => ?_⟩
      rw [Sem.run_bind, run_underlying h, Result.andThen_ok]
      rfl
theorem calm_intToInt (k : IntKind) (n : Int) : Calm P (Conv.intToInt k n) := Calm.pure _
theorem calm_convert_int {s d : TypeId} {j : IntKind} (h : P.underlying d = some (.int j)) (k : IntKind) (n : Int) : Calm P (convert s d (.int k n)) := by
  unfold convert
  refine Calm.bind (calm_underlying s) fun ds => ?_
  intro w v w' hr
  rw [Sem.run_bind, run_underlying h, Result.andThen_ok] at hr
  have hc : ∀ w2, (convert s d (.int k n)).run P w2 = (convert s d (.int k n)).run P w2 := fun _ => rfl
  clear hc
  cases ds <;> (
    simp only [Conv.intToInt, Sem.run_pure] at hr
    injection hr with h1 h2
    subst h1; subst h2
    refine ⟨rfl, fun w2 => ?_⟩
    rw [Sem.run_bind, run_underlying h, Result.andThen_ok]
    rfl)

/-- what an operation yields, run: a value alone -/
def CalmV (P : Program) (s : Sem Next) : Prop := ∀ w n w', s.run P w = .ok n w' → w' = w ∧ ∃ v, n = .value v ∧ ∀ w2, s.run P w2 = .ok (.value v) w2
def ReadsV (P : Program) (s : Sem Next) : Prop := ∀ w n w', s.run P w = .ok n w' → w' = w ∧ ∃ v, n = .value v
theorem CalmV.of {s : Sem Value} (h : Calm P s) : CalmV P (do pure (.value (← s))) := fun w n w' hr => by
  rw [Sem.run_bind] at hr
  cases hs : s.run P w with
  | ok v w1 =>
    rw [hs, Result.andThen_ok, Sem.run_pure] at hr
    injection hr with h1 h2
    subst h1; subst h2
    obtain ⟨rfl, hv⟩ := h _ _ _ hs
    exact ⟨rfl, v, rfl, fun w2 => by rw [Sem.run_bind, hv w2, Result.andThen_ok, Sem.run_pure]⟩
  | halt x w1 => rw [hs] at hr; cases hr
theorem ReadsV.of {s : Sem Value} (h : Reads P s) : ReadsV P (do pure (.value (← s))) := fun w n w' hr => by
  rw [Sem.run_bind] at hr
  cases hs : s.run P w with
  | ok v w1 =>
    rw [hs, Result.andThen_ok, Sem.run_pure] at hr
    injection hr with h1 h2
    subst h1; subst h2
    obtain rfl := h _ _ _ hs
    exact ⟨rfl, v, rfl⟩
  | halt x w1 => rw [hs] at hr; cases hr
theorem CalmV.pureV (v : Value) : CalmV P (pure (.value v)) := fun w n w' hr => by
  rw [Sem.run_pure] at hr
  injection hr with h1 h2
  subst h1; subst h2
  exact ⟨rfl, v, rfl, fun w2 => rfl⟩
end
end Go.Proofs.Ytepncgeaehjhiaa

namespace Go.Proofs.Ytepncgeaehjhiaa

section
variable {P : Program}
theorem reads_load (a : Addr) (m : Mode) : Reads P (load a m) := fun w v w' h => by
  unfold load at h
  unfold Sem.run at h
  split at h
  · unfold Sem.run at h
    injection h with h1 h2
    exact h2.symm
  · split at h
    · unfold Sem.run at h
      injection h with h1 h2
      exact h2.symm
    · cases h
theorem reads_loadCellsFrom (a : Addr) : ∀ (n i : Nat) (acc : Array Value), Reads P (loadCellsFrom a i n acc)
  | 0, _, _ => (Calm.pure _).reads
  | n + 1, i, acc => by
    unfold loadCellsFrom
    exact Reads.bind (reads_load _ _) fun _ => reads_loadCellsFrom a n _ _
theorem reads_loadAt (t : TypeId) (v : Value) : Reads P (Instr.loadAt t v) := by
  unfold Instr.loadAt loadVar
  refine Reads.bind (calm_sureAddr _).reads fun a => Reads.bind (calm_isAgg _).reads fun b => ?_
  split
  · exact Reads.bind (calm_sizeOf _).reads fun _ => Reads.bind (reads_loadCellsFrom _ _ _ _) fun _ => (Calm.pure _).reads
  · exact reads_load _ _
theorem calm_fieldAt {s : TypeId} {fs : Array Field} {k : Nat} {f : Field} {i : TypeInfo} (v : Value) (hs : P.underlying s = some (.struct fs)) (hf : fs[k]? = some f) (hi : P.info? f.type = some i) (hz : i.size ≠ 0) : Calm P (Instr.fieldAt s v k) := by
  have hrun : ∀ w, (Instr.fieldAt s v k).run P w = ((Instr.sureAddr v).run P w).andThen fun a w => .ok (.pointer (some (a.add f.offset))) w := fun w => by
    unfold Instr.fieldAt
    rw [Sem.run_bind, run_underlying hs, Result.andThen_ok]
    dsimp only
    rw [hf]
    dsimp only
    rw [Sem.run_bind]
    congr 1
    funext a w
    unfold fieldPlace sizeOf
    have ht : ∀ w, (typeInfo f.type).run P w = .ok i w := fun w => by
      unfold typeInfo
      rw [Sem.run_bind]
      show (Result.andThen (.ok P w) _) = _
      rw [Result.andThen_ok, hi]
      rfl
    simp only [Sem.run_bind, ht, Result.andThen_ok, Sem.run_pure, hz, if_false]
  intro w v' w' h
  rw [hrun] at h
  cases hr : (Instr.sureAddr v).run P w with
  | ok a w1 =>
    rw [hr, Result.andThen_ok] at h
    injection h with h1 h2
    subst h1; subst h2
    obtain ⟨rfl, hv⟩ := calm_sureAddr v _ _ _ hr
    exact ⟨rfl, fun w2 => by rw [hrun, hv w2, Result.andThen_ok]⟩
  | halt x w1 => rw [hr] at h; cases h
theorem calm_followBlind : ∀ (l : List FieldStep) (t : TypeId) (x : Option Value), Calm P (followBlind l t x)
  | [], t, x => Calm.pure _
  | s :: rest, t, x => by
    have ih := calm_followBlind rest
    unfold followBlind
    repeat' (first | exact Calm.pure _ | exact calm_stuck _ | exact ih _ _ | exact calm_underlying _ | exact calm_part _ _ _ | (refine Calm.bind ?_ fun _ => ?_) | split | dsimp only)
theorem calm_nilAhead : ∀ (n : Nat) (t : TypeId) (v : Value) (s : String), Calm P (nilAhead n t v s)
  | 0, _, _, _ => Calm.pure _
  | n + 1, t, v, s => by
    have ih := calm_nilAhead n
    unfold nilAhead
    repeat' (first | exact Calm.pure _ | exact calm_stuck _ | exact ih _ _ _ | exact calm_typeInfo _ | exact calm_underlying _ | exact calm_followBlind _ _ _ | (refine Calm.bind ?_ fun _ => ?_) | split | dsimp only)
end

/-! ### Operations by their kind -/
def look : List (Nat × Nat) → Nat → Nat
  | [], _ => 0
  | (a, b) :: l, t => if a == t then b else look l t

/-- 0: hangs on no world; 1: only reads; 2: acts; 3: is not borne -/
def kindB (P : Program) (tys : List (Nat × Nat)) (o : Oper) : Nat :=
  match o.op with
  | .move _ | .assign _ | .pick .. | .extract .. | .field .. | .unOp .. | .slice .. | .indexAddr .. | .index .. | .nilCheck _ | .build .. => 0
  | .fieldAddr s _ f =>
    match P.underlying s with
    | some (.struct fs) =>
      match fs[f]? with
      | some g =>
        match P.info? g.type with
        | some i => if i.size = 0 then 2 else 0
        | none => 2
      | none => 2
    | _ => 2
  | .binOp _ t _ _ _ =>
    if look tys t = 0 then 2 else
    if look tys t = 1 then 0 else
    match P.underlying t with
    | some .string => 0
    | _ => 3
  | .convert _ d _ =>
    if look tys d = 1 then
      match P.underlying d with
      | some (.int _) => 0
      | _ => 3
    else 2
  | .call c =>
    match c.callee with
    | .builtin .len =>
      match c.argTypes[0]? with
      | some t =>
        match P.underlying t with
        | some .string | some (.slice _) => 0
        | _ => 2
      | none => 2
    | _ => 2
  | .load .. => 1
  | .defer _ | .go _ | .select .. | .send .. | .recv .. | .panic _ => 3
  | _ => 2

/-- what is asked of the operands -/
def plain (tys : List (Nat × Nat)) (o : Oper) (a : Act) : Prop :=
  match o.op with
  | .binOp _ t x y _ => (look tys t = 1 → (∃ k n, a.eval x = .int k n) ∧ ∃ k n, a.eval y = .int k n) ∧ (look tys t ≠ 1 → look tys t ≠ 0 → (∃ s, a.eval x = .string s) ∧ ∃ s, a.eval y = .string s)
  | .convert _ d x => look tys d = 1 → ∃ k n, a.eval x = .int k n
  | _ => True

/-- operations that look whether the operands are what is asked -/
def chk (tys : List (Nat × Nat)) (o : Oper) : List Oper :=
  match o.op with
  | .binOp _ t x y _ =>
    if look tys t = 0 then [] else
    if look tys t = 1 then [{ o with dst := none, op := .unOp .xor t x }, { o with dst := none, op := .unOp .xor t y }]
    else [{ o with dst := none, op := .call { callee := .builtin .len, args := #[x], argTypes := #[t] } }, { o with dst := none, op := .call { callee := .builtin .len, args := #[y], argTypes := #[t] } }]
  | .convert _ d x => if look tys d = 1 then [{ o with dst := none, op := .unOp .xor d x }] else []
  | _ => []
end Go.Proofs.Ytepncgeaehjhiaa

namespace Go.Proofs.Ytepncgeaehjhiaa

section
variable {P : Program} {ops : Array Oper} {Q : Exit → Act → World → Prop} {tys : List (Nat × Nat)}

theorem CalmV.bind {α : Type} {s : Sem α} {f : α → Sem Next} (hs : Calm P s) (hf : ∀ a, CalmV P (f a)) : CalmV P (s >>= f) := fun w n w' h => by
  rw [Sem.run_bind] at h
  cases hr : s.run P w with
  | ok u w1 =>
    rw [hr] at h
    obtain ⟨rfl, hu⟩ := hs _ _ _ hr
    obtain ⟨e, v, hv, h2⟩ := hf u _ _ _ h
    exact ⟨e, v, hv, fun w2 => by rw [Sem.run_bind, hu w2]; exact h2 w2⟩
  | halt x w1 => rw [hr] at h; cases h
theorem CalmV.never {s : Sem Next} (h : Never P s) : CalmV P s := fun w n w' e => (h w n w' e).elim

theorem calmV_kind {o : Oper} {a : Act} (h : kindB P tys o = 0) (hp : plain tys o a) : CalmV P (execOp a.eval o) := by
  obtain ⟨dst, op, type, pos, after, guard⟩ := o
  cases op
  all_goals try (simp only [kindB] at h; cases h; done)
  case move x => exact CalmV.pureV _
  case assign x => exact CalmV.pureV _
  case pick c x y => exact CalmV.bind (calm_asBool _) fun _ => CalmV.pureV _
  case nilCheck x =>
    simp only [execOp]
    generalize a.eval x = v
    split
    · exact CalmV.never (never_runtimePanic _)
    · exact CalmV.never (never_runtimePanic _)
    · exact CalmV.never (never_runtimePanic _)
    · split
      · exact CalmV.never (never_runtimePanic _)
      · refine CalmV.bind calm_program fun p => CalmV.bind (calm_nilAhead _ _ _ _) fun b => ?_
        split
        · exact CalmV.bind (calm_unsupported _) fun _ => CalmV.pureV _
        · exact CalmV.pureV _
      · exact CalmV.pureV _
    · exact CalmV.pureV _
  case binOp op t x y yt =>
    simp only [kindB] at h
    simp only [plain] at hp
    by_cases h0 : look tys t = 0
    · rw [if_pos h0] at h; cases h
    · by_cases h1 : look tys t = 1
      · obtain ⟨⟨k, n, hx⟩, ⟨j, m, hy⟩⟩ := hp.1 h1
        refine CalmV.of (s := do eqGuard op t x y (a.eval x) (a.eval y); binOp op t (a.eval x) (a.eval y)) ?_
        rw [hx, hy]
        exact Calm.bind (calm_eqGuard_int _ _ _ _ _ _ _ _) fun _ => calm_binOp_int _ _ _ _ _ _
      · obtain ⟨⟨k, hx⟩, ⟨j, hy⟩⟩ := hp.2 h1 h0
        refine CalmV.of (s := do eqGuard op t x y (a.eval x) (a.eval y); binOp op t (a.eval x) (a.eval y)) ?_
        rw [hx, hy]
        exact Calm.bind (calm_eqGuard_string _ _ _ _ _ _) fun _ => calm_binOp_string _ _ _ _
  case unOp op t x => exact CalmV.of (calm_unary _ _)
  case convert s d x =>
    simp only [kindB] at h
    simp only [plain] at hp
    by_cases h1 : look tys d = 1
    · rw [if_pos h1] at h
      obtain ⟨k, n, hx⟩ := hp h1
      cases hu : P.underlying d with
      | none => rw [hu] at h; cases h
      | some u =>
        rw [hu] at h
        cases u
        all_goals try (cases h; done)
        refine CalmV.of (s := convert s d (a.eval x)) ?_
        rw [hx]
        exact calm_convert_int hu _ _
    · rw [if_neg h1] at h; cases h
  case slice t x lo hi mx => exact CalmV.of (calm_sliceAt _ _ _ _ _)
  case fieldAddr s x f =>
    simp only [kindB] at h
    split at h
    · rename_i fs hs
      split at h
      · rename_i g hg
        split at h
        · rename_i i hi
          split at h
          · cases h
          · rename_i hz
            exact CalmV.of (calm_fieldAt _ hs hg hi hz)
        · cases h
      · cases h
    · cases h
  case field t x f => exact CalmV.of (calm_field _ _ _)
  case indexAddr t x i => exact CalmV.of (calm_indexAt _ _ _)
  case index t x i => exact CalmV.of (calm_index _ _ _)
  case extract x i => exact CalmV.of (calm_extract _ _)
  case build t parts => exact CalmV.of (calm_build _ _)
  case call c =>
    obtain ⟨callee, args, ts⟩ := c
    cases callee
    all_goals try (simp only [kindB] at h; cases h; done)
    case builtin bi =>
      cases bi
      all_goals try (simp only [kindB] at h; cases h; done)
      simp only [kindB] at h
      split at h
      · rename_i t ht
        have hb : P.underlying t = some .string ∨ ∃ e, P.underlying t = some (.slice e) := by
          split at h
          · rename_i hu; exact .inl hu
          · rename_i e hu; exact .inr ⟨_, hu⟩
          · cases h
        have hc := calm_len (xs := args.map a.eval) type ht hb
        exact CalmV.of hc
      · cases h
theorem readsV_kind {o : Oper} {a : Act} (h : kindB P tys o = 1) : ReadsV P (execOp a.eval o) := by
  obtain ⟨dst, op, type, pos, after, guard⟩ := o
  cases op
  all_goals try (simp only [kindB] at h; cases h; done)
  case load t x => exact ReadsV.of (reads_loadAt _ _)
  all_goals (simp only [kindB] at h; repeat' (first | (cases h; done) | split at h))

/-! ### One operation, if it is wanted -/
def Stp (P : Program) (ops : Array Oper) (Q : Exit → Act → World → Prop) (o : Oper) (K : Act → World → Prop) (a : Act) (w : World) : Prop :=
  if Region.wanted o (yielded ops a.tmps) = true then o.wp P a w K (OnlyN Q) else K (a.put o.dst undef) w

theorem Stp.mono {o : Oper} {K K' : Act → World → Prop} {a : Act} {w : World} (h : Stp P ops Q o K a w) (hk : ∀ a w, K a w → K' a w) : Stp P ops Q o K' a w := by
  unfold Stp at *
  split
  · rename_i hw; rw [if_pos hw] at h; exact Oper.wp_mono hk h
  · rename_i hw; rw [if_neg hw] at h; exact hk _ _ h

theorem eval_of_tmps {a b : Act} (h : a.tmps = b.tmps) : a.eval = b.eval := by
  funext x
  cases x <;> simp [Act.eval, h]

theorem put_tmps {a b : Act} (h : a.tmps = b.tmps) (d : Option Tmp) (v : Value) : (a.put d v).tmps = (b.put d v).tmps := by
  cases d with
  | none => exact h
  | some d => simp [Act.put, h]

/-- The frame behind one operation is the frame ahead of it, but for its own slot. -/
theorem Stp.frame {o : Oper} {K : Act → World → Prop} {a : Act} {w : World} (h : Stp P ops Q o K a w) : Stp P ops Q o (fun a' w' => (∃ u, a'.tmps = (a.put o.dst u).tmps) ∧ K a' w') a w := by
  unfold Stp at *
  split
  · rename_i hw
    rw [if_pos hw] at h
    unfold Oper.wp at *
    generalize (execOp a.eval o).run P w = r at *
    cases r with
    | ok n w' =>
      cases n <;> simp only [Oper.upon] at h ⊢
      case value u => exact ⟨⟨u, rfl⟩, h⟩
      case skip => exact ⟨⟨_, rfl⟩, h⟩
      case defer d => exact ⟨⟨undef, put_tmps (a := { a with defers := d :: a.defers }) (b := a) rfl _ _⟩, h⟩
      case enter f args =>
        refine Calls.mono h fun e w'' he => ?_
        cases e with
        | returned u => exact ⟨⟨u, rfl⟩, he⟩
        | panicked c => exact he
        | outgrown => exact he
      case row row args => exact Rows.mono h fun u w'' he => ⟨⟨u, rfl⟩, he⟩
    | halt x w' => cases x <;> simp only [Oper.upon] at h ⊢ <;> exact h
  · rename_i hw
    rw [if_neg hw] at h
    exact ⟨⟨_, rfl⟩, h⟩

/-- It comes to an end. -/
theorem Stp.ends {o : Oper} {K : Act → World → Prop} {a : Act} {w : World} (h : Stp P ops Q o K a w) : ∃ a' w', K a' w' := by
  unfold Stp at *
  split at h
  · unfold Oper.wp at *
    generalize (execOp a.eval o).run P w = r at *
    cases r with
    | ok n w' =>
      cases n <;> simp only [Oper.upon] at h
      case value u => exact ⟨_, _, h⟩
      case skip => exact ⟨_, _, h⟩
      case defer d => exact ⟨_, _, h⟩
      case enter f args =>
        obtain ⟨e, w'', fr, he, _⟩ := h []
        cases e with
        | returned u => exact ⟨_, _, he⟩
        | panicked c => exact (he : False).elim
        | outgrown => exact (OnlyN.noOut he).elim
      case row row args =>
        obtain ⟨v, w'', he, _⟩ := h default []
        exact ⟨_, _, he⟩
    | halt x w' =>
      cases x <;> simp only [Oper.upon] at h
      case panic v => exact (h : False).elim
  · exact ⟨_, _, h⟩

theorem defers_put (a : Act) (x : Option Tmp) (v : Value) (d : List Deferred) : ({ a.put x v with defers := d } : Act) = ({ a with defers := d } : Act).put x v := by
  cases x <;> rfl
theorem put_defers (a : Act) (x : Option Tmp) (v : Value) : (a.put x v).defers = a.defers := by cases x <;> rfl

/-- A value in a slot that an operation neither looks at nor writes may be laid ahead of it or behind it. -/
theorem Stp.put {o : Oper} {K : Act → World → Prop} {a : Act} {w : World} {d : Option Tmp} {v : Value} (hl : ∀ t, d = some t → t ∉ o.looksAt ops) (hd : ∀ t, d = some t → o.dst ≠ some t) (hsel : ∀ cs b, o.op ≠ .select cs b) :
    Stp P ops Q o K (a.put d v) w ↔ Stp P ops Q o (fun a' w' => K (a'.put d v) w') a w := by
  have hc : ∀ (b : Act) (u : Value), (b.put d v).put o.dst u = (b.put o.dst u).put d v := fun b u => Act.put_comm b v u hd
  · have hw := wanted_put (ops := ops) o a d v hl
    have hx := execOp_put (ops := ops) o hsel a d v hl
    unfold Stp
    rw [hw]
    by_cases hwt : Region.wanted o (yielded ops a.tmps) = true
    · rw [if_pos hwt, if_pos hwt]
      unfold Oper.wp
      rw [hx]
      generalize (execOp a.eval o).run P w = r
      cases r with
      | ok n w' =>
        cases n <;> simp only [Oper.upon]
        case value u => rw [hc]
        case skip => rw [hc]
        case defer e =>
          rw [put_defers, defers_put, hc]
        case enter f args =>
          constructor
          all_goals
            intro h
            refine Calls.mono h fun e w'' he => ?_
            cases e with
            | returned u => first | (show K ((a.put o.dst u).put d v) w''; rw [← hc]; exact he) | (show K ((a.put d v).put o.dst u) w''; rw [hc]; exact he)
            | panicked c => exact he
            | outgrown => exact he
        case row row args =>
          constructor
          all_goals
            intro h
            refine Rows.mono h fun u w'' he => ?_
            first | (show K ((a.put o.dst u).put d v) w''; rw [← hc]; exact he) | (show K ((a.put d v).put o.dst u) w''; rw [hc]; exact he)
      | halt x w' => cases x <;> simp only [Oper.upon] <;> exact Iff.rfl
    · rw [if_neg hwt, if_neg hwt, hc]

/-- In the worlds of S the operation leaves v, and nothing else. -/
def Yv (P : Program) (ops : Array Oper) (S : World → Prop) (o : Oper) (v : Value) (a : Act) : Prop :=
  (Region.wanted o (yielded ops a.tmps) = true ∧ ∀ w, S w → (execOp a.eval o).run P w = .ok (.value v) w) ∨ (Region.wanted o (yielded ops a.tmps) = false ∧ v = undef)

theorem same_put {o : Oper} {a a' : Act} {d : Option Tmp} {u : Value} (hl : ∀ t, d = some t → t ∉ o.looksAt ops) (hsel : ∀ cs b, o.op ≠ .select cs b) (ht : a'.tmps = (a.put d u).tmps) :
    execOp a'.eval o = execOp a.eval o ∧ Region.wanted o (yielded ops a'.tmps) = Region.wanted o (yielded ops a.tmps) :=
  ⟨by rw [eval_of_tmps ht]; exact execOp_put o hsel a d u hl, by rw [ht]; exact wanted_put o a d u hl⟩
theorem Yv.same {S : World → Prop} {o : Oper} {v : Value} {a a' : Act} (h : Yv P ops S o v a) (he : execOp a'.eval o = execOp a.eval o ∧ Region.wanted o (yielded ops a'.tmps) = Region.wanted o (yielded ops a.tmps)) : Yv P ops S o v a' := by
  unfold Yv at *
  rw [he.1, he.2]
  exact h
theorem Yv.stp {S : World → Prop} {o : Oper} {v : Value} {a : Act} {w : World} {K : Act → World → Prop} (h : Yv P ops S o v a) (hS : S w) : Stp P ops Q o K a w ↔ K (a.put o.dst v) w := by
  unfold Stp
  rcases h with ⟨hw, hv⟩ | ⟨hw, rfl⟩
  · rw [if_pos hw]
    unfold Oper.wp
    rw [hv w hS]
    exact Iff.rfl
  · rw [if_neg (by rw [hw]; exact Bool.false_ne_true)]

/-- what the kinds say of an operation in a frame -/
def Ok (P : Program) (tys : List (Nat × Nat)) (ops : Array Oper) (o : Oper) (a : Act) : Prop :=
  kindB P tys o = 0 → Region.wanted o (yielded ops a.tmps) = true → CalmV P (execOp a.eval o)
theorem Ok.same {o : Oper} {a a' : Act} (h : Ok P tys ops o a) (he : execOp a'.eval o = execOp a.eval o ∧ Region.wanted o (yielded ops a'.tmps) = Region.wanted o (yielded ops a.tmps)) : Ok P tys ops o a' := by
  unfold Ok at *
  rw [he.1, he.2]
  exact h
theorem Ok.yv {o : Oper} {a : Act} {w : World} {K : Act → World → Prop} (h : Ok P tys ops o a) (hk : kindB P tys o = 0) (hs : Stp P ops Q o K a w) : ∃ v, Yv P ops (fun _ => True) o v a := by
  unfold Stp at hs
  by_cases hw : Region.wanted o (yielded ops a.tmps) = true
  · rw [if_pos hw] at hs
    unfold Oper.wp at hs
    cases hr : (execOp a.eval o).run P w with
    | ok n w' =>
      obtain ⟨rfl, v, rfl, hv⟩ := h hk hw _ _ _ hr
      exact ⟨v, .inl ⟨hw, fun w2 _ => hv w2⟩⟩
    | halt x w' =>
      rw [hr] at hs
      cases x <;> simp only [Oper.upon] at hs
      exact (hs : False).elim
  · exact ⟨undef, .inr ⟨by simpa using hw, rfl⟩⟩
theorem reads_yv {o : Oper} {a : Act} {w : World} {K : Act → World → Prop} (hk : kindB P tys o = 1) (hs : Stp P ops Q o K a w) : ∃ v, Yv P ops (· = w) o v a := by
  unfold Stp at hs
  by_cases hw : Region.wanted o (yielded ops a.tmps) = true
  · rw [if_pos hw] at hs
    unfold Oper.wp at hs
    cases hr : (execOp a.eval o).run P w with
    | ok n w' =>
      obtain ⟨rfl, v, rfl⟩ := readsV_kind hk _ _ _ hr
      exact ⟨v, .inl ⟨hw, fun w2 e => by rw [e]; exact hr⟩⟩
    | halt x w' =>
      rw [hr] at hs
      cases x <;> simp only [Oper.upon] at hs
      exact (hs : False).elim
  · exact ⟨undef, .inr ⟨by simpa using hw, rfl⟩⟩

/-- Two operations that no edge orders change places. -/
theorem Stp.swap {oj oi : Oper} {K : Act → World → Prop} {a : Act} {w : World} (hap : oj.apart ops oi = true) (sj : ∀ cs b, oj.op ≠ .select cs b) (si : ∀ cs b, oi.op ≠ .select cs b)
    (hk : kindB P tys oj = 0 ∨ kindB P tys oi = 0 ∨ (kindB P tys oj = 1 ∧ kindB P tys oi = 1)) (hj : Ok P tys ops oj a)
    (h : Stp P ops Q oj (fun a' w' => Ok P tys ops oi a' ∧ Stp P ops Q oi K a' w') a w) :
    Ok P tys ops oi a ∧ Stp P ops Q oi (fun a' w' => Ok P tys ops oj a' ∧ Stp P ops Q oj K a' w') a w := by
  obtain ⟨h1, h2, h3⟩ := Oper.apart_spec hap
  have h4 : ∀ t, oi.dst = some t → oj.dst ≠ some t := fun t e e' => h2 t e' e
  constructor
  · obtain ⟨a', w', ⟨u, ht⟩, hok, _⟩ := h.frame.ends
    have := same_put h1 si ht
    exact hok.same ⟨this.1.symm, this.2.symm⟩
  · rcases hk with hk | hk | ⟨hk, hk'⟩
    · obtain ⟨v, hy⟩ := hj.yv hk h
      have h5 := ((hy.stp trivial).1 h).2
      have h6 := (Stp.put h1 h2 si).1 h5
      refine h6.frame.mono fun a' w' ⟨⟨u, ht⟩, hK⟩ => ?_
      have hs := same_put h3 sj ht
      exact ⟨hj.same hs, ((hy.same hs).stp trivial).2 hK⟩
    · obtain ⟨a1, w1, ⟨u1, ht1⟩, hok1, hs1⟩ := h.frame.ends
      obtain ⟨v, hy1⟩ := hok1.yv hk hs1
      have e1 := same_put h1 si ht1
      have hy : Yv P ops (fun _ => True) oi v a := hy1.same ⟨e1.1.symm, e1.2.symm⟩
      refine (hy.stp trivial).2 ⟨hj.same (same_put (u := v) h3 sj rfl), ?_⟩
      refine (Stp.put h3 h4 sj).2 ?_
      refine h.frame.mono fun a' w' ⟨⟨u, ht⟩, _, hs⟩ => ?_
      exact ((hy.same (same_put h1 si ht)).stp trivial).1 hs
    · obtain ⟨u, hyj⟩ := reads_yv hk h
      have h5 := ((hyj.stp rfl).1 h).2
      obtain ⟨v, hyi⟩ := reads_yv hk' h5
      have h6 := (hyi.stp rfl).1 h5
      have e1 := same_put (a := a) (u := u) h1 si rfl
      have hyi' : Yv P ops (· = w) oi v a := hyi.same ⟨e1.1.symm, e1.2.symm⟩
      have e2 := same_put (a := a) (u := v) h3 sj rfl
      refine (hyi'.stp rfl).2 ⟨hj.same e2, ?_⟩
      refine ((hyj.same e2).stp rfl).2 ?_
      rw [Act.put_comm a v u h4]
      exact h6
end
end Go.Proofs.Ytepncgeaehjhiaa

namespace Go.Proofs.Ytepncgeaehjhiaa

section
variable {P : Program} {ops : Array Oper} {Q : Exit → Act → World → Prop} {tys : List (Nat × Nat)}

/-- one operation behind the other, with what their kinds say -/
def wpI (P : Program) (ops : Array Oper) (Q : Exit → Act → World → Prop) (tys : List (Nat × Nat)) : List Oper → Act → World → Prop
  | [], a, w => OnlyN Q .normal a w
  | o :: rest, a, w => Ok P tys ops o a ∧ Stp P ops Q o (wpI P ops Q tys rest) a w

def Apart2 (P : Program) (ops : Array Oper) (tys : List (Nat × Nat)) (oj oi : Oper) : Prop :=
  oj.apart ops oi = true ∧ (kindB P tys oj = 0 ∨ kindB P tys oi = 0 ∨ (kindB P tys oj = 1 ∧ kindB P tys oi = 1))

theorem wpI.front (hsel : ∀ o : Oper, o ∈ ops → ∀ cs b, o.op ≠ .select cs b) (oi : Oper) (hi : oi ∈ ops) (l2 : List Oper) : ∀ (l1 : List Oper) (a : Act) (w : World), (∀ oj ∈ l1, oj ∈ ops ∧ Apart2 P ops tys oj oi) →
    wpI P ops Q tys (l1 ++ oi :: l2) a w → Ok P tys ops oi a ∧ Stp P ops Q oi (wpI P ops Q tys (l1 ++ l2)) a w
  | [], a, w, _, h => h
  | oj :: l1, a, w, hp, h => by
    obtain ⟨hm, h1, h2⟩ := hp oj (by simp)
    have h3 : Stp P ops Q oj (fun a' w' => Ok P tys ops oi a' ∧ Stp P ops Q oi (wpI P ops Q tys (l1 ++ l2)) a' w') a w :=
      h.2.mono fun a' w' h' => wpI.front hsel oi hi l2 l1 a' w' (fun o ho => hp o (by simp [ho])) h'
    exact Stp.swap h1 (hsel _ hm) (hsel _ hi) h2 h.1 h3

/-! ### What comes ahead of what -/
def ancRow (t : Array Nat) (o : Oper) : Nat := o.after.toList.foldr (fun e s => if Region.binds .any e then (2 ^ e.on ||| t.getD e.on 0) ||| s else s) 0
def ancTab : List Oper → Array Nat → Array Nat
  | [], t => t
  | o :: l, t => ancTab l (t.push (ancRow t o))

def AncGood (ops : Array Oper) (t : Array Nat) : Prop := ∀ i, i < t.size → ∃ o, ops[i]? = some o ∧ ∀ j, (t.getD i 0).testBit j = true →
  ∃ e ∈ o.after.toList, Region.binds .any e = true ∧ (e.on = j ∨ (e.on < i ∧ (t.getD e.on 0).testBit j = true))

theorem ancRow_bit (t : Array Nat) (j : Nat) : ∀ (l : List Edge), (l.foldr (fun e s => if Region.binds .any e then (2 ^ e.on ||| t.getD e.on 0) ||| s else s) 0).testBit j = true →
    ∃ e ∈ l, Region.binds .any e = true ∧ (e.on = j ∨ (e.on < t.size ∧ (t.getD e.on 0).testBit j = true))
  | [], h => by simp at h
  | e :: l, h => by
    simp only [List.foldr_cons] at h
    by_cases hb : Region.binds .any e = true
    · rw [if_pos hb, Nat.testBit_or, Nat.testBit_or, Nat.testBit_two_pow] at h
      simp only [Bool.or_eq_true, decide_eq_true_eq] at h
      rcases h with (h | h) | h
      · exact ⟨e, by simp, hb, .inl h⟩
      · refine ⟨e, by simp, hb, .inr ⟨?_, h⟩⟩
        rcases Nat.lt_or_ge e.on t.size with h' | h'
        · exact h'
        · simp [Array.getElem?_eq_none h'] at h
      · obtain ⟨e', he, h2⟩ := ancRow_bit t j l h
        exact ⟨e', by simp [he], h2⟩
    · rw [if_neg hb] at h
      obtain ⟨e', he, h2⟩ := ancRow_bit t j l h
      exact ⟨e', by simp [he], h2⟩

theorem getD_push_lt (t : Array Nat) (x i : Nat) (h : i < t.size) : (t.push x).getD i 0 = t.getD i 0 := by
  simp [Array.getElem?_push, Nat.ne_of_lt h, h]

theorem ancTab_good : ∀ (l : List Oper) (t : Array Nat), (∀ j, l[j]? = ops[t.size + j]?) → AncGood ops t → AncGood ops (ancTab l t) ∧ (ancTab l t).size = t.size + l.length
  | [], t, _, h => ⟨h, rfl⟩
  | o :: l, t, hl, h => by
    have h0 : ops[t.size]? = some o := by simpa using (hl 0).symm
    have hg : AncGood ops (t.push (ancRow t o)) := by
      intro i hi
      rw [Array.size_push] at hi
      rcases Nat.lt_or_ge i t.size with hlt | hge
      · obtain ⟨o', ho, hb⟩ := h i hlt
        refine ⟨o', ho, fun j hj => ?_⟩
        rw [getD_push_lt _ _ _ hlt] at hj
        obtain ⟨e, he, hbi, h2⟩ := hb j hj
        refine ⟨e, he, hbi, h2.imp id fun ⟨h3, h4⟩ => ⟨h3, ?_⟩⟩
        rw [getD_push_lt _ _ _ (by omega)]
        exact h4
      · obtain rfl : i = t.size := by omega
        refine ⟨o, h0, fun j hj => ?_⟩
        have e1 : (t.push (ancRow t o)).getD t.size 0 = ancRow t o := by simp
        rw [e1] at hj
        obtain ⟨e, he, hbi, h2⟩ := ancRow_bit t j _ hj
        refine ⟨e, he, hbi, h2.imp id fun ⟨h3, h4⟩ => ⟨h3, ?_⟩⟩
        rw [getD_push_lt _ _ _ h3]
        exact h4
    have := ancTab_good l (t.push (ancRow t o)) (fun j => by have := hl (j + 1); simp only [List.getElem?_cons_succ] at this; rw [this, Array.size_push]; congr 1; omega) hg
    refine ⟨this.1, ?_⟩
    show (ancTab l (t.push (ancRow t o))).size = _
    rw [this.2, Array.size_push, List.length_cons]
    omega

def Closed (ops : Array Oper) (listed : Array Bool) : Prop := ∀ i o, ops[i]? = some o → listed.getD i false = true → ∀ e ∈ o.after.toList, Region.binds .any e = true → listed.getD e.on false = true

theorem anc_listed {t : Array Nat} {listed : Array Bool} (hg : AncGood ops t) (hc : Closed ops listed) {j : Nat} : ∀ i o, i < t.size → ops[i]? = some o → (∀ e ∈ o.after.toList, Region.binds .any e = true → listed.getD e.on false = true) →
    (t.getD i 0).testBit j = true → listed.getD j false = true := by
  intro i
  induction i using Nat.strongRecOn with
  | ind i ih =>
    intro o hi ho hall hj
    obtain ⟨o', ho', hb⟩ := hg i hi
    obtain rfl : o' = o := Option.some.inj (ho'.symm.trans ho)
    obtain ⟨e, he, hbi, h2⟩ := hb j hj
    have hl := hall e he hbi
    rcases h2 with rfl | ⟨h3, h4⟩
    · exact hl
    · obtain ⟨oe, hoe, _⟩ := hg e.on (by omega)
      exact ih e.on h3 oe (by omega) hoe (hc e.on oe hoe hl) h4

/-! ### The check -/
def pairB (P : Program) (tys : List (Nat × Nat)) (ops : Array Oper) (oj oi : Oper) : Bool :=
  (kindB P tys oj == 0 || kindB P tys oi == 0 || (kindB P tys oj == 1 && kindB P tys oi == 1)) && oj.apart ops oi
/-- each of l (numbers from k on) against oi, number i, whose forebears are the bits of b -/
def rowB (P : Program) (tys : List (Nat × Nat)) (ops : Array Oper) (oi : Oper) (b : Nat) : Nat → Nat → List Oper → Bool
  | _, 0, _ => true
  | _, _, [] => true
  | k, n + 1, oj :: l => (b.testBit k || pairB P tys ops oj oi) && rowB P tys ops oi b (k + 1) n l
def colB (P : Program) (tys : List (Nat × Nat)) (ops : Array Oper) (all : List Oper) (t : Array Nat) : Nat → List Oper → Bool
  | _, [] => true
  | i, oi :: l => rowB P tys ops oi (t.getD i 0) 0 i all && (oi.after.all fun e => !Region.binds .any e || decide (e.on < i)) && colB P tys ops all t (i + 1) l
def textB (P : Program) (tys : List (Nat × Nat)) (l : List Oper) : Bool :=
  Region.noSelect l.toArray && colB P tys l.toArray l (ancTab l #[]) 0 l

theorem rowB_spec {oi : Oper} {b : Nat} : ∀ (l : List Oper) (k n : Nat), rowB P tys ops oi b k n l = true → ∀ j oj, j < n → l[j]? = some oj → b.testBit (k + j) = true ∨ pairB P tys ops oj oi = true
  | [], k, n, _, j, oj, _, h => by simp at h
  | o :: l, k, 0, _, j, oj, hj, _ => by omega
  | o :: l, k, n + 1, h, j, oj, hj, ho => by
    simp only [rowB, Bool.and_eq_true, Bool.or_eq_true] at h
    cases j with
    | zero => simp at ho; subst ho; exact h.1
    | succ j =>
      have := rowB_spec l (k + 1) n h.2 j oj (by omega) (by simpa using ho)
      rwa [show k + 1 + j = k + (j + 1) by omega] at this
theorem colB_spec {all : List Oper} {t : Array Nat} : ∀ (l : List Oper) (k : Nat), colB P tys ops all t k l = true → ∀ i oi, l[i]? = some oi →
    (∀ j oj, j < k + i → all[j]? = some oj → (t.getD (k + i) 0).testBit j = true ∨ pairB P tys ops oj oi = true) ∧ (∀ e ∈ oi.after.toList, Region.binds .any e = true → e.on < k + i)
  | [], k, _, i, oi, h => by simp at h
  | o :: l, k, h, i, oi, ho => by
    simp only [colB, Bool.and_eq_true] at h
    cases i with
    | zero =>
      simp at ho
      subst ho
      refine ⟨fun j oj hj hoj => ?_, fun e he hb => ?_⟩
      · have := rowB_spec all 0 k h.1.1 j oj hj hoj
        rwa [Nat.zero_add] at this
      · have := Array.all_eq_true_iff_forall_mem.1 h.1.2 e (by simpa using he)
        simpa [hb] using this
    | succ i =>
      have := colB_spec l (k + 1) h.2 i oi (by simpa using ho)
      rwa [show k + 1 + i = k + (i + 1) by omega] at this

/-! ### Any order -/
def rem (n : Nat) (listed : Array Bool) : List Nat := (List.range n).filter fun i => !listed.getD i true

theorem mem_rem {n i : Nat} {listed : Array Bool} : i ∈ rem n listed ↔ i < n ∧ listed.getD i true = false := by
  simp [rem]
theorem rem_sorted (n : Nat) (listed : Array Bool) : (rem n listed).Pairwise (· < ·) := List.Pairwise.filter _ List.pairwise_lt_range

theorem rem_set {n i : Nat} {listed : Array Bool} {l1 l2 : List Nat} (h : rem n listed = l1 ++ i :: l2) : rem n (listed.setIfInBounds i true) = l1 ++ l2 := by
  have hs := rem_sorted n listed
  rw [h] at hs
  have hi : i ∈ rem n listed := by rw [h]; simp
  have h1 : rem n (listed.setIfInBounds i true) = (rem n listed).filter (fun j => decide (j ≠ i)) := by
    unfold rem
    rw [List.filter_filter]
    refine List.filter_congr fun j _ => ?_
    by_cases hji : i = j
    · subst hji
      have hsz : i < listed.size := by
        rcases Nat.lt_or_ge i listed.size with h' | h'
        · exact h'
        · have := (mem_rem.1 hi).2
          simp [Array.getElem?_eq_none h'] at this
      simp [hsz]
    · rw [getD_set_ne true hji]
      simp [Ne.symm hji]
  rw [h1, h, List.filter_append, List.filter_cons]
  rw [List.pairwise_append] at hs
  obtain ⟨hs1, hs2, hs3⟩ := hs
  rw [List.pairwise_cons] at hs2
  have e1 : l1.filter (fun j => decide (j ≠ i)) = l1 := List.filter_eq_self.2 fun j hj => by have := hs3 j hj i (by simp); simp; omega
  have e2 : l2.filter (fun j => decide (j ≠ i)) = l2 := List.filter_eq_self.2 fun j hj => by have := hs2.1 j hj; simp; omega
  rw [e1, e2]
  simp

theorem any_of_text {l : List Oper} (hB : textB P tys l = true) : ∀ (fuel : Nat) (listed : Array Bool) (a : Act) (w : World), listed.size = l.length → Closed l.toArray listed → (rem l.length listed).length ≤ fuel →
    wpI P l.toArray Q tys ((rem l.length listed).filterMap (l.toArray[·]?)) a w → wpAny P .any l.toArray (OnlyN Q) fuel listed a w := by
  simp only [textB, Bool.and_eq_true] at hB
  obtain ⟨hno, hcol⟩ := hB
  have hsel := Region.noSelect_spec hno
  have hselm : ∀ o : Oper, o ∈ l.toArray → ∀ cs b, o.op ≠ .select cs b := fun o ho cs b => by
    obtain ⟨i, hi, rfl⟩ := Array.mem_iff_getElem.1 ho
    exact hsel i _ cs b (Array.getElem?_eq_getElem hi)
  obtain ⟨hgood, hsz⟩ := ancTab_good (ops := l.toArray) l #[] (fun j => by simp) (fun i hi => by simp at hi)
  simp only [List.size_toArray, List.length_nil, Nat.zero_add] at hsz
  have hcs := colB_spec l 0 hcol
  simp only [Nat.zero_add] at hcs
  have ready_rem : ∀ {listed : Array Bool} {i : Nat}, i ∈ Region.ready .any l.toArray listed → i ∈ rem l.length listed := fun {listed i} h => by
    obtain ⟨h0, o, ho, _⟩ := mem_ready.1 h
    exact mem_rem.2 ⟨by simpa using (Array.getElem?_eq_some_iff.1 ho).1, h0⟩
  intro fuel
  induction fuel with
  | zero =>
    intro listed a w _ _ hlen h
    have h0 : rem l.length listed = [] := List.eq_nil_of_length_eq_zero (by omega)
    rw [h0] at h
    refine ⟨?_, h⟩
    cases hr : Region.ready .any l.toArray listed with
    | nil => rfl
    | cons x xs =>
      have : x ∈ rem l.length listed := ready_rem (by rw [hr]; simp)
      rw [h0] at this
      cases this
  | succ fuel ih =>
    intro listed a w hls hcl hlen h
    have least : ∀ i0 rest, rem l.length listed = i0 :: rest → i0 ∈ Region.ready .any l.toArray listed := fun i0 rest he => by
      have hm : i0 ∈ rem l.length listed := by rw [he]; simp
      obtain ⟨hlt, hun⟩ := mem_rem.1 hm
      have ho : l.toArray[i0]? = some l[i0] := by simp [hlt]
      refine mem_ready.2 ⟨hun, _, ho, fun e hee hb => ?_⟩
      have hel := (hcs i0 l[i0] (by simp [hlt])).2 e (by simpa using hee) hb
      cases hv : listed.getD e.on false with
      | true => rfl
      | false =>
        have hm2 : e.on ∈ rem l.length listed := mem_rem.2 ⟨by omega, getD_in (by omega) hv⟩
        have hs := rem_sorted l.length listed
        rw [he] at hs hm2
        rcases List.mem_cons.1 hm2 with e1 | e1
        · omega
        · have := (List.pairwise_cons.1 hs).1 _ e1
          omega
    refine ⟨fun hr => ?_, fun i hi => ?_⟩
    · cases he : rem l.length listed with
      | nil => rw [he] at h; exact h
      | cons i0 rest =>
        have := least i0 rest he
        rw [hr] at this
        cases this
    · obtain ⟨l1, l2, he⟩ := List.append_of_mem (ready_rem hi)
      obtain ⟨hun, oi, hoi, hall⟩ := mem_ready.1 hi
      have hil : l[i]? = some oi := by simpa using hoi
      have hit : i < l.length := (List.getElem?_eq_some_iff.1 hil).1
      have hs := rem_sorted l.length listed
      rw [he, List.pairwise_append] at hs
      rw [he, List.filterMap_append, List.filterMap_cons_some hoi] at h
      have hfr := wpI.front hselm oi (Array.mem_of_getElem? hoi) (l2.filterMap (l.toArray[·]?)) (l1.filterMap (l.toArray[·]?)) a w (fun oj hoj => by
        obtain ⟨j, hj, hjo⟩ := List.mem_filterMap.1 hoj
        refine ⟨Array.mem_of_getElem? hjo, ?_⟩
        have hji : j < i := hs.2.2 j hj i (by simp)
        have hju : listed.getD j true = false := (mem_rem.1 (by rw [he]; simp [hj])).2
        rcases (hcs i oi hil).1 j oj hji (by simpa using hjo) with hb | hb
        · have := anc_listed hgood hcl i oi (by omega) hoi (fun e hee => hall e (by simpa using hee)) hb
          rw [getD_both hju] at this
          cases this
        · simp only [pairB, Bool.and_eq_true, Bool.or_eq_true, beq_iff_eq] at hb
          exact ⟨hb.2, by rcases hb.1 with (h1 | h1) | h1 <;> simp_all⟩) h
      have hcl' : Closed l.toArray (listed.setIfInBounds i true) := fun k ok hok hk e hee hb => by
        by_cases hik : i = k
        · subst hik
          obtain rfl : ok = oi := Option.some.inj (hok.symm.trans hoi)
          exact getD_set_true (hall e (by simpa using hee) hb)
        · rw [getD_set_ne false hik] at hk
          exact getD_set_true (hcl k ok hok hk e hee hb)
      have hrs := rem_set he
      have hst := hfr.2.mono fun a' w' h' => ih (listed.setIfInBounds i true) a' w' (by simpa using hls) hcl' (by rw [hrs]; rw [he] at hlen; simp at hlen ⊢; omega) (by rw [hrs, List.filterMap_append]; exact h')
      unfold wpOp
      rw [hoi]
      unfold Stp at hst
      dsimp only
      split
      · rename_i hw; rw [if_pos hw] at hst; exact .inl hst
      · rename_i hw; rw [if_neg hw] at hst; exact hst
end
end Go.Proofs.Ytepncgeaehjhiaa
