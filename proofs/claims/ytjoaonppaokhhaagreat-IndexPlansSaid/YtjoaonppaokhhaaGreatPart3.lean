/-
  Several texts in one:
  A region whose order is drawn may be walked in the order of its text, as one whose order is not drawn: where of each two operations that no edge orders one hangs on no world, or both only read. Conditions: those that the theorem names; no program in sight.
  A region whose order is drawn, walked in the order of its text: the theorem. Conditions: those that it names; no program in sight.
-/
import Derived.Test.YtjoaonppaokhhaaGreatPart1

namespace Go.Proofs.YtjoaonppaokhhaaGreat

/-- Normal ends alone. -/
def OnlyN (Q : Exit → Act → World → Prop) : Exit → Act → World → Prop
  | .normal, a, w => Q .normal a w
  | _, _, _ => False
theorem OnlyN.normal {Q : Exit → Act → World → Prop} {a : Act} {w : World} (h : Q .normal a w) : OnlyN Q .normal a w := h
theorem OnlyN.out {Q : Exit → Act → World → Prop} : ∀ (e : Exit) (a : Act) (w : World), OnlyN Q e a w → Q e a w := fun e a w h => by
  cases e <;> first | exact h | exact (h : False).elim
theorem OnlyN.noOut {Q : Exit → Act → World → Prop} : ¬ LetsOut (OnlyN Q) := fun ⟨_, _, h⟩ => h

/-! ### What hangs on no world -/
def Calm (P : Program) {α : Type} (s : Sem α) : Prop := ∀ w v w', s.run P w = .ok v w' → w' = w ∧ ∀ w2, s.run P w2 = .ok v w2
def Never (P : Program) {α : Type} (s : Sem α) : Prop := ∀ w v w', s.run P w ≠ .ok v w'
def Reads (P : Program) {α : Type} (s : Sem α) : Prop := ∀ w v w', s.run P w = .ok v w' → w' = w

section
variable {P : Program} {α β : Type}
theorem Calm.pure (a : α) : Calm P (Pure.pure a : Sem α) := fun w v w' h => by
  rw [Sem.run_pure] at h
  injection h with h1 h2
  subst h1; subst h2
  exact ⟨rfl, fun w2 => rfl⟩
theorem Never.calm {s : Sem α} (h : Never P s) : Calm P s := fun w v w' e => (h w v w' e).elim
theorem Calm.bind {s : Sem α} {f : α → Sem β} (hs : Calm P s) (hf : ∀ a, Calm P (f a)) : Calm P (s >>= f) := fun w v w' h => by
  rw [Sem.run_bind] at h
  cases hr : s.run P w with
  | ok u w1 =>
    rw [hr] at h
    obtain ⟨rfl, hu⟩ := hs _ _ _ hr
    obtain ⟨e, hv⟩ := hf u _ _ _ h
    exact ⟨e, fun w2 => by rw [Sem.run_bind, hu w2]; exact hv w2⟩
  | halt x w1 => rw [hr] at h; cases h
theorem Never.bind {s : Sem α} {f : α → Sem β} (hf : ∀ a, Never P (f a)) : Never P (s >>= f) := fun w v w' h => by
  rw [Sem.run_bind] at h
  cases hr : s.run P w with
  | ok u w1 => rw [hr] at h; exact hf u _ _ _ h
  | halt x w1 => rw [hr] at h; cases h
theorem Reads.bind {s : Sem α} {f : α → Sem β} (hs : Reads P s) (hf : ∀ a, Reads P (f a)) : Reads P (s >>= f) := fun w v w' h => by
  rw [Sem.run_bind] at h
  cases hr : s.run P w with
  | ok u w1 =>
    rw [hr] at h
    obtain rfl := hs _ _ _ hr
    exact hf u _ _ _ h
  | halt x w1 => rw [hr] at h; cases h
theorem Calm.reads {s : Sem α} (h : Calm P s) : Reads P s := fun w v w' e => (h w v w' e).1
theorem never_halt (h : Halt) : Never P (.halt h : Sem α) := fun w v w' e => by simp only [Sem.run] at e; cases e
theorem calm_stuck (why : String) : Calm P (stuck why : Sem α) := (never_halt _).calm
theorem calm_unsupported (u : Unsupported) : Calm P (unsupported u : Sem α) := (never_halt _).calm
theorem never_goPanic (v : Value) : Never P (goPanic v : Sem α) := never_halt _
theorem never_runtimePanic (e : RuntimeError) : Never P (runtimePanic e : Sem α) := by
  unfold runtimePanic
  refine Never.bind fun p => ?_
  cases e
  all_goals first
    | exact never_goPanic _
    | (refine Never.bind fun _ => ?_; first | exact never_goPanic _ | (refine Never.bind fun _ => ?_; exact never_goPanic _))
theorem calm_runtimePanic (e : RuntimeError) : Calm P (runtimePanic e : Sem α) := (never_runtimePanic e).calm
theorem calm_boundsPanic (k : IntKind) (x y : Int) (c : BoundsCode) : Calm P (boundsPanic k x y c : Sem α) := by
  unfold boundsPanic
  refine Never.calm ?_
  dsimp only
  repeat' (first | exact never_runtimePanic _ | (refine Never.bind fun _ => ?_) | split | dsimp only)
theorem calm_program : Calm P program := fun w v w' h => by
  simp only [program, Sem.run] at h
  injection h with h1 h2
  subst h1; subst h2
  exact ⟨rfl, fun w2 => rfl⟩
theorem calm_typeInfo (t : TypeId) : Calm P (typeInfo t) := by
  unfold typeInfo
  refine Calm.bind calm_program fun p => ?_
  split
  · exact Calm.pure _
  · exact calm_stuck _
theorem calm_underlying (t : TypeId) : Calm P (underlying t) := by
  unfold underlying
  refine Calm.bind calm_program fun p => ?_
  split
  · exact Calm.pure _
  · exact calm_stuck _
theorem calm_sizeOf (t : TypeId) : Calm P (sizeOf t) := Calm.bind (calm_typeInfo t) fun _ => Calm.pure _
theorem calm_isAgg (t : TypeId) : Calm P (isAgg t) := by
  unfold isAgg
  refine Calm.bind (calm_underlying t) fun d => ?_
  split <;> exact Calm.pure _
theorem calm_asIntOf (v : Value) : Calm P (asIntOf v) := by
  unfold asIntOf
  split <;> first | exact Calm.pure _ | exact calm_unsupported _ | exact calm_stuck _
theorem calm_asBool (v : Value) : Calm P (asBool v) := by
  unfold asBool
  split <;> first | exact Calm.pure _ | exact calm_stuck _
theorem calm_asAgg (v : Value) : Calm P (asAgg v) := by
  unfold asAgg
  split <;> first | exact Calm.pure _ | exact calm_stuck _
theorem calm_sureAddr (v : Value) : Calm P (Instr.sureAddr v) := by
  unfold Instr.sureAddr
  split <;> first | exact Calm.pure _ | exact calm_stuck _
theorem calm_part (t : TypeId) (cs : Array Value) (off : Nat) : Calm P (part t cs off) := by
  unfold part
  refine Calm.bind (calm_isAgg t) fun b => ?_
  split
  · exact Calm.bind (calm_sizeOf t) fun _ => Calm.pure _
  · split
    · exact Calm.pure _
    · exact calm_stuck _
theorem calm_sliceBound (x : Value) (y : Nat) (c : BoundsCode) : Calm P (Instr.sliceBound x y c) := by
  unfold Instr.sliceBound
  repeat' (first | exact Calm.pure _ | exact calm_stuck _ | exact calm_unsupported _ | exact calm_boundsPanic _ _ _ _ | exact calm_runtimePanic _ | exact calm_asIntOf _ | exact calm_asBool _ | exact calm_asAgg _ | exact calm_sureAddr _ | exact calm_underlying _ | exact calm_sizeOf _ | exact calm_part _ _ _ | (refine Calm.bind ?_ fun _ => ?_) | split | dsimp only)
theorem calm_sliceBounds (b : Bool) (n m : Nat) (lo hi mx : Option Value) : Calm P (Instr.sliceBounds b n m lo hi mx) := by
  unfold Instr.sliceBounds
  repeat' (first | exact Calm.pure _ | exact calm_stuck _ | exact calm_unsupported _ | exact calm_boundsPanic _ _ _ _ | exact calm_runtimePanic _ | exact calm_asIntOf _ | exact calm_asBool _ | exact calm_asAgg _ | exact calm_sureAddr _ | exact calm_underlying _ | exact calm_sizeOf _ | exact calm_part _ _ _ | exact calm_sliceBound _ _ _ | (refine Calm.bind ?_ fun _ => ?_) | split | dsimp only)
theorem calm_asAddr (v : Value) : Calm P (asAddr v) := by
  unfold asAddr
  repeat' (first | exact Calm.pure _ | exact calm_stuck _ | exact calm_unsupported _ | exact calm_boundsPanic _ _ _ _ | exact calm_runtimePanic _ | exact calm_asIntOf _ | exact calm_asBool _ | exact calm_asAgg _ | exact calm_sureAddr _ | exact calm_underlying _ | exact calm_sizeOf _ | exact calm_part _ _ _ | (refine Calm.bind ?_ fun _ => ?_) | split | dsimp only)
theorem calm_slice (t : TypeId) (x : Value) (lo hi mx : Option Value) : Calm P (Instr.slice t x lo hi mx) := by
  unfold Instr.slice
  repeat' (first | exact Calm.pure _ | exact calm_stuck _ | exact calm_unsupported _ | exact calm_boundsPanic _ _ _ _ | exact calm_runtimePanic _ | exact calm_asIntOf _ | exact calm_asBool _ | exact calm_asAgg _ | exact calm_sureAddr _ | exact calm_underlying _ | exact calm_sizeOf _ | exact calm_part _ _ _ | exact calm_sliceBounds _ _ _ _ _ _ | exact calm_asAddr _ | (refine Calm.bind ?_ fun _ => ?_) | split | dsimp only)
theorem calm_sliceAt (t : TypeId) (x : Value) (lo hi mx : Option Value) : Calm P (Instr.sliceAt t x lo hi mx) := by
  unfold Instr.sliceAt
  repeat' (first | exact Calm.pure _ | exact calm_stuck _ | exact calm_unsupported _ | exact calm_boundsPanic _ _ _ _ | exact calm_runtimePanic _ | exact calm_asIntOf _ | exact calm_asBool _ | exact calm_asAgg _ | exact calm_sureAddr _ | exact calm_underlying _ | exact calm_sizeOf _ | exact calm_part _ _ _ | exact calm_sliceBounds _ _ _ _ _ _ | exact calm_slice _ _ _ _ _ | (refine Calm.bind ?_ fun _ => ?_) | split | dsimp only)
theorem calm_indexAt (t : TypeId) (x i : Value) : Calm P (Instr.indexAt t x i) := by
  unfold Instr.indexAt
  repeat' (first | exact Calm.pure _ | exact calm_stuck _ | exact calm_unsupported _ | exact calm_boundsPanic _ _ _ _ | exact calm_runtimePanic _ | exact calm_asIntOf _ | exact calm_asBool _ | exact calm_asAgg _ | exact calm_sureAddr _ | exact calm_underlying _ | exact calm_sizeOf _ | exact calm_part _ _ _ | (refine Calm.bind ?_ fun _ => ?_) | split | dsimp only)
theorem calm_index (t : TypeId) (x i : Value) : Calm P (Instr.index t x i) := by
  unfold Instr.index
  repeat' (first | exact Calm.pure _ | exact calm_stuck _ | exact calm_unsupported _ | exact calm_boundsPanic _ _ _ _ | exact calm_runtimePanic _ | exact calm_asIntOf _ | exact calm_asBool _ | exact calm_asAgg _ | exact calm_sureAddr _ | exact calm_underlying _ | exact calm_sizeOf _ | exact calm_part _ _ _ | (refine Calm.bind ?_ fun _ => ?_) | split | dsimp only)
theorem calm_field (t : TypeId) (x : Value) (f : Nat) : Calm P (Instr.field t x f) := by
  unfold Instr.field
  refine Calm.bind (calm_underlying t) fun d => ?_
  split
  · split
    · exact Calm.bind (calm_asAgg _) fun _ => calm_part _ _ _
    · exact calm_stuck _
  · exact calm_stuck _
theorem calm_zeroValue (t : TypeId) : Calm P (zeroValue t) := by
  unfold zeroValue
  repeat' (first | exact Calm.pure _ | exact calm_stuck _ | exact calm_unsupported _ | exact calm_typeInfo _ | (refine Calm.bind ?_ fun _ => ?_) | split | dsimp only)
theorem calm_mapM {α β : Type} (f : α → Sem β) (hf : ∀ x, Calm P (f x)) (xs : Array α) : Calm P (xs.mapM f) := by
  have key : ∀ l : List α, Calm P (l.mapM f) := by
    intro l
    induction l with
    | nil => rw [List.mapM_nil]; exact Calm.pure _
    | cons x l ih => rw [List.mapM_cons]; exact Calm.bind (hf x) fun _ => Calm.bind ih fun _ => Calm.pure _
  rw [Array.mapM_eq_mapM_toList]
  rw [map_eq_pure_bind]
  exact Calm.bind (key _) fun _ => Calm.pure _
theorem calm_build (t : TypeId) (parts : Array (Nat × Value)) : Calm P (Instr.build t parts) := by
  unfold Instr.build
  refine Calm.bind (calm_zeroValue _) fun z => Calm.bind (calm_underlying _) fun u => ?_
  split
  · refine Calm.bind (calm_mapM _ (fun f => Calm.bind (calm_sizeOf _) fun _ => Calm.pure _) _) fun ps => ?_
    split
    · exact Calm.pure _
    · exact calm_stuck _
  · refine Calm.bind (calm_sizeOf _) fun s => ?_
    split
    · exact Calm.pure _
    · exact calm_stuck _
  · exact calm_stuck _
theorem calm_extract (x : Value) (i : Nat) : Calm P (Instr.extract x i) := by
  unfold Instr.extract
  split
  · split
    · exact Calm.pure _
    · exact calm_stuck _
  · exact calm_stuck _
theorem calm_intArith (op : BinOp) (k : IntKind) (x y : Int) : Calm P (Op.intArith op k x y) := by
  unfold Op.intArith
  split <;> first | exact Calm.pure _ | exact calm_stuck _
theorem calm_intBits (op : BinOp) (k : IntKind) (x y : Int) : Calm P (Op.intBits op k x y) := by
  unfold Op.intBits
  dsimp only
  split <;> first | exact Calm.pure _ | exact calm_stuck _
theorem calm_intDiv (op : BinOp) (k : IntKind) (x y : Int) : Calm P (Op.intDiv op k x y) := by
  unfold Op.intDiv
  split
  · exact calm_runtimePanic _
  · split <;> first | exact Calm.pure _ | exact calm_stuck _
theorem calm_intCmp (op : BinOp) (x y : Int) : Calm P (Op.intCmp op x y) := by
  unfold Op.intCmp
  split <;> first | exact Calm.pure _ | exact calm_stuck _
theorem calm_shift (op : BinOp) (k j : IntKind) (x y : Int) : Calm P (Op.shift op k x j y) := by
  unfold Op.shift
  split
  · exact calm_runtimePanic _
  · dsimp only
    split <;> first | exact Calm.pure _ | exact calm_stuck _
theorem calm_stringOp (op : BinOp) (x y : ByteArray) : Calm P (Op.stringOp op x y) := by
  unfold Op.stringOp
  dsimp only
  split
  · split
    · exact calm_unsupported _
    · exact Calm.pure _
  all_goals first | exact Calm.pure _ | exact calm_stuck _
theorem calm_unary (op : UnOp) (x : Value) : Calm P (Op.unary op x) := by
  unfold Op.unary
  split <;> first | exact Calm.pure _ | exact calm_intArith _ _ _ _ | exact calm_intBits _ _ _ _ | exact calm_unsupported _ | exact calm_stuck _
theorem calm_binOp_int (op : BinOp) (t : TypeId) (k j : IntKind) (x y : Int) : Calm P (binOp op t (.int k x) (.int j y)) := by
  cases op <;> simp only [binOp] <;> repeat' (first | exact calm_shift _ _ _ _ _ | exact calm_stuck _ | exact calm_intArith _ _ _ _ | exact calm_intDiv _ _ _ _ | exact calm_intBits _ _ _ _ | exact calm_intCmp _ _ _ | split)
theorem calm_binOp_string (op : BinOp) (t : TypeId) (x y : ByteArray) : Calm P (binOp op t (.string x) (.string y)) := by
  cases op <;> simp only [binOp] <;> exact calm_stringOp _ _ _
theorem calm_eqGuard_int (op : BinOp) (t : TypeId) (x y : Operand) (k j : IntKind) (a b : Int) : Calm P (eqGuard op t x y (.int k a) (.int j b)) := by
  unfold eqGuard
  dsimp only
  repeat' (first | exact Calm.pure _ | split)
theorem calm_eqGuard_string (op : BinOp) (t : TypeId) (x y : Operand) (a b : ByteArray) : Calm P (eqGuard op t x y (.string a) (.string b)) := by
  unfold eqGuard
  dsimp only
  repeat' (first | exact Calm.pure _ | split)
theorem calm_len {t : TypeId} {ts : Array TypeId} {xs : Array Value} (ty : TypeId) (h0 : ts[0]? = some t) (h : P.underlying t = some .string ∨ ∃ e, P.underlying t = some (.slice e)) : Calm P (Builtin.len_ ts ty xs) := by
  unfold Builtin.len_
  rw [h0]
  cases hx : (xs[0]? : Option Value) with
  | none => exact calm_stuck _
  | some x =>
    dsimp only
    intro w v w' hr
    rcases h with h | ⟨e, h⟩
    all_goals
      rw [Sem.run_bind, run_underlying h, Result.andThen_ok] at hr
      cases x
      all_goals first | (simp only [run_stuck] at hr; cases hr; done) | skip
      simp only [Sem.run_pure] at hr
      injection hr with h1 h2
      subst h1; subst h2
      refine ⟨rfl, fun w2 => ?_⟩
      rw [Sem.run_bind, run_underlying h, Result.andThen_ok]
      rfl
theorem calm_intToInt (k : IntKind) (n : Int) : Calm P (Conv.intToInt k n) := Calm.pure _
theorem calm_convert_int {s d : TypeId} {j : IntKind} (h : P.underlying d = some (.int j)) (k : IntKind) (n : Int) : Calm P (convert s d (.int k n)) := by
  unfold convert
  refine Calm.bind (calm_underlying s) fun ds => ?_
  intro w v w' hr
  rw [Sem.run_bind, run_underlying h, Result.andThen_ok] at hr
  have hc : ∀ w2, (convert s d (.int k n)).run P w2 = (convert s d (.int k n)).run P w2 := fun _ => rfl
  clear hc
  cases ds <;> (
    simp only [Conv.intToInt, Sem.run_pure] at hr
    injection hr with h1 h2
    subst h1; subst h2
    refine ⟨rfl, fun w2 => ?_⟩
    rw [Sem.run_bind, run_underlying h, Result.andThen_ok]
    rfl)

/-- what an operation yields, run: a value alone -/
def CalmV (P : Program) (s : Sem Next) : Prop := ∀ w n w', s.run P w = .ok n w' → w' = w ∧ ∃ v, n = .value v ∧ ∀ w2, s.run P w2 = .ok (.value v) w2
def ReadsV (P : Program) (s : Sem Next) : Prop := ∀ w n w', s.run P w = .ok n w' → w' = w ∧ ∃ v, n = .value v
theorem CalmV.of {s : Sem Value} (h : Calm P s) : CalmV P (do pure (.value (← s))) := fun w n w' hr => by
  rw [Sem.run_bind] at hr
  cases hs : s.run P w with
  | ok v w1 =>
    rw [hs, Result.andThen_ok, Sem.run_pure] at hr
    injection hr with h1 h2
    subst h1; subst h2
    obtain ⟨rfl, hv⟩ := h _ _ _ hs
    exact ⟨rfl, v, rfl, fun w2 => by rw [Sem.run_bind, hv w2, Result.andThen_ok, Sem.run_pure]⟩
  | halt x w1 => rw [hs] at hr; cases hr
theorem ReadsV.of {s : Sem Value} (h : Reads P s) : ReadsV P (do pure (.value (← s))) := fun w n w' hr => by
  rw [Sem.run_bind] at hr
  cases hs : s.run P w with
  | ok v w1 =>
    rw [hs, Result.andThen_ok, Sem.run_pure] at hr
    injection hr with h1 h2
    subst h1; subst h2
    obtain rfl := h _ _ _ hs
    exact ⟨rfl, v, rfl⟩
  | halt x w1 => rw [hs] at hr; cases hr
theorem CalmV.pureV (v : Value) : CalmV P (pure (.value v)) := fun w n w' hr => by
  rw [Sem.run_pure] at hr
  injection hr with h1 h2
  subst h1; subst h2
  exact ⟨rfl, v, rfl, fun w2 => rfl⟩
end
end Go.Proofs.YtjoaonppaokhhaaGreat

namespace Go.Proofs.YtjoaonppaokhhaaGreat

section
variable {P : Program}
theorem reads_load (a : Addr) (m : Mode) : Reads P (load a m) := fun w v w' h => by
  unfold load at h
  unfold Sem.run at h
  split at h
  · unfold Sem.run at h
    injection h with h1 h2
    exact h2.symm
  · split at h
    · unfold Sem.run at h
      injection h with h1 h2
      exact h2.symm
    · cases h
theorem reads_loadCellsFrom (a : Addr) : ∀ (n i : Nat) (acc : Array Value), Reads P (loadCellsFrom a i n acc)
  | 0, _, _ => (Calm.pure _).reads
  | n + 1, i, acc => by
    unfold loadCellsFrom
    exact Reads.bind (reads_load _ _) fun _ => reads_loadCellsFrom a n _ _
theorem reads_loadAt (t : TypeId) (v : Value) : Reads P (Instr.loadAt t v) := by
  unfold Instr.loadAt loadVar
  refine Reads.bind (calm_sureAddr _).reads fun a => Reads.bind (calm_isAgg _).reads fun b => ?_
  split
  · exact Reads.bind (calm_sizeOf _).reads fun _ => Reads.bind (reads_loadCellsFrom _ _ _ _) fun _ => (Calm.pure _).reads
  · exact reads_load _ _
theorem calm_fieldAt {s : TypeId} {fs : Array Field} {k : Nat} {f : Field} {i : TypeInfo} (v : Value) (hs : P.underlying s = some (.struct fs)) (hf : fs[k]? = some f) (hi : P.info? f.type = some i) (hz : i.size ≠ 0) : Calm P (Instr.fieldAt s v k) := by
  have hrun : ∀ w, (Instr.fieldAt s v k).run P w = ((Instr.sureAddr v).run P w).andThen fun a w => .ok (.pointer (some (a.add f.offset))) w := fun w => by
    unfold Instr.fieldAt
    rw [Sem.run_bind, run_underlying hs, Result.andThen_ok]
    dsimp only
    rw [hf]
    dsimp only
    rw [Sem.run_bind]
    congr 1
    funext a w
    unfold fieldPlace sizeOf
    have ht : ∀ w, (typeInfo f.type).run P w = .ok i w := fun w => by
      unfold typeInfo
      rw [Sem.run_bind]
      show (Result.andThen (.ok P w) _) = _
      rw [Result.andThen_ok, hi]
      rfl
    simp only [Sem.run_bind, ht, Result.andThen_ok, Sem.run_pure, hz, if_false]
  intro w v' w' h
  rw [hrun] at h
  cases hr : (Instr.sureAddr v).run P w with
  | ok a w1 =>
    rw [hr, Result.andThen_ok] at h
    injection h with h1 h2
    subst h1; subst h2
    obtain ⟨rfl, hv⟩ := calm_sureAddr v _ _ _ hr
    exact ⟨rfl, fun w2 => by rw [hrun, hv w2, Result.andThen_ok]⟩
  | halt x w1 => rw [hr] at h; cases h
theorem calm_followBlind : ∀ (l : List FieldStep) (t : TypeId) (x : Option Value), Calm P (followBlind l t x)
  | [], t, x => Calm.pure _
  | s :: rest, t, x => by
    have ih := calm_followBlind rest
    unfold followBlind
    repeat' (first | exact Calm.pure _ | exact calm_stuck _ | exact ih _ _ | exact calm_underlying _ | exact calm_part _ _ _ | (refine Calm.bind ?_ fun _ => ?_) | split | dsimp only)
theorem calm_nilAhead : ∀ (n : Nat) (t : TypeId) (v : Value) (s : String), Calm P (nilAhead n t v s)
  | 0, _, _, _ => Calm.pure _
  | n + 1, t, v, s => by
    have ih := calm_nilAhead n
    unfold nilAhead
    repeat' (first | exact Calm.pure _ | exact calm_stuck _ | exact ih _ _ _ | exact calm_typeInfo _ | exact calm_underlying _ | exact calm_followBlind _ _ _ | (refine Calm.bind ?_ fun _ => ?_) | split | dsimp only)
end

/-! ### Operations by their kind -/
def look : List (Nat × Nat) → Nat → Nat
  | [], _ => 0
  | (a, b) :: l, t => if a == t then b else look l t

/-- 0: hangs on no world; 1: only reads; 2: acts; 3: is not borne -/
def kindB (P : Program) (tys : List (Nat × Nat)) (o : Oper) : Nat :=
  match o.op with
  | .move _ | .assign _ | .pick .. | .extract .. | .field .. | .unOp .. | .slice .. | .indexAddr .. | .index .. | .nilCheck _ | .build .. => 0
  | .fieldAddr s _ f =>
    match P.underlying s with
    | some (.struct fs) =>
      match fs[f]? with
      | some g =>
        match P.info? g.type with
        | some i => if i.size = 0 then 2 else 0
        | none => 2
      | none => 2
    | _ => 2
  | .binOp _ t _ _ _ =>
    if look tys t = 0 then 2 else
    if look tys t = 1 then 0 else
    match P.underlying t with
    | some .string => 0
    | _ => 3
  | .convert _ d _ =>
    if look tys d = 1 then
      match P.underlying d with
      | some (.int _) => 0
      | _ => 3
    else 2
  | .call c =>
    match c.callee with
    | .builtin .len =>
      match c.argTypes[0]? with
      | some t =>
        match P.underlying t with
        | some .string | some (.slice _) => 0
        | _ => 2
      | none => 2
    | _ => 2
  | .load .. => 1
  | .defer _ | .go _ | .select .. | .send .. | .recv .. | .panic _ => 3
  | _ => 2

/-- what is asked of the operands -/
def plain (tys : List (Nat × Nat)) (o : Oper) (a : Act) : Prop :=
  match o.op with
  | .binOp _ t x y _ => (look tys t = 1 → (∃ k n, a.eval x = .int k n) ∧ ∃ k n, a.eval y = .int k n) ∧ (look tys t ≠ 1 → look tys t ≠ 0 → (∃ s, a.eval x = .string s) ∧ ∃ s, a.eval y = .string s)
  | .convert _ d x => look tys d = 1 → ∃ k n, a.eval x = .int k n
  | _ => True

/-- operations that look whether the operands are what is asked -/
def chk (tys : List (Nat × Nat)) (o : Oper) : List Oper :=
  match o.op with
  | .binOp _ t x y _ =>
    if look tys t = 0 then [] else
    if look tys t = 1 then [{ o with dst := none, op := .unOp .xor t x }, { o with dst := none, op := .unOp .xor t y }]
    else [{ o with dst := none, op := .call { callee := .builtin .len, args := #[x], argTypes := #[t] } }, { o with dst := none, op := .call { callee := .builtin .len, args := #[y], argTypes := #[t] } }]
  | .convert _ d x => if look tys d = 1 then [{ o with dst := none, op := .unOp .xor d x }] else []
  | _ => []
end Go.Proofs.YtjoaonppaokhhaaGreat
