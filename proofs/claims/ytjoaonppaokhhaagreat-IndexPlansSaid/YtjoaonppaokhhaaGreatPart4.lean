/-
  Several texts in one:
  A region whose order is drawn, walked in the order of its text: the theorem. Conditions: those that it names; no program in sight.
-/
import Derived.Test.YtjoaonppaokhhaaGreatPart3

namespace Go.Proofs.YtjoaonppaokhhaaGreat

section
variable {P : Program} {ops : Array Oper} {Q : Exit → Act → World → Prop} {tys : List (Nat × Nat)}

theorem CalmV.bind {α : Type} {s : Sem α} {f : α → Sem Next} (hs : Calm P s) (hf : ∀ a, CalmV P (f a)) : CalmV P (s >>= f) := fun w n w' h => by
  rw [Sem.run_bind] at h
  cases hr : s.run P w with
  | ok u w1 =>
    rw [hr] at h
    obtain ⟨rfl, hu⟩ := hs _ _ _ hr
    obtain ⟨e, v, hv, h2⟩ := hf u _ _ _ h
    exact ⟨e, v, hv, fun w2 => by rw [Sem.run_bind, hu w2]; exact h2 w2⟩
  | halt x w1 => rw [hr] at h; cases h
theorem CalmV.never {s : Sem Next} (h : Never P s) : CalmV P s := fun w n w' e => (h w n w' e).elim

theorem calmV_kind {o : Oper} {a : Act} (h : kindB P tys o = 0) (hp : plain tys o a) : CalmV P (execOp a.eval o) := by
  obtain ⟨dst, op, type, pos, after, guard⟩ := o
  cases op
  all_goals try (simp only [kindB] at h; cases h; done)
  case move x => exact CalmV.pureV _
  case assign x => exact CalmV.pureV _
  case pick c x y => exact CalmV.bind (calm_asBool _) fun _ => CalmV.pureV _
  case nilCheck x =>
    simp only [execOp]
    generalize a.eval x = v
    split
    · exact CalmV.never (never_runtimePanic _)
    · exact CalmV.never (never_runtimePanic _)
    · exact CalmV.never (never_runtimePanic _)
    · split
      · exact CalmV.never (never_runtimePanic _)
      · refine CalmV.bind calm_program fun p => CalmV.bind (calm_nilAhead _ _ _ _) fun b => ?_
        split
        · exact CalmV.bind (calm_unsupported _) fun _ => CalmV.pureV _
        · exact CalmV.pureV _
      · exact CalmV.pureV _
    · exact CalmV.pureV _
  case binOp op t x y yt =>
    simp only [kindB] at h
    simp only [plain] at hp
    by_cases h0 : look tys t = 0
    · rw [if_pos h0] at h; cases h
    · by_cases h1 : look tys t = 1
      · obtain ⟨⟨k, n, hx⟩, ⟨j, m, hy⟩⟩ := hp.1 h1
        refine CalmV.of (s := do eqGuard op t x y (a.eval x) (a.eval y); binOp op t (a.eval x) (a.eval y)) ?_
        rw [hx, hy]
        exact Calm.bind (calm_eqGuard_int _ _ _ _ _ _ _ _) fun _ => calm_binOp_int _ _ _ _ _ _
      · obtain ⟨⟨k, hx⟩, ⟨j, hy⟩⟩ := hp.2 h1 h0
        refine CalmV.of (s := do eqGuard op t x y (a.eval x) (a.eval y); binOp op t (a.eval x) (a.eval y)) ?_
        rw [hx, hy]
        exact Calm.bind (calm_eqGuard_string _ _ _ _ _ _) fun _ => calm_binOp_string _ _ _ _
  case unOp op t x => exact CalmV.of (calm_unary _ _)
  case convert s d x =>
    simp only [kindB] at h
    simp only [plain] at hp
    by_cases h1 : look tys d = 1
    · rw [if_pos h1] at h
      obtain ⟨k, n, hx⟩ := hp h1
      cases hu : P.underlying d with
      | none => rw [hu] at h; cases h
      | some u =>
        rw [hu] at h
        cases u
        all_goals try (cases h; done)
        refine CalmV.of (s := convert s d (a.eval x)) ?_
        rw [hx]
        exact calm_convert_int hu _ _
    · rw [if_neg h1] at h; cases h
  case slice t x lo hi mx => exact CalmV.of (calm_sliceAt _ _ _ _ _)
  case fieldAddr s x f =>
    simp only [kindB] at h
    split at h
    · rename_i fs hs
      split at h
      · rename_i g hg
        split at h
        · rename_i i hi
          split at h
          · cases h
          · rename_i hz
            exact CalmV.of (calm_fieldAt _ hs hg hi hz)
        · cases h
      · cases h
    · cases h
  case field t x f => exact CalmV.of (calm_field _ _ _)
  case indexAddr t x i => exact CalmV.of (calm_indexAt _ _ _)
  case index t x i => exact CalmV.of (calm_index _ _ _)
  case extract x i => exact CalmV.of (calm_extract _ _)
  case build t parts => exact CalmV.of (calm_build _ _)
  case call c =>
    obtain ⟨callee, args, ts⟩ := c
    cases callee
    all_goals try (simp only [kindB] at h; cases h; done)
    case builtin bi =>
      cases bi
      all_goals try (simp only [kindB] at h; cases h; done)
      simp only [kindB] at h
      split at h
      · rename_i t ht
        have hb : P.underlying t = some .string ∨ ∃ e, P.underlying t = some (.slice e) := by
          split at h
          · rename_i hu; exact .inl hu
          · rename_i e hu; exact .inr ⟨_, hu⟩
          · cases h
        have hc := calm_len (xs := args.map a.eval) type ht hb
        exact CalmV.of hc
      · cases h
theorem readsV_kind {o : Oper} {a : Act} (h : kindB P tys o = 1) : ReadsV P (execOp a.eval o) := by
  obtain ⟨dst, op, type, pos, after, guard⟩ := o
  cases op
  all_goals try (simp only [kindB] at h; cases h; done)
  case load t x => exact ReadsV.of (reads_loadAt _ _)
  all_goals (simp only [kindB] at h; repeat' (first | (cases h; done) | split at h))

/-! ### One operation, if it is wanted -/
def Stp (P : Program) (ops : Array Oper) (Q : Exit → Act → World → Prop) (o : Oper) (K : Act → World → Prop) (a : Act) (w : World) : Prop :=
  if Region.wanted o (yielded ops a.tmps) = true then o.wp P a w K (OnlyN Q) else K (a.put o.dst undef) w

theorem Stp.mono {o : Oper} {K K' : Act → World → Prop} {a : Act} {w : World} (h : Stp P ops Q o K a w) (hk : ∀ a w, K a w → K' a w) : Stp P ops Q o K' a w := by
  unfold Stp at *
  split
  · rename_i hw; rw [if_pos hw] at h; exact Oper.wp_mono hk h
  · rename_i hw; rw [if_neg hw] at h; exact hk _ _ h

theorem eval_of_tmps {a b : Act} (h : a.tmps = b.tmps) : a.eval = b.eval := by
  funext x
  cases x <;> simp [Act.eval, h]

theorem put_tmps {a b : Act} (h : a.tmps = b.tmps) (d : Option Tmp) (v : Value) : (a.put d v).tmps = (b.put d v).tmps := by
  cases d with
  | none => exact h
  | some d => simp [Act.put, h]

/-- The frame behind one operation is the frame ahead of it, but for its own slot. -/
theorem Stp.frame {o : Oper} {K : Act → World → Prop} {a : Act} {w : World} (h : Stp P ops Q o K a w) : Stp P ops Q o (fun a' w' => (∃ u, a'.tmps = (a.put o.dst u).tmps) ∧ K a' w') a w := by
  unfold Stp at *
  split
  · rename_i hw
    rw [if_pos hw] at h
    unfold Oper.wp at *
    generalize (execOp a.eval o).run P w = r at *
    cases r with
    | ok n w' =>
      cases n <;> simp only [Oper.upon] at h ⊢
      case value u => exact ⟨⟨u, rfl⟩, h⟩
      case skip => exact ⟨⟨_, rfl⟩, h⟩
      case defer d => exact ⟨⟨undef, put_tmps (a := { a with defers := d :: a.defers }) (b := a) rfl _ _⟩, h⟩
      case enter f args =>
        refine Calls.mono h fun e w'' he => ?_
        cases e with
        | returned u => exact ⟨⟨u, rfl⟩, he⟩
        | panicked c => exact he
        | outgrown => exact he
      case row row args => exact Rows.mono h fun u w'' he => ⟨⟨u, rfl⟩, he⟩
    | halt x w' => cases x <;> simp only [Oper.upon] at h ⊢ <;> exact h
  · rename_i hw
    rw [if_neg hw] at h
    exact ⟨⟨_, rfl⟩, h⟩

/-- It comes to an end. -/
theorem Stp.ends {o : Oper} {K : Act → World → Prop} {a : Act} {w : World} (h : Stp P ops Q o K a w) : ∃ a' w', K a' w' := by
  unfold Stp at *
  split at h
  · unfold Oper.wp at *
    generalize (execOp a.eval o).run P w = r at *
    cases r with
    | ok n w' =>
      cases n <;> simp only [Oper.upon] at h
      case value u => exact ⟨_, _, h⟩
      case skip => exact ⟨_, _, h⟩
      case defer d => exact ⟨_, _, h⟩
      case enter f args =>
        obtain ⟨e, w'', fr, he, _⟩ := h []
        cases e with
        | returned u => exact ⟨_, _, he⟩
        | panicked c => exact (he : False).elim
        | outgrown => exact (OnlyN.noOut he).elim
      case row row args =>
        obtain ⟨v, w'', he, _⟩ := h default []
        exact ⟨_, _, he⟩
    | halt x w' =>
      cases x <;> simp only [Oper.upon] at h
      case panic v => exact (h : False).elim
  · exact ⟨_, _, h⟩

theorem defers_put (a : Act) (x : Option Tmp) (v : Value) (d : List Deferred) : ({ a.put x v with defers := d } : Act) = ({ a with defers := d } : Act).put x v := by
  cases x <;> rfl
theorem put_defers (a : Act) (x : Option Tmp) (v : Value) : (a.put x v).defers = a.defers := by cases x <;> rfl

/-- A value in a slot that an operation neither looks at nor writes may be laid ahead of it or behind it. -/
theorem Stp.put {o : Oper} {K : Act → World → Prop} {a : Act} {w : World} {d : Option Tmp} {v : Value} (hl : ∀ t, d = some t → t ∉ o.looksAt ops) (hd : ∀ t, d = some t → o.dst ≠ some t) (hsel : ∀ cs b, o.op ≠ .select cs b) :
    Stp P ops Q o K (a.put d v) w ↔ Stp P ops Q o (fun a' w' => K (a'.put d v) w') a w := by
  have hc : ∀ (b : Act) (u : Value), (b.put d v).put o.dst u = (b.put o.dst u).put d v := fun b u => Act.put_comm b v u hd
  · have hw := wanted_put (ops := ops) o a d v hl
    have hx := execOp_put (ops := ops) o hsel a d v hl
    unfold Stp
    rw [hw]
    by_cases hwt : Region.wanted o (yielded ops a.tmps) = true
    · rw [if_pos hwt, if_pos hwt]
      unfold Oper.wp
      rw [hx]
      generalize (execOp a.eval o).run P w = r
      cases r with
      | ok n w' =>
        cases n <;> simp only [Oper.upon]
        case value u => rw [hc]
        case skip => rw [hc]
        case defer e =>
          rw [put_defers, defers_put, hc]
        case enter f args =>
          constructor
          all_goals
            intro h
            refine Calls.mono h fun e w'' he => ?_
            cases e with
            | returned u => first | (show K ((a.put o.dst u).put d v) w''; rw [← hc]; exact he) | (show K ((a.put d v).put o.dst u) w''; rw [hc]; exact he)
            | panicked c => exact he
            | outgrown => exact he
        case row row args =>
          constructor
          all_goals
            intro h
            refine Rows.mono h fun u w'' he => ?_
            first | (show K ((a.put o.dst u).put d v) w''; rw [← hc]; exact he) | (show K ((a.put d v).put o.dst u) w''; rw [hc]; exact he)
      | halt x w' => cases x <;> simp only [Oper.upon] <;> exact Iff.rfl
    · rw [if_neg hwt, if_neg hwt, hc]

/-- In the worlds of S the operation leaves v, and nothing else. -/
def Yv (P : Program) (ops : Array Oper) (S : World → Prop) (o : Oper) (v : Value) (a : Act) : Prop :=
  (Region.wanted o (yielded ops a.tmps) = true ∧ ∀ w, S w → (execOp a.eval o).run P w = .ok (.value v) w) ∨ (Region.wanted o (yielded ops a.tmps) = false ∧ v = undef)

theorem same_put {o : Oper} {a a' : Act} {d : Option Tmp} {u : Value} (hl : ∀ t, d = some t → t ∉ o.looksAt ops) (hsel : ∀ cs b, o.op ≠ .select cs b) (ht : a'.tmps = (a.put d u).tmps) :
    execOp a'.eval o = execOp a.eval o ∧ Region.wanted o (yielded ops a'.tmps) = Region.wanted o (yielded ops a.tmps) :=
  ⟨by rw [eval_of_tmps ht]; exact execOp_put o hsel a d u hl, by rw [ht]; exact wanted_put o a d u hl⟩
theorem Yv.same {S : World → Prop} {o : Oper} {v : Value} {a a' : Act} (h : Yv P ops S o v a) (he : execOp a'.eval o = execOp a.eval o ∧ Region.wanted o (yielded ops a'.tmps) = Region.wanted o (yielded ops a.tmps)) : Yv P ops S o v a' := by
  unfold Yv at *
  rw [he.1, he.2]
  exact h
theorem Yv.stp {S : World → Prop} {o : Oper} {v : Value} {a : Act} {w : World} {K : Act → World → Prop} (h : Yv P ops S o v a) (hS : S w) : Stp P ops Q o K a w ↔ K (a.put o.dst v) w := by
  unfold Stp
  rcases h with ⟨hw, hv⟩ | ⟨hw, rfl⟩
  · rw [if_pos hw]
    unfold Oper.wp
    rw [hv w hS]
    exact Iff.rfl
  · rw [if_neg (by rw [hw]; exact Bool.false_ne_true)]

/-- what the kinds say of an operation in a frame -/
def Ok (P : Program) (tys : List (Nat × Nat)) (ops : Array Oper) (o : Oper) (a : Act) : Prop :=
  kindB P tys o = 0 → Region.wanted o (yielded ops a.tmps) = true → CalmV P (execOp a.eval o)
theorem Ok.same {o : Oper} {a a' : Act} (h : Ok P tys ops o a) (he : execOp a'.eval o = execOp a.eval o ∧ Region.wanted o (yielded ops a'.tmps) = Region.wanted o (yielded ops a.tmps)) : Ok P tys ops o a' := by
  unfold Ok at *
  rw [he.1, he.2]
  exact h
theorem Ok.yv {o : Oper} {a : Act} {w : World} {K : Act → World → Prop} (h : Ok P tys ops o a) (hk : kindB P tys o = 0) (hs : Stp P ops Q o K a w) : ∃ v, Yv P ops (fun _ => True) o v a := by
  unfold Stp at hs
  by_cases hw : Region.wanted o (yielded ops a.tmps) = true
  · rw [if_pos hw] at hs
    unfold Oper.wp at hs
    cases hr : (execOp a.eval o).run P w with
    | ok n w' =>
      obtain ⟨rfl, v, rfl, hv⟩ := h hk hw _ _ _ hr
      exact ⟨v, .inl ⟨hw, fun w2 _ => hv w2⟩⟩
    | halt x w' =>
      rw [hr] at hs
      cases x <;> simp only [Oper.upon] at hs
      exact (hs : False).elim
  · exact ⟨undef, .inr ⟨by simpa using hw, rfl⟩⟩
theorem reads_yv {o : Oper} {a : Act} {w : World} {K : Act → World → Prop} (hk : kindB P tys o = 1) (hs : Stp P ops Q o K a w) : ∃ v, Yv P ops (· = w) o v a := by
  unfold Stp at hs
  by_cases hw : Region.wanted o (yielded ops a.tmps) = true
  · rw [if_pos hw] at hs
    unfold Oper.wp at hs
    cases hr : (execOp a.eval o).run P w with
    | ok n w' =>
      obtain ⟨rfl, v, rfl⟩ := readsV_kind hk _ _ _ hr
      exact ⟨v, .inl ⟨hw, fun w2 e => by rw [e]; exact hr⟩⟩
    | halt x w' =>
      rw [hr] at hs
      cases x <;> simp only [Oper.upon] at hs
      exact (hs : False).elim
  · exact ⟨undef, .inr ⟨by simpa using hw, rfl⟩⟩

/-- Two operations that no edge orders change places. -/
theorem Stp.swap {oj oi : Oper} {K : Act → World → Prop} {a : Act} {w : World} (hap : oj.apart ops oi = true) (sj : ∀ cs b, oj.op ≠ .select cs b) (si : ∀ cs b, oi.op ≠ .select cs b)
    (hk : kindB P tys oj = 0 ∨ kindB P tys oi = 0 ∨ (kindB P tys oj = 1 ∧ kindB P tys oi = 1)) (hj : Ok P tys ops oj a)
    (h : Stp P ops Q oj (fun a' w' => Ok P tys ops oi a' ∧ Stp P ops Q oi K a' w') a w) :
    Ok P tys ops oi a ∧ Stp P ops Q oi (fun a' w' => Ok P tys ops oj a' ∧ Stp P ops Q oj K a' w') a w := by
  obtain ⟨h1, h2, h3⟩ := Oper.apart_spec hap
  have h4 : ∀ t, oi.dst = some t → oj.dst ≠ some t := fun t e e' => h2 t e' e
  constructor
  · obtain ⟨a', w', ⟨u, ht⟩, hok, _⟩ := h.frame.ends
    have := same_put h1 si ht
    exact hok.same ⟨this.1.symm, this.2.symm⟩
  · rcases hk with hk | hk | ⟨hk, hk'⟩
    · obtain ⟨v, hy⟩ := hj.yv hk h
      have h5 := ((hy.stp trivial).1 h).2
      have h6 := (Stp.put h1 h2 si).1 h5
      refine h6.frame.mono fun a' w' ⟨⟨u, ht⟩, hK⟩ => ?_
      have hs := same_put h3 sj ht
      exact ⟨hj.same hs, ((hy.same hs).stp trivial).2 hK⟩
    · obtain ⟨a1, w1, ⟨u1, ht1⟩, hok1, hs1⟩ := h.frame.ends
      obtain ⟨v, hy1⟩ := hok1.yv hk hs1
      have e1 := same_put h1 si ht1
      have hy : Yv P ops (fun _ => True) oi v a := hy1.same ⟨e1.1.symm, e1.2.symm⟩
      refine (hy.stp trivial).2 ⟨hj.same (same_put (u := v) h3 sj rfl), ?_⟩
      refine (Stp.put h3 h4 sj).2 ?_
      refine h.frame.mono fun a' w' ⟨⟨u, ht⟩, _, hs⟩ => ?_
      exact ((hy.same (same_put h1 si ht)).stp trivial).1 hs
    · obtain ⟨u, hyj⟩ := reads_yv hk h
      have h5 := ((hyj.stp rfl).1 h).2
      obtain ⟨v, hyi⟩ := reads_yv hk' h5
      have h6 := (hyi.stp rfl).1 h5
      have e1 := same_put (a := a) (u := u) h1 si rfl
      have hyi' : Yv P ops (· = w) oi v a := hyi.same ⟨e1.1.symm, e1.2.symm⟩
      have e2 := same_put (a := a) (u := v) h3 sj rfl
      refine (hyi'.stp rfl).2 ⟨hj.same e2, ?_⟩
      refine ((hyj.same e2).stp rfl).2 ?_
      rw [Act.put_comm a v u h4]
      exact h6
end
end Go.Proofs.YtjoaonppaokhhaaGreat
