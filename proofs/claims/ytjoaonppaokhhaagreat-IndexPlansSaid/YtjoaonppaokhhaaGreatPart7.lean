/-
  Several texts in one:
  A region whose order is drawn, walked in the order of its text, with loads beside what acts: what the walk is to show, piece by piece. Conditions: a check of the region that the kernel runs; no program in sight.
-/
import Derived.Test.YtjoaonppaokhhaaGreatPart6

namespace Go.Proofs.YtjoaonppaokhhaaGreat

section
variable {P : Program} {ops : Array Oper} {Q : Exit → Act → World → Prop} {tys : List (Nat × Nat)} {bs : List Nat} {W : World}

/-- the named blocks are as they were -/
def SameIn (bs : List Nat) (W w : World) : Prop := ∀ k, k ∈ bs → w.heap[k]? = W.heap[k]?
/-- the named blocks hold cells -/
def CellsIn (bs : List Nat) (W : World) : Prop := ∀ k, k ∈ bs → ∃ cs t fr, W.heap[k]? = some (.cells cs t fr)

theorem load_same {w w2 w' : World} {a : Addr} {m : Mode} {v : Value} (hc : CellsIn bs W) (h1 : SameIn bs W w) (h2 : SameIn bs W w2) (hb : a.block ∈ bs) (h : (load a m).run P w = .ok v w') : (load a m).run P w2 = .ok v w2 := by
  have e : w2.cell? a = w.cell? a := World.cell?_of_block ((h2 _ hb).trans (h1 _ hb).symm)
  unfold load at h ⊢
  unfold Sem.run at h ⊢
  rw [e]
  cases hx : w.cell? a with
  | some u =>
    rw [hx] at h
    simp only [Sem.run_pure'] at h ⊢
    injection h with h3 h4
    rw [h3]
  | none =>
    rw [hx] at h
    obtain ⟨cs, t, fr, hcs⟩ := hc _ hb
    have : w.heap[a.block]? = some (.cells cs t fr) := (h1 _ hb).trans hcs
    simp only [World.farLoad, this] at h
    cases h
theorem loadCellsFrom_same {w w2 : World} {a : Addr} (hc : CellsIn bs W) (h1 : SameIn bs W w) (h2 : SameIn bs W w2) (hb : a.block ∈ bs) : ∀ (n i : Nat) (acc : Array Value) (v : Array Value) (w' : World), (loadCellsFrom a i n acc).run P w = .ok v w' → (loadCellsFrom a i n acc).run P w2 = .ok v w2
  | 0, i, acc, v, w', h => by
    unfold loadCellsFrom at h ⊢
    rw [Sem.run_pure] at h ⊢
    injection h with h3 h4
    rw [h3]
  | n + 1, i, acc, v, w', h => by
    unfold loadCellsFrom at h ⊢
    rw [Sem.run_bind] at h ⊢
    cases hr : (load (a.add i)).run P w with
    | ok u w1 =>
      rw [hr, Result.andThen_ok] at h
      obtain rfl := reads_load _ _ _ _ _ hr
      rw [load_same hc h1 h2 (by rw [block_add]; exact hb) hr, Result.andThen_ok]
      exact loadCellsFrom_same hc h1 h2 hb n _ _ v w' h
    | halt x w1 => rw [hr] at h; cases h
theorem loadAt_same {w w2 w' : World} {t : TypeId} {p : Addr} {v : Value} (hc : CellsIn bs W) (h1 : SameIn bs W w) (h2 : SameIn bs W w2) (hb : p.block ∈ bs) (h : (Instr.loadAt t (.pointer (some p))).run P w = .ok v w') : (Instr.loadAt t (.pointer (some p))).run P w2 = .ok v w2 := by
  unfold Instr.loadAt Instr.sureAddr loadVar at h ⊢
  simp only [Sem.run_bind, Sem.run_pure, Result.andThen_ok] at h ⊢
  cases hr : (isAgg t).run P w with
  | ok b w1 =>
    obtain ⟨rfl, hb2⟩ := calm_isAgg (P := P) t _ _ _ hr
    rw [hr, Result.andThen_ok] at h
    rw [hb2 w2, Result.andThen_ok]
    cases b
    · exact load_same hc h1 h2 hb h
    · simp only [if_true, Sem.run_bind] at h ⊢
      cases hs : (sizeOf t).run P w1 with
      | ok n w3 =>
        obtain ⟨rfl, hs2⟩ := calm_sizeOf (P := P) t _ _ _ hs
        rw [hs, Result.andThen_ok] at h
        rw [hs2 w2, Result.andThen_ok]
        cases hl : (loadCells p n).run P w3 with
        | ok cs w4 =>
          rw [hl, Result.andThen_ok, Sem.run_pure] at h
          have := loadCellsFrom_same hc h1 h2 hb n 0 #[] cs w4 hl
          rw [show (loadCells p n).run P w2 = .ok cs w2 from this, Result.andThen_ok, Sem.run_pure]
          injection h with h3 h4
          rw [h3]
        | halt x w4 => rw [hl] at h; cases h
      | halt x w3 => rw [hs] at h; cases h
  | halt x w1 => rw [hr] at h; cases h

/-- what is loaded lies in the named blocks -/
def LoadIn (bs : List Nat) (ops : Array Oper) (o : Oper) (a : Act) : Prop :=
  Region.wanted o (yielded ops a.tmps) = true → ∃ t x p, o.op = .load t x ∧ a.eval x = .pointer (some p) ∧ p.block ∈ bs
theorem LoadIn.okT {o : Oper} {a : Act} (hc : CellsIn bs W) (h : LoadIn bs ops o a) : OkT P tys (SameIn bs W) ops o a := fun _ hw w n w' hS hr => by
  obtain ⟨t, x, p, ho, hx, hb⟩ := h hw
  have he : execOp a.eval o = (do pure (.value (← Instr.loadAt t (.pointer (some p))))) := by
    obtain ⟨d, op, ty, pos, af, g⟩ := o
    dsimp only at ho
    subst ho
    simp only [execOp, hx]
  rw [he] at hr ⊢
  rw [Sem.run_bind] at hr
  cases hl : (Instr.loadAt t (.pointer (some p))).run P w with
  | ok v w1 =>
    obtain rfl := reads_loadAt _ _ _ _ _ hl
    rw [hl, Result.andThen_ok, Sem.run_pure] at hr
    injection hr with h3 h4
    subst h3; subst h4
    exact ⟨rfl, v, rfl, fun w2 hS2 => by rw [Sem.run_bind, loadAt_same hc hS hS2 hb hl, Result.andThen_ok, Sem.run_pure]⟩
  | halt x w1 => rw [hl] at hr; cases hr

/-- 0: no world; 1: a load; 2: acts -/
def tagOf (tys : List (Nat × Nat)) (o : Oper) : Nat :=
  match o.op with
  | .move _ | .assign _ | .pick .. | .extract .. | .field .. | .unOp .. | .slice .. | .indexAddr .. | .index .. | .nilCheck _ | .fieldAddr .. | .build .. => 0
  | .binOp _ t _ _ _ => if look tys t = 0 then 2 else 0
  | .convert _ d _ => if look tys d = 1 then 0 else 2
  | .call c =>
    match c.callee with
    | .builtin .len =>
      match c.argTypes[0]? with
      | some t => if look tys t = 9 then 2 else 0
      | none => 0
    | _ => 2
  | .load .. => 1
  | _ => 2

/-- The walk's pieces: up to each load, and up to each operation that acts. -/
def wpU (P : Program) (ops : Array Oper) (Q : Exit → Act → World → Prop) (tys : List (Nat × Nat)) (bs : List Nat) (W : World) : List Oper → List Oper → Act → World → Prop
  | acc, [], a, w => wpList P ops (OnlyN Q) acc a w
  | acc, o :: rest, a, w =>
    match tagOf tys o with
    | 0 => wpU P ops Q tys bs W (acc ++ (chk tys o ++ [o])) rest a w
    | 1 => ∀ K : Act → World → Prop, (∀ a w, LoadIn bs ops o a → wpU P ops Q tys bs W [o] rest a w → K a w) → wpList P ops (OnlyN fun _ => K) acc a w
    | _ => ∀ K : Act → World → Prop, (∀ a w, SameIn bs W w → wpU P ops Q tys bs W [] rest a w → K a w) → wpList P ops (OnlyN fun _ => K) (acc ++ [o]) a w

theorem Stp.q {Q' : Exit → Act → World → Prop} {o : Oper} {K : Act → World → Prop} {a : Act} {w : World} (h : Stp P ops Q o K a w) : Stp P ops Q' o K a w := by
  unfold Stp at *
  split
  · rename_i hw
    rw [if_pos hw] at h
    unfold Oper.wp at *
    generalize (execOp a.eval o).run P w = r at *
    cases r with
    | ok n w' =>
      cases n <;> simp only [Oper.upon] at h ⊢
      case value u => exact h
      case skip => exact h
      case defer d => exact h
      case enter f args =>
        refine Calls.mono h fun e w'' he => ?_
        cases e with
        | returned u => exact he
        | panicked c => exact he
        | outgrown => exact (OnlyN.noOut he).elim
      case row row args => exact h
    | halt x w' =>
      cases x <;> simp only [Oper.upon] at h ⊢
      exact (h : False).elim
  · rename_i hw; rw [if_neg hw] at h; exact h

/-- one operation with the look at its operands -/
theorem chk_step {o : Oper} {more : List Oper} {a : Act} {w : World} (h : wpList P ops (OnlyN Q) (chk tys o ++ o :: more) a w) : Ok P tys ops o a ∧ Stp P ops Q o (wpList P ops (OnlyN Q) more) a w := by
  have key : plain tys o a ∨ kindB P tys o ≠ 0 ∨ Region.wanted o (yielded ops a.tmps) ≠ true → wpList P ops (OnlyN Q) (o :: more) a w → Ok P tys ops o a ∧ Stp P ops Q o (wpList P ops (OnlyN Q) more) a w := fun hp h =>
    ⟨fun hk hw => hp.elim (fun hp => calmV_kind hk hp) fun hp => hp.elim (fun hp => (hp hk).elim) fun hp => (hp hw).elim, stp_of_list h⟩
  obtain ⟨dst, op, type, pos, after, guard⟩ := o
  cases op
  case binOp op t x y yt =>
    simp only [chk] at h
    by_cases h0 : look tys t = 0
    · rw [if_pos h0] at h
      exact key (.inr (.inl (by simp only [kindB]; rw [if_pos h0]; omega))) h
    · rw [if_neg h0] at h
      by_cases h1 : look tys t = 1
      · rw [if_pos h1] at h
        obtain ⟨h2, p1⟩ := look_int (o := ⟨dst, .binOp op t x y yt, type, pos, after, guard⟩) h
        obtain ⟨h3, p2⟩ := look_int (o := ⟨dst, .binOp op t x y yt, type, pos, after, guard⟩) h2
        by_cases hw : Region.wanted ⟨dst, .binOp op t x y yt, type, pos, after, guard⟩ (yielded ops a.tmps) = true
        · exact key (.inl ⟨fun _ => ⟨p1 hw, p2 hw⟩, fun e => (e h1).elim⟩) h3
        · exact key (.inr (.inr hw)) h3
      · rw [if_neg h1] at h
        obtain ⟨h2, p1⟩ := look_string (o := ⟨dst, .binOp op t x y yt, type, pos, after, guard⟩) h
        obtain ⟨h3, p2⟩ := look_string (o := ⟨dst, .binOp op t x y yt, type, pos, after, guard⟩) h2
        by_cases hw : Region.wanted ⟨dst, .binOp op t x y yt, type, pos, after, guard⟩ (yielded ops a.tmps) = true
        · by_cases ht : P.underlying t = some .string
          · exact key (.inl ⟨fun e => (h1 e).elim, fun _ _ => ⟨p1 ht hw, p2 ht hw⟩⟩) h3
          · refine key (.inr (.inl ?_)) h3
            simp only [kindB]
            rw [if_neg h0, if_neg h1]
            first | omega | (split <;> first | omega | (rename_i e; exact (ht e).elim))
        · exact key (.inr (.inr hw)) h3
  case convert s d x =>
    simp only [chk] at h
    by_cases h1 : look tys d = 1
    · rw [if_pos h1] at h
      obtain ⟨h2, p1⟩ := look_int (o := ⟨dst, .convert s d x, type, pos, after, guard⟩) h
      by_cases hw : Region.wanted ⟨dst, .convert s d x, type, pos, after, guard⟩ (yielded ops a.tmps) = true
      · exact key (.inl fun _ => p1 hw) h2
      · exact key (.inr (.inr hw)) h2
    · rw [if_neg h1] at h
      exact key (.inl fun e => (h1 e).elim) h
  all_goals exact key (.inl trivial) h

theorem instr_append : ∀ (a b : List Oper), instr tys (a ++ b) = instr tys a ++ instr tys b
  | [], b => rfl
  | o :: a, b => by simp only [List.cons_append, instr, instr_append a b, List.append_assoc, List.cons_append]
theorem instr_one (o : Oper) : instr tys [o] = chk tys o ++ [o] := rfl

/-- a run of operations that hang on no world -/
theorem pend_sound {Q' : Exit → Act → World → Prop} {more T : List Oper} (hR : ∀ a w, SameIn bs W w → wpList P ops (OnlyN Q') more a w → wpT P ops Q tys (SameIn bs W) T a w) :
    ∀ (pend : List Oper), (∀ o ∈ pend, kindB P tys o = 0) → ∀ a w, SameIn bs W w → wpList P ops (OnlyN Q') (instr tys pend ++ more) a w → wpT P ops Q tys (SameIn bs W) (pend ++ T) a w
  | [], _, a, w, hS, h => hR a w hS h
  | o :: pend, hp, a, w, hS, h => by
    have hk := hp o (by simp)
    rw [instr, List.append_assoc, List.cons_append] at h
    obtain ⟨hok, hst⟩ := chk_step h
    obtain ⟨v, hy⟩ := hok.yv hk hst
    have h2 := (hy.stp trivial).1 hst
    exact ⟨fun _ hw => (hok hk hw).calmS, (hy.stp trivial).2 ⟨hS, pend_sound hR pend (fun o ho => hp o (by simp [ho])) _ _ hS h2⟩⟩

theorem full_sound {Q' : Exit → Act → World → Prop} {more T : List Oper} (hc : CellsIn bs W) (hR : ∀ a w, SameIn bs W w → wpList P ops (OnlyN Q') more a w → wpT P ops Q tys (SameIn bs W) T a w)
    (hd : Option Oper) (pend : List Oper) (hp : ∀ o ∈ pend, kindB P tys o = 0) (a : Act) (w : World) (hl : ∀ o ∈ hd, kindB P tys o = 1 ∧ LoadIn bs ops o a) (hS : SameIn bs W w)
    (h : wpList P ops (OnlyN Q') (hd.toList ++ instr tys pend ++ more) a w) : wpT P ops Q tys (SameIn bs W) (hd.toList ++ pend ++ T) a w := by
  cases hd with
  | none => exact pend_sound hR pend hp a w hS h
  | some o =>
    obtain ⟨hk, hli⟩ := hl o rfl
    simp only [Option.toList_some, List.cons_append] at h ⊢
    have hst := stp_of_list h
    have hok : OkT P tys (SameIn bs W) ops o a := hli.okT hc
    obtain ⟨v, hy⟩ := hok.yv (by omega) hS hst
    exact ⟨hok, (hy.stp hS).2 ⟨hS, pend_sound hR pend hp _ _ hS ((hy.stp hS).1 hst)⟩⟩

theorem wpU_sound (hc : CellsIn bs W) : ∀ (rest : List Oper) (hd : Option Oper) (pend : List Oper), (∀ o ∈ rest, kindB P tys o = tagOf tys o) → (∀ o ∈ pend, kindB P tys o = 0) →
    ∀ (a : Act) (w : World), (∀ o ∈ hd, kindB P tys o = 1 ∧ LoadIn bs ops o a) → SameIn bs W w → wpU P ops Q tys bs W (hd.toList ++ instr tys pend) rest a w → wpT P ops Q tys (SameIn bs W) (hd.toList ++ pend ++ rest) a w
  | [], hd, pend, _, hp, a, w, hl, hS, h => full_sound (Q' := Q) (more := []) (T := []) hc (fun a w _ h => h) hd pend hp a w hl hS (by rw [List.append_nil]; exact h)
  | o :: rest, hd, pend, hr, hp, a, w, hl, hS, h => by
    have hko := hr o (by simp)
    have hr' : ∀ o ∈ rest, kindB P tys o = tagOf tys o := fun x hx => hr x (by simp [hx])
    unfold wpU at h
    split at h
    · rename_i ht
      have := wpU_sound hc rest hd (pend ++ [o]) hr' (fun x hx => by
        rcases List.mem_append.1 hx with hx | hx
        · exact hp x hx
        · simp only [List.mem_cons, List.not_mem_nil, or_false] at hx
          subst hx
          rw [hko, ht]) a w hl hS (by rw [instr_append, instr_one, ← List.append_assoc]; exact h)
      simpa [List.append_assoc] using this
    · rename_i ht
      have h2 := h (fun a w => SameIn bs W w → wpT P ops Q tys (SameIn bs W) (o :: rest) a w) fun a w hli hu hS => by
        have := wpU_sound hc rest (some o) [] hr' (fun x hx => by cases hx) a w (fun x hx => by cases hx; exact ⟨by rw [hko, ht], hli⟩) hS hu
        exact this
      have := full_sound (Q' := fun _ => fun a w => SameIn bs W w → wpT P ops Q tys (SameIn bs W) (o :: rest) a w) (more := []) (T := o :: rest) hc (fun a w hS h => h hS) hd pend hp a w hl hS (by rw [List.append_nil]; exact h2)
      exact this
    · rename_i ht0 ht1
      have h2 := h (fun a w => SameIn bs W w ∧ wpT P ops Q tys (SameIn bs W) rest a w) fun a w hS hu =>
        ⟨hS, wpU_sound hc rest none [] hr' (fun x hx => by cases hx) a w (fun x hx => by cases hx) hS hu⟩
      have := full_sound (Q' := fun _ => fun a w => SameIn bs W w ∧ wpT P ops Q tys (SameIn bs W) rest a w) (more := [o]) (T := o :: rest) hc (fun a w hS h =>
        ⟨fun hk => by
          exfalso
          have : tagOf tys o ≤ 1 := by rw [← hko]; exact hk
          rcases Nat.le_one_iff_eq_zero_or_eq_one.1 this with h | h
          · exact ht0 h
          · exact ht1 h, (stp_of_list h).q⟩) hd pend hp a w hl hS h2
      exact this

/-- The check that the kernel runs. -/
def textS (P : Program) (tys : List (Nat × Nat)) (l : List Oper) : Bool := textT P tys l && l.all fun o => kindB P tys o == tagOf tys o

/-- A region whose order is drawn, in the order of its text; the blocks bs, in which what is loaded lies, stay as they are. -/
theorem wp_region_textS (tys : List (Nat × Nat)) (bs : List Nat) {id : Nat} {l : List Oper} {a : Act} {w : World} (hm : P.follows .mixedOrders = true) (hB : textS P tys l = true) (hc : CellsIn bs w)
    (h : wpU P l.toArray Q tys bs w [] l a w.drew) : (Code.region id l.toArray true).wp P Q a w := by
  simp only [textS, Bool.and_eq_true] at hB
  refine Code.wp_mono OnlyN.out (wp_region_any hm ?_)
  have hr : rem l.length (Array.replicate l.length false) = List.range l.length := List.filter_eq_self.2 fun i hi => by
    have := List.mem_range.1 hi
    simp [this]
  have hl : (List.range l.length).filterMap (l.toArray[·]?) = l := by
    have := range_get l []
    simpa [List.range_eq_range'] using this
  have hS : SameIn bs w { w with drawn := w.drawn + 1 } := fun k _ => rfl
  refine any_of_textT (S := SameIn bs w) hB.1 _ _ _ _ hS (by simp) ?_ ?_ ?_
  · intro i o _ hi
    simp only [List.size_toArray] at hi
    rw [getD_replicate_false] at hi
    cases hi
  · simp only [List.size_toArray]
    rw [hr]
    simp
  · simp only [List.size_toArray]
    rw [hr, hl]
    exact wpU_sound hc l none [] (fun o ho => by have := List.all_eq_true.1 hB.2 o ho; simpa using this) (fun x hx => by cases hx) a _ (fun x hx => by cases hx) hS h
end
end Go.Proofs.YtjoaonppaokhhaaGreat
