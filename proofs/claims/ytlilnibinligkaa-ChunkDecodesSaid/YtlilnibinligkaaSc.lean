/-
  A scope with several labels: what holds at each jump, and a measure that each pass from a label lowers. Conditions: none; no program in sight.
-/
import Derived.Test.YtlilnibinligkaaMem
namespace Go.Proofs.Ytlilnibinligkaa

theorem list_lit {α : Type} (d : α) : ∀ (n : Nat) (l : List α), l.length = n → l = (List.range n).map fun i => l.getD i d
  | n, l, h => by
    refine List.ext_getElem? fun i => ?_
    rw [List.getElem?_map]
    by_cases hi : i < n
    · rw [List.getElem?_range hi, List.getElem?_eq_getElem (show i < l.length by omega)]
      simp [List.getD_eq_getElem?_getD, List.getElem?_eq_getElem (show i < l.length by omega)]
    · rw [List.getElem?_eq_none (by omega), List.getElem?_eq_none (by simpa using hi)]
      rfl
/-- a frame by its slots -/
theorem frame_lit (a : Act) (n : Nat) (hs : a.tmps.size = n) (hd : a.defers = []) : a = { tmps := ((List.range n).map fun i => a.tmps.getD i undef).toArray, defers := [] } := by
  obtain ⟨tm, df⟩ := a
  subst hd
  have h1 : tm.toList = (List.range n).map fun i => tm.toList.getD i undef := list_lit undef n tm.toList (by simpa using hs)
  have h2 : (fun i => tm.toList.getD i undef) = fun i => tm.getD i undef := by
    funext i
    simp [List.getD_eq_getElem?_getD]
  rw [h2] at h1
  have h3 : tm = ((List.range n).map fun i => tm.getD i undef).toArray := by
    rw [← h1]
  exact congrArg (fun t => ({ tmps := t, defers := [] } : Act)) h3

/-- As Q; by a goto to label l: J l. -/
def ExJ (J : Nat → Act → World → Prop) (Q : Exit → Act → World → Prop) : Exit → Act → World → Prop
  | .goto l, a, w => J l a w
  | e, a, w => Q e a w

section
variable {P : Program} {a : Act} {w : World} {Q : Exit → Act → World → Prop}
theorem ExJ.ret {J : Nat → Act → World → Prop} : ExJ J Q .ret a w = Q .ret a w := rfl
theorem ExJ.goto {J : Nat → Act → World → Prop} {l : Nat} : ExJ J Q (.goto l) a w = J l a w := rfl
theorem ExJ.weak {J J' : Nat → Act → World → Prop} (h : ∀ l a w, J l a w → J' l a w) : ∀ e a w, ExJ J Q e a w → ExJ J' Q e a w := fun e a w hq => by
  cases e <;> first | exact hq | exact h _ _ _ hq

theorem wp_scope_many {c : Code} (J : Nat → Act → World → Prop) (μ : Nat → Act → World → Nat)
    (pass : ∀ l a w, J l a w → ∃ rest, findLabel c l = some rest ∧ rest.wp P (ExJ (fun l' a' w' => J l' a' w' ∧ μ l' a' w' < μ l a w) Q) a w)
    (first : c.wp P (ExJ J Q) a w) : (Code.scope c).wp P Q a w := by
  intro b k cs
  have key : ∀ n l a w rest, μ l a w = n → J l a w → findLabel c l = some rest → ∃ e a' w', Q e a' w' ∧ Arrives P (lone (b.at a (.code rest :: .inScope c :: k)) cs w) b k cs e a' w' := by
    intro n
    induction n using Nat.strongRecOn with
    | _ n ih =>
      intro l a w rest hn hJ hf
      obtain ⟨rest', hf', hwp⟩ := pass l a w hJ
      obtain rfl : rest' = rest := Option.some.inj (hf'.symm.trans hf)
      obtain ⟨e, a₁, w₁, hq, harr⟩ := hwp b (.inScope c :: k) cs
      cases e with
      | normal => exact ⟨.normal, a₁, w₁, hq, Steps.trans harr (.one step_inScope)⟩
      | exit id => exact ⟨.exit id, a₁, w₁, hq, fun k' hk => harr k' (by simp [exitTo, hk])⟩
      | goto l' =>
        obtain ⟨hJ', hlt⟩ := hq
        obtain ⟨rest2, hf2, _⟩ := pass l' a₁ w₁ hJ'
        obtain ⟨e₂, a₂, w₂, hq₂, harr₂⟩ := ih _ (by omega) l' a₁ w₁ rest2 rfl hJ' hf2
        exact ⟨e₂, a₂, w₂, hq₂, .of_steps (harr _ (by simp [gotoIn, hf2])) harr₂⟩
      | ret => exact ⟨_, a₁, w₁, hq, harr⟩
      | panic ch => exact ⟨_, a₁, w₁, hq, harr⟩
      | outgrown => exact ⟨_, a₁, w₁, hq, harr⟩
  obtain ⟨e, a₁, w₁, hq, harr⟩ := first b (.inScope c :: k) cs
  cases e with
  | normal => exact ⟨.normal, a₁, w₁, hq, .head step_scope (Steps.trans harr (.one step_inScope))⟩
  | exit id => exact ⟨.exit id, a₁, w₁, hq, fun k' hk => .head step_scope (harr k' (by simp [exitTo, hk]))⟩
  | goto l' =>
    obtain ⟨rest2, hf2, _⟩ := pass l' a₁ w₁ hq
    obtain ⟨e₂, a₂, w₂, hq₂, harr₂⟩ := key _ l' a₁ w₁ rest2 rfl hq hf2
    exact ⟨e₂, a₂, w₂, hq₂, .of_steps (.head step_scope (harr _ (by simp [gotoIn, hf2]))) harr₂⟩
  | ret => exact ⟨_, a₁, w₁, hq, .of_steps (.one step_scope) harr⟩
  | panic ch => exact ⟨_, a₁, w₁, hq, .of_steps (.one step_scope) harr⟩
  | outgrown => exact ⟨_, a₁, w₁, hq, .of_steps (.one step_scope) harr⟩

/-- The same, where the run falls into label l from ahead: there, too, J holds and no more need be walked. -/
theorem wp_scope_fall {c : Code} (J : Nat → Act → World → Prop) (μ : Nat → Act → World → Nat) (l0 : Nat) (body : Code) (hb : findLabel c l0 = some (.seq .skip body))
    (pass0 : ∀ a w, J l0 a w → body.wp P (ExJ (fun l' a' w' => J l' a' w' ∧ μ l' a' w' < μ l0 a w) Q) a w)
    (pass : ∀ l a w, l ≠ l0 → J l a w → ∃ rest, findLabel c l = some rest ∧ rest.wp P (ExJ (fun l' a' w' => J l' a' w' ∧ μ l' a' w' < μ l a w) Q) a w)
    (first : (∀ a w, J l0 a w → body.wp P (ExJ J Q) a w) → c.wp P (ExJ J Q) a w) : (Code.scope c).wp P Q a w := by
  refine wp_scope_many J μ (fun l a w h => ?_) (first fun a w h => Code.wp_mono (ExJ.weak fun _ _ _ h => h.1) (pass0 a w h))
  by_cases hl : l = l0
  · subst hl
    refine ⟨_, hb, ?_⟩
    apply wp_seq_k
    intro K hK
    apply wp_skip
    exact hK _ _ (pass0 a w h)
  · exact pass l a w hl h

/-- Two labels: to l0 the run jumps back (and falls in from ahead), to l1 it jumps at last. -/
theorem wp_scope_two {c : Code} (l0 l1 : Nat) (J0 J1 : Act → World → Prop) (μ : Act → World → Nat) (b0 b1 : Code) (h0 : findLabel c l0 = some (.seq .skip b0)) (h1 : findLabel c l1 = some (.seq .skip b1)) (hne : l0 ≠ l1)
    (pass0 : ∀ a w, J0 a w → b0.wp P (ExJ (fun l a' w' => (l = l0 ∧ J0 a' w' ∧ μ a' w' < μ a w) ∨ (l = l1 ∧ J1 a' w')) Q) a w)
    (pass1 : ∀ a w, J1 a w → b1.wp P (ExJ (fun _ _ _ => False) Q) a w)
    (first : (∀ a w, J0 a w → b0.wp P (ExJ (fun l a' w' => (l = l0 ∧ J0 a' w') ∨ (l = l1 ∧ J1 a' w')) Q) a w) → c.wp P (ExJ (fun l a' w' => (l = l0 ∧ J0 a' w') ∨ (l = l1 ∧ J1 a' w')) Q) a w) : (Code.scope c).wp P Q a w := by
  refine wp_scope_fall (fun l a' w' => (l = l0 ∧ J0 a' w') ∨ (l = l1 ∧ J1 a' w')) (fun l a' w' => if l = l0 then μ a' w' + 1 else 0) l0 b0 h0 ?_ ?_ (fun hb => first fun a w h => hb a w (.inl ⟨rfl, h⟩))
  · rintro a' w' (⟨_, h⟩ | ⟨e, _⟩)
    · refine Code.wp_mono (ExJ.weak ?_) (pass0 a' w' h)
      rintro l a2 w2 (⟨rfl, hJ, hm⟩ | ⟨rfl, hJ⟩)
      · exact ⟨.inl ⟨rfl, hJ⟩, by simp only [if_true]; omega⟩
      · exact ⟨.inr ⟨rfl, hJ⟩, by simp only [if_true]; rw [if_neg (Ne.symm hne)]; omega⟩
    · exact (hne e).elim
  · rintro l a' w' hl (⟨e, _⟩ | ⟨rfl, h⟩)
    · exact (hl e).elim
    · refine ⟨_, h1, ?_⟩
      apply wp_seq_k
      intro K hK
      apply wp_skip
      exact hK _ _ (Code.wp_mono (ExJ.weak fun _ _ _ h => h.elim) (pass1 a' w' h))
end
end Go.Proofs.Ytlilnibinligkaa
