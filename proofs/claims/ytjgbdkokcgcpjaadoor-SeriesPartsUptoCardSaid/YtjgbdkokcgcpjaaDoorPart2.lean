/-
  Several texts in one:
  Series in plain words: labels in order, points that rise, what stands at a place, and that this tells a list of series. Conditions: none; no program in sight.
-/
import Derived.Test.YtjgbdkokcgcpjaaDoorPart1

namespace Go.Proofs.YtjgbdkokcgcpjaaDoor

abbrev Lab := ByteArray × ByteArray
abbrev Ptn := Int × Nat
structure Ser where
  lbs : List Lab
  pts : List Ptn

/-! ### Texts and labels in order -/
def cmpB (a b : ByteArray) : Int := if a.data.toList < b.data.toList then -1 else if a.data.toList = b.data.toList then 0 else 1
theorem data_inj {a b : ByteArray} (h : a.data.toList = b.data.toList) : a = b := by
  cases a
  cases b
  simp only [ByteArray.mk.injEq]
  exact Array.toList_inj.1 h
theorem cmpB_zero {a b : ByteArray} : cmpB a b = 0 ↔ a = b := by
  unfold cmpB
  constructor
  · intro h
    split at h
    · omega
    · split at h
      · rename_i h2
        exact data_inj h2
      · omega
  · rintro rfl
    rw [if_neg (List.lt_irrefl _), if_pos rfl]
theorem cmpB_lt {a b : ByteArray} : cmpB a b < 0 ↔ a.data.toList < b.data.toList := by
  unfold cmpB
  split
  · rename_i h
    simp [h]
  · rename_i h
    split
    · simp [h]
    · simp [h]
theorem cmpB_gt {a b : ByteArray} : 0 < cmpB a b ↔ b.data.toList < a.data.toList := by
  unfold cmpB
  split
  · rename_i h
    simp only [Int.reduceLT, false_iff]
    exact fun h2 => List.lt_irrefl _ (List.lt_trans h h2)
  · rename_i h
    split
    · rename_i h2
      rw [h2]
      simp [List.lt_irrefl]
    · rename_i h2
      simp only [Int.reduceLT, true_iff]
      by_cases h3 : b.data.toList < a.data.toList
      · exact h3
      · exact absurd (List.le_antisymm (List.not_lt.1 h3) (List.not_lt.1 h)) h2
/-- three answers that fit together: an order by comparing -/
structure Cmp {α : Type} (c : α → α → Int) : Prop where
  zero : ∀ a b, c a b = 0 ↔ a = b
  anti : ∀ a b, c a b < 0 ↔ 0 < c b a
  trans : ∀ a b d, c a b < 0 → c b d < 0 → c a d < 0
theorem Cmp.irrefl {α : Type} {c : α → α → Int} (h : Cmp c) (a : α) : ¬ c a a < 0 := by
  rw [(h.zero a a).2 rfl]
  omega
theorem Cmp.tri {α : Type} {c : α → α → Int} (h : Cmp c) (a b : α) : c a b < 0 ∨ a = b ∨ c b a < 0 := by
  rcases Int.lt_trichotomy (c a b) 0 with h1 | h1 | h1
  · exact .inl h1
  · exact .inr (.inl ((h.zero a b).1 h1))
  · exact .inr (.inr ((h.anti b a).2 h1))
theorem cmp_texts : Cmp cmpB := ⟨fun _ _ => cmpB_zero, fun _ _ => by rw [cmpB_lt, cmpB_gt], fun a b d h1 h2 => cmpB_lt.2 (List.lt_trans (cmpB_lt.1 h1) (cmpB_lt.1 h2))⟩
/-- by the first, then by the second -/
def cmp2 {α β : Type} (c : α → α → Int) (d : β → β → Int) (x y : α × β) : Int := if c x.1 y.1 ≠ 0 then c x.1 y.1 else d x.2 y.2
theorem cmp_pairs {α β : Type} {c : α → α → Int} {d : β → β → Int} (hc : Cmp c) (hd : Cmp d) : Cmp (cmp2 c d) := by
  refine ⟨fun a b => ?_, fun a b => ?_, fun a b e => ?_⟩
  · unfold cmp2
    split
    · rename_i h
      constructor
      · intro h2
        exact absurd h2 h
      · rintro rfl
        exact absurd ((hc.zero _ _).2 rfl) h
    · rename_i h
      have h := (hc.zero _ _).1 (Classical.not_not.1 h)
      rw [hd.zero]
      constructor
      · intro h2
        exact Prod.ext h h2
      · rintro rfl
        rfl
  · unfold cmp2
    by_cases h : a.1 = b.1
    · rw [if_neg (by rw [h]; simp [(hc.zero b.1 b.1).2 rfl]), if_neg (by rw [h]; simp [(hc.zero b.1 b.1).2 rfl]), hd.anti]
    · rw [if_pos fun e => h ((hc.zero _ _).1 e), if_pos fun e => h ((hc.zero _ _).1 e).symm, hc.anti]
  · unfold cmp2
    intro h1 h2
    by_cases hab : a.1 = b.1
    · rw [if_neg (by rw [hab]; simp [(hc.zero b.1 b.1).2 rfl])] at h1
      by_cases hbe : b.1 = e.1
      · rw [if_neg (by rw [hbe]; simp [(hc.zero e.1 e.1).2 rfl])] at h2
        rw [if_neg (by rw [hab, hbe]; simp [(hc.zero e.1 e.1).2 rfl])]
        exact hd.trans _ _ _ h1 h2
      · rw [if_pos fun e => hbe ((hc.zero _ _).1 e)] at h2
        rw [hab, if_pos fun e => hbe ((hc.zero _ _).1 e)]
        exact h2
    · rw [if_pos fun e => hab ((hc.zero _ _).1 e)] at h1
      by_cases hbe : b.1 = e.1
      · rw [← hbe, if_pos fun e => hab ((hc.zero _ _).1 e)]
        exact h1
      · rw [if_pos fun e => hbe ((hc.zero _ _).1 e)] at h2
        have h3 := hc.trans _ _ _ h1 h2
        rw [if_pos (by omega)]
        exact h3
/-- lists, one element after the other; a beginning comes first -/
def cmpL {α : Type} (c : α → α → Int) : List α → List α → Int
  | [], [] => 0
  | [], _ :: _ => -1
  | _ :: _, [] => 1
  | x :: a, y :: b => if c x y ≠ 0 then c x y else cmpL c a b
theorem cmp_lists {α : Type} {c : α → α → Int} (hc : Cmp c) : Cmp (cmpL c) := by
  refine ⟨fun a => ?_, fun a => ?_, fun a => ?_⟩
  · induction a with
    | nil => intro b; cases b <;> simp [cmpL]
    | cons x a ih =>
      intro b
      cases b with
      | nil => simp [cmpL]
      | cons y b =>
        unfold cmpL
        split
        · rename_i h
          constructor
          · intro h2
            exact absurd h2 h
          · intro h2
            injection h2 with h2 _
            exact absurd ((hc.zero _ _).2 h2) h
        · rename_i h
          have h := (hc.zero _ _).1 (Classical.not_not.1 h)
          rw [ih, h]
          simp
  · induction a with
    | nil => intro b; cases b <;> simp [cmpL]
    | cons x a ih =>
      intro b
      cases b with
      | nil => simp [cmpL]
      | cons y b =>
        unfold cmpL
        by_cases h : x = y
        · subst h
          rw [if_neg (by simp [(hc.zero x x).2 rfl]), if_neg (by simp [(hc.zero x x).2 rfl]), ih]
        · rw [if_pos fun e => h ((hc.zero _ _).1 e), if_pos fun e => h ((hc.zero _ _).1 e).symm, hc.anti]
  · induction a with
    | nil =>
      intro b d h1 h2
      cases d with
      | nil => cases b <;> simp [cmpL] at h1 h2
      | cons z d => simp [cmpL]
    | cons x a ih =>
      intro b d h1 h2
      cases b with
      | nil => simp [cmpL] at h1
      | cons y b =>
        cases d with
        | nil => simp [cmpL] at h2
        | cons z d =>
          unfold cmpL at h1 h2 ⊢
          by_cases hab : x = y
          · subst hab
            rw [if_neg (by simp [(hc.zero x x).2 rfl])] at h1
            by_cases hbe : x = z
            · subst hbe
              rw [if_neg (by simp [(hc.zero x x).2 rfl])] at h2 ⊢
              exact ih _ _ h1 h2
            · rw [if_pos fun e => hbe ((hc.zero _ _).1 e)] at h2 ⊢
              exact h2
          · rw [if_pos fun e => hab ((hc.zero _ _).1 e)] at h1
            by_cases hbe : y = z
            · subst hbe
              rw [if_pos fun e => hab ((hc.zero _ _).1 e)]
              exact h1
            · rw [if_pos fun e => hbe ((hc.zero _ _).1 e)] at h2
              have h3 := hc.trans _ _ _ h1 h2
              rw [if_pos (by omega)]
              exact h3
abbrev cmpLb : Lab → Lab → Int := cmp2 cmpB cmpB
abbrev cmpLs : List Lab → List Lab → Int := cmpL cmpLb
theorem cmpLs_ok : Cmp cmpLs := cmp_lists (cmp_pairs cmp_texts cmp_texts)

/-! ### Strictly sorted lists are told by their members -/
theorem sorted_ext {α : Type} (lt : α → α → Prop) (ir : ∀ a, ¬ lt a a) (tr : ∀ a b d, lt a b → lt b d → lt a d) : ∀ {a b : List α}, a.Pairwise lt → b.Pairwise lt → (∀ x, x ∈ a ↔ x ∈ b) → a = b
  | [], [], _, _, _ => rfl
  | [], y :: b, _, _, h => by simpa using (h y).2 (by simp)
  | x :: a, [], _, _, h => by simpa using (h x).1 (by simp)
  | x :: a, y :: b, ha, hb, h => by
    rw [List.pairwise_cons] at ha hb
    have hxy : x = y := by
      rcases List.mem_cons.1 ((h x).1 (by simp)) with h1 | h1
      · exact h1
      · rcases List.mem_cons.1 ((h y).2 (by simp)) with h2 | h2
        · exact h2.symm
        · exact absurd (tr _ _ _ (hb.1 x h1) (ha.1 y h2)) (ir _)
    subst hxy
    rw [sorted_ext lt ir tr ha.2 hb.2 fun z => ?_]
    constructor
    · intro hz
      rcases List.mem_cons.1 ((h z).1 (by simp [hz])) with h1 | h1
      · exact absurd (h1 ▸ ha.1 z hz) (ir _)
      · exact h1
    · intro hz
      rcases List.mem_cons.1 ((h z).2 (by simp [hz])) with h1 | h1
      · exact absurd (h1 ▸ hb.1 z hz) (ir _)
      · exact h1

/-! ### Points and series -/
def Rise (ps : List Ptn) : Prop := ps.Pairwise fun p q => p.1 < q.1
def lookP (ps : List Ptn) (t : Int) : Option Nat := (ps.find? fun p => decide (p.1 = t)).map Prod.snd
theorem lookP_mem {ps : List Ptn} (h : Rise ps) {t : Int} {v : Nat} : lookP ps t = some v ↔ (t, v) ∈ ps := by
  unfold lookP
  induction ps with
  | nil => simp
  | cons p r ih =>
    unfold Rise at h ih
    rw [List.pairwise_cons] at h
    rw [List.find?_cons]
    by_cases hp : p.1 = t
    · rw [decide_eq_true hp]
      simp only [Option.map_some, Option.some.injEq, List.mem_cons]
      constructor
      · rintro rfl
        exact .inl (by rw [← hp])
      · rintro (h1 | h1)
        · rw [← h1]
        · have := h.1 _ h1
          simp only at this
          omega
    · rw [decide_eq_false hp]
      simp only [List.mem_cons]
      rw [ih h.2]
      constructor
      · exact .inr
      · rintro (h1 | h1)
        · exact absurd (by rw [← h1]) hp
        · exact h1
theorem lookP_ext {a b : List Ptn} (ha : Rise a) (hb : Rise b) (h : ∀ t, lookP a t = lookP b t) : a = b :=
  sorted_ext (fun p q : Ptn => p.1 < q.1) (fun _ => by omega) (fun _ _ _ h1 h2 => Int.lt_trans h1 h2) ha hb fun ⟨t, v⟩ => by rw [← lookP_mem ha, ← lookP_mem hb, h]
theorem lookP_none {ps : List Ptn} {t : Int} (h : ∀ p ∈ ps, p.1 ≠ t) : lookP ps t = none := by
  unfold lookP
  rw [List.find?_eq_none.2 fun p hp => by simpa using h p hp]
  rfl

def SortS (ss : List Ser) : Prop := ss.Pairwise fun a b => cmpLs a.lbs b.lbs < 0
def lookS (ss : List Ser) (L : List Lab) : Option Ser := ss.find? fun s => decide (s.lbs = L)
theorem lookS_mem {ss : List Ser} (h : SortS ss) {L : List Lab} {s : Ser} : lookS ss L = some s ↔ s ∈ ss ∧ s.lbs = L := by
  unfold lookS
  induction ss with
  | nil => simp
  | cons p r ih =>
    unfold SortS at h ih
    rw [List.pairwise_cons] at h
    rw [List.find?_cons]
    by_cases hp : p.lbs = L
    · rw [decide_eq_true hp]
      simp only [Option.some.injEq, List.mem_cons]
      constructor
      · rintro rfl
        exact ⟨.inl rfl, hp⟩
      · rintro ⟨rfl | h1, h2⟩
        · rfl
        · have h3 := h.1 _ h1
          rw [hp, h2] at h3
          exact absurd h3 (cmpLs_ok.irrefl _)
    · rw [decide_eq_false hp]
      simp only [List.mem_cons]
      rw [ih h.2]
      constructor
      · rintro ⟨h1, h2⟩
        exact ⟨.inr h1, h2⟩
      · rintro ⟨rfl | h1, h2⟩
        · exact absurd h2 hp
        · exact ⟨h1, h2⟩
/-- the V of the point of labels L at t -/
def atV (ss : List Ser) (L : List Lab) (t : Int) : Option Nat := (lookS ss L).bind fun s => lookP s.pts t
/-- series as the document wants them, their labels' own form aside -/
structure Vs (ss : List Ser) : Prop where
  sort : SortS ss
  rise : ∀ s ∈ ss, Rise s.pts
  some : ∀ s ∈ ss, s.pts ≠ []
theorem Vs.nil : Vs [] := ⟨List.Pairwise.nil, fun s h => by simp at h, fun s h => by simp at h⟩
theorem atV_ext {a b : List Ser} (ha : Vs a) (hb : Vs b) (h : ∀ L t, atV a L t = atV b L t) : a = b := by
  have key : ∀ {a b : List Ser}, Vs a → Vs b → (∀ L t, atV a L t = atV b L t) → ∀ s ∈ a, s ∈ b := by
    intro a b ha hb h s hs
    obtain ⟨p, r, hp⟩ := List.exists_cons_of_ne_nil (ha.some s hs)
    have hl := (lookS_mem ha.sort).2 ⟨hs, rfl⟩
    have hpt : ∀ t, atV a s.lbs t = lookP s.pts t := fun t => by unfold atV; rw [hl]; rfl
    have h1 := h s.lbs p.1
    rw [hpt, (lookP_mem (ha.rise s hs)).2 (show (p.1, p.2) ∈ s.pts by rw [hp]; simp)] at h1
    unfold atV at h1
    cases hb2 : lookS b s.lbs with
    | none => rw [hb2] at h1; cases h1
    | some s' =>
      obtain ⟨h2, h3⟩ := (lookS_mem hb.sort).1 hb2
      have h4 : s.pts = s'.pts := lookP_ext (ha.rise s hs) (hb.rise s' h2) fun t => by
        rw [← hpt, h]
        unfold atV
        rw [hb2]
        rfl
      have : s = s' := by
        cases s
        cases s'
        simp only at h3 h4
        rw [h3, h4]
      rw [this]
      exact h2
  exact sorted_ext (fun x y : Ser => cmpLs x.lbs y.lbs < 0) (fun x => cmpLs_ok.irrefl _) (fun _ _ _ h1 h2 => cmpLs_ok.trans _ _ _ h1 h2) ha.sort hb.sort fun s => ⟨key ha hb h s, key hb ha (fun L t => (h L t).symm) s⟩

/-- the greater of two, where one may be missing -/
def maxO : Option Nat → Option Nat → Option Nat
  | none, y => y
  | some x, none => some x
  | some x, some y => some (max x y)
theorem maxO_comm (a b : Option Nat) : maxO a b = maxO b a := by cases a <;> cases b <;> simp [maxO, Nat.max_comm]
theorem maxO_assoc (a b c : Option Nat) : maxO (maxO a b) c = maxO a (maxO b c) := by cases a <;> cases b <;> cases c <;> simp [maxO, Nat.max_assoc]
theorem maxO_self (a : Option Nat) : maxO a a = a := by cases a <;> simp [maxO]
theorem maxO_none (a : Option Nat) : maxO a none = a := by cases a <;> rfl
/-- the greatest of several lists -/
def maxL (ls : List (List Ser)) (L : List Lab) (t : Int) : Option Nat := ls.foldr (fun a o => maxO (atV a L t) o) none
/-- what a merge of lists is -/
structure Mrg (ls : List (List Ser)) (m : List Ser) : Prop where
  vs : Vs m
  at_ : ∀ L t, atV m L t = maxL ls L t
theorem Mrg.uniq {ls : List (List Ser)} {m n : List Ser} (h : Mrg ls m) (h' : Mrg ls n) : m = n := atV_ext h.vs h'.vs fun L t => by rw [h.at_, h'.at_]
end Go.Proofs.YtjgbdkokcgcpjaaDoor
