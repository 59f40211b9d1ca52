/-
  Several texts in one:
  Series in plain words: labels in order, points that rise, what stands at a place, and that this tells a list of series. Conditions: none; no program in sight.
  A label set's bytes, and that they tell it: plain. Conditions: none; no program in sight.
  Points of two lists as one; a series added behind others; several lists as one, step by step. Conditions: none; no program in sight.
  Labels in cells. Conditions: none.
-/
import Derived.Test.YtailooldnelecaaGreatDoorPart1
import Derived.Test.YtailooldnelecaaGreatDoorPart3
import Derived.Test.YtailooldnelecaaGreatDoorPart2

namespace Go.Proofs.YtailooldnelecaaGreatDoor

abbrev Lab := ByteArray × ByteArray
abbrev Ptn := Int × Nat
structure Ser where
  lbs : List Lab
  pts : List Ptn

/-! ### Texts and labels in order -/
def cmpB (a b : ByteArray) : Int := if a.data.toList < b.data.toList then -1 else if a.data.toList = b.data.toList then 0 else 1
theorem data_inj {a b : ByteArray} (h : a.data.toList = b.data.toList) : a = b := by
  cases a
  cases b
  simp only [ByteArray.mk.injEq]
  exact Array.toList_inj.1 h
theorem cmpB_zero {a b : ByteArray} : cmpB a b = 0 ↔ a = b := by
  unfold cmpB
  constructor
  · intro h
    split at h
    · omega
    · split at h
      · rename_i h2
        exact data_inj h2
      · omega
  · rintro rfl
    rw [if_neg (List.lt_irrefl _), if_pos rfl]
theorem cmpB_lt {a b : ByteArray} : cmpB a b < 0 ↔ a.data.toList < b.data.toList := by
  unfold cmpB
  split
  · rename_i h
    simp [h]
  · rename_i h
    split
    · simp [h]
    · simp [h]
theorem cmpB_gt {a b : ByteArray} : 0 < cmpB a b ↔ b.data.toList < a.data.toList := by
  unfold cmpB
  split
  · rename_i h
    simp only [Int.reduceLT, false_iff]
    exact fun h2 => List.lt_irrefl _ (List.lt_trans h h2)
  · rename_i h
    split
    · rename_i h2
      rw [h2]
      simp [List.lt_irrefl]
    · rename_i h2
      simp only [Int.reduceLT, true_iff]
      by_cases h3 : b.data.toList < a.data.toList
      · exact h3
      · exact absurd (List.le_antisymm (List.not_lt.1 h3) (List.not_lt.1 h)) h2
/-- three answers that fit together: an order by comparing -/
structure Cmp {α : Type} (c : α → α → Int) : Prop where
  zero : ∀ a b, c a b = 0 ↔ a = b
  anti : ∀ a b, c a b < 0 ↔ 0 < c b a
  trans : ∀ a b d, c a b < 0 → c b d < 0 → c a d < 0
theorem Cmp.irrefl {α : Type} {c : α → α → Int} (h : Cmp c) (a : α) : ¬ c a a < 0 := by
  rw [(h.zero a a).2 rfl]
  omega
theorem Cmp.tri {α : Type} {c : α → α → Int} (h : Cmp c) (a b : α) : c a b < 0 ∨ a = b ∨ c b a < 0 := by
  rcases Int.lt_trichotomy (c a b) 0 with h1 | h1 | h1
  · exact .inl h1
  · exact .inr (.inl ((h.zero a b).1 h1))
  · exact .inr (.inr ((h.anti b a).2 h1))
theorem cmp_texts : Cmp cmpB := ⟨fun _ _ => cmpB_zero, fun _ _ => by rw [cmpB_lt, cmpB_gt], fun a b d h1 h2 => cmpB_lt.2 (List.lt_trans (cmpB_lt.1 h1) (cmpB_lt.1 h2))⟩
/-- by the first, then by the second -/
def cmp2 {α β : Type} (c : α → α → Int) (d : β → β → Int) (x y : α × β) : Int := if c x.1 y.1 ≠ 0 then c x.1 y.1 else d x.2 y.2
theorem cmp_pairs {α β : Type} {c : α → α → Int} {d : β → β → Int} (hc : Cmp c) (hd : Cmp d) : Cmp (cmp2 c d) := by
  refine ⟨fun a b => ?_, fun a b => ?_, fun a b e => ?_⟩
  · unfold cmp2
    split
    · rename_i h
      constructor
      · intro h2
        exact absurd h2 h
      · rintro rfl
        exact absurd ((hc.zero _ _).2 rfl) h
    · rename_i h
      have h := (hc.zero _ _).1 (Classical.not_not.1 h)
      rw [hd.zero]
      constructor
      · intro h2
        exact Prod.ext h h2
      · rintro rfl
        rfl
  · unfold cmp2
    by_cases h : a.1 = b.1
    · rw [if_neg (by rw [h]; simp [(hc.zero b.1 b.1).2 rfl]), if_neg (by rw [h]; simp [(hc.zero b.1 b.1).2 rfl]), hd.anti]
    · rw [if_pos fun e => h ((hc.zero _ _).1 e), if_pos fun e => h ((hc.zero _ _).1 e).symm, hc.anti]
  · unfold cmp2
    intro h1 h2
    by_cases hab : a.1 = b.1
    · rw [if_neg (by rw [hab]; simp [(hc.zero b.1 b.1).2 rfl])] at h1
      by_cases hbe : b.1 = e.1
      · rw [if_neg (by rw [hbe]; simp [(hc.zero e.1 e.1).2 rfl])] at h2
        rw [if_neg (by rw [hab, hbe]; simp [(hc.zero e.1 e.1).2 rfl])]
        exact hd.trans _ _ _ h1 h2
      · rw [if_pos fun e => hbe ((hc.zero _ _).1 e)] at h2
        rw [hab, if_pos fun e => hbe ((hc.zero _ _).1 e)]
        exact h2
    · rw [if_pos fun e => hab ((hc.zero _ _).1 e)] at h1
      by_cases hbe : b.1 = e.1
      · rw [← hbe, if_pos fun e => hab ((hc.zero _ _).1 e)]
        exact h1
      · rw [if_pos fun e => hbe ((hc.zero _ _).1 e)] at h2
        have h3 := hc.trans _ _ _ h1 h2
        rw [if_pos (by omega)]
        exact h3
/-- lists, one element after the other; a beginning comes first -/
def cmpL {α : Type} (c : α → α → Int) : List α → List α → Int
  | [], [] => 0
  | [], _ :: _ => -1
  | _ :: _, [] => 1
  | x :: a, y :: b => if c x y ≠ 0 then c x y else cmpL c a b
theorem cmp_lists {α : Type} {c : α → α → Int} (hc : Cmp c) : Cmp (cmpL c) := by
  refine ⟨fun a => ?_, fun a => ?_, fun a => ?_⟩
  · induction a with
    | nil => intro b; cases b <;> simp [cmpL]
    | cons x a ih =>
      intro b
      cases b with
      | nil => simp [cmpL]
      | cons y b =>
        unfold cmpL
        split
        · rename_i h
          constructor
          · intro h2
            exact absurd h2 h
          · intro h2
            injection h2 with h2 _
            exact absurd ((hc.zero _ _).2 h2) h
        · rename_i h
          have h := (hc.zero _ _).1 (Classical.not_not.1 h)
          rw [ih, h]
          simp
  · induction a with
    | nil => intro b; cases b <;> simp [cmpL]
    | cons x a ih =>
      intro b
      cases b with
      | nil => simp [cmpL]
      | cons y b =>
        unfold cmpL
        by_cases h : x = y
        · subst h
          rw [if_neg (by simp [(hc.zero x x).2 rfl]), if_neg (by simp [(hc.zero x x).2 rfl]), ih]
        · rw [if_pos fun e => h ((hc.zero _ _).1 e), if_pos fun e => h ((hc.zero _ _).1 e).symm, hc.anti]
  · induction a with
    | nil =>
      intro b d h1 h2
      cases d with
      | nil => cases b <;> simp [cmpL] at h1 h2
      | cons z d => simp [cmpL]
    | cons x a ih =>
      intro b d h1 h2
      cases b with
      | nil => simp [cmpL] at h1
      | cons y b =>
        cases d with
        | nil => simp [cmpL] at h2
        | cons z d =>
          unfold cmpL at h1 h2 ⊢
          by_cases hab : x = y
          · subst hab
            rw [if_neg (by simp [(hc.zero x x).2 rfl])] at h1
            by_cases hbe : x = z
            · subst hbe
              rw [if_neg (by simp [(hc.zero x x).2 rfl])] at h2 ⊢
              exact ih _ _ h1 h2
            · rw [if_pos fun e => hbe ((hc.zero _ _).1 e)] at h2 ⊢
              exact h2
          · rw [if_pos fun e => hab ((hc.zero _ _).1 e)] at h1
            by_cases hbe : y = z
            · subst hbe
              rw [if_pos fun e => hab ((hc.zero _ _).1 e)]
              exact h1
            · rw [if_pos fun e => hbe ((hc.zero _ _).1 e)] at h2
              have h3 := hc.trans _ _ _ h1 h2
              rw [if_pos (by omega)]
              exact h3
abbrev cmpLb : Lab → Lab → Int := cmp2 cmpB cmpB
abbrev cmpLs : List Lab → List Lab → Int := cmpL cmpLb
theorem cmpLs_ok : Cmp cmpLs := cmp_lists (cmp_pairs cmp_texts cmp_texts)

/-! ### Strictly sorted lists are told by their members -/
theorem sorted_ext {α : Type} (lt : α → α → Prop) (ir : ∀ a, ¬ lt a a) (tr : ∀ a b d, lt a b → lt b d → lt a d) : ∀ {a b : List α}, a.Pairwise lt → b.Pairwise lt → (∀ x, x ∈ a ↔ x ∈ b) → a = b
  | [], [], _, _, _ => rfl
  | [], y :: b, _, _, h => by simpa using (h y).2 (by simp)
  | x :: a, [], _, _, h => by simpa using (h x).1 (by simp)
  | x :: a, y :: b, ha, hb, h => by
    rw [List.pairwise_cons] at ha hb
    have hxy : x = y := by
      rcases List.mem_cons.1 ((h x).1 (by simp)) with h1 | h1
      · exact h1
      · rcases List.mem_cons.1 ((h y).2 (by simp)) with h2 | h2
        · exact h2.symm
        · exact absurd (tr _ _ _ (hb.1 x h1) (ha.1 y h2)) (ir _)
    subst hxy
    rw [sorted_ext lt ir tr ha.2 hb.2 fun z => ?_]
    constructor
    · intro hz
      rcases List.mem_cons.1 ((h z).1 (by simp [hz])) with h1 | h1
      · exact absurd (h1 ▸ ha.1 z hz) (ir _)
      · exact h1
    · intro hz
      rcases List.mem_cons.1 ((h z).2 (by simp [hz])) with h1 | h1
      · exact absurd (h1 ▸ hb.1 z hz) (ir _)
      · exact h1

/-! ### Points and series -/
def Rise (ps : List Ptn) : Prop := ps.Pairwise fun p q => p.1 < q.1
def lookP (ps : List Ptn) (t : Int) : Option Nat := (ps.find? fun p => decide (p.1 = t)).map Prod.snd
theorem lookP_mem {ps : List Ptn} (h : Rise ps) {t : Int} {v : Nat} : lookP ps t = some v ↔ (t, v) ∈ ps := by
  unfold lookP
  induction ps with
  | nil => simp
  | cons p r ih =>
    unfold Rise at h ih
    rw [List.pairwise_cons] at h
    rw [List.find?_cons]
    by_cases hp : p.1 = t
    · rw [decide_eq_true hp]
      simp only [Option.map_some, Option.some.injEq, List.mem_cons]
      constructor
      · rintro rfl
        exact .inl (by rw [← hp])
      · rintro (h1 | h1)
        · rw [← h1]
        · have := h.1 _ h1
          simp only at this
          omega
    · rw [decide_eq_false hp]
      simp only [List.mem_cons]
      rw [ih h.2]
      constructor
      · exact .inr
      · rintro (h1 | h1)
        · exact absurd (by rw [← h1]) hp
        · exact h1
theorem lookP_ext {a b : List Ptn} (ha : Rise a) (hb : Rise b) (h : ∀ t, lookP a t = lookP b t) : a = b :=
  sorted_ext (fun p q : Ptn => p.1 < q.1) (fun _ => by omega) (fun _ _ _ h1 h2 => Int.lt_trans h1 h2) ha hb fun ⟨t, v⟩ => by rw [← lookP_mem ha, ← lookP_mem hb, h]
theorem lookP_none {ps : List Ptn} {t : Int} (h : ∀ p ∈ ps, p.1 ≠ t) : lookP ps t = none := by
  unfold lookP
  rw [List.find?_eq_none.2 fun p hp => by simpa using h p hp]
  rfl

def SortS (ss : List Ser) : Prop := ss.Pairwise fun a b => cmpLs a.lbs b.lbs < 0
def lookS (ss : List Ser) (L : List Lab) : Option Ser := ss.find? fun s => decide (s.lbs = L)
theorem lookS_mem {ss : List Ser} (h : SortS ss) {L : List Lab} {s : Ser} : lookS ss L = some s ↔ s ∈ ss ∧ s.lbs = L := by
  unfold lookS
  induction ss with
  | nil => simp
  | cons p r ih =>
    unfold SortS at h ih
    rw [List.pairwise_cons] at h
    rw [List.find?_cons]
    by_cases hp : p.lbs = L
    · rw [decide_eq_true hp]
      simp only [Option.some.injEq, List.mem_cons]
      constructor
      · rintro rfl
        exact ⟨.inl rfl, hp⟩
      · rintro ⟨rfl | h1, h2⟩
        · rfl
        · have h3 := h.1 _ h1
          rw [hp, h2] at h3
          exact absurd h3 (cmpLs_ok.irrefl _)
    · rw [decide_eq_false hp]
      simp only [List.mem_cons]
      rw [ih h.2]
      constructor
      · rintro ⟨h1, h2⟩
        exact ⟨.inr h1, h2⟩
      · rintro ⟨rfl | h1, h2⟩
        · exact absurd h2 hp
        · exact ⟨h1, h2⟩
/-- the V of the point of labels L at t -/
def atV (ss : List Ser) (L : List Lab) (t : Int) : Option Nat := (lookS ss L).bind fun s => lookP s.pts t
/-- series as the document wants them, their labels' own form aside -/
structure Vs (ss : List Ser) : Prop where
  sort : SortS ss
  rise : ∀ s ∈ ss, Rise s.pts
  some : ∀ s ∈ ss, s.pts ≠ []
theorem Vs.nil : Vs [] := ⟨List.Pairwise.nil, fun s h => by simp at h, fun s h => by simp at h⟩
theorem atV_ext {a b : List Ser} (ha : Vs a) (hb : Vs b) (h : ∀ L t, atV a L t = atV b L t) : a = b := by
  have key : ∀ {a b : List Ser}, Vs a → Vs b → (∀ L t, atV a L t = atV b L t) → ∀ s ∈ a, s ∈ b := by
    intro a b ha hb h s hs
    obtain ⟨p, r, hp⟩ := List.exists_cons_of_ne_nil (ha.some s hs)
    have hl := (lookS_mem ha.sort).2 ⟨hs, rfl⟩
    have hpt : ∀ t, atV a s.lbs t = lookP s.pts t := fun t => by unfold atV; rw [hl]; rfl
    have h1 := h s.lbs p.1
    rw [hpt, (lookP_mem (ha.rise s hs)).2 (show (p.1, p.2) ∈ s.pts by rw [hp]; simp)] at h1
    unfold atV at h1
    cases hb2 : lookS b s.lbs with
    | none => rw [hb2] at h1; cases h1
    | some s' =>
      obtain ⟨h2, h3⟩ := (lookS_mem hb.sort).1 hb2
      have h4 : s.pts = s'.pts := lookP_ext (ha.rise s hs) (hb.rise s' h2) fun t => by
        rw [← hpt, h]
        unfold atV
        rw [hb2]
        rfl
      have : s = s' := by
        cases s
        cases s'
        simp only at h3 h4
        rw [h3, h4]
      rw [this]
      exact h2
  exact sorted_ext (fun x y : Ser => cmpLs x.lbs y.lbs < 0) (fun x => cmpLs_ok.irrefl _) (fun _ _ _ h1 h2 => cmpLs_ok.trans _ _ _ h1 h2) ha.sort hb.sort fun s => ⟨key ha hb h s, key hb ha (fun L t => (h L t).symm) s⟩

/-- the greater of two, where one may be missing -/
def maxO : Option Nat → Option Nat → Option Nat
  | none, y => y
  | some x, none => some x
  | some x, some y => some (max x y)
theorem maxO_comm (a b : Option Nat) : maxO a b = maxO b a := by cases a <;> cases b <;> simp [maxO, Nat.max_comm]
theorem maxO_assoc (a b c : Option Nat) : maxO (maxO a b) c = maxO a (maxO b c) := by cases a <;> cases b <;> cases c <;> simp [maxO, Nat.max_assoc]
theorem maxO_self (a : Option Nat) : maxO a a = a := by cases a <;> simp [maxO]
theorem maxO_none (a : Option Nat) : maxO a none = a := by cases a <;> rfl
/-- the greatest of several lists -/
def maxL (ls : List (List Ser)) (L : List Lab) (t : Int) : Option Nat := ls.foldr (fun a o => maxO (atV a L t) o) none
/-- what a merge of lists is -/
structure Mrg (ls : List (List Ser)) (m : List Ser) : Prop where
  vs : Vs m
  at_ : ∀ L t, atV m L t = maxL ls L t
theorem Mrg.uniq {ls : List (List Ser)} {m n : List Ser} (h : Mrg ls m) (h' : Mrg ls n) : m = n := atV_ext h.vs h'.vs fun L t => by rw [h.at_, h'.at_]
end Go.Proofs.YtailooldnelecaaGreatDoor

namespace Go.Proofs.YtailooldnelecaaGreatDoor

theorem uv_cut {a b : Nat} (ha : a < 18446744073709551616) (hb : b < 18446744073709551616) {x y : List UInt8} (h : uv a ++ x = uv b ++ y) : a = b ∧ x = y := by
  have h1 := ur_uv x a 0 0 (.inl rfl) (by simpa using ha) (by omega)
  have h2 := ur_uv y b 0 0 (.inl rfl) (by simpa using hb) (by omega)
  rw [h, h2] at h1
  have e : a = b := by
    have := congrArg Prod.fst h1
    simp at this
    exact this.symm
  subst e
  exact ⟨rfl, List.append_cancel_left h⟩
def tx8 (s : ByteArray) : List UInt8 := uv s.size ++ s.data.toList
theorem tx8_cut {s t : ByteArray} (hs : s.size < 18446744073709551616) (ht : t.size < 18446744073709551616) {x y : List UInt8} (h : tx8 s ++ x = tx8 t ++ y) : s = t ∧ x = y := by
  unfold tx8 at h
  rw [List.append_assoc, List.append_assoc] at h
  obtain ⟨e1, e2⟩ := uv_cut hs ht h
  have l1 : s.data.toList.length = t.data.toList.length := by
    rw [Array.length_toList, Array.length_toList]
    exact e1
  obtain ⟨e3, e4⟩ := List.append_inj e2 l1
  refine ⟨?_, e4⟩
  cases s
  cases t
  simp only [ByteArray.mk.injEq]
  exact Array.toList_inj.1 e3
/-- a set's bytes -/
def encR (ls : List Lab) : List UInt8 := ls.flatMap fun l => tx8 l.1 ++ tx8 l.2
def encL (ls : List Lab) : List UInt8 := uv ls.length ++ encR ls
theorem encR_cons (l : Lab) (r : List Lab) : encR (l :: r) = tx8 l.1 ++ tx8 l.2 ++ encR r := by simp [encR]
theorem encR_snoc (r : List Lab) (l : Lab) : encR (r ++ [l]) = encR r ++ tx8 l.1 ++ tx8 l.2 := by simp [encR]
def SmL (ls : List Lab) : Prop := ls.length < 18446744073709551616 ∧ ∀ l ∈ ls, l.1.size < 18446744073709551616 ∧ l.2.size < 18446744073709551616
theorem encR_inj : ∀ {a b : List Lab}, (∀ l ∈ a, l.1.size < 18446744073709551616 ∧ l.2.size < 18446744073709551616) → (∀ l ∈ b, l.1.size < 18446744073709551616 ∧ l.2.size < 18446744073709551616) → a.length = b.length → encR a = encR b → a = b
  | [], [], _, _, _, _ => rfl
  | [], _ :: _, _, _, h, _ => by simp at h
  | _ :: _, [], _, _, h, _ => by simp at h
  | x :: a, y :: b, ha, hb, h, he => by
    rw [encR_cons, encR_cons, List.append_assoc, List.append_assoc] at he
    obtain ⟨e1, e2⟩ := tx8_cut (ha x (by simp)).1 (hb y (by simp)).1 he
    obtain ⟨e3, e4⟩ := tx8_cut (ha x (by simp)).2 (hb y (by simp)).2 e2
    rw [encR_inj (fun l hl => ha l (by simp [hl])) (fun l hl => hb l (by simp [hl])) (by simpa using h) e4, Prod.ext e1 e3]
theorem encL_inj {a b : List Lab} (ha : SmL a) (hb : SmL b) (h : encL a = encL b) : a = b := by
  obtain ⟨e1, e2⟩ := uv_cut ha.1 hb.1 h
  exact encR_inj ha.2 hb.2 e1 e2
/-- .. as a text -/
def encK (ls : List Lab) : ByteArray := ⟨(encL ls).toArray⟩
theorem encK_inj {a b : List Lab} (ha : SmL a) (hb : SmL b) (h : encK a = encK b) : a = b := by
  refine encL_inj ha hb ?_
  have := congrArg (fun x => x.data.toList) h
  simpa [encK] using this
end Go.Proofs.YtailooldnelecaaGreatDoor

namespace Go.Proofs.YtailooldnelecaaGreatDoor

def mergeP : List Ptn → List Ptn → List Ptn
  | [], b => b
  | p :: a, [] => p :: a
  | p :: a, q :: b => if p.1 < q.1 then p :: mergeP a (q :: b) else if q.1 < p.1 then q :: mergeP (p :: a) b else (p.1, max p.2 q.2) :: mergeP a b
termination_by a b => a.length + b.length
theorem mergeP_nil (a : List Ptn) : mergeP a [] = a := by cases a <;> simp [mergeP]
theorem mergeP_low : ∀ (a b : List Ptn) (x : Int), (∀ p ∈ a, x < p.1) → (∀ q ∈ b, x < q.1) → ∀ r ∈ mergeP a b, x < r.1
  | [], b, x, _, hb => by rw [mergeP]; exact hb
  | p :: a, [], x, ha, _ => by rw [mergeP]; exact ha
  | p :: a, q :: b, x, ha, hb => by
    rw [mergeP]
    intro r hr
    split at hr
    · rcases List.mem_cons.1 hr with rfl | hr
      · exact ha _ (by simp)
      · exact mergeP_low a (q :: b) x (fun z hz => ha z (by simp [hz])) hb r hr
    · split at hr
      · rcases List.mem_cons.1 hr with rfl | hr
        · exact hb _ (by simp)
        · exact mergeP_low (p :: a) b x ha (fun z hz => hb z (by simp [hz])) r hr
      · rcases List.mem_cons.1 hr with rfl | hr
        · exact ha p (by simp)
        · exact mergeP_low a b x (fun z hz => ha z (by simp [hz])) (fun z hz => hb z (by simp [hz])) r hr
termination_by a b => a.length + b.length
theorem mergeP_rise : ∀ (a b : List Ptn), Rise a → Rise b → Rise (mergeP a b)
  | [], b, _, hb => by rw [mergeP]; exact hb
  | p :: a, [], ha, _ => by rw [mergeP]; exact ha
  | p :: a, q :: b, ha, hb => by
    have ha' := List.pairwise_cons.1 ha
    have hb' := List.pairwise_cons.1 hb
    rw [mergeP]
    split
    · rename_i h
      refine List.pairwise_cons.2 ⟨mergeP_low a (q :: b) p.1 ha'.1 fun z hz => ?_, mergeP_rise a (q :: b) ha'.2 hb⟩
      rcases List.mem_cons.1 hz with rfl | hz
      · exact h
      · have := hb'.1 z hz
        omega
    · split
      · rename_i h1 h
        refine List.pairwise_cons.2 ⟨mergeP_low (p :: a) b q.1 (fun z hz => ?_) hb'.1, mergeP_rise (p :: a) b ha hb'.2⟩
        rcases List.mem_cons.1 hz with rfl | hz
        · exact h
        · have := ha'.1 z hz
          omega
      · refine List.pairwise_cons.2 ⟨mergeP_low a b p.1 ha'.1 fun z hz => ?_, mergeP_rise a b ha'.2 hb'.2⟩
        have := hb'.1 z hz
        omega
termination_by a b => a.length + b.length
theorem lookP_cons (p : Ptn) (a : List Ptn) (t : Int) : lookP (p :: a) t = if p.1 = t then some p.2 else lookP a t := by
  unfold lookP
  rw [List.find?_cons]
  by_cases h : p.1 = t
  · rw [decide_eq_true h, if_pos h]
    rfl
  · rw [decide_eq_false h, if_neg h]
theorem lookP_low {a : List Ptn} {x : Int} (h : ∀ p ∈ a, x < p.1) {t : Int} (ht : t ≤ x) : lookP a t = none := lookP_none fun p hp e => by
  have := h p hp
  omega
theorem mergeP_look : ∀ (a b : List Ptn), Rise a → Rise b → ∀ t, lookP (mergeP a b) t = maxO (lookP a t) (lookP b t)
  | [], b, _, hb, t => by rw [mergeP]; rfl
  | p :: a, [], ha, _, t => by rw [mergeP, show lookP [] t = none from rfl, maxO_none]
  | p :: a, q :: b, ha, hb, t => by
    have ha' := List.pairwise_cons.1 ha
    have hb' := List.pairwise_cons.1 hb
    rw [mergeP]
    split
    · rename_i h
      rw [lookP_cons, mergeP_look a (q :: b) ha'.2 hb t, lookP_cons p a]
      split
      · rename_i e
        have : lookP (q :: b) t = none := lookP_low (x := p.1) (fun z hz => by
          rcases List.mem_cons.1 hz with rfl | hz
          · exact h
          · have := hb'.1 z hz
            omega) (by omega)
        rw [this]
        rfl
      · rfl
    · split
      · rename_i h1 h
        rw [lookP_cons, mergeP_look (p :: a) b ha hb'.2 t, lookP_cons q b]
        split
        · rename_i e
          have : lookP (p :: a) t = none := lookP_low (x := q.1) (fun z hz => by
            rcases List.mem_cons.1 hz with rfl | hz
            · exact h
            · have := ha'.1 z hz
              omega) (by omega)
          rw [this]
          rfl
        · rfl
      · rename_i h1 h2
        have hpq : p.1 = q.1 := by omega
        rw [lookP_cons, mergeP_look a b ha'.2 hb'.2 t, lookP_cons p a, lookP_cons q b, ← hpq]
        split
        · rfl
        · rfl
termination_by a b => a.length + b.length
theorem mergeP_some {a b : List Ptn} (h : a ≠ []) : mergeP a b ≠ [] := by
  cases a with
  | nil => exact absurd rfl h
  | cons p a =>
    cases b with
    | nil => rw [mergeP]; exact h
    | cons q b =>
      rw [mergeP]
      split
      · simp
      · split <;> simp

/-- a series added behind others: to the last one, where that has its labels -/
def addS (out : List Ser) (s : Ser) : List Ser := match out.getLast? with
  | some o => if cmpLs o.lbs s.lbs = 0 then out.dropLast ++ [⟨o.lbs, mergeP o.pts s.pts⟩] else out ++ [s]
  | none => [s]
theorem atV_append {a b : List Ser} (h : SortS (a ++ b)) (L : List Lab) (t : Int) : atV (a ++ b) L t = maxO (atV a L t) (atV b L t) := by
  unfold SortS at h
  rw [List.pairwise_append] at h
  unfold atV
  have : lookS (a ++ b) L = (lookS a L).or (lookS b L) := by unfold lookS; rw [List.find?_append]
  rw [this]
  cases ha : lookS a L with
  | none => rfl
  | some s =>
    obtain ⟨h1, h2⟩ := (lookS_mem h.1).1 ha
    cases hb : lookS b L with
    | none => rw [Option.bind_none, maxO_none]; rfl
    | some s' =>
      obtain ⟨h3, h4⟩ := (lookS_mem h.2.1).1 hb
      have := h.2.2 s h1 s' h3
      rw [h2, h4] at this
      exact absurd this (cmpLs_ok.irrefl _)
theorem atV_one (s : Ser) (L : List Lab) (t : Int) : atV [s] L t = if s.lbs = L then lookP s.pts t else none := by
  unfold atV lookS
  rw [List.find?_cons]
  by_cases h : s.lbs = L
  · rw [decide_eq_true h, if_pos h]
    rfl
  · rw [decide_eq_false h, if_neg h]
    rfl
/-- none of the labels stands behind those -/
def Upto (out : List Ser) (L : List Lab) : Prop := ∀ o ∈ out, cmpLs o.lbs L ≤ 0
theorem upto_last {out : List Ser} {o : Ser} {L : List Lab} (hv : SortS (out ++ [o])) (hu : cmpLs o.lbs L ≤ 0) : ∀ x ∈ out, cmpLs x.lbs L < 0 := by
  intro x hx
  unfold SortS at hv
  rw [List.pairwise_append] at hv
  have h1 := hv.2.2 x hx o (by simp)
  rcases Int.lt_or_eq_of_le hu with h2 | h2
  · exact cmpLs_ok.trans _ _ _ h1 h2
  · rw [← (cmpLs_ok.zero _ _).1 h2]
    exact h1
structure AddTo (out : List Ser) (s : Ser) (r : List Ser) : Prop where
  vs : Vs r
  at_ : ∀ L t, atV r L t = maxO (atV out L t) (atV [s] L t)
  upto : Upto r s.lbs
theorem addS_ok {out : List Ser} {s : Ser} (hv : Vs out) (hr : Rise s.pts) (hn : s.pts ≠ []) (hu : Upto out s.lbs) : AddTo out s (addS out s) := by
  rcases List.eq_nil_or_concat out with rfl | ⟨r, o, rfl⟩
  · refine ⟨⟨List.pairwise_singleton _ _, fun x hx => ?_, fun x hx => ?_⟩, fun L t => ?_, fun x hx => ?_⟩
    · have : x = s := by simpa [addS] using hx
      rw [this]
      exact hr
    · have : x = s := by simpa [addS] using hx
      rw [this]
      exact hn
    · rfl
    · have : x = s := by simpa [addS] using hx
      rw [this, (cmpLs_ok.zero _ _).2 rfl]
      omega
  · rw [List.concat_eq_append] at *
    have ho := hu o (by simp)
    have hlow := upto_last hv.sort ho
    have hvs := hv.sort
    unfold SortS at hvs
    rw [List.pairwise_append] at hvs
    unfold addS
    rw [show (r ++ [o]).getLast? = some o by simp]
    simp only
    split
    · rename_i h0
      have hl := (cmpLs_ok.zero _ _).1 h0
      rw [List.dropLast_concat]
      have hs : SortS (r ++ [⟨o.lbs, mergeP o.pts s.pts⟩]) := by
        unfold SortS
        rw [List.pairwise_append]
        refine ⟨hvs.1, List.pairwise_singleton _ _, fun x hx y hy => ?_⟩
        obtain rfl : y = _ := by simpa using hy
        exact hvs.2.2 x hx o (by simp)
      refine ⟨⟨hs, fun x hx => ?_, fun x hx => ?_⟩, fun L t => ?_, fun x hx => ?_⟩
      · rcases List.mem_append.1 hx with hx | hx
        · exact hv.rise x (by simp [hx])
        · obtain rfl : x = _ := by simpa using hx
          exact mergeP_rise _ _ (hv.rise o (by simp)) hr
      · rcases List.mem_append.1 hx with hx | hx
        · exact hv.some x (by simp [hx])
        · obtain rfl : x = _ := by simpa using hx
          exact mergeP_some (hv.some o (by simp))
      · rw [atV_append hs, atV_append hv.sort, maxO_assoc]
        congr 1
        rw [atV_one, atV_one, atV_one, ← hl]
        split
        · exact mergeP_look _ _ (hv.rise o (by simp)) hr t
        · rfl
      · rcases List.mem_append.1 hx with hx | hx
        · have := hlow x hx
          omega
        · obtain rfl : x = _ := by simpa using hx
          exact ho
    · rename_i h0
      have hlt : cmpLs o.lbs s.lbs < 0 := by omega
      have hs : SortS (r ++ [o] ++ [s]) := by
        unfold SortS
        rw [List.pairwise_append]
        refine ⟨hv.sort, List.pairwise_singleton _ _, fun x hx y hy => ?_⟩
        obtain rfl : y = s := by simpa using hy
        rcases List.mem_append.1 hx with hx | hx
        · exact hlow x hx
        · obtain rfl : x = o := by simpa using hx
          exact hlt
      refine ⟨⟨hs, fun x hx => ?_, fun x hx => ?_⟩, fun L t => atV_append hs L t, fun x hx => ?_⟩
      · rcases List.mem_append.1 hx with hx | hx
        · exact hv.rise x hx
        · obtain rfl : x = s := by simpa using hx
          exact hr
      · rcases List.mem_append.1 hx with hx | hx
        · exact hv.some x hx
        · obtain rfl : x = s := by simpa using hx
          exact hn
      · rcases List.mem_append.1 hx with hx | hx
        · exact hu x hx
        · obtain rfl : x = s := by simpa using hx
          rw [(cmpLs_ok.zero _ _).2 rfl]
          omega

/-! ### several lists -/
theorem maxL_perm {a b : List (List Ser)} (h : a.Perm b) (L : List Lab) (t : Int) : maxL a L t = maxL b L t := by
  unfold maxL
  induction h with
  | nil => rfl
  | cons x _ ih => simp only [List.foldr_cons, ih]
  | swap x y l => simp only [List.foldr_cons]; rw [← maxO_assoc, maxO_comm (atV y L t), maxO_assoc]
  | trans _ _ ih1 ih2 => exact ih1.trans ih2
theorem maxL_cons (a : List Ser) (ls : List (List Ser)) (L : List Lab) (t : Int) : maxL (a :: ls) L t = maxO (atV a L t) (maxL ls L t) := rfl
theorem atV_nil (L : List Lab) (t : Int) : atV [] L t = none := rfl

/-- on the way: 'out' is done; the lists hs are left, each in order, none empty -/
structure MOn (ls : List (List Ser)) (out : List Ser) (hs : List (List Ser)) : Prop where
  vs : Vs out
  hv : ∀ h ∈ hs, Vs h
  hn : ∀ h ∈ hs, h ≠ []
  upto : ∀ s r, s :: r ∈ hs → Upto out s.lbs
  at_ : ∀ L t, maxO (atV out L t) (maxL hs L t) = maxL ls L t
/-- the first of the lists that has the least labels is taken -/
theorem MOn.step {ls : List (List Ser)} {out : List Ser} {s : Ser} {r : List Ser} {hs : List (List Ser)} (h : MOn ls out ((s :: r) :: hs)) (hmin : ∀ s' r', s' :: r' ∈ hs → cmpLs s.lbs s'.lbs ≤ 0) {hs' : List (List Ser)} (hp : hs'.Perm (if r = [] then hs else r :: hs)) : MOn ls (addS out s) hs' := by
  have hsr := h.hv (s :: r) (by simp)
  have hso := hsr.sort
  unfold SortS at hso
  rw [List.pairwise_cons] at hso
  have hA := addS_ok h.vs (hsr.rise s (by simp)) (hsr.some s (by simp)) (h.upto s r (by simp))
  have hmem : ∀ x, x ∈ hs' → x ∈ hs ∨ (x = r ∧ r ≠ []) := by
    intro x hx
    have := hp.subset hx
    split at this
    · exact .inl this
    · rename_i hr
      rcases List.mem_cons.1 this with rfl | h1
      · exact .inr ⟨rfl, hr⟩
      · exact .inl h1
  refine ⟨hA.vs, fun x hx => ?_, fun x hx => ?_, fun s' r' hx => ?_, fun L t => ?_⟩
  · rcases hmem x hx with h1 | ⟨rfl, _⟩
    · exact h.hv x (by simp [h1])
    · exact ⟨hso.2, fun y hy => hsr.rise y (by simp [hy]), fun y hy => hsr.some y (by simp [hy])⟩
  · rcases hmem x hx with h1 | ⟨rfl, h1⟩
    · exact h.hn x (by simp [h1])
    · exact h1
  · have hle : cmpLs s.lbs s'.lbs ≤ 0 := by
      rcases hmem _ hx with h1 | ⟨h1, _⟩
      · exact hmin s' r' h1
      · have := hso.1 s' (by rw [← h1]; simp)
        omega
    intro o ho
    have h1 := hA.upto o ho
    rcases Int.lt_or_eq_of_le h1 with h2 | h2
    · rcases Int.lt_or_eq_of_le hle with h3 | h3
      · have := cmpLs_ok.trans _ _ _ h2 h3
        omega
      · rw [← (cmpLs_ok.zero _ _).1 h3]
        omega
    · rw [(cmpLs_ok.zero _ _).1 h2]
      exact hle
  · rw [hA.at_, ← h.at_, maxL_cons, show s :: r = [s] ++ r from rfl, atV_append (by exact hsr.sort), maxL_perm hp, maxO_assoc]
    congr 1
    rw [maxO_assoc]
    congr 1
    split
    · rename_i hr
      rw [hr, atV_nil]
      rfl
    · rw [maxL_cons]
theorem MOn.done {ls : List (List Ser)} {out : List Ser} (h : MOn ls out []) : Mrg ls out := ⟨h.vs, fun L t => by rw [← h.at_]; show _ = maxO _ none; rw [maxO_none]⟩
end Go.Proofs.YtailooldnelecaaGreatDoor

namespace Go.Proofs.YtailooldnelecaaGreatDoor

/-- a label in cells -/
def elLb : El (ByteArray × ByteArray) := ⟨fun x => [.string x.1, .string x.2], 2, fun _ => rfl, by
  intro x u hu
  simp only [List.mem_cons, List.not_mem_nil, or_false] at hu
  rcases hu with rfl | rfl <;> rfl⟩
theorem RE.lb {w : World} {A : Option Addr} {n : Nat} {l : List (ByteArray × ByteArray)} (h : RE elLb w A n l) {k : Nat} (hk : k < n) :
    ∃ ad p, A = some ad ∧ l[k]? = some p ∧ w.cell? (ad.add (k * 2)) = some (.string p.1) ∧ w.cell? ⟨(ad.add (k * 2)).block, (ad.add (k * 2)).off + 1, none⟩ = some (.string p.2) := by
  obtain ⟨ad, p, e, hp, hc⟩ := h.at_ hk (by decide)
  exact ⟨ad, p, e, hp, hc 0 _ rfl, cell_off (by decide) (hc 1 _ rfl)⟩
end Go.Proofs.YtailooldnelecaaGreatDoor
