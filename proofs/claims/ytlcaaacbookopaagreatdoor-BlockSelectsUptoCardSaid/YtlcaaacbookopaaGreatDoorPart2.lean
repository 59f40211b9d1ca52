/-
  Several texts in one:
  Series in plain words: labels in order, points that rise, what stands at a place, and that this tells a list of series. Conditions: none; no program in sight.
  Plain laws of strings of bits: a list of Bools, packed into bytes, the highest bit first. Conditions: none; no program in sight.
  Points as bits: what is written, what is read, and that what was written is read back. Conditions: none; no program in sight.
-/
import Derived.Test.YtlcaaacbookopaaGreatDoorPart1
import Derived.Laws.BitsAllLaws

namespace Go.Proofs.YtlcaaacbookopaaGreatDoor

abbrev Lab := ByteArray × ByteArray
abbrev Ptn := Int × Nat
structure Ser where
  lbs : List Lab
  pts : List Ptn

/-! ### Texts and labels in order -/
def cmpB (a b : ByteArray) : Int := if a.data.toList < b.data.toList then -1 else if a.data.toList = b.data.toList then 0 else 1
theorem data_inj {a b : ByteArray} (h : a.data.toList = b.data.toList) : a = b := by
  cases a
  cases b
  simp only [ByteArray.mk.injEq]
  exact Array.toList_inj.1 h
theorem cmpB_zero {a b : ByteArray} : cmpB a b = 0 ↔ a = b := by
  unfold cmpB
  constructor
  · intro h
    split at h
    · omega
    · split at h
      · rename_i h2
        exact data_inj h2
      · omega
  · rintro rfl
    rw [if_neg (List.lt_irrefl _), if_pos rfl]
theorem cmpB_lt {a b : ByteArray} : cmpB a b < 0 ↔ a.data.toList < b.data.toList := by
  unfold cmpB
  split
  · rename_i h
    simp [h]
  · rename_i h
    split
    · simp [h]
    · simp [h]
theorem cmpB_gt {a b : ByteArray} : 0 < cmpB a b ↔ b.data.toList < a.data.toList := by
  unfold cmpB
  split
  · rename_i h
    simp only [Int.reduceLT, false_iff]
    exact fun h2 => List.lt_irrefl _ (List.lt_trans h h2)
  · rename_i h
    split
    · rename_i h2
      rw [h2]
      simp [List.lt_irrefl]
    · rename_i h2
      simp only [Int.reduceLT, true_iff]
      by_cases h3 : b.data.toList < a.data.toList
      · exact h3
      · exact absurd (List.le_antisymm (List.not_lt.1 h3) (List.not_lt.1 h)) h2
/-- three answers that fit together: an order by comparing -/
structure Cmp {α : Type} (c : α → α → Int) : Prop where
  zero : ∀ a b, c a b = 0 ↔ a = b
  anti : ∀ a b, c a b < 0 ↔ 0 < c b a
  trans : ∀ a b d, c a b < 0 → c b d < 0 → c a d < 0
theorem Cmp.irrefl {α : Type} {c : α → α → Int} (h : Cmp c) (a : α) : ¬ c a a < 0 := by
  rw [(h.zero a a).2 rfl]
  omega
theorem cmp_texts : Cmp cmpB := ⟨fun _ _ => cmpB_zero, fun _ _ => by rw [cmpB_lt, cmpB_gt], fun a b d h1 h2 => cmpB_lt.2 (List.lt_trans (cmpB_lt.1 h1) (cmpB_lt.1 h2))⟩
/-- by the first, then by the second -/
def cmp2 {α β : Type} (c : α → α → Int) (d : β → β → Int) (x y : α × β) : Int := if c x.1 y.1 ≠ 0 then c x.1 y.1 else d x.2 y.2
theorem cmp_pairs {α β : Type} {c : α → α → Int} {d : β → β → Int} (hc : Cmp c) (hd : Cmp d) : Cmp (cmp2 c d) := by
  refine ⟨fun a b => ?_, fun a b => ?_, fun a b e => ?_⟩
  · unfold cmp2
    split
    · rename_i h
      constructor
      · intro h2
        exact absurd h2 h
      · rintro rfl
        exact absurd ((hc.zero _ _).2 rfl) h
    · rename_i h
      have h := (hc.zero _ _).1 (Classical.not_not.1 h)
      rw [hd.zero]
      constructor
      · intro h2
        exact Prod.ext h h2
      · rintro rfl
        rfl
  · unfold cmp2
    by_cases h : a.1 = b.1
    · rw [if_neg (by rw [h]; simp [(hc.zero b.1 b.1).2 rfl]), if_neg (by rw [h]; simp [(hc.zero b.1 b.1).2 rfl]), hd.anti]
    · rw [if_pos fun e => h ((hc.zero _ _).1 e), if_pos fun e => h ((hc.zero _ _).1 e).symm, hc.anti]
  · unfold cmp2
    intro h1 h2
    by_cases hab : a.1 = b.1
    · rw [if_neg (by rw [hab]; simp [(hc.zero b.1 b.1).2 rfl])] at h1
      by_cases hbe : b.1 = e.1
      · rw [if_neg (by rw [hbe]; simp [(hc.zero e.1 e.1).2 rfl])] at h2
        rw [if_neg (by rw [hab, hbe]; simp [(hc.zero e.1 e.1).2 rfl])]
        exact hd.trans _ _ _ h1 h2
      · rw [if_pos fun e => hbe ((hc.zero _ _).1 e)] at h2
        rw [hab, if_pos fun e => hbe ((hc.zero _ _).1 e)]
        exact h2
    · rw [if_pos fun e => hab ((hc.zero _ _).1 e)] at h1
      by_cases hbe : b.1 = e.1
      · rw [← hbe, if_pos fun e => hab ((hc.zero _ _).1 e)]
        exact h1
      · rw [if_pos fun e => hbe ((hc.zero _ _).1 e)] at h2
        have h3 := hc.trans _ _ _ h1 h2
        rw [if_pos (by omega)]
        exact h3
/-- lists, one element after the other; a beginning comes first -/
def cmpL {α : Type} (c : α → α → Int) : List α → List α → Int
  | [], [] => 0
  | [], _ :: _ => -1
  | _ :: _, [] => 1
  | x :: a, y :: b => if c x y ≠ 0 then c x y else cmpL c a b
theorem cmp_lists {α : Type} {c : α → α → Int} (hc : Cmp c) : Cmp (cmpL c) := by
  refine ⟨fun a => ?_, fun a => ?_, fun a => ?_⟩
  · induction a with
    | nil => intro b; cases b <;> simp [cmpL]
    | cons x a ih =>
      intro b
      cases b with
      | nil => simp [cmpL]
      | cons y b =>
        unfold cmpL
        split
        · rename_i h
          constructor
          · intro h2
            exact absurd h2 h
          · intro h2
            injection h2 with h2 _
            exact absurd ((hc.zero _ _).2 h2) h
        · rename_i h
          have h := (hc.zero _ _).1 (Classical.not_not.1 h)
          rw [ih, h]
          simp
  · induction a with
    | nil => intro b; cases b <;> simp [cmpL]
    | cons x a ih =>
      intro b
      cases b with
      | nil => simp [cmpL]
      | cons y b =>
        unfold cmpL
        by_cases h : x = y
        · subst h
          rw [if_neg (by simp [(hc.zero x x).2 rfl]), if_neg (by simp [(hc.zero x x).2 rfl]), ih]
        · rw [if_pos fun e => h ((hc.zero _ _).1 e), if_pos fun e => h ((hc.zero _ _).1 e).symm, hc.anti]
  · induction a with
    | nil =>
      intro b d h1 h2
      cases d with
      | nil => cases b <;> simp [cmpL] at h1 h2
      | cons z d => simp [cmpL]
    | cons x a ih =>
      intro b d h1 h2
      cases b with
      | nil => simp [cmpL] at h1
      | cons y b =>
        cases d with
        | nil => simp [cmpL] at h2
        | cons z d =>
          unfold cmpL at h1 h2 ⊢
          by_cases hab : x = y
          · subst hab
            rw [if_neg (by simp [(hc.zero x x).2 rfl])] at h1
            by_cases hbe : x = z
            · subst hbe
              rw [if_neg (by simp [(hc.zero x x).2 rfl])] at h2 ⊢
              exact ih _ _ h1 h2
            · rw [if_pos fun e => hbe ((hc.zero _ _).1 e)] at h2 ⊢
              exact h2
          · rw [if_pos fun e => hab ((hc.zero _ _).1 e)] at h1
            by_cases hbe : y = z
            · subst hbe
              rw [if_pos fun e => hab ((hc.zero _ _).1 e)]
              exact h1
            · rw [if_pos fun e => hbe ((hc.zero _ _).1 e)] at h2
              have h3 := hc.trans _ _ _ h1 h2
              rw [if_pos (by omega)]
              exact h3
abbrev cmpLb : Lab → Lab → Int := cmp2 cmpB cmpB
abbrev cmpLs : List Lab → List Lab → Int := cmpL cmpLb
theorem cmpLs_ok : Cmp cmpLs := cmp_lists (cmp_pairs cmp_texts cmp_texts)

/-! ### Strictly sorted lists are told by their members -/
theorem sorted_ext {α : Type} (lt : α → α → Prop) (ir : ∀ a, ¬ lt a a) (tr : ∀ a b d, lt a b → lt b d → lt a d) : ∀ {a b : List α}, a.Pairwise lt → b.Pairwise lt → (∀ x, x ∈ a ↔ x ∈ b) → a = b
  | [], [], _, _, _ => rfl
  | [], y :: b, _, _, h => by simpa using (h y).2 (by simp)
  | x :: a, [], _, _, h => by simpa using (h x).1 (by simp)
  | x :: a, y :: b, ha, hb, h => by
    rw [List.pairwise_cons] at ha hb
    have hxy : x = y := by
      rcases List.mem_cons.1 ((h x).1 (by simp)) with h1 | h1
      · exact h1
      · rcases List.mem_cons.1 ((h y).2 (by simp)) with h2 | h2
        · exact h2.symm
        · exact absurd (tr _ _ _ (hb.1 x h1) (ha.1 y h2)) (ir _)
    subst hxy
    rw [sorted_ext lt ir tr ha.2 hb.2 fun z => ?_]
    constructor
    · intro hz
      rcases List.mem_cons.1 ((h z).1 (by simp [hz])) with h1 | h1
      · exact absurd (h1 ▸ ha.1 z hz) (ir _)
      · exact h1
    · intro hz
      rcases List.mem_cons.1 ((h z).2 (by simp [hz])) with h1 | h1
      · exact absurd (h1 ▸ hb.1 z hz) (ir _)
      · exact h1

/-! ### Points and series -/
def Rise (ps : List Ptn) : Prop := ps.Pairwise fun p q => p.1 < q.1
def lookP (ps : List Ptn) (t : Int) : Option Nat := (ps.find? fun p => decide (p.1 = t)).map Prod.snd
theorem lookP_mem {ps : List Ptn} (h : Rise ps) {t : Int} {v : Nat} : lookP ps t = some v ↔ (t, v) ∈ ps := by
  unfold lookP
  induction ps with
  | nil => simp
  | cons p r ih =>
    unfold Rise at h ih
    rw [List.pairwise_cons] at h
    rw [List.find?_cons]
    by_cases hp : p.1 = t
    · rw [decide_eq_true hp]
      simp only [Option.map_some, Option.some.injEq, List.mem_cons]
      constructor
      · rintro rfl
        exact .inl (by rw [← hp])
      · rintro (h1 | h1)
        · rw [← h1]
        · have := h.1 _ h1
          simp only at this
          omega
    · rw [decide_eq_false hp]
      simp only [List.mem_cons]
      rw [ih h.2]
      constructor
      · exact .inr
      · rintro (h1 | h1)
        · exact absurd (by rw [← h1]) hp
        · exact h1
theorem lookP_ext {a b : List Ptn} (ha : Rise a) (hb : Rise b) (h : ∀ t, lookP a t = lookP b t) : a = b :=
  sorted_ext (fun p q : Ptn => p.1 < q.1) (fun _ => by omega) (fun _ _ _ h1 h2 => Int.lt_trans h1 h2) ha hb fun ⟨t, v⟩ => by rw [← lookP_mem ha, ← lookP_mem hb, h]
theorem lookP_none {ps : List Ptn} {t : Int} (h : ∀ p ∈ ps, p.1 ≠ t) : lookP ps t = none := by
  unfold lookP
  rw [List.find?_eq_none.2 fun p hp => by simpa using h p hp]
  rfl

def SortS (ss : List Ser) : Prop := ss.Pairwise fun a b => cmpLs a.lbs b.lbs < 0
def lookS (ss : List Ser) (L : List Lab) : Option Ser := ss.find? fun s => decide (s.lbs = L)
theorem lookS_mem {ss : List Ser} (h : SortS ss) {L : List Lab} {s : Ser} : lookS ss L = some s ↔ s ∈ ss ∧ s.lbs = L := by
  unfold lookS
  induction ss with
  | nil => simp
  | cons p r ih =>
    unfold SortS at h ih
    rw [List.pairwise_cons] at h
    rw [List.find?_cons]
    by_cases hp : p.lbs = L
    · rw [decide_eq_true hp]
      simp only [Option.some.injEq, List.mem_cons]
      constructor
      · rintro rfl
        exact ⟨.inl rfl, hp⟩
      · rintro ⟨rfl | h1, h2⟩
        · rfl
        · have h3 := h.1 _ h1
          rw [hp, h2] at h3
          exact absurd h3 (cmpLs_ok.irrefl _)
    · rw [decide_eq_false hp]
      simp only [List.mem_cons]
      rw [ih h.2]
      constructor
      · rintro ⟨h1, h2⟩
        exact ⟨.inr h1, h2⟩
      · rintro ⟨rfl | h1, h2⟩
        · exact absurd h2 hp
        · exact ⟨h1, h2⟩
/-- the V of the point of labels L at t -/
def atV (ss : List Ser) (L : List Lab) (t : Int) : Option Nat := (lookS ss L).bind fun s => lookP s.pts t
/-- series as the document wants them, their labels' own form aside -/
structure Vs (ss : List Ser) : Prop where
  sort : SortS ss
  rise : ∀ s ∈ ss, Rise s.pts
  some : ∀ s ∈ ss, s.pts ≠ []
theorem Vs.nil : Vs [] := ⟨List.Pairwise.nil, fun s h => by simp at h, fun s h => by simp at h⟩
theorem atV_ext {a b : List Ser} (ha : Vs a) (hb : Vs b) (h : ∀ L t, atV a L t = atV b L t) : a = b := by
  have key : ∀ {a b : List Ser}, Vs a → Vs b → (∀ L t, atV a L t = atV b L t) → ∀ s ∈ a, s ∈ b := by
    intro a b ha hb h s hs
    obtain ⟨p, r, hp⟩ := List.exists_cons_of_ne_nil (ha.some s hs)
    have hl := (lookS_mem ha.sort).2 ⟨hs, rfl⟩
    have hpt : ∀ t, atV a s.lbs t = lookP s.pts t := fun t => by unfold atV; rw [hl]; rfl
    have h1 := h s.lbs p.1
    rw [hpt, (lookP_mem (ha.rise s hs)).2 (show (p.1, p.2) ∈ s.pts by rw [hp]; simp)] at h1
    unfold atV at h1
    cases hb2 : lookS b s.lbs with
    | none => rw [hb2] at h1; cases h1
    | some s' =>
      obtain ⟨h2, h3⟩ := (lookS_mem hb.sort).1 hb2
      have h4 : s.pts = s'.pts := lookP_ext (ha.rise s hs) (hb.rise s' h2) fun t => by
        rw [← hpt, h]
        unfold atV
        rw [hb2]
        rfl
      have : s = s' := by
        cases s
        cases s'
        simp only at h3 h4
        rw [h3, h4]
      rw [this]
      exact h2
  exact sorted_ext (fun x y : Ser => cmpLs x.lbs y.lbs < 0) (fun x => cmpLs_ok.irrefl _) (fun _ _ _ h1 h2 => cmpLs_ok.trans _ _ _ h1 h2) ha.sort hb.sort fun s => ⟨key ha hb h s, key hb ha (fun L t => (h L t).symm) s⟩

/-- the greater of two, where one may be missing -/
def maxO : Option Nat → Option Nat → Option Nat
  | none, y => y
  | some x, none => some x
  | some x, some y => some (max x y)
theorem maxO_comm (a b : Option Nat) : maxO a b = maxO b a := by cases a <;> cases b <;> simp [maxO, Nat.max_comm]
theorem maxO_assoc (a b c : Option Nat) : maxO (maxO a b) c = maxO a (maxO b c) := by cases a <;> cases b <;> cases c <;> simp [maxO, Nat.max_assoc]
theorem maxO_none (a : Option Nat) : maxO a none = a := by cases a <;> rfl
/-- the greatest of several lists -/
def maxL (ls : List (List Ser)) (L : List Lab) (t : Int) : Option Nat := ls.foldr (fun a o => maxO (atV a L t) o) none
/-- what a merge of lists is -/
structure Mrg (ls : List (List Ser)) (m : List Ser) : Prop where
  vs : Vs m
  at_ : ∀ L t, atV m L t = maxL ls L t
theorem Mrg.uniq {ls : List (List Ser)} {m n : List Ser} (h : Mrg ls m) (h' : Mrg ls n) : m = n := atV_ext h.vs h'.vs fun L t => by rw [h.at_, h'.at_]
end Go.Proofs.YtlcaaacbookopaaGreatDoor

namespace Go.Proofs.YtlcaaacbookopaaGreatDoor

/-- the number that some bits are, the highest first -/
def val (bs : List Bool) : Nat := bs.foldl (fun a b => 2 * a + b.toNat) 0
/-- the w lowest bits of a number, the highest first -/
def toBits (v : Nat) : Nat → List Bool
  | 0 => []
  | w + 1 => v.testBit w :: toBits v w
/-- bit i of some bytes -/
def bit (l : List UInt8) (i : Nat) : Bool := (l.getD (i / 8) 0).toNat.testBit (7 - i % 8)
/-- the first n bits of some bytes -/
def bitsOf (l : List UInt8) (n : Nat) : List Bool := (List.range n).map (bit l)
def byteOf (f : Nat → Bool) : UInt8 := UInt8.ofNat (val ((List.range 8).map f))
/-- bits laid into bytes, noughts behind them -/
def pack (bs : List Bool) : List UInt8 := (List.range ((bs.length + 7) / 8)).map fun i => byteOf fun j => bs.getD (8 * i + j) false

@[simp] theorem val_nil : val [] = 0 := rfl
theorem val_snoc (bs : List Bool) (b : Bool) : val (bs ++ [b]) = 2 * val bs + b.toNat := by simp [val]
theorem foldl_val (bs : List Bool) : ∀ x, bs.foldl (fun a b => 2 * a + b.toNat) x = x * 2 ^ bs.length + val bs := by
  induction bs with
  | nil => intro x; simp [val]
  | cons b bs ih =>
    intro x
    have h1 : val (b :: bs) = (2 * 0 + b.toNat) * 2 ^ bs.length + val bs := by
      show List.foldl _ _ _ = _
      rw [List.foldl_cons, ih]
    rw [List.foldl_cons, ih, h1]
    have h2 : 2 * x * 2 ^ bs.length = x * (2 ^ bs.length * 2) := by rw [Nat.mul_comm 2 x, Nat.mul_assoc, Nat.mul_comm 2]
    simp only [List.length_cons, Nat.pow_succ, Nat.mul_zero, Nat.zero_add, Nat.add_mul]
    omega
theorem val_cons (b : Bool) (bs : List Bool) : val (b :: bs) = b.toNat * 2 ^ bs.length + val bs := by
  show List.foldl _ _ _ = _
  rw [List.foldl_cons, foldl_val]
  simp
theorem val_lt (bs : List Bool) : val bs < 2 ^ bs.length := by
  induction bs with
  | nil => simp
  | cons b bs ih =>
    rw [val_cons, List.length_cons, Nat.pow_succ]
    cases b <;> simp <;> omega
@[simp] theorem length_toBits (v w : Nat) : (toBits v w).length = w := by induction w <;> simp_all [toBits]
theorem testBit_mod (v w : Nat) : v % 2 ^ (w + 1) = (v.testBit w).toNat * 2 ^ w + v % 2 ^ w := by
  rw [Nat.pow_succ, Nat.mod_mul, Nat.mul_comm]
  have : (v / 2 ^ w) % 2 = (v.testBit w).toNat := by
    rw [Nat.testBit_eq_decide_div_mod_eq]
    have := Nat.mod_two_eq_zero_or_one (v / 2 ^ w)
    rcases this with h | h <;> simp [h]
  rw [this]
  omega
theorem val_toBits (v w : Nat) : val (toBits v w) = v % 2 ^ w := by
  induction w with
  | zero => simp [toBits, Nat.mod_one]
  | succ w ih => rw [toBits, val_cons, ih, length_toBits, testBit_mod]
theorem testBit_val (bs : List Bool) (i : Nat) : (val bs).testBit i = if i < bs.length then bs.getD (bs.length - 1 - i) false else false := by
  induction bs generalizing i with
  | nil => simp
  | cons b bs ih =>
    rw [val_cons]
    have hl := val_lt bs
    rw [Nat.mul_comm, Nat.testBit_two_pow_mul_add _ hl]
    by_cases h : i < bs.length
    · rw [if_pos h, ih, if_pos h, if_pos (by simp; omega)]
      have : (b :: bs).length - 1 - i = (bs.length - 1 - i) + 1 := by simp; omega
      rw [this]
      simp [List.getD]
    · rw [if_neg h]
      by_cases h2 : i = bs.length
      · subst h2
        simp [List.getD]
        cases b <;> rfl
      · rw [if_neg (by simp; omega)]
        have : i - bs.length = (i - bs.length - 1) + 1 := by omega
        rw [this]
        cases b <;> simp [Nat.testBit_succ]
theorem byteOf_testBit (f : Nat → Bool) (j : Nat) (hj : j < 8) : (byteOf f).toNat.testBit (7 - j) = f j := by
  have hlt := val_lt ((List.range 8).map f)
  simp only [List.length_map, List.length_range] at hlt
  have : (byteOf f).toNat = val ((List.range 8).map f) := by
    unfold byteOf
    rw [UInt8.toNat_ofNat']
    exact Nat.mod_eq_of_lt (by omega)
  rw [this, testBit_val]
  simp only [List.length_map, List.length_range]
  rw [if_pos (by omega), show 8 - 1 - (7 - j) = j from by omega, List.getD_eq_getElem?_getD]
  simp [hj]
@[simp] theorem length_pack (bs : List Bool) : (pack bs).length = (bs.length + 7) / 8 := by simp [pack]
theorem bit_pack (bs : List Bool) (i : Nat) : bit (pack bs) i = bs.getD i false := by
  unfold bit
  by_cases h : i / 8 < (bs.length + 7) / 8
  · have : (pack bs).getD (i / 8) 0 = byteOf fun j => bs.getD (8 * (i / 8) + j) false := by
      rw [List.getD_eq_getElem?_getD]
      simp [pack, h]
    rw [this, byteOf_testBit _ _ (Nat.mod_lt _ (by omega))]
    congr 1
    omega
  · have h1 : (pack bs).getD (i / 8) 0 = 0 := by
      rw [List.getD_eq_getElem?_getD, List.getElem?_eq_none (by simp; omega)]
      rfl
    rw [h1, List.getD_eq_getElem?_getD, List.getElem?_eq_none (by omega)]
    simp
theorem u8_ext (a b : UInt8) (h : ∀ j, j < 8 → a.toNat.testBit (7 - j) = b.toNat.testBit (7 - j)) : a = b := by
  apply UInt8.toNat_inj.1
  apply Nat.eq_of_testBit_eq
  intro i
  by_cases hi : i < 8
  · have := h (7 - i) (by omega)
    rwa [show 7 - (7 - i) = i from by omega] at this
  · have ha : a.toNat < 2 ^ 8 := a.toNat_lt
    have hb : b.toNat < 2 ^ 8 := b.toNat_lt
    have hp : 2 ^ 8 ≤ 2 ^ i := Nat.pow_le_pow_right (by omega) (by omega)
    rw [Nat.testBit_lt_two_pow (by omega), Nat.testBit_lt_two_pow (by omega)]
theorem bits_ext {l r : List UInt8} (hl : l.length = r.length) (h : ∀ i, i < 8 * l.length → bit l i = bit r i) : l = r := by
  apply List.ext_getElem hl
  intro i h1 h2
  apply u8_ext
  intro j hj
  have := h (8 * i + j) (by omega)
  unfold bit at this
  rw [show (8 * i + j) / 8 = i from by omega, show (8 * i + j) % 8 = j from by omega] at this
  rwa [List.getD_eq_getElem?_getD, List.getD_eq_getElem?_getD, List.getElem?_eq_getElem h1, List.getElem?_eq_getElem h2] at this
@[simp] theorem length_bitsOf (l : List UInt8) (n : Nat) : (bitsOf l n).length = n := by simp [bitsOf]
theorem getD_bitsOf (l : List UInt8) (n i : Nat) : (bitsOf l n).getD i false = if i < n then bit l i else false := by
  rw [List.getD_eq_getElem?_getD]
  unfold bitsOf
  by_cases h : i < n <;> simp [h]
theorem bitsOf_pack (bs : List Bool) : bitsOf (pack bs) bs.length = bs := by
  apply List.ext_getElem?
  intro i
  unfold bitsOf
  by_cases h : i < bs.length
  · simp [h, bit_pack]
  · rw [List.getElem?_eq_none (by simp; omega), List.getElem?_eq_none (by omega)]
/-- one bit more in a byte -/
def orb (c : UInt8) (b : Bool) (s : Nat) : UInt8 := UInt8.ofNat (c.toNat ||| (b.toNat * 2 ^ s))
theorem orb_toNat (c : UInt8) (b : Bool) (s : Nat) (hs : s ≤ 7) : (orb c b s).toNat = c.toNat ||| (b.toNat * 2 ^ s) := by
  have h1 : c.toNat < 2 ^ 8 := c.toNat_lt
  have h2 : b.toNat * 2 ^ s < 2 ^ 8 := by
    have : 2 ^ s ≤ 2 ^ 7 := Nat.pow_le_pow_right (by omega) hs
    cases b <;> simp <;> omega
  have := Nat.or_lt_two_pow h1 h2
  unfold orb
  rw [UInt8.toNat_ofNat']
  exact Nat.mod_eq_of_lt this
theorem orb_testBit (c : UInt8) (b : Bool) (s i : Nat) (hs : s ≤ 7) : (orb c b s).toNat.testBit i = (c.toNat.testBit i || (b && i == s)) := by
  rw [orb_toNat c b s hs, Nat.testBit_or]
  congr 1
  cases b
  · simp
  · simp only [Bool.toNat_true, Nat.one_mul, Bool.true_and, Nat.testBit_two_pow]
    rw [Bool.eq_iff_iff]
    simp only [decide_eq_true_eq, beq_iff_eq]
    exact eq_comm
theorem pack_snoc (bs : List Bool) (b : Bool) (l : List UInt8) (hl : l = if bs.length % 8 = 0 then pack bs ++ [0] else pack bs) :
    pack (bs ++ [b]) = l.set (bs.length / 8) (orb (l.getD (bs.length / 8) 0) b (7 - bs.length % 8)) := by
  have hlen : l.length = bs.length / 8 + 1 := by
    subst hl
    split <;> simp <;> omega
  have hb : ∀ i, bit l i = bs.getD i false := by
    intro i
    subst hl
    split
    · rename_i h0
      rw [← bit_pack]
      unfold bit
      congr 2
      rw [List.getD_eq_getElem?_getD, List.getD_eq_getElem?_getD, List.getElem?_append]
      split
      · rfl
      · rename_i h1
        rw [List.getElem?_eq_none (Nat.le_of_not_lt h1)]
        rcases Nat.eq_zero_or_pos (i / 8 - (pack bs).length) with h2 | h2
        · rw [h2]; rfl
        · rw [List.getElem?_eq_none (by simp only [List.length_cons, List.length_nil]; omega)]
    · exact bit_pack bs i
  refine bits_ext (by simp [hlen]; omega) fun i hi => ?_
  rw [bit_pack]
  have hi2 : i / 8 < bs.length / 8 + 1 := by simp at hi; omega
  unfold bit
  by_cases hk : i / 8 = bs.length / 8
  · have : (l.set (bs.length / 8) (orb (l.getD (bs.length / 8) 0) b (7 - bs.length % 8))).getD (i / 8) 0 = orb (l.getD (bs.length / 8) 0) b (7 - bs.length % 8) := by
      rw [List.getD_eq_getElem?_getD, hk, List.getElem?_set_self (by omega)]
      rfl
    rw [this, orb_testBit _ _ _ _ (by omega)]
    have h2 := hb i
    unfold bit at h2
    rw [hk] at h2
    rw [h2]
    rw [List.getD_eq_getElem?_getD, List.getD_eq_getElem?_getD, List.getElem?_append]
    by_cases h3 : i < bs.length
    · rw [if_pos h3]
      have : (7 - i % 8 == 7 - bs.length % 8) = false := by simp; omega
      simp [this]
    · rw [if_neg h3, List.getElem?_eq_none (Nat.le_of_not_lt h3)]
      by_cases h4 : i = bs.length
      · subst h4; simp
      · rw [List.getElem?_eq_none (by simp; omega)]
        have : (7 - i % 8 == 7 - bs.length % 8) = false := by simp; omega
        simp [this]
  · have : (l.set (bs.length / 8) (orb (l.getD (bs.length / 8) 0) b (7 - bs.length % 8))).getD (i / 8) 0 = l.getD (i / 8) 0 := by
      rw [List.getD_eq_getElem?_getD, List.getElem?_set_ne (Ne.symm hk)]
      rfl
    rw [this]
    have h2 := hb i
    unfold bit at h2
    rw [h2, List.getD_eq_getElem?_getD, List.getD_eq_getElem?_getD, List.getElem?_append_left (by omega)]

/-- the byte as the walk reckons it -/
theorem orb_walk (c : UInt8) (v j s : Nat) (hv : v < 18446744073709551616) (hs : s ≤ 7) :
    bits .or .u8 (c.toNat : Int) (bits .and .u64 ((v : Int) / 2 ^ j) 1 % 256 * 2 ^ s % 256) = ((orb c (v.testBit j) s).toNat : Int) := by
  have h0 : ((v : Int) / 2 ^ j) = ((v / 2 ^ j : Nat) : Int) := by simp
  have hle : v / 2 ^ j ≤ v := Nat.div_le_self _ _
  have h1 : bits .and .u64 ((v : Int) / 2 ^ j) 1 = (((v.testBit j).toNat : Nat) : Int) := by
    rw [h0]
    have := u64_and_nat (v / 2 ^ j) 1 (by omega) (by omega)
    rw [show ((1 : Nat) : Int) = 1 from rfl] at this
    rw [this, nat_mask1, Nat.testBit_eq_decide_div_mod_eq]
    congr 1
    rcases Nat.mod_two_eq_zero_or_one (v / 2 ^ j) with h | h <;> simp [h]
  have h2 : (v.testBit j).toNat * 2 ^ s < 256 := by
    have : 2 ^ s ≤ 2 ^ 7 := Nat.pow_le_pow_right (by omega) hs
    cases v.testBit j <;> simp <;> omega
  have h3 : (((v.testBit j).toNat : Nat) : Int) % 256 * 2 ^ s % 256 = (((v.testBit j).toNat * 2 ^ s : Nat) : Int) := by
    have h4 : (((v.testBit j).toNat : Nat) : Int) % 256 = (((v.testBit j).toNat : Nat) : Int) := by cases v.testBit j <;> rfl
    rw [h4]
    have : ((((v.testBit j).toNat * 2 ^ s : Nat)) : Int) = (((v.testBit j).toNat : Nat) : Int) * 2 ^ s := by simp
    rw [← this]
    omega
  rw [h1, h3, u8_or_nat _ _ c.toNat_lt h2, orb_toNat _ _ _ hs]

theorem take_bitsOf_succ (l : List UInt8) (N a k : Nat) (h : a + k < N) : val (((bitsOf l N).drop a).take (k + 1)) = 2 * val (((bitsOf l N).drop a).take k) + (bit l (a + k)).toNat := by
  rw [List.take_add_one, List.getElem?_drop]
  have : (bitsOf l N)[a + k]? = some (bit l (a + k)) := by simp [bitsOf, h]
  rw [this]
  exact val_snoc _ _
theorem getD_or (l : List UInt8) (i : Nat) : (bit l i).toNat = (l.getD (i / 8) 0).toNat / 2 ^ (7 - i % 8) % 2 := by
  unfold bit
  rw [Nat.testBit_eq_decide_div_mod_eq]
  generalize (l.getD (i / 8) 0).toNat / 2 ^ (7 - i % 8) = q
  rcases Nat.mod_two_eq_zero_or_one q with h | h <;> simp [h]
end Go.Proofs.YtlcaaacbookopaaGreatDoor

namespace Go.Proofs.YtlcaaacbookopaaGreatDoor

/-! ### Searching -/
def sF (p : Nat → Bool) : Nat → Nat → Nat
  | 0, a => a
  | f + 1, a => if p a then a else sF p f (a + 1)
theorem sF_spec (p : Nat → Bool) : ∀ f a, a ≤ sF p f a ∧ sF p f a ≤ a + f ∧ (∀ j, a ≤ j → j < sF p f a → p j = false) ∧ (sF p f a < a + f → p (sF p f a) = true)
  | 0, a => ⟨Nat.le_refl _, Nat.le_refl _, fun j h1 h2 => by simp only [sF] at h2; omega, fun h => by simp only [sF] at h; omega⟩
  | f + 1, a => by
    unfold sF
    by_cases h : p a = true
    · rw [if_pos h]
      exact ⟨Nat.le_refl _, by omega, fun j h1 h2 => by omega, fun _ => h⟩
    · rw [if_neg h]
      obtain ⟨h1, h2, h3, h4⟩ := sF_spec p f (a + 1)
      refine ⟨by omega, by omega, fun j hj1 hj2 => ?_, fun hlt => h4 (by omega)⟩
      rcases Nat.eq_or_lt_of_le hj1 with e | e
      · subst e; simpa using h
      · exact h3 j e hj2
/-- the noughts ahead of the highest 1 of 64 bits, at most 31 -/
def lz (x : Nat) : Nat := sF (fun a => x.testBit (63 - a)) 31 0
/-- the noughts behind the lowest 1 -/
def tz (x : Nat) : Nat := sF (fun b => x.testBit b) 64 0

theorem testBit_high {x n : Nat} (h : x < 2 ^ n) {j : Nat} (hj : n ≤ j) : x.testBit j = false :=
  Nat.testBit_lt_two_pow (Nat.lt_of_lt_of_le h (Nat.pow_le_pow_right (by omega) hj))
theorem exists_bit {x : Nat} (h0 : x ≠ 0) (h : x < 2 ^ 64) : ∃ j, j < 64 ∧ x.testBit j = true := by
  obtain ⟨j, hj⟩ := Nat.exists_testBit_of_ne_zero h0
  refine ⟨j, ?_, hj⟩
  rcases Nat.lt_or_ge j 64 with h' | h'
  · exact h'
  · rw [testBit_high h h'] at hj; cases hj
theorem lz_le (x : Nat) : lz x ≤ 31 := by have := (sF_spec (fun a => x.testBit (63 - a)) 31 0).2.1; unfold lz; omega
theorem tz_bit {x : Nat} (h0 : x ≠ 0) (h : x < 2 ^ 64) : tz x < 64 ∧ x.testBit (tz x) = true := by
  obtain ⟨j, hj, hb⟩ := exists_bit h0 h
  obtain ⟨g1, g2, g3, g4⟩ := sF_spec (fun b => x.testBit b) 64 0
  have hlt : tz x < 64 := by
    unfold tz
    rcases Nat.lt_or_ge (sF (fun b => x.testBit b) 64 0) 64 with h' | h'
    · exact h'
    · have := g3 j (by omega) (by omega)
      rw [hb] at this
      cases this
  exact ⟨hlt, g4 (by unfold tz at hlt; omega)⟩
theorem tz_below {x j : Nat} (hj : j < tz x) : x.testBit j = false := (sF_spec (fun b => x.testBit b) 64 0).2.2.1 j (by omega) hj
theorem lz_above {x j : Nat} (hj : j < lz x) : x.testBit (63 - j) = false := (sF_spec (fun a => x.testBit (63 - a)) 31 0).2.2.1 j (by omega) hj
theorem lz_tz {x : Nat} (h0 : x ≠ 0) (h : x < 2 ^ 64) : lz x + tz x ≤ 63 := by
  obtain ⟨h1, h2⟩ := tz_bit h0 h
  have h3 := lz_le x
  rcases Nat.lt_or_ge (63 - tz x) (lz x) with h' | h'
  · have := lz_above h'
    rw [show 63 - (63 - tz x) = tz x by omega, h2] at this
    cases this
  · omega
theorem lz_lt {x : Nat} (h : x < 2 ^ 64) : x < 2 ^ (64 - lz x) := by
  refine Nat.lt_pow_two_of_testBit x fun i hi => ?_
  rcases Nat.lt_or_ge i 64 with h' | h'
  · have := lz_above (x := x) (j := 63 - i) (by omega)
    rwa [show 63 - (63 - i) = i by omega] at this
  · exact testBit_high h h'
theorem div_of_tz {x b : Nat} (h : b ≤ tz x) : x / 2 ^ b * 2 ^ b = x := by
  refine Nat.eq_of_testBit_eq fun i => ?_
  rw [Nat.testBit_mul_two_pow, Nat.testBit_div_two_pow]
  by_cases hi : b ≤ i
  · simp [hi]
  · simp [hi, tz_below (x := x) (j := i) (by omega)]
theorem lt_of_lz {x a : Nat} (hx : x < 2 ^ 64) (h : a ≤ lz x) : x < 2 ^ (64 - a) :=
  Nat.lt_of_lt_of_le (lz_lt hx) (Nat.pow_le_pow_right (by omega) (by omega))

/-! ### Writing -/
abbrev Pnt := Int × Nat
abbrev Win := Nat × Nat × Bool
/-- how a difference of differences is told -/
def cls (z : Int) : Nat × Nat × Nat :=
  if z = 0 then (0, 1, 0) else if -64 ≤ z ∧ z ≤ 63 then (2, 2, 7) else if -256 ≤ z ∧ z ≤ 255 then (6, 3, 9) else if -2048 ≤ z ∧ z ≤ 2047 then (14, 4, 12) else (15, 4, 64)
def u64 (z : Int) : Nat := (z % 18446744073709551616).toNat
def zB (z : Int) : List Bool := toBits (cls z).1 (cls z).2.1 ++ toBits (u64 z) (cls z).2.2
def valB (w : Win) (x : Nat) : List Bool × Win :=
  if x = 0 then ([false], w) else
  if w.2.2 = true ∧ w.1 ≤ lz x ∧ w.2.1 ≤ tz x then (toBits 1 1 ++ toBits 0 1 ++ toBits (x / 2 ^ w.2.1) (64 - w.1 - w.2.1), w)
  else (toBits 1 1 ++ toBits 1 1 ++ toBits (lz x) 5 ++ toBits (63 - lz x - tz x) 6 ++ toBits (x / 2 ^ tz x) (64 - lz x - tz x), (lz x, tz x, true))
def encGo : Pnt → Int → Win → List Pnt → List Bool
  | _, _, _, [] => []
  | p, d, w, q :: r => zB (q.1 - p.1 - d) ++ (valB w (q.2 ^^^ p.2)).1 ++ encGo q (q.1 - p.1) (valB w (q.2 ^^^ p.2)).2 r
def headB (p : Pnt) : List Bool := toBits (u64 p.1) 64 ++ toBits p.2 64
def encB (ps : List Pnt) : List Bool :=
  toBits ps.length 13 ++ match ps with
    | [] => []
    | p :: r => headB p ++ encGo p 0 (0, 0, false) r

/-- may points be, but for how many? -/
def Okp (ps : List Pnt) : Prop := ∀ (i : Nat) (p : Pnt), ps[i]? = some p → (-1099511627776 ≤ p.1 ∧ p.1 ≤ 1099511627776) ∧ ∀ q : Pnt, ps[i + 1]? = some q → p.1 < q.1
def Okv (ps : List Pnt) : Prop := ∀ p ∈ ps, p.2 < 18446744073709551616

def WinOk (w : Win) : Prop := w.2.2 = true → w.1 ≤ 31 ∧ w.1 + w.2.1 ≤ 63
theorem valB_ok {w : Win} {x : Nat} (hw : WinOk w) (hx : x < 2 ^ 64) : WinOk (valB w x).2 := by
  unfold valB
  split
  · exact hw
  · rename_i h0
    split
    · exact hw
    · exact fun _ => ⟨lz_le x, lz_tz h0 hx⟩
theorem zB_len (z : Int) : (zB z).length ≤ 68 := by
  unfold zB cls
  simp only [List.length_append, length_toBits]
  repeat' split
  all_goals simp
theorem valB_len (w : Win) (x : Nat) : (valB w x).1.length ≤ 77 := by
  unfold valB
  split
  · simp
  · split
    · simp; omega
    · simp; omega

/-! ### Reading -/
def tk (bs : List Bool) (k : Nat) (s : Nat × Bool) : Nat × Nat × Bool := if s.1 + k ≤ bs.length then (val ((bs.drop s.1).take k), s.1 + k, s.2) else (0, s.1, true)
/-- w bits as a signed number -/
def sx (v w : Nat) : Int := if v < 2 ^ (w - 1) then (v : Int) else (v : Int) - 2 ^ w
def wr64 (x : Int) : Int := IntKind.i64.wrap x

theorem tk_at (pre Y rest : List Bool) (b : Bool) : tk (pre ++ (Y ++ rest)) Y.length (pre.length, b) = (val Y, (pre ++ Y).length, b) := by
  unfold tk
  rw [if_pos (by simp only [List.length_append]; omega), List.drop_left, List.take_left, List.length_append]
theorem tk_bits (pre rest : List Bool) (v k : Nat) (b : Bool) (hv : v < 2 ^ k) : tk (pre ++ (toBits v k ++ rest)) k (pre.length, b) = (v, (pre ++ toBits v k).length, b) := by
  have := tk_at pre (toBits v k) rest b
  rw [length_toBits, val_toBits, Nat.mod_eq_of_lt hv] at this
  exact this
theorem tk_len (bs : List Bool) (k : Nat) (s : Nat × Bool) (h : s.1 ≤ bs.length) : (tk bs k s).2.1 ≤ bs.length := by
  unfold tk
  split
  · assumption
  · exact h
theorem tk_lt (bs : List Bool) (k : Nat) (s : Nat × Bool) : (tk bs k s).1 < 2 ^ k := by
  unfold tk
  split
  · refine Nat.lt_of_lt_of_le (val_lt _) (Nat.pow_le_pow_right (by omega) ?_)
    simp
    omega
  · exact Nat.two_pow_pos k

theorem u64_lt (z : Int) : u64 z < 18446744073709551616 := by unfold u64; omega
theorem sx_u64 {z : Int} {w : Nat} (hw : 0 < w) (hw2 : w ≤ 64) (h1 : -(2 ^ (w - 1) : Nat) ≤ z) (h2 : z < (2 ^ (w - 1) : Nat)) : sx (u64 z % 2 ^ w) w = z := by
  have hp : 2 ^ w = 2 * 2 ^ (w - 1) := by
    rw [← Nat.pow_succ']
    congr 1
    omega
  have hd : 2 ^ w ∣ 18446744073709551616 := ⟨2 ^ (64 - w), by rw [← Nat.pow_add]; rw [show w + (64 - w) = 64 by omega]⟩
  have hm : ((u64 z % 2 ^ w : Nat) : Int) = z % (2 ^ w : Nat) := by
    unfold u64
    rw [Int.natCast_emod, Int.toNat_of_nonneg (Int.emod_nonneg _ (by decide))]
    exact Int.emod_emod_of_dvd z (Int.natCast_dvd_natCast.2 hd)
  have e : ((2 : Int) ^ w) = ((2 ^ w : Nat) : Int) := by simp
  unfold sx
  rw [e]
  generalize 2 ^ (w - 1) = q at *
  rw [hp] at hm ⊢
  split
  · rename_i h
    rw [hm]
    have : (z % ((2 * q : Nat) : Int)) < q := by rw [← hm]; omega
    by_cases hz : 0 ≤ z
    · exact Int.emod_eq_of_lt hz (by omega)
    · have h3 : z % ((2 * q : Nat) : Int) = z + ((2 * q : Nat) : Int) := by
        rw [← Int.add_emod_right, Int.emod_eq_of_lt (by omega) (by omega)]
      omega
  · rename_i h
    rw [hm]
    have : (q : Int) ≤ (z % ((2 * q : Nat) : Int)) := by rw [← hm]; omega
    by_cases hz : 0 ≤ z
    · rw [Int.emod_eq_of_lt hz (by omega)] at this
      omega
    · have h3 : z % ((2 * q : Nat) : Int) = z + ((2 * q : Nat) : Int) := by
        rw [← Int.add_emod_right, Int.emod_eq_of_lt (by omega) (by omega)]
      omega
end Go.Proofs.YtlcaaacbookopaaGreatDoor
