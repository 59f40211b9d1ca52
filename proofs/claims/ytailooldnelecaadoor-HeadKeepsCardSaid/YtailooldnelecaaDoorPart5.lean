/-
  Several texts in one:
  Plain laws of package codec: numbers as bytes, and read back; signed ones; the sum of bytes. Conditions: none; no program in sight.
  Series in plain words: labels in order, points that rise, what stands at a place, and that this tells a list of series. Conditions: none; no program in sight.
-/
import Derived.Laws.BitsAllLaws
import Derived.Test.YtailooldnelecaaDoorPart1

namespace Go.Proofs.YtailooldnelecaaDoor

/-- a number's bytes, seven bits each, the lowest first -/
def uv (v : Nat) : List UInt8 := if v < 128 then [UInt8.ofNat v] else UInt8.ofNat (v % 128 + 128) :: uv (v / 128)
termination_by v
decreasing_by omega
theorem uv_small {v : Nat} (h : v < 128) : uv v = [UInt8.ofNat v] := by rw [uv, if_pos h]
theorem uv_big {v : Nat} (h : ¬ v < 128) : uv v = UInt8.ofNat (v % 128 + 128) :: uv (v / 128) := by rw [uv, if_neg h]
theorem uv_ne (v : Nat) : uv v ≠ [] := by
  by_cases h : v < 128
  · rw [uv_small h]; simp
  · rw [uv_big h]; simp
theorem uv_len (n : Nat) : ∀ v, v < 128 ^ (n + 1) → (uv v).length ≤ n + 1 := by
  induction n with
  | zero => intro v h; rw [uv_small (by omega)]; simp
  | succ n ih =>
    intro v h
    by_cases hv : v < 128
    · rw [uv_small hv]; simp
    · rw [uv_big hv]
      have := ih (v / 128) (by rw [Nat.pow_succ] at h; omega)
      simp
      omega
theorem uv_len10 {v : Nat} (h : v < 18446744073709551616) : (uv v).length ≤ 10 := uv_len 9 v (by omega)
theorem uv_len1 (v : Nat) : 1 ≤ (uv v).length := by
  have := uv_ne v
  rcases hl : uv v with _ | ⟨a, r⟩
  · exact absurd hl this
  · simp

/-- the signed numbers as numbers: 0, -1, 1, -2 .. -/
def zz (x : Int) : Nat := if 0 ≤ x then 2 * x.toNat else 2 * (-(x + 1)).toNat + 1
def uz (v : Nat) : Int := if v % 2 = 0 then ((v / 2 : Nat) : Int) else -((v / 2 : Nat) : Int) - 1
theorem uz_zz (x : Int) : uz (zz x) = x := by unfold uz zz; split <;> split <;> omega
theorem zz_uz (v : Nat) : zz (uz v) = v := by unfold uz zz; split <;> split <;> omega
theorem zz_lt {x : Int} (h1 : -9223372036854775808 ≤ x) (h2 : x ≤ 9223372036854775807) : zz x < 18446744073709551616 := by unfold zz; split <;> omega
theorem uz_ge {v : Nat} (h : v < 18446744073709551616) : -9223372036854775808 ≤ uz v ∧ uz v ≤ 9223372036854775807 := by unfold uz; split <;> omega

/-- reading a number: what it is, how many bytes it has, and the error -/
def ur : List UInt8 → Nat → Nat → Nat × Nat × Nat
  | [], _, _ => (0, 0, 20)
  | c :: r, k, a => if (k = 9 ∧ 1 < c.toNat) ∨ (0 < k ∧ c.toNat = 0) then (0, 0, 21) else if c.toNat < 128 then (a + c.toNat * 2 ^ (7 * k), k + 1, 0) else ur r (k + 1) (a + c.toNat % 128 * 2 ^ (7 * k))
/-- the same from a place of some bytes on, with the place behind it -/
def uintR (l : List UInt8) (at_ : Int) : Nat × Nat × Nat :=
  if 0 ≤ at_ ∧ at_ ≤ l.length then (if (ur (l.drop at_.toNat) 0 0).2.2 = 0 then ((ur (l.drop at_.toNat) 0 0).1, at_.toNat + (ur (l.drop at_.toNat) 0 0).2.1, 0) else (0, 0, (ur (l.drop at_.toNat) 0 0).2.2)) else (0, 0, 20)

theorem ofNat_toNat {v : Nat} (h : v < 256) : (UInt8.ofNat v).toNat = v := by rw [UInt8.toNat_ofNat']; exact Nat.mod_eq_of_lt h

theorem ur_uv (r : List UInt8) : ∀ v k a, (k = 0 ∨ 0 < v) → v * 2 ^ (7 * k) < 18446744073709551616 → k ≤ 9 → ur (uv v ++ r) k a = (a + v * 2 ^ (7 * k), k + (uv v).length, 0) := by
  intro v
  induction v using Nat.strongRecOn with
  | _ v ih =>
    intro k a h0 h1 hk
    have h9 : k = 9 → v < 2 := by
      rintro rfl
      rw [show 2 ^ (7 * 9) = 9223372036854775808 from rfl] at h1
      omega
    by_cases hv : v < 128
    · rw [uv_small hv]
      show ur (UInt8.ofNat v :: r) k a = _
      unfold ur
      rw [ofNat_toNat (by omega), if_neg (by omega), if_pos hv]
      rfl
    · rw [uv_big hv]
      show ur (UInt8.ofNat (v % 128 + 128) :: (uv (v / 128) ++ r)) k a = _
      unfold ur
      rw [ofNat_toNat (by omega), if_neg (by omega), if_neg (by omega)]
      have e1 : 2 ^ (7 * (k + 1)) = 2 ^ (7 * k) * 128 := by rw [show 7 * (k + 1) = 7 * k + 7 from by omega, Nat.pow_add]
      have e2 : v / 128 * 2 ^ (7 * (k + 1)) = v / 128 * 128 * 2 ^ (7 * k) := by rw [e1, Nat.mul_comm (2 ^ (7 * k)), Nat.mul_assoc]
      have e3 : v * 2 ^ (7 * k) = (v % 128) * 2 ^ (7 * k) + v / 128 * 128 * 2 ^ (7 * k) := by rw [← Nat.add_mul]; congr 1; omega
      rw [ih (v / 128) (by omega) (k + 1) _ (.inr (by omega)) (by rw [e2]; omega) (by omega)]
      rw [show (v % 128 + 128) % 128 = v % 128 from by omega, e2, e3]
      simp
      omega

theorem ur_err (r : List UInt8) : ∀ k a, (ur r k a).2.2 = 0 ∨ (ur r k a).2.2 = 20 ∨ (ur r k a).2.2 = 21 := by
  induction r with
  | nil => intro k a; right; left; rfl
  | cons c r ih =>
    intro k a
    unfold ur
    split
    · right; right; rfl
    · split
      · left; rfl
      · exact ih _ _
theorem ur_bad (r : List UInt8) : ∀ k a, (ur r k a).2.2 ≠ 0 → (ur r k a).1 = 0 ∧ (ur r k a).2.1 = 0 := by
  induction r with
  | nil => intro k a _; exact ⟨rfl, rfl⟩
  | cons c r ih =>
    intro k a
    unfold ur
    split
    · intro _; exact ⟨rfl, rfl⟩
    · split
      · intro h; exact absurd rfl h
      · exact ih _ _
/-- what is read has just those bytes -/
theorem ur_back (r : List UInt8) : ∀ k a, k ≤ 9 → (ur r k a).2.2 = 0 → ∃ v, (ur r k a).1 = a + v * 2 ^ (7 * k) ∧ (ur r k a).2.1 = k + (uv v).length ∧ r.take (uv v).length = uv v ∧ (uv v).length ≤ r.length ∧ (k = 0 ∨ 0 < v) ∧ v * 2 ^ (7 * k) < 18446744073709551616 := by
  induction r with
  | nil => intro k a _ h; cases h
  | cons c r ih =>
    intro k a hk
    have hc := c.toNat_lt
    unfold ur
    split
    · intro h; cases h
    · rename_i h1
      split
      · rename_i h2
        intro _
        have e0 : UInt8.ofNat c.toNat = c := UInt8.toNat_inj.1 (by rw [ofNat_toNat hc])
        refine ⟨c.toNat, rfl, by rw [uv_small h2]; rfl, by rw [uv_small h2, e0]; rfl, by rw [uv_small h2]; simp, by omega, ?_⟩
        by_cases h9 : k = 9
        · subst h9
          rw [show 2 ^ (7 * 9) = 9223372036854775808 from rfl]
          omega
        · have hp : 2 ^ (7 * k) ≤ 2 ^ 56 := Nat.pow_le_pow_right (by omega) (by omega)
          have : c.toNat * 2 ^ (7 * k) ≤ 127 * 2 ^ 56 := Nat.mul_le_mul (by omega) hp
          omega
      · rename_i h2
        intro h
        have hk9 : k ≠ 9 := by omega
        obtain ⟨v, e1, e2, e3, e4, e5, e6⟩ := ih (k + 1) _ (by omega) h
        have hv0 : 0 < v := by omega
        have hv : ¬ (c.toNat % 128 + v * 128 < 128) := by omega
        have hm : (c.toNat % 128 + v * 128) % 128 = c.toNat % 128 := by omega
        have hd : (c.toNat % 128 + v * 128) / 128 = v := by omega
        have hcc : UInt8.ofNat (c.toNat % 128 + 128) = c := UInt8.toNat_inj.1 (by rw [ofNat_toNat (by omega)]; omega)
        have hu : uv (c.toNat % 128 + v * 128) = c :: uv v := by rw [uv_big hv, hm, hd, hcc]
        have p1 : 2 ^ (7 * (k + 1)) = 2 ^ (7 * k) * 128 := by rw [show 7 * (k + 1) = 7 * k + 7 from by omega, Nat.pow_add]
        have p2 : v * 2 ^ (7 * (k + 1)) = v * 128 * 2 ^ (7 * k) := by rw [p1, Nat.mul_comm (2 ^ (7 * k)), Nat.mul_assoc]
        have p3 : (c.toNat % 128 + v * 128) * 2 ^ (7 * k) = c.toNat % 128 * 2 ^ (7 * k) + v * 128 * 2 ^ (7 * k) := Nat.add_mul _ _ _
        refine ⟨c.toNat % 128 + v * 128, by rw [e1, p2, p3]; omega, by rw [e2, hu]; simp; omega, by rw [hu]; simp [e3], by rw [hu]; simp; omega, .inr (by omega), ?_⟩
        have hq : 0 < 2 ^ (7 * k) := Nat.two_pow_pos _
        have hk8 : k ≤ 8 := by omega
        -- the number below fits, with its lowest digit
        rw [p2] at e6
        rw [p3]
        have hp : 2 ^ (7 * k) ∣ 18446744073709551616 := by
          have : (18446744073709551616 : Nat) = 2 ^ (7 * k) * 2 ^ (64 - 7 * k) := by rw [← Nat.pow_add, show 7 * k + (64 - 7 * k) = 64 from by omega]
          exact ⟨_, this⟩
        obtain ⟨q, hq2⟩ := hp
        rw [hq2, Nat.mul_comm (2 ^ (7 * k)) q] at e6 ⊢
        have h128 : ∃ t, q = 128 * t ∨ k = 9 := by
          by_cases h : k ≤ 8
          · have : (18446744073709551616 : Nat) = 2 ^ (7 * k) * (128 * 2 ^ (57 - 7 * k)) := by
              rw [show (128 : Nat) = 2 ^ 7 from rfl, ← Nat.pow_add, ← Nat.pow_add, show 7 * k + (7 + (57 - 7 * k)) = 64 from by omega]
            rw [this] at hq2
            exact ⟨2 ^ (57 - 7 * k), .inl (Nat.eq_of_mul_eq_mul_left hq hq2).symm⟩
          · exact ⟨0, .inr (by omega)⟩
        obtain ⟨t, rfl | h⟩ := h128
        · have h3 : v * 128 < 128 * t := Nat.lt_of_mul_lt_mul_right e6
          rw [← Nat.add_mul]
          exact Nat.mul_lt_mul_of_pos_right (by omega) hq
        · omega
end Go.Proofs.YtailooldnelecaaDoor

namespace Go.Proofs.YtailooldnelecaaDoor

abbrev Lab := ByteArray × ByteArray
abbrev Ptn := Int × Nat
structure Ser where
  lbs : List Lab
  pts : List Ptn

/-! ### Texts and labels in order -/
def cmpB (a b : ByteArray) : Int := if a.data.toList < b.data.toList then -1 else if a.data.toList = b.data.toList then 0 else 1
theorem data_inj {a b : ByteArray} (h : a.data.toList = b.data.toList) : a = b := by
  cases a
  cases b
  simp only [ByteArray.mk.injEq]
  exact Array.toList_inj.1 h
theorem cmpB_zero {a b : ByteArray} : cmpB a b = 0 ↔ a = b := by
  unfold cmpB
  constructor
  · intro h
    split at h
    · omega
    · split at h
      · rename_i h2
        exact data_inj h2
      · omega
  · rintro rfl
    rw [if_neg (List.lt_irrefl _), if_pos rfl]
theorem cmpB_lt {a b : ByteArray} : cmpB a b < 0 ↔ a.data.toList < b.data.toList := by
  unfold cmpB
  split
  · rename_i h
    simp [h]
  · rename_i h
    split
    · simp [h]
    · simp [h]
theorem cmpB_gt {a b : ByteArray} : 0 < cmpB a b ↔ b.data.toList < a.data.toList := by
  unfold cmpB
  split
  · rename_i h
    simp only [Int.reduceLT, false_iff]
    exact fun h2 => List.lt_irrefl _ (List.lt_trans h h2)
  · rename_i h
    split
    · rename_i h2
      rw [h2]
      simp [List.lt_irrefl]
    · rename_i h2
      simp only [Int.reduceLT, true_iff]
      by_cases h3 : b.data.toList < a.data.toList
      · exact h3
      · exact absurd (List.le_antisymm (List.not_lt.1 h3) (List.not_lt.1 h)) h2
/-- three answers that fit together: an order by comparing -/
structure Cmp {α : Type} (c : α → α → Int) : Prop where
  zero : ∀ a b, c a b = 0 ↔ a = b
  anti : ∀ a b, c a b < 0 ↔ 0 < c b a
  trans : ∀ a b d, c a b < 0 → c b d < 0 → c a d < 0
theorem Cmp.irrefl {α : Type} {c : α → α → Int} (h : Cmp c) (a : α) : ¬ c a a < 0 := by
  rw [(h.zero a a).2 rfl]
  omega
theorem Cmp.tri {α : Type} {c : α → α → Int} (h : Cmp c) (a b : α) : c a b < 0 ∨ a = b ∨ c b a < 0 := by
  rcases Int.lt_trichotomy (c a b) 0 with h1 | h1 | h1
  · exact .inl h1
  · exact .inr (.inl ((h.zero a b).1 h1))
  · exact .inr (.inr ((h.anti b a).2 h1))
theorem cmp_texts : Cmp cmpB := ⟨fun _ _ => cmpB_zero, fun _ _ => by rw [cmpB_lt, cmpB_gt], fun a b d h1 h2 => cmpB_lt.2 (List.lt_trans (cmpB_lt.1 h1) (cmpB_lt.1 h2))⟩
/-- by the first, then by the second -/
def cmp2 {α β : Type} (c : α → α → Int) (d : β → β → Int) (x y : α × β) : Int := if c x.1 y.1 ≠ 0 then c x.1 y.1 else d x.2 y.2
theorem cmp_pairs {α β : Type} {c : α → α → Int} {d : β → β → Int} (hc : Cmp c) (hd : Cmp d) : Cmp (cmp2 c d) := by
  refine ⟨fun a b => ?_, fun a b => ?_, fun a b e => ?_⟩
  · unfold cmp2
    split
    · rename_i h
      constructor
      · intro h2
        exact absurd h2 h
      · rintro rfl
        exact absurd ((hc.zero _ _).2 rfl) h
    · rename_i h
      have h := (hc.zero _ _).1 (Classical.not_not.1 h)
      rw [hd.zero]
      constructor
      · intro h2
        exact Prod.ext h h2
      · rintro rfl
        rfl
  · unfold cmp2
    by_cases h : a.1 = b.1
    · rw [if_neg (by rw [h]; simp [(hc.zero b.1 b.1).2 rfl]), if_neg (by rw [h]; simp [(hc.zero b.1 b.1).2 rfl]), hd.anti]
    · rw [if_pos fun e => h ((hc.zero _ _).1 e), if_pos fun e => h ((hc.zero _ _).1 e).symm, hc.anti]
  · unfold cmp2
    intro h1 h2
    by_cases hab : a.1 = b.1
    · rw [if_neg (by rw [hab]; simp [(hc.zero b.1 b.1).2 rfl])] at h1
      by_cases hbe : b.1 = e.1
      · rw [if_neg (by rw [hbe]; simp [(hc.zero e.1 e.1).2 rfl])] at h2
        rw [if_neg (by rw [hab, hbe]; simp [(hc.zero e.1 e.1).2 rfl])]
        exact hd.trans _ _ _ h1 h2
      · rw [if_pos fun e => hbe ((hc.zero _ _).1 e)] at h2
        rw [hab, if_pos fun e => hbe ((hc.zero _ _).1 e)]
        exact h2
    · rw [if_pos fun e => hab ((hc.zero _ _).1 e)] at h1
      by_cases hbe : b.1 = e.1
      · rw [← hbe, if_pos fun e => hab ((hc.zero _ _).1 e)]
        exact h1
      · rw [if_pos fun e => hbe ((hc.zero _ _).1 e)] at h2
        have h3 := hc.trans _ _ _ h1 h2
        rw [if_pos (by omega)]
        exact h3
/-- lists, one element after the other; a beginning comes first -/
def cmpL {α : Type} (c : α → α → Int) : List α → List α → Int
  | [], [] => 0
  | [], _ :: _ => -1
  | _ :: _, [] => 1
  | x :: a, y :: b => if c x y ≠ 0 then c x y else cmpL c a b
theorem cmp_lists {α : Type} {c : α → α → Int} (hc : Cmp c) : Cmp (cmpL c) := by
  refine ⟨fun a => ?_, fun a => ?_, fun a => ?_⟩
  · induction a with
    | nil => intro b; cases b <;> simp [cmpL]
    | cons x a ih =>
      intro b
      cases b with
      | nil => simp [cmpL]
      | cons y b =>
        unfold cmpL
        split
        · rename_i h
          constructor
          · intro h2
            exact absurd h2 h
          · intro h2
            injection h2 with h2 _
            exact absurd ((hc.zero _ _).2 h2) h
        · rename_i h
          have h := (hc.zero _ _).1 (Classical.not_not.1 h)
          rw [ih, h]
          simp
  · induction a with
    | nil => intro b; cases b <;> simp [cmpL]
    | cons x a ih =>
      intro b
      cases b with
      | nil => simp [cmpL]
      | cons y b =>
        unfold cmpL
        by_cases h : x = y
        · subst h
          rw [if_neg (by simp [(hc.zero x x).2 rfl]), if_neg (by simp [(hc.zero x x).2 rfl]), ih]
        · rw [if_pos fun e => h ((hc.zero _ _).1 e), if_pos fun e => h ((hc.zero _ _).1 e).symm, hc.anti]
  · induction a with
    | nil =>
      intro b d h1 h2
      cases d with
      | nil => cases b <;> simp [cmpL] at h1 h2
      | cons z d => simp [cmpL]
    | cons x a ih =>
      intro b d h1 h2
      cases b with
      | nil => simp [cmpL] at h1
      | cons y b =>
        cases d with
        | nil => simp [cmpL] at h2
        | cons z d =>
          unfold cmpL at h1 h2 ⊢
          by_cases hab : x = y
          · subst hab
            rw [if_neg (by simp [(hc.zero x x).2 rfl])] at h1
            by_cases hbe : x = z
            · subst hbe
              rw [if_neg (by simp [(hc.zero x x).2 rfl])] at h2 ⊢
              exact ih _ _ h1 h2
            · rw [if_pos fun e => hbe ((hc.zero _ _).1 e)] at h2 ⊢
              exact h2
          · rw [if_pos fun e => hab ((hc.zero _ _).1 e)] at h1
            by_cases hbe : y = z
            · subst hbe
              rw [if_pos fun e => hab ((hc.zero _ _).1 e)]
              exact h1
            · rw [if_pos fun e => hbe ((hc.zero _ _).1 e)] at h2
              have h3 := hc.trans _ _ _ h1 h2
              rw [if_pos (by omega)]
              exact h3
abbrev cmpLb : Lab → Lab → Int := cmp2 cmpB cmpB
abbrev cmpLs : List Lab → List Lab → Int := cmpL cmpLb
theorem cmpLs_ok : Cmp cmpLs := cmp_lists (cmp_pairs cmp_texts cmp_texts)

/-! ### Strictly sorted lists are told by their members -/
theorem sorted_ext {α : Type} (lt : α → α → Prop) (ir : ∀ a, ¬ lt a a) (tr : ∀ a b d, lt a b → lt b d → lt a d) : ∀ {a b : List α}, a.Pairwise lt → b.Pairwise lt → (∀ x, x ∈ a ↔ x ∈ b) → a = b
  | [], [], _, _, _ => rfl
  | [], y :: b, _, _, h => by simpa using (h y).2 (by simp)
  | x :: a, [], _, _, h => by simpa using (h x).1 (by simp)
  | x :: a, y :: b, ha, hb, h => by
    rw [List.pairwise_cons] at ha hb
    have hxy : x = y := by
      rcases List.mem_cons.1 ((h x).1 (by simp)) with h1 | h1
      · exact h1
      · rcases List.mem_cons.1 ((h y).2 (by simp)) with h2 | h2
        · exact h2.symm
        · exact absurd (tr _ _ _ (hb.1 x h1) (ha.1 y h2)) (ir _)
    subst hxy
    rw [sorted_ext lt ir tr ha.2 hb.2 fun z => ?_]
    constructor
    · intro hz
      rcases List.mem_cons.1 ((h z).1 (by simp [hz])) with h1 | h1
      · exact absurd (h1 ▸ ha.1 z hz) (ir _)
      · exact h1
    · intro hz
      rcases List.mem_cons.1 ((h z).2 (by simp [hz])) with h1 | h1
      · exact absurd (h1 ▸ hb.1 z hz) (ir _)
      · exact h1

/-! ### Points and series -/
def Rise (ps : List Ptn) : Prop := ps.Pairwise fun p q => p.1 < q.1
def lookP (ps : List Ptn) (t : Int) : Option Nat := (ps.find? fun p => decide (p.1 = t)).map Prod.snd
theorem lookP_mem {ps : List Ptn} (h : Rise ps) {t : Int} {v : Nat} : lookP ps t = some v ↔ (t, v) ∈ ps := by
  unfold lookP
  induction ps with
  | nil => simp
  | cons p r ih =>
    unfold Rise at h ih
    rw [List.pairwise_cons] at h
    rw [List.find?_cons]
    by_cases hp : p.1 = t
    · rw [decide_eq_true hp]
      simp only [Option.map_some, Option.some.injEq, List.mem_cons]
      constructor
      · rintro rfl
        exact .inl (by rw [← hp])
      · rintro (h1 | h1)
        · rw [← h1]
        · have := h.1 _ h1
          simp only at this
          omega
    · rw [decide_eq_false hp]
      simp only [List.mem_cons]
      rw [ih h.2]
      constructor
      · exact .inr
      · rintro (h1 | h1)
        · exact absurd (by rw [← h1]) hp
        · exact h1
theorem lookP_ext {a b : List Ptn} (ha : Rise a) (hb : Rise b) (h : ∀ t, lookP a t = lookP b t) : a = b :=
  sorted_ext (fun p q : Ptn => p.1 < q.1) (fun _ => by omega) (fun _ _ _ h1 h2 => Int.lt_trans h1 h2) ha hb fun ⟨t, v⟩ => by rw [← lookP_mem ha, ← lookP_mem hb, h]
theorem lookP_none {ps : List Ptn} {t : Int} (h : ∀ p ∈ ps, p.1 ≠ t) : lookP ps t = none := by
  unfold lookP
  rw [List.find?_eq_none.2 fun p hp => by simpa using h p hp]
  rfl

def SortS (ss : List Ser) : Prop := ss.Pairwise fun a b => cmpLs a.lbs b.lbs < 0
def lookS (ss : List Ser) (L : List Lab) : Option Ser := ss.find? fun s => decide (s.lbs = L)
theorem lookS_mem {ss : List Ser} (h : SortS ss) {L : List Lab} {s : Ser} : lookS ss L = some s ↔ s ∈ ss ∧ s.lbs = L := by
  unfold lookS
  induction ss with
  | nil => simp
  | cons p r ih =>
    unfold SortS at h ih
    rw [List.pairwise_cons] at h
    rw [List.find?_cons]
    by_cases hp : p.lbs = L
    · rw [decide_eq_true hp]
      simp only [Option.some.injEq, List.mem_cons]
      constructor
      · rintro rfl
        exact ⟨.inl rfl, hp⟩
      · rintro ⟨rfl | h1, h2⟩
        · rfl
        · have h3 := h.1 _ h1
          rw [hp, h2] at h3
          exact absurd h3 (cmpLs_ok.irrefl _)
    · rw [decide_eq_false hp]
      simp only [List.mem_cons]
      rw [ih h.2]
      constructor
      · rintro ⟨h1, h2⟩
        exact ⟨.inr h1, h2⟩
      · rintro ⟨rfl | h1, h2⟩
        · exact absurd h2 hp
        · exact ⟨h1, h2⟩
/-- the V of the point of labels L at t -/
def atV (ss : List Ser) (L : List Lab) (t : Int) : Option Nat := (lookS ss L).bind fun s => lookP s.pts t
/-- series as the document wants them, their labels' own form aside -/
structure Vs (ss : List Ser) : Prop where
  sort : SortS ss
  rise : ∀ s ∈ ss, Rise s.pts
  some : ∀ s ∈ ss, s.pts ≠ []
theorem Vs.nil : Vs [] := ⟨List.Pairwise.nil, fun s h => by simp at h, fun s h => by simp at h⟩
theorem atV_ext {a b : List Ser} (ha : Vs a) (hb : Vs b) (h : ∀ L t, atV a L t = atV b L t) : a = b := by
  have key : ∀ {a b : List Ser}, Vs a → Vs b → (∀ L t, atV a L t = atV b L t) → ∀ s ∈ a, s ∈ b := by
    intro a b ha hb h s hs
    obtain ⟨p, r, hp⟩ := List.exists_cons_of_ne_nil (ha.some s hs)
    have hl := (lookS_mem ha.sort).2 ⟨hs, rfl⟩
    have hpt : ∀ t, atV a s.lbs t = lookP s.pts t := fun t => by unfold atV; rw [hl]; rfl
    have h1 := h s.lbs p.1
    rw [hpt, (lookP_mem (ha.rise s hs)).2 (show (p.1, p.2) ∈ s.pts by rw [hp]; simp)] at h1
    unfold atV at h1
    cases hb2 : lookS b s.lbs with
    | none => rw [hb2] at h1; cases h1
    | some s' =>
      obtain ⟨h2, h3⟩ := (lookS_mem hb.sort).1 hb2
      have h4 : s.pts = s'.pts := lookP_ext (ha.rise s hs) (hb.rise s' h2) fun t => by
        rw [← hpt, h]
        unfold atV
        rw [hb2]
        rfl
      have : s = s' := by
        cases s
        cases s'
        simp only at h3 h4
        rw [h3, h4]
      rw [this]
      exact h2
  exact sorted_ext (fun x y : Ser => cmpLs x.lbs y.lbs < 0) (fun x => cmpLs_ok.irrefl _) (fun _ _ _ h1 h2 => cmpLs_ok.trans _ _ _ h1 h2) ha.sort hb.sort fun s => ⟨key ha hb h s, key hb ha (fun L t => (h L t).symm) s⟩

/-- the greater of two, where one may be missing -/
def maxO : Option Nat → Option Nat → Option Nat
  | none, y => y
  | some x, none => some x
  | some x, some y => some (max x y)
theorem maxO_comm (a b : Option Nat) : maxO a b = maxO b a := by cases a <;> cases b <;> simp [maxO, Nat.max_comm]
theorem maxO_assoc (a b c : Option Nat) : maxO (maxO a b) c = maxO a (maxO b c) := by cases a <;> cases b <;> cases c <;> simp [maxO, Nat.max_assoc]
theorem maxO_self (a : Option Nat) : maxO a a = a := by cases a <;> simp [maxO]
theorem maxO_none (a : Option Nat) : maxO a none = a := by cases a <;> rfl
/-- the greatest of several lists -/
def maxL (ls : List (List Ser)) (L : List Lab) (t : Int) : Option Nat := ls.foldr (fun a o => maxO (atV a L t) o) none
/-- what a merge of lists is -/
structure Mrg (ls : List (List Ser)) (m : List Ser) : Prop where
  vs : Vs m
  at_ : ∀ L t, atV m L t = maxL ls L t
theorem Mrg.uniq {ls : List (List Ser)} {m n : List Ser} (h : Mrg ls m) (h' : Mrg ls n) : m = n := atV_ext h.vs h'.vs fun L t => by rw [h.at_, h'.at_]
end Go.Proofs.YtailooldnelecaaDoor
