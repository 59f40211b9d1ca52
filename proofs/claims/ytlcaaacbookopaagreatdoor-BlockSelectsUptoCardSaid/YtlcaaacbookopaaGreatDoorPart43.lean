/-
  Several texts in one:
  A character's bytes as the document counts them, against the automaton of the package. Conditions: none; no program in sight.
-/
import Derived.Test.YtlcaaacbookopaaGreatDoorPart38
import Derived.Test.YtlcaaacbookopaaGreatDoorPart42

namespace Go.Proofs.YtlcaaacbookopaaGreatDoor
open Go.RowKit

/-- a byte that goes on -/
def con (c : UInt8) : Bool := decide (128 ≤ c.toNat) && decide (c.toNat ≤ 191)
/-- the value that the bits give: n more bytes, each with six -/
def val3 : Nat → Nat → List UInt8 → Option Nat
  | 0, v, _ => some v
  | _ + 1, _, [] => none
  | n + 1, v, c :: r => bif con c then val3 n (v * 64 + (c.toNat - 128)) r else none
/-- a character's value is one that it may have, and not one that fewer bytes hold -/
def okV (least v : Nat) : Bool := decide (least ≤ v ∧ v ≤ 1114111 ∧ ¬ (55296 ≤ v ∧ v ≤ 57343))
def more3 (n least v : Nat) (r : List UInt8) : Nat :=
  match val3 n v r with
  | some u => bif okV least u then n + 1 else 0
  | none => 0
/-- how many bytes the character at the head has; 0: it is none -/
def chr3 : List UInt8 → Nat
  | [] => 0
  | c :: r =>
    if c.toNat < 128 then 1
    else if 192 ≤ c.toNat ∧ c.toNat < 224 then more3 1 128 (c.toNat - 192) r
    else if 224 ≤ c.toNat ∧ c.toNat < 240 then more3 2 2048 (c.toNat - 224) r
    else if 240 ≤ c.toNat ∧ c.toNat < 248 then more3 3 65536 (c.toNat - 240) r
    else 0
theorem vld_nil : vld 0 128 191 [] = true := by rw [vld]
theorem vld_end (m lo hi : Nat) : vld (m + 1) lo hi [] = false := by rw [vld]
theorem okV_true {l v : Nat} (h : l ≤ v ∧ v ≤ 1114111 ∧ ¬ (55296 ≤ v ∧ v ≤ 57343)) : okV l v = true := decide_eq_true h
theorem okV_false {l v : Nat} (h : ¬ (l ≤ v ∧ v ≤ 1114111 ∧ ¬ (55296 ≤ v ∧ v ≤ 57343))) : okV l v = false := decide_eq_false h
theorem con_true {c : UInt8} (h : 128 ≤ c.toNat ∧ c.toNat ≤ 191) : con c = true := by
  unfold con
  rw [decide_eq_true h.1, decide_eq_true h.2]
  rfl
theorem con_false {c : UInt8} (h : ¬ (128 ≤ c.toNat ∧ c.toNat ≤ 191)) : con c = false := by
  unfold con
  by_cases h1 : 128 ≤ c.toNat
  · rw [decide_eq_false (p := c.toNat ≤ 191) (by omega), Bool.and_false]
  · rw [decide_eq_false h1, Bool.false_and]
theorem vld_bad {c : UInt8} {m lo hi : Nat} {r : List UInt8} (h : c.toNat < lo ∨ hi < c.toNat) : vld (m + 1) lo hi (c :: r) = false := by rw [vld_succ, if_pos h]
theorem vld_good {c : UInt8} {m lo hi : Nat} {r : List UInt8} (h : ¬ (c.toNat < lo ∨ hi < c.toNat)) : vld (m + 1) lo hi (c :: r) = vld m 128 191 r := by rw [vld_succ, if_neg h]
theorem more3_one (n l v : Nat) (c : UInt8) (r : List UInt8) (h : con c = false) : more3 (n + 1) l v (c :: r) = 0 := by
  unfold more3
  rw [val3, h]
  rfl
theorem more3_nil (n l v : Nat) : more3 (n + 1) l v [] = 0 := by
  unfold more3
  rw [val3]
theorem val3_go {n v : Nat} {c : UInt8} {r : List UInt8} (h : con c = true) : val3 (n + 1) v (c :: r) = val3 n (v * 64 + (c.toNat - 128)) r := by rw [val3, h]; rfl
theorem more3_of {n l v u : Nat} {r : List UInt8} (h : val3 n v r = some u) (h2 : okV l u = true) : more3 n l v r = n + 1 := by
  unfold more3
  rw [h]
  show (bif okV l u then n + 1 else 0) = _
  rw [h2]
  rfl
theorem more3_off {n l v u : Nat} {r : List UInt8} (h : val3 n v r = some u) (h2 : okV l u = false) : more3 n l v r = 0 := by
  unfold more3
  rw [h]
  show (bif okV l u then n + 1 else 0) = _
  rw [h2]
  rfl
theorem more3_none {n l v : Nat} {r : List UInt8} (h : val3 n v r = none) : more3 n l v r = 0 := by
  unfold more3
  rw [h]
/-- behind the first byte of two, three, four: what the automaton says is what the value says -/
theorem chr3_two (c : UInt8) (r : List UInt8) (h : 192 ≤ c.toNat ∧ c.toNat < 224) :
    (if 194 ≤ c.toNat ∧ c.toNat ≤ 223 then vld 1 128 191 r else false) = (decide (more3 1 128 (c.toNat - 192) r ≠ 0) && vld 0 128 191 (r.drop (more3 1 128 (c.toNat - 192) r - 1))) := by
  cases r with
  | nil =>
    rw [vld_end, more3_nil, ite_self]
    rfl
  | cons d r =>
    by_cases k : 128 ≤ d.toNat ∧ d.toNat ≤ 191
    · have hv : val3 1 (c.toNat - 192) (d :: r) = some ((c.toNat - 192) * 64 + (d.toNat - 128)) := by rw [val3_go (con_true k)]; rfl
      by_cases h3 : 194 ≤ c.toNat
      · rw [if_pos (by omega), vld_good (by omega), more3_of hv (okV_true (by omega))]
        rfl
      · rw [if_neg (by omega), more3_off hv (okV_false (by omega))]
        rfl
    · rw [vld_bad (by omega), more3_one _ _ _ _ _ (con_false k), ite_self]
      rfl
theorem chr3_three (c : UInt8) (r : List UInt8) (h : 224 ≤ c.toNat ∧ c.toNat ≤ 239) :
    vld 2 (if c.toNat = 224 then 160 else 128) (if c.toNat = 237 then 159 else 191) r = (decide (more3 2 2048 (c.toNat - 224) r ≠ 0) && vld 0 128 191 (r.drop (more3 2 2048 (c.toNat - 224) r - 1))) := by
  obtain ⟨lo, hlo⟩ : ∃ lo, (if c.toNat = 224 then 160 else 128) = lo := ⟨_, rfl⟩
  obtain ⟨hi, hhi⟩ : ∃ hi, (if c.toNat = 237 then 159 else 191) = hi := ⟨_, rfl⟩
  rw [hlo, hhi]
  have h1 : (c.toNat = 224 ∧ lo = 160) ∨ (c.toNat ≠ 224 ∧ lo = 128) := by
    split at hlo
    · exact .inl ⟨by assumption, hlo.symm⟩
    · exact .inr ⟨by assumption, hlo.symm⟩
  have h2 : (c.toNat = 237 ∧ hi = 159) ∨ (c.toNat ≠ 237 ∧ hi = 191) := by
    split at hhi
    · exact .inl ⟨by assumption, hhi.symm⟩
    · exact .inr ⟨by assumption, hhi.symm⟩
  clear hlo hhi
  rcases r with _ | ⟨d, r⟩
  · rw [vld_end, more3_nil]
    rfl
  by_cases k : 128 ≤ d.toNat ∧ d.toNat ≤ 191
  · rcases r with _ | ⟨f, r⟩
    · have hv : val3 2 (c.toNat - 224) [d] = none := by rw [val3_go (con_true k)]; rfl
      rw [more3_none hv, vld_succ, vld_end, ite_self]
      rfl
    · by_cases q : 128 ≤ f.toNat ∧ f.toNat ≤ 191
      · have hv : val3 2 (c.toNat - 224) (d :: f :: r) = some (((c.toNat - 224) * 64 + (d.toNat - 128)) * 64 + (f.toNat - 128)) := by rw [val3_go (con_true k), val3_go (con_true q)]; rfl
        by_cases g : d.toNat < lo ∨ hi < d.toNat
        · rw [vld_bad g, more3_off hv (okV_false (by omega))]
          rfl
        · rw [vld_good g, vld_good (by omega), more3_of hv (okV_true (by omega))]
          rfl
      · have hv : val3 2 (c.toNat - 224) (d :: f :: r) = none := by rw [val3_go (con_true k), val3, con_false q]; rfl
        rw [more3_none hv, vld_succ, vld_bad (c := f) (by omega), ite_self]
        rfl
  · rw [vld_bad (by omega), more3_one _ _ _ _ _ (con_false k)]
    rfl
theorem chr3_four (c : UInt8) (r : List UInt8) (h : 240 ≤ c.toNat ∧ c.toNat < 248) :
    (if 240 ≤ c.toNat ∧ c.toNat ≤ 244 then vld 3 (if c.toNat = 240 then 144 else 128) (if c.toNat = 244 then 143 else 191) r else false) = (decide (more3 3 65536 (c.toNat - 240) r ≠ 0) && vld 0 128 191 (r.drop (more3 3 65536 (c.toNat - 240) r - 1))) := by
  obtain ⟨lo, hlo⟩ : ∃ lo, (if c.toNat = 240 then 144 else 128) = lo := ⟨_, rfl⟩
  obtain ⟨hi, hhi⟩ : ∃ hi, (if c.toNat = 244 then 143 else 191) = hi := ⟨_, rfl⟩
  rw [hlo, hhi]
  have h1 : (c.toNat = 240 ∧ lo = 144) ∨ (c.toNat ≠ 240 ∧ lo = 128) := by
    split at hlo
    · exact .inl ⟨by assumption, hlo.symm⟩
    · exact .inr ⟨by assumption, hlo.symm⟩
  have h2 : (c.toNat = 244 ∧ hi = 143) ∨ (c.toNat ≠ 244 ∧ hi = 191) := by
    split at hhi
    · exact .inl ⟨by assumption, hhi.symm⟩
    · exact .inr ⟨by assumption, hhi.symm⟩
  clear hlo hhi
  rcases r with _ | ⟨d, r⟩
  · rw [vld_end, more3_nil, ite_self]
    rfl
  by_cases k : 128 ≤ d.toNat ∧ d.toNat ≤ 191
  · rcases r with _ | ⟨f, r⟩
    · have hv : val3 3 (c.toNat - 240) [d] = none := by rw [val3_go (con_true k)]; rfl
      rw [more3_none hv, vld_succ, vld_end, ite_self, ite_self]
      rfl
    · by_cases q : 128 ≤ f.toNat ∧ f.toNat ≤ 191
      · rcases r with _ | ⟨g, r⟩
        · have hv : val3 3 (c.toNat - 240) [d, f] = none := by rw [val3_go (con_true k), val3_go (con_true q)]; rfl
          rw [more3_none hv, vld_succ, vld_succ, vld_end, ite_self, ite_self, ite_self]
          rfl
        · by_cases z : 128 ≤ g.toNat ∧ g.toNat ≤ 191
          · have hv : val3 3 (c.toNat - 240) (d :: f :: g :: r) = some ((((c.toNat - 240) * 64 + (d.toNat - 128)) * 64 + (f.toNat - 128)) * 64 + (g.toNat - 128)) := by rw [val3_go (con_true k), val3_go (con_true q), val3_go (con_true z)]; rfl
            by_cases h4 : c.toNat ≤ 244
            · rw [if_pos (by omega)]
              by_cases e : d.toNat < lo ∨ hi < d.toNat
              · rw [vld_bad e, more3_off hv (okV_false (by omega))]
                rfl
              · rw [vld_good e, vld_good (by omega), vld_good (by omega), more3_of hv (okV_true (by omega))]
                rfl
            · rw [if_neg (by omega), more3_off hv (okV_false (by omega))]
              rfl
          · have hv : val3 3 (c.toNat - 240) (d :: f :: g :: r) = none := by rw [val3_go (con_true k), val3_go (con_true q), val3, con_false z]; rfl
            rw [more3_none hv, vld_succ, vld_succ, vld_bad (c := g) (by omega), ite_self, ite_self, ite_self]
            rfl
      · have hv : val3 3 (c.toNat - 240) (d :: f :: r) = none := by rw [val3_go (con_true k), val3, con_false q]; rfl
        rw [more3_none hv, vld_succ, vld_bad (c := f) (by omega), ite_self, ite_self]
        rfl
  · rw [vld_bad (by omega), more3_one _ _ _ _ _ (con_false k), ite_self]
    rfl
theorem more3_pos {n l v : Nat} {r : List UInt8} (h : more3 n l v r ≠ 0) : more3 n l v r = n + 1 := by
  unfold more3 at h ⊢
  cases hv : val3 n v r with
  | none =>
    rw [hv] at h
    exact absurd rfl h
  | some u =>
    rw [hv] at h
    show (bif okV l u then n + 1 else 0) = _
    cases ho : okV l u with
    | false =>
      replace h : (bif okV l u then n + 1 else 0) ≠ 0 := h
      rw [ho] at h
      exact absurd rfl h
    | true => rfl
theorem drop_more {c : UInt8} {r : List UInt8} {m : Nat} : (decide (m ≠ 0) && vld 0 128 191 (r.drop (m - 1))) = (decide (m ≠ 0) && vld 0 128 191 ((c :: r).drop m)) := by
  cases m with
  | zero => rfl
  | succ m => rfl
theorem chr3_vld (c : UInt8) (r : List UInt8) : vld 0 128 191 (c :: r) = (decide (chr3 (c :: r) ≠ 0) && vld 0 128 191 ((c :: r).drop (chr3 (c :: r)))) := by
  have hc := c.toNat_lt
  rw [vld_zero]
  by_cases h1 : c.toNat < 128
  · have e : chr3 (c :: r) = 1 := by rw [chr3, if_pos h1]
    rw [if_pos h1, e]
    rfl
  rw [if_neg h1]
  by_cases h2 : 192 ≤ c.toNat ∧ c.toNat < 224
  · have e : chr3 (c :: r) = more3 1 128 (c.toNat - 192) r := by rw [chr3, if_neg h1, if_pos h2]
    rw [e, ← drop_more, ← chr3_two c r h2]
    by_cases h3 : 194 ≤ c.toNat ∧ c.toNat ≤ 223
    · rw [if_pos h3, if_pos h3]
    · rw [if_neg h3, if_neg h3, if_neg (by omega), if_neg (by omega)]
  rw [if_neg (by omega)]
  by_cases h3 : 224 ≤ c.toNat ∧ c.toNat < 240
  · have e : chr3 (c :: r) = more3 2 2048 (c.toNat - 224) r := by rw [chr3, if_neg h1, if_neg h2, if_pos h3]
    rw [e, ← drop_more, ← chr3_three c r (by omega), if_pos (by omega)]
  rw [if_neg (by omega)]
  by_cases h4 : 240 ≤ c.toNat ∧ c.toNat < 248
  · have e : chr3 (c :: r) = more3 3 65536 (c.toNat - 240) r := by rw [chr3, if_neg h1, if_neg h2, if_neg h3, if_pos h4]
    rw [e, ← drop_more, ← chr3_four c r h4]
  · have e : chr3 (c :: r) = 0 := by rw [chr3, if_neg h1, if_neg h2, if_neg h3, if_neg h4]
    rw [e, if_neg (by omega)]
    rfl
theorem chr3_le : ∀ l : List UInt8, chr3 l ≤ l.length
  | [] => Nat.le_refl 0
  | c :: r => by
    have hm : ∀ n l v, n + 1 ≤ 4 → more3 n l v r ≤ (c :: r).length := fun n l v _ => by
      by_cases h : more3 n l v r = 0
      · omega
      · have e := more3_pos h
        have hl : ∀ (n v : Nat) (r : List UInt8) u, val3 n v r = some u → n ≤ r.length := by
          intro n
          induction n with
          | zero => intro v r u _; omega
          | succ n ih =>
            intro v r u hu
            cases r with
            | nil => cases hu
            | cons d r =>
              rw [val3] at hu
              cases hd : con d with
              | false =>
                rw [hd] at hu
                cases hu
              | true =>
                rw [hd] at hu
                have := ih _ _ _ hu
                simp only [List.length_cons]
                omega
        cases hv : val3 n v r with
        | none => exact absurd (more3_none hv) h
        | some u =>
          have := hl _ _ _ _ hv
          simp only [List.length_cons]
          omega
    rw [chr3]
    split
    · simp
    · split
      · exact hm _ _ _ (by omega)
      · split
        · exact hm _ _ _ (by omega)
        · split
          · exact hm _ _ _ (by omega)
          · omega
end Go.Proofs.YtlcaaacbookopaaGreatDoor
