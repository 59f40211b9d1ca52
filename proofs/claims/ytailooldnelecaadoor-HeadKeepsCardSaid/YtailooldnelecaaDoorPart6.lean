/-
  Several texts in one:
  A label set's bytes, and that they tell it: plain. Conditions: none; no program in sight.
  Points of two lists as one; a series added behind others; several lists as one, step by step. Conditions: none; no program in sight.
  Labels in cells. Conditions: none.
-/
import Derived.Test.YtailooldnelecaaDoorPart5
import Derived.Test.YtailooldnelecaaDoorPart2

namespace Go.Proofs.YtailooldnelecaaDoor

theorem uv_cut {a b : Nat} (ha : a < 18446744073709551616) (hb : b < 18446744073709551616) {x y : List UInt8} (h : uv a ++ x = uv b ++ y) : a = b ∧ x = y := by
  have h1 := ur_uv x a 0 0 (.inl rfl) (by simpa using ha) (by omega)
  have h2 := ur_uv y b 0 0 (.inl rfl) (by simpa using hb) (by omega)
  rw [h, h2] at h1
  have e : a = b := by
    have := congrArg Prod.fst h1
    simp at this
    exact this.symm
  subst e
  exact ⟨rfl, List.append_cancel_left h⟩
def tx8 (s : ByteArray) : List UInt8 := uv s.size ++ s.data.toList
theorem tx8_cut {s t : ByteArray} (hs : s.size < 18446744073709551616) (ht : t.size < 18446744073709551616) {x y : List UInt8} (h : tx8 s ++ x = tx8 t ++ y) : s = t ∧ x = y := by
  unfold tx8 at h
  rw [List.append_assoc, List.append_assoc] at h
  obtain ⟨e1, e2⟩ := uv_cut hs ht h
  have l1 : s.data.toList.length = t.data.toList.length := by
    rw [Array.length_toList, Array.length_toList]
    exact e1
  obtain ⟨e3, e4⟩ := List.append_inj e2 l1
  refine ⟨?_, e4⟩
  cases s
  cases t
  simp only [ByteArray.mk.injEq]
  exact Array.toList_inj.1 e3
/-- a set's bytes -/
def encR (ls : List Lab) : List UInt8 := ls.flatMap fun l => tx8 l.1 ++ tx8 l.2
def encL (ls : List Lab) : List UInt8 := uv ls.length ++ encR ls
theorem encR_cons (l : Lab) (r : List Lab) : encR (l :: r) = tx8 l.1 ++ tx8 l.2 ++ encR r := by simp [encR]
theorem encR_snoc (r : List Lab) (l : Lab) : encR (r ++ [l]) = encR r ++ tx8 l.1 ++ tx8 l.2 := by simp [encR]
def SmL (ls : List Lab) : Prop := ls.length < 18446744073709551616 ∧ ∀ l ∈ ls, l.1.size < 18446744073709551616 ∧ l.2.size < 18446744073709551616
theorem encR_inj : ∀ {a b : List Lab}, (∀ l ∈ a, l.1.size < 18446744073709551616 ∧ l.2.size < 18446744073709551616) → (∀ l ∈ b, l.1.size < 18446744073709551616 ∧ l.2.size < 18446744073709551616) → a.length = b.length → encR a = encR b → a = b
  | [], [], _, _, _, _ => rfl
  | [], _ :: _, _, _, h, _ => by simp at h
  | _ :: _, [], _, _, h, _ => by simp at h
  | x :: a, y :: b, ha, hb, h, he => by
    rw [encR_cons, encR_cons, List.append_assoc, List.append_assoc] at he
    obtain ⟨e1, e2⟩ := tx8_cut (ha x (by simp)).1 (hb y (by simp)).1 he
    obtain ⟨e3, e4⟩ := tx8_cut (ha x (by simp)).2 (hb y (by simp)).2 e2
    rw [encR_inj (fun l hl => ha l (by simp [hl])) (fun l hl => hb l (by simp [hl])) (by simpa using h) e4, Prod.ext e1 e3]
theorem encL_inj {a b : List Lab} (ha : SmL a) (hb : SmL b) (h : encL a = encL b) : a = b := by
  obtain ⟨e1, e2⟩ := uv_cut ha.1 hb.1 h
  exact encR_inj ha.2 hb.2 e1 e2
/-- .. as a text -/
def encK (ls : List Lab) : ByteArray := ⟨(encL ls).toArray⟩
theorem encK_inj {a b : List Lab} (ha : SmL a) (hb : SmL b) (h : encK a = encK b) : a = b := by
  refine encL_inj ha hb ?_
  have := congrArg (fun x => x.data.toList) h
  simpa [encK] using this
end Go.Proofs.YtailooldnelecaaDoor

namespace Go.Proofs.YtailooldnelecaaDoor

def mergeP : List Ptn → List Ptn → List Ptn
  | [], b => b
  | p :: a, [] => p :: a
  | p :: a, q :: b => if p.1 < q.1 then p :: mergeP a (q :: b) else if q.1 < p.1 then q :: mergeP (p :: a) b else (p.1, max p.2 q.2) :: mergeP a b
termination_by a b => a.length + b.length
theorem mergeP_nil (a : List Ptn) : mergeP a [] = a := by cases a <;> simp [mergeP]
theorem mergeP_low : ∀ (a b : List Ptn) (x : Int), (∀ p ∈ a, x < p.1) → (∀ q ∈ b, x < q.1) → ∀ r ∈ mergeP a b, x < r.1
  | [], b, x, _, hb => by rw [mergeP]; exact hb
  | p :: a, [], x, ha, _ => by rw [mergeP]; exact ha
  | p :: a, q :: b, x, ha, hb => by
    rw [mergeP]
    intro r hr
    split at hr
    · rcases List.mem_cons.1 hr with rfl | hr
      · exact ha _ (by simp)
      · exact mergeP_low a (q :: b) x (fun z hz => ha z (by simp [hz])) hb r hr
    · split at hr
      · rcases List.mem_cons.1 hr with rfl | hr
        · exact hb _ (by simp)
        · exact mergeP_low (p :: a) b x ha (fun z hz => hb z (by simp [hz])) r hr
      · rcases List.mem_cons.1 hr with rfl | hr
        · exact ha p (by simp)
        · exact mergeP_low a b x (fun z hz => ha z (by simp [hz])) (fun z hz => hb z (by simp [hz])) r hr
termination_by a b => a.length + b.length
theorem mergeP_rise : ∀ (a b : List Ptn), Rise a → Rise b → Rise (mergeP a b)
  | [], b, _, hb => by rw [mergeP]; exact hb
  | p :: a, [], ha, _ => by rw [mergeP]; exact ha
  | p :: a, q :: b, ha, hb => by
    have ha' := List.pairwise_cons.1 ha
    have hb' := List.pairwise_cons.1 hb
    rw [mergeP]
    split
    · rename_i h
      refine List.pairwise_cons.2 ⟨mergeP_low a (q :: b) p.1 ha'.1 fun z hz => ?_, mergeP_rise a (q :: b) ha'.2 hb⟩
      rcases List.mem_cons.1 hz with rfl | hz
      · exact h
      · have := hb'.1 z hz
        omega
    · split
      · rename_i h1 h
        refine List.pairwise_cons.2 ⟨mergeP_low (p :: a) b q.1 (fun z hz => ?_) hb'.1, mergeP_rise (p :: a) b ha hb'.2⟩
        rcases List.mem_cons.1 hz with rfl | hz
        · exact h
        · have := ha'.1 z hz
          omega
      · refine List.pairwise_cons.2 ⟨mergeP_low a b p.1 ha'.1 fun z hz => ?_, mergeP_rise a b ha'.2 hb'.2⟩
        have := hb'.1 z hz
        omega
termination_by a b => a.length + b.length
theorem lookP_cons (p : Ptn) (a : List Ptn) (t : Int) : lookP (p :: a) t = if p.1 = t then some p.2 else lookP a t := by
  unfold lookP
  rw [List.find?_cons]
  by_cases h : p.1 = t
  · rw [decide_eq_true h, if_pos h]
    rfl
  · rw [decide_eq_false h, if_neg h]
theorem lookP_low {a : List Ptn} {x : Int} (h : ∀ p ∈ a, x < p.1) {t : Int} (ht : t ≤ x) : lookP a t = none := lookP_none fun p hp e => by
  have := h p hp
  omega
theorem mergeP_look : ∀ (a b : List Ptn), Rise a → Rise b → ∀ t, lookP (mergeP a b) t = maxO (lookP a t) (lookP b t)
  | [], b, _, hb, t => by rw [mergeP]; rfl
  | p :: a, [], ha, _, t => by rw [mergeP, show lookP [] t = none from rfl, maxO_none]
  | p :: a, q :: b, ha, hb, t => by
    have ha' := List.pairwise_cons.1 ha
    have hb' := List.pairwise_cons.1 hb
    rw [mergeP]
    split
    · rename_i h
      rw [lookP_cons, mergeP_look a (q :: b) ha'.2 hb t, lookP_cons p a]
      split
      · rename_i e
        have : lookP (q :: b) t = none := lookP_low (x := p.1) (fun z hz => by
          rcases List.mem_cons.1 hz with rfl | hz
          · exact h
          · have := hb'.1 z hz
            omega) (by omega)
        rw [this]
        rfl
      · rfl
    · split
      · rename_i h1 h
        rw [lookP_cons, mergeP_look (p :: a) b ha hb'.2 t, lookP_cons q b]
        split
        · rename_i e
          have : lookP (p :: a) t = none := lookP_low (x := q.1) (fun z hz => by
            rcases List.mem_cons.1 hz with rfl | hz
            · exact h
            · have := ha'.1 z hz
              omega) (by omega)
          rw [this]
          rfl
        · rfl
      · rename_i h1 h2
        have hpq : p.1 = q.1 := by omega
        rw [lookP_cons, mergeP_look a b ha'.2 hb'.2 t, lookP_cons p a, lookP_cons q b, ← hpq]
        split
        · rfl
        · rfl
termination_by a b => a.length + b.length
theorem mergeP_some {a b : List Ptn} (h : a ≠ []) : mergeP a b ≠ [] := by
  cases a with
  | nil => exact absurd rfl h
  | cons p a =>
    cases b with
    | nil => rw [mergeP]; exact h
    | cons q b =>
      rw [mergeP]
      split
      · simp
      · split <;> simp

/-- a series added behind others: to the last one, where that has its labels -/
def addS (out : List Ser) (s : Ser) : List Ser := match out.getLast? with
  | some o => if cmpLs o.lbs s.lbs = 0 then out.dropLast ++ [⟨o.lbs, mergeP o.pts s.pts⟩] else out ++ [s]
  | none => [s]
theorem atV_append {a b : List Ser} (h : SortS (a ++ b)) (L : List Lab) (t : Int) : atV (a ++ b) L t = maxO (atV a L t) (atV b L t) := by
  unfold SortS at h
  rw [List.pairwise_append] at h
  unfold atV
  have : lookS (a ++ b) L = (lookS a L).or (lookS b L) := by unfold lookS; rw [List.find?_append]
  rw [this]
  cases ha : lookS a L with
  | none => rfl
  | some s =>
    obtain ⟨h1, h2⟩ := (lookS_mem h.1).1 ha
    cases hb : lookS b L with
    | none => rw [Option.bind_none, maxO_none]; rfl
    | some s' =>
      obtain ⟨h3, h4⟩ := (lookS_mem h.2.1).1 hb
      have := h.2.2 s h1 s' h3
      rw [h2, h4] at this
      exact absurd this (cmpLs_ok.irrefl _)
theorem atV_one (s : Ser) (L : List Lab) (t : Int) : atV [s] L t = if s.lbs = L then lookP s.pts t else none := by
  unfold atV lookS
  rw [List.find?_cons]
  by_cases h : s.lbs = L
  · rw [decide_eq_true h, if_pos h]
    rfl
  · rw [decide_eq_false h, if_neg h]
    rfl
/-- none of the labels stands behind those -/
def Upto (out : List Ser) (L : List Lab) : Prop := ∀ o ∈ out, cmpLs o.lbs L ≤ 0
theorem upto_last {out : List Ser} {o : Ser} {L : List Lab} (hv : SortS (out ++ [o])) (hu : cmpLs o.lbs L ≤ 0) : ∀ x ∈ out, cmpLs x.lbs L < 0 := by
  intro x hx
  unfold SortS at hv
  rw [List.pairwise_append] at hv
  have h1 := hv.2.2 x hx o (by simp)
  rcases Int.lt_or_eq_of_le hu with h2 | h2
  · exact cmpLs_ok.trans _ _ _ h1 h2
  · rw [← (cmpLs_ok.zero _ _).1 h2]
    exact h1
structure AddTo (out : List Ser) (s : Ser) (r : List Ser) : Prop where
  vs : Vs r
  at_ : ∀ L t, atV r L t = maxO (atV out L t) (atV [s] L t)
  upto : Upto r s.lbs
theorem addS_ok {out : List Ser} {s : Ser} (hv : Vs out) (hr : Rise s.pts) (hn : s.pts ≠ []) (hu : Upto out s.lbs) : AddTo out s (addS out s) := by
  rcases List.eq_nil_or_concat out with rfl | ⟨r, o, rfl⟩
  · refine ⟨⟨List.pairwise_singleton _ _, fun x hx => ?_, fun x hx => ?_⟩, fun L t => ?_, fun x hx => ?_⟩
    · have : x = s := by simpa [addS] using hx
      rw [this]
      exact hr
    · have : x = s := by simpa [addS] using hx
      rw [this]
      exact hn
    · rfl
    · have : x = s := by simpa [addS] using hx
      rw [this, (cmpLs_ok.zero _ _).2 rfl]
      omega
  · rw [List.concat_eq_append] at *
    have ho := hu o (by simp)
    have hlow := upto_last hv.sort ho
    have hvs := hv.sort
    unfold SortS at hvs
    rw [List.pairwise_append] at hvs
    unfold addS
    rw [show (r ++ [o]).getLast? = some o by simp]
    simp only
    split
    · rename_i h0
      have hl := (cmpLs_ok.zero _ _).1 h0
      rw [List.dropLast_concat]
      have hs : SortS (r ++ [⟨o.lbs, mergeP o.pts s.pts⟩]) := by
        unfold SortS
        rw [List.pairwise_append]
        refine ⟨hvs.1, List.pairwise_singleton _ _, fun x hx y hy => ?_⟩
        obtain rfl : y = _ := by simpa using hy
        exact hvs.2.2 x hx o (by simp)
      refine ⟨⟨hs, fun x hx => ?_, fun x hx => ?_⟩, fun L t => ?_, fun x hx => ?_⟩
      · rcases List.mem_append.1 hx with hx | hx
        · exact hv.rise x (by simp [hx])
        · obtain rfl : x = _ := by simpa using hx
          exact mergeP_rise _ _ (hv.rise o (by simp)) hr
      · rcases List.mem_append.1 hx with hx | hx
        · exact hv.some x (by simp [hx])
        · obtain rfl : x = _ := by simpa using hx
          exact mergeP_some (hv.some o (by simp))
      · rw [atV_append hs, atV_append hv.sort, maxO_assoc]
        congr 1
        rw [atV_one, atV_one, atV_one, ← hl]
        split
        · exact mergeP_look _ _ (hv.rise o (by simp)) hr t
        · rfl
      · rcases List.mem_append.1 hx with hx | hx
        · have := hlow x hx
          omega
        · obtain rfl : x = _ := by simpa using hx
          exact ho
    · rename_i h0
      have hlt : cmpLs o.lbs s.lbs < 0 := by omega
      have hs : SortS (r ++ [o] ++ [s]) := by
        unfold SortS
        rw [List.pairwise_append]
        refine ⟨hv.sort, List.pairwise_singleton _ _, fun x hx y hy => ?_⟩
        obtain rfl : y = s := by simpa using hy
        rcases List.mem_append.1 hx with hx | hx
        · exact hlow x hx
        · obtain rfl : x = o := by simpa using hx
          exact hlt
      refine ⟨⟨hs, fun x hx => ?_, fun x hx => ?_⟩, fun L t => atV_append hs L t, fun x hx => ?_⟩
      · rcases List.mem_append.1 hx with hx | hx
        · exact hv.rise x hx
        · obtain rfl : x = s := by simpa using hx
          exact hr
      · rcases List.mem_append.1 hx with hx | hx
        · exact hv.some x hx
        · obtain rfl : x = s := by simpa using hx
          exact hn
      · rcases List.mem_append.1 hx with hx | hx
        · exact hu x hx
        · obtain rfl : x = s := by simpa using hx
          rw [(cmpLs_ok.zero _ _).2 rfl]
          omega

/-! ### several lists -/
theorem maxL_perm {a b : List (List Ser)} (h : a.Perm b) (L : List Lab) (t : Int) : maxL a L t = maxL b L t := by
  unfold maxL
  induction h with
  | nil => rfl
  | cons x _ ih => simp only [List.foldr_cons, ih]
  | swap x y l => simp only [List.foldr_cons]; rw [← maxO_assoc, maxO_comm (atV y L t), maxO_assoc]
  | trans _ _ ih1 ih2 => exact ih1.trans ih2
theorem maxL_cons (a : List Ser) (ls : List (List Ser)) (L : List Lab) (t : Int) : maxL (a :: ls) L t = maxO (atV a L t) (maxL ls L t) := rfl
theorem atV_nil (L : List Lab) (t : Int) : atV [] L t = none := rfl

/-- on the way: 'out' is done; the lists hs are left, each in order, none empty -/
structure MOn (ls : List (List Ser)) (out : List Ser) (hs : List (List Ser)) : Prop where
  vs : Vs out
  hv : ∀ h ∈ hs, Vs h
  hn : ∀ h ∈ hs, h ≠ []
  upto : ∀ s r, s :: r ∈ hs → Upto out s.lbs
  at_ : ∀ L t, maxO (atV out L t) (maxL hs L t) = maxL ls L t
/-- the first of the lists that has the least labels is taken -/
theorem MOn.step {ls : List (List Ser)} {out : List Ser} {s : Ser} {r : List Ser} {hs : List (List Ser)} (h : MOn ls out ((s :: r) :: hs)) (hmin : ∀ s' r', s' :: r' ∈ hs → cmpLs s.lbs s'.lbs ≤ 0) {hs' : List (List Ser)} (hp : hs'.Perm (if r = [] then hs else r :: hs)) : MOn ls (addS out s) hs' := by
  have hsr := h.hv (s :: r) (by simp)
  have hso := hsr.sort
  unfold SortS at hso
  rw [List.pairwise_cons] at hso
  have hA := addS_ok h.vs (hsr.rise s (by simp)) (hsr.some s (by simp)) (h.upto s r (by simp))
  have hmem : ∀ x, x ∈ hs' → x ∈ hs ∨ (x = r ∧ r ≠ []) := by
    intro x hx
    have := hp.subset hx
    split at this
    · exact .inl this
    · rename_i hr
      rcases List.mem_cons.1 this with rfl | h1
      · exact .inr ⟨rfl, hr⟩
      · exact .inl h1
  refine ⟨hA.vs, fun x hx => ?_, fun x hx => ?_, fun s' r' hx => ?_, fun L t => ?_⟩
  · rcases hmem x hx with h1 | ⟨rfl, _⟩
    · exact h.hv x (by simp [h1])
    · exact ⟨hso.2, fun y hy => hsr.rise y (by simp [hy]), fun y hy => hsr.some y (by simp [hy])⟩
  · rcases hmem x hx with h1 | ⟨rfl, h1⟩
    · exact h.hn x (by simp [h1])
    · exact h1
  · have hle : cmpLs s.lbs s'.lbs ≤ 0 := by
      rcases hmem _ hx with h1 | ⟨h1, _⟩
      · exact hmin s' r' h1
      · have := hso.1 s' (by rw [← h1]; simp)
        omega
    intro o ho
    have h1 := hA.upto o ho
    rcases Int.lt_or_eq_of_le h1 with h2 | h2
    · rcases Int.lt_or_eq_of_le hle with h3 | h3
      · have := cmpLs_ok.trans _ _ _ h2 h3
        omega
      · rw [← (cmpLs_ok.zero _ _).1 h3]
        omega
    · rw [(cmpLs_ok.zero _ _).1 h2]
      exact hle
  · rw [hA.at_, ← h.at_, maxL_cons, show s :: r = [s] ++ r from rfl, atV_append (by exact hsr.sort), maxL_perm hp, maxO_assoc]
    congr 1
    rw [maxO_assoc]
    congr 1
    split
    · rename_i hr
      rw [hr, atV_nil]
      rfl
    · rw [maxL_cons]
theorem MOn.done {ls : List (List Ser)} {out : List Ser} (h : MOn ls out []) : Mrg ls out := ⟨h.vs, fun L t => by rw [← h.at_]; show _ = maxO _ none; rw [maxO_none]⟩
end Go.Proofs.YtailooldnelecaaDoor

namespace Go.Proofs.YtailooldnelecaaDoor

/-- a label in cells -/
def elLb : El (ByteArray × ByteArray) := ⟨fun x => [.string x.1, .string x.2], 2, fun _ => rfl, by
  intro x u hu
  simp only [List.mem_cons, List.not_mem_nil, or_false] at hu
  rcases hu with rfl | rfl <;> rfl⟩
theorem RE.lb {w : World} {A : Option Addr} {n : Nat} {l : List (ByteArray × ByteArray)} (h : RE elLb w A n l) {k : Nat} (hk : k < n) :
    ∃ ad p, A = some ad ∧ l[k]? = some p ∧ w.cell? (ad.add (k * 2)) = some (.string p.1) ∧ w.cell? ⟨(ad.add (k * 2)).block, (ad.add (k * 2)).off + 1, none⟩ = some (.string p.2) := by
  obtain ⟨ad, p, e, hp, hc⟩ := h.at_ hk (by decide)
  exact ⟨ad, p, e, hp, hc 0 _ rfl, cell_off (by decide) (hc 1 _ rfl)⟩
end Go.Proofs.YtailooldnelecaaDoor
