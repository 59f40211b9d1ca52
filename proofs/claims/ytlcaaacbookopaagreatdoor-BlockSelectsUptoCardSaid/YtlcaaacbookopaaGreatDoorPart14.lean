/-
  Several texts in one:
  Points of two lists as one; a series added behind others; several lists as one, step by step. Conditions: none; no program in sight.
  Labels in cells. Conditions: none.
  Labels compared. Conditions: none.
  A scope with several labels: what holds at each jump, and a measure that each pass from a label lowers. Conditions: none; no program in sight.
-/
import Derived.Test.YtlcaaacbookopaaGreatDoorPart2
import Derived.Test.YtlcaaacbookopaaGreatDoorPart3
import Derived.Test.YtlcaaacbookopaaGreatDoorPart7
import Derived.Test.YtlcaaacbookopaaGreatDoorShelf
import Derived.Test.YtlcaaacbookopaaGreatDoorPart1

namespace Go.Proofs.YtlcaaacbookopaaGreatDoor

def mergeP : List Ptn → List Ptn → List Ptn
  | [], b => b
  | p :: a, [] => p :: a
  | p :: a, q :: b => if p.1 < q.1 then p :: mergeP a (q :: b) else if q.1 < p.1 then q :: mergeP (p :: a) b else (p.1, max p.2 q.2) :: mergeP a b
termination_by a b => a.length + b.length
theorem mergeP_low : ∀ (a b : List Ptn) (x : Int), (∀ p ∈ a, x < p.1) → (∀ q ∈ b, x < q.1) → ∀ r ∈ mergeP a b, x < r.1
  | [], b, x, _, hb => by rw [mergeP]; exact hb
  | p :: a, [], x, ha, _ => by rw [mergeP]; exact ha
  | p :: a, q :: b, x, ha, hb => by
    rw [mergeP]
    intro r hr
    split at hr
    · rcases List.mem_cons.1 hr with rfl | hr
      · exact ha _ (by simp)
      · exact mergeP_low a (q :: b) x (fun z hz => ha z (by simp [hz])) hb r hr
    · split at hr
      · rcases List.mem_cons.1 hr with rfl | hr
        · exact hb _ (by simp)
        · exact mergeP_low (p :: a) b x ha (fun z hz => hb z (by simp [hz])) r hr
      · rcases List.mem_cons.1 hr with rfl | hr
        · exact ha p (by simp)
        · exact mergeP_low a b x (fun z hz => ha z (by simp [hz])) (fun z hz => hb z (by simp [hz])) r hr
termination_by a b => a.length + b.length
theorem mergeP_rise : ∀ (a b : List Ptn), Rise a → Rise b → Rise (mergeP a b)
  | [], b, _, hb => by rw [mergeP]; exact hb
  | p :: a, [], ha, _ => by rw [mergeP]; exact ha
  | p :: a, q :: b, ha, hb => by
    have ha' := List.pairwise_cons.1 ha
    have hb' := List.pairwise_cons.1 hb
    rw [mergeP]
    split
    · rename_i h
      refine List.pairwise_cons.2 ⟨mergeP_low a (q :: b) p.1 ha'.1 fun z hz => ?_, mergeP_rise a (q :: b) ha'.2 hb⟩
      rcases List.mem_cons.1 hz with rfl | hz
      · exact h
      · have := hb'.1 z hz
        omega
    · split
      · rename_i h1 h
        refine List.pairwise_cons.2 ⟨mergeP_low (p :: a) b q.1 (fun z hz => ?_) hb'.1, mergeP_rise (p :: a) b ha hb'.2⟩
        rcases List.mem_cons.1 hz with rfl | hz
        · exact h
        · have := ha'.1 z hz
          omega
      · refine List.pairwise_cons.2 ⟨mergeP_low a b p.1 ha'.1 fun z hz => ?_, mergeP_rise a b ha'.2 hb'.2⟩
        have := hb'.1 z hz
        omega
termination_by a b => a.length + b.length
theorem lookP_cons (p : Ptn) (a : List Ptn) (t : Int) : lookP (p :: a) t = if p.1 = t then some p.2 else lookP a t := by
  unfold lookP
  rw [List.find?_cons]
  by_cases h : p.1 = t
  · rw [decide_eq_true h, if_pos h]
    rfl
  · rw [decide_eq_false h, if_neg h]
theorem lookP_low {a : List Ptn} {x : Int} (h : ∀ p ∈ a, x < p.1) {t : Int} (ht : t ≤ x) : lookP a t = none := lookP_none fun p hp e => by
  have := h p hp
  omega
theorem mergeP_look : ∀ (a b : List Ptn), Rise a → Rise b → ∀ t, lookP (mergeP a b) t = maxO (lookP a t) (lookP b t)
  | [], b, _, hb, t => by rw [mergeP]; rfl
  | p :: a, [], ha, _, t => by rw [mergeP, show lookP [] t = none from rfl, maxO_none]
  | p :: a, q :: b, ha, hb, t => by
    have ha' := List.pairwise_cons.1 ha
    have hb' := List.pairwise_cons.1 hb
    rw [mergeP]
    split
    · rename_i h
      rw [lookP_cons, mergeP_look a (q :: b) ha'.2 hb t, lookP_cons p a]
      split
      · rename_i e
        have : lookP (q :: b) t = none := lookP_low (x := p.1) (fun z hz => by
          rcases List.mem_cons.1 hz with rfl | hz
          · exact h
          · have := hb'.1 z hz
            omega) (by omega)
        rw [this]
        rfl
      · rfl
    · split
      · rename_i h1 h
        rw [lookP_cons, mergeP_look (p :: a) b ha hb'.2 t, lookP_cons q b]
        split
        · rename_i e
          have : lookP (p :: a) t = none := lookP_low (x := q.1) (fun z hz => by
            rcases List.mem_cons.1 hz with rfl | hz
            · exact h
            · have := ha'.1 z hz
              omega) (by omega)
          rw [this]
          rfl
        · rfl
      · rename_i h1 h2
        have hpq : p.1 = q.1 := by omega
        rw [lookP_cons, mergeP_look a b ha'.2 hb'.2 t, lookP_cons p a, lookP_cons q b, ← hpq]
        split
        · rfl
        · rfl
termination_by a b => a.length + b.length
theorem mergeP_some {a b : List Ptn} (h : a ≠ []) : mergeP a b ≠ [] := by
  cases a with
  | nil => exact absurd rfl h
  | cons p a =>
    cases b with
    | nil => rw [mergeP]; exact h
    | cons q b =>
      rw [mergeP]
      split
      · simp
      · split <;> simp

/-- a series added behind others: to the last one, where that has its labels -/
def addS (out : List Ser) (s : Ser) : List Ser := match out.getLast? with
  | some o => if cmpLs o.lbs s.lbs = 0 then out.dropLast ++ [⟨o.lbs, mergeP o.pts s.pts⟩] else out ++ [s]
  | none => [s]
theorem atV_append {a b : List Ser} (h : SortS (a ++ b)) (L : List Lab) (t : Int) : atV (a ++ b) L t = maxO (atV a L t) (atV b L t) := by
  unfold SortS at h
  rw [List.pairwise_append] at h
  unfold atV
  have : lookS (a ++ b) L = (lookS a L).or (lookS b L) := by unfold lookS; rw [List.find?_append]
  rw [this]
  cases ha : lookS a L with
  | none => rfl
  | some s =>
    obtain ⟨h1, h2⟩ := (lookS_mem h.1).1 ha
    cases hb : lookS b L with
    | none => rw [Option.bind_none, maxO_none]; rfl
    | some s' =>
      obtain ⟨h3, h4⟩ := (lookS_mem h.2.1).1 hb
      have := h.2.2 s h1 s' h3
      rw [h2, h4] at this
      exact absurd this (cmpLs_ok.irrefl _)
theorem atV_one (s : Ser) (L : List Lab) (t : Int) : atV [s] L t = if s.lbs = L then lookP s.pts t else none := by
  unfold atV lookS
  rw [List.find?_cons]
  by_cases h : s.lbs = L
  · rw [decide_eq_true h, if_pos h]
    rfl
  · rw [decide_eq_false h, if_neg h]
    rfl
/-- none of the labels stands behind those -/
def Upto (out : List Ser) (L : List Lab) : Prop := ∀ o ∈ out, cmpLs o.lbs L ≤ 0
theorem upto_last {out : List Ser} {o : Ser} {L : List Lab} (hv : SortS (out ++ [o])) (hu : cmpLs o.lbs L ≤ 0) : ∀ x ∈ out, cmpLs x.lbs L < 0 := by
  intro x hx
  unfold SortS at hv
  rw [List.pairwise_append] at hv
  have h1 := hv.2.2 x hx o (by simp)
  rcases Int.lt_or_eq_of_le hu with h2 | h2
  · exact cmpLs_ok.trans _ _ _ h1 h2
  · rw [← (cmpLs_ok.zero _ _).1 h2]
    exact h1
structure AddTo (out : List Ser) (s : Ser) (r : List Ser) : Prop where
  vs : Vs r
  at_ : ∀ L t, atV r L t = maxO (atV out L t) (atV [s] L t)
  upto : Upto r s.lbs
theorem addS_ok {out : List Ser} {s : Ser} (hv : Vs out) (hr : Rise s.pts) (hn : s.pts ≠ []) (hu : Upto out s.lbs) : AddTo out s (addS out s) := by
  rcases List.eq_nil_or_concat out with rfl | ⟨r, o, rfl⟩
  · refine ⟨⟨List.pairwise_singleton _ _, fun x hx => ?_, fun x hx => ?_⟩, fun L t => ?_, fun x hx => ?_⟩
    · have : x = s := by simpa [addS] using hx
      rw [this]
      exact hr
    · have : x = s := by simpa [addS] using hx
      rw [this]
      exact hn
    · rfl
    · have : x = s := by simpa [addS] using hx
      rw [this, (cmpLs_ok.zero _ _).2 rfl]
      omega
  · rw [List.concat_eq_append] at *
    have ho := hu o (by simp)
    have hlow := upto_last hv.sort ho
    have hvs := hv.sort
    unfold SortS at hvs
    rw [List.pairwise_append] at hvs
    unfold addS
    rw [show (r ++ [o]).getLast? = some o by simp]
    simp only
    split
    · rename_i h0
      have hl := (cmpLs_ok.zero _ _).1 h0
      rw [List.dropLast_concat]
      have hs : SortS (r ++ [⟨o.lbs, mergeP o.pts s.pts⟩]) := by
        unfold SortS
        rw [List.pairwise_append]
        refine ⟨hvs.1, List.pairwise_singleton _ _, fun x hx y hy => ?_⟩
        obtain rfl : y = _ := by simpa using hy
        exact hvs.2.2 x hx o (by simp)
      refine ⟨⟨hs, fun x hx => ?_, fun x hx => ?_⟩, fun L t => ?_, fun x hx => ?_⟩
      · rcases List.mem_append.1 hx with hx | hx
        · exact hv.rise x (by simp [hx])
        · obtain rfl : x = _ := by simpa using hx
          exact mergeP_rise _ _ (hv.rise o (by simp)) hr
      · rcases List.mem_append.1 hx with hx | hx
        · exact hv.some x (by simp [hx])
        · obtain rfl : x = _ := by simpa using hx
          exact mergeP_some (hv.some o (by simp))
      · rw [atV_append hs, atV_append hv.sort, maxO_assoc]
        congr 1
        rw [atV_one, atV_one, atV_one, ← hl]
        split
        · exact mergeP_look _ _ (hv.rise o (by simp)) hr t
        · rfl
      · rcases List.mem_append.1 hx with hx | hx
        · have := hlow x hx
          omega
        · obtain rfl : x = _ := by simpa using hx
          exact ho
    · rename_i h0
      have hlt : cmpLs o.lbs s.lbs < 0 := by omega
      have hs : SortS (r ++ [o] ++ [s]) := by
        unfold SortS
        rw [List.pairwise_append]
        refine ⟨hv.sort, List.pairwise_singleton _ _, fun x hx y hy => ?_⟩
        obtain rfl : y = s := by simpa using hy
        rcases List.mem_append.1 hx with hx | hx
        · exact hlow x hx
        · obtain rfl : x = o := by simpa using hx
          exact hlt
      refine ⟨⟨hs, fun x hx => ?_, fun x hx => ?_⟩, fun L t => atV_append hs L t, fun x hx => ?_⟩
      · rcases List.mem_append.1 hx with hx | hx
        · exact hv.rise x hx
        · obtain rfl : x = s := by simpa using hx
          exact hr
      · rcases List.mem_append.1 hx with hx | hx
        · exact hv.some x hx
        · obtain rfl : x = s := by simpa using hx
          exact hn
      · rcases List.mem_append.1 hx with hx | hx
        · exact hu x hx
        · obtain rfl : x = s := by simpa using hx
          rw [(cmpLs_ok.zero _ _).2 rfl]
          omega

/-! ### several lists -/
theorem maxL_perm {a b : List (List Ser)} (h : a.Perm b) (L : List Lab) (t : Int) : maxL a L t = maxL b L t := by
  unfold maxL
  induction h with
  | nil => rfl
  | cons x _ ih => simp only [List.foldr_cons, ih]
  | swap x y l => simp only [List.foldr_cons]; rw [← maxO_assoc, maxO_comm (atV y L t), maxO_assoc]
  | trans _ _ ih1 ih2 => exact ih1.trans ih2
theorem maxL_cons (a : List Ser) (ls : List (List Ser)) (L : List Lab) (t : Int) : maxL (a :: ls) L t = maxO (atV a L t) (maxL ls L t) := rfl
theorem atV_nil (L : List Lab) (t : Int) : atV [] L t = none := rfl

/-- on the way: 'out' is done; the lists hs are left, each in order, none empty -/
structure MOn (ls : List (List Ser)) (out : List Ser) (hs : List (List Ser)) : Prop where
  vs : Vs out
  hv : ∀ h ∈ hs, Vs h
  hn : ∀ h ∈ hs, h ≠ []
  upto : ∀ s r, s :: r ∈ hs → Upto out s.lbs
  at_ : ∀ L t, maxO (atV out L t) (maxL hs L t) = maxL ls L t
/-- the first of the lists that has the least labels is taken -/
theorem MOn.step {ls : List (List Ser)} {out : List Ser} {s : Ser} {r : List Ser} {hs : List (List Ser)} (h : MOn ls out ((s :: r) :: hs)) (hmin : ∀ s' r', s' :: r' ∈ hs → cmpLs s.lbs s'.lbs ≤ 0) {hs' : List (List Ser)} (hp : hs'.Perm (if r = [] then hs else r :: hs)) : MOn ls (addS out s) hs' := by
  have hsr := h.hv (s :: r) (by simp)
  have hso := hsr.sort
  unfold SortS at hso
  rw [List.pairwise_cons] at hso
  have hA := addS_ok h.vs (hsr.rise s (by simp)) (hsr.some s (by simp)) (h.upto s r (by simp))
  have hmem : ∀ x, x ∈ hs' → x ∈ hs ∨ (x = r ∧ r ≠ []) := by
    intro x hx
    have := hp.subset hx
    split at this
    · exact .inl this
    · rename_i hr
      rcases List.mem_cons.1 this with rfl | h1
      · exact .inr ⟨rfl, hr⟩
      · exact .inl h1
  refine ⟨hA.vs, fun x hx => ?_, fun x hx => ?_, fun s' r' hx => ?_, fun L t => ?_⟩
  · rcases hmem x hx with h1 | ⟨rfl, _⟩
    · exact h.hv x (by simp [h1])
    · exact ⟨hso.2, fun y hy => hsr.rise y (by simp [hy]), fun y hy => hsr.some y (by simp [hy])⟩
  · rcases hmem x hx with h1 | ⟨rfl, h1⟩
    · exact h.hn x (by simp [h1])
    · exact h1
  · have hle : cmpLs s.lbs s'.lbs ≤ 0 := by
      rcases hmem _ hx with h1 | ⟨h1, _⟩
      · exact hmin s' r' h1
      · have := hso.1 s' (by rw [← h1]; simp)
        omega
    intro o ho
    have h1 := hA.upto o ho
    rcases Int.lt_or_eq_of_le h1 with h2 | h2
    · rcases Int.lt_or_eq_of_le hle with h3 | h3
      · have := cmpLs_ok.trans _ _ _ h2 h3
        omega
      · rw [← (cmpLs_ok.zero _ _).1 h3]
        omega
    · rw [(cmpLs_ok.zero _ _).1 h2]
      exact hle
  · rw [hA.at_, ← h.at_, maxL_cons, show s :: r = [s] ++ r from rfl, atV_append (by exact hsr.sort), maxL_perm hp, maxO_assoc]
    congr 1
    rw [maxO_assoc]
    congr 1
    split
    · rename_i hr
      rw [hr, atV_nil]
      rfl
    · rw [maxL_cons]
theorem MOn.done {ls : List (List Ser)} {out : List Ser} (h : MOn ls out []) : Mrg ls out := ⟨h.vs, fun L t => by rw [← h.at_]; show _ = maxO _ none; rw [maxO_none]⟩
end Go.Proofs.YtlcaaacbookopaaGreatDoor

namespace Go.Proofs.YtlcaaacbookopaaGreatDoor

/-- a label in cells -/
def elLb : El (ByteArray × ByteArray) := ⟨fun x => [.string x.1, .string x.2], 2, fun _ => rfl, by
  intro x u hu
  simp only [List.mem_cons, List.not_mem_nil, or_false] at hu
  rcases hu with rfl | rfl <;> rfl⟩
theorem RE.lb {w : World} {A : Option Addr} {n : Nat} {l : List (ByteArray × ByteArray)} (h : RE elLb w A n l) {k : Nat} (hk : k < n) :
    ∃ ad p, A = some ad ∧ l[k]? = some p ∧ w.cell? (ad.add (k * 2)) = some (.string p.1) ∧ w.cell? ⟨(ad.add (k * 2)).block, (ad.add (k * 2)).off + 1, none⟩ = some (.string p.2) := by
  obtain ⟨ad, p, e, hp, hc⟩ := h.at_ hk (by decide)
  exact ⟨ad, p, e, hp, hc 0 _ rfl, cell_off (by decide) (hc 1 _ rfl)⟩
end Go.Proofs.YtlcaaacbookopaaGreatDoor

namespace Go.Proofs.YtlcaaacbookopaaGreatDoor
open Go.RowKit

theorem cmpB_eq (a b : ByteArray) : Lib.compareBytes a.data.toList b.data.toList = cmpB a b := by
  unfold cmpB
  generalize a.data.toList = x
  generalize b.data.toList = y
  induction x generalizing y with
  | nil => cases y <;> simp [Lib.compareBytes]
  | cons p x ih =>
    cases y with
    | nil => simp [Lib.compareBytes]
    | cons q y =>
      rw [Lib.compareBytes, ih]
      by_cases h : p = q
      · subst h
        simp
      · by_cases h2 : p < q
        · simp [List.cons_lt_cons_iff, h2]
        · have h3 : q < p := by
            rcases UInt8.lt_or_lt_of_ne h with h3 | h3
            · exact absurd h3 h2
            · exact h3
          simp [List.cons_lt_cons_iff, h, h2, h3]
theorem compare_any (a b : ByteArray) (w : World) : Calls Tryz.prog 92 #[.string a, .string b] w fun e w' => e = .returned (.int .i64 (cmpB a b)) ∧ w = w' :=
  (Tryz.strings_Compare a b w).mono fun _ _ ⟨h1, h2⟩ => ⟨by rw [h1, cmpB_eq], h2.symm⟩

set_option maxHeartbeats 1000000 in
theorem or_two (x y : Int) (g : Nat) (w : World) (h0 : w.cell? ⟨g, 0, none⟩ = some (.int .i64 x)) (h1 : w.cell? ⟨g, 1, none⟩ = some (.int .i64 y)) :
    Calls Tryz.prog 91 #[.slice (some ⟨g, 0, none⟩) 2 2] w fun e w' => e = .returned (.int .i64 (if x ≠ 0 then x else y)) ∧ w = w' := by
  by_cases hx : x = 0
  · subst hx
    rw [if_neg (by simp)]
    by_cases hy : y = 0
    · subst hy
      go_enter Tryz.func91, Tryz.ntmps91
      go_wp2
      refine wp_loop_rounds 3 ?_
      rw [rounds_succ]
      go_wp2
      rw [rounds_succ]
      go_wp2
      rw [rounds_succ]
      go_wp2
      go_ret
      exact ⟨by simp, rfl⟩
    · have e1 : (y != 0) = true := by simpa using hy
      go_enter Tryz.func91, Tryz.ntmps91
      go_wp2
      refine wp_loop_rounds 3 ?_
      rw [rounds_succ]
      go_wp2
      rw [rounds_succ]
      go_wp2
      go_ret
      exact ⟨by simp, rfl⟩
  · rw [if_pos hx]
    have e1 : (x != 0) = true := by simpa using hx
    go_enter Tryz.func91, Tryz.ntmps91
    go_wp2
    refine wp_loop_rounds 3 ?_
    rw [rounds_succ]
    go_wp2
    go_ret
    exact ⟨by simp, rfl⟩

theorem two_blk (w : World) (c1 c2 : Array Value) (t1 t2 : TypeId) : ∃ W, W = (w.alloc (.cells c1 t1)).alloc (.cells c2 t2) ∧ Grew w W ∧ Blk W w.heap.size t1 c1 ∧ Blk W (w.heap.size + 1) t2 c2 ∧ W.heap.size = w.heap.size + 2 := by
  have h1 := Blk.new w t1 c1
  have h2 := Blk.new (w.alloc (.cells c1 t1)) t2 c2
  have e1 : (w.alloc (.cells c1 t1)).heap.size = w.heap.size + 1 := by simp
  rw [e1] at h2
  exact ⟨_, rfl, ((Chg.refl _ w).alloc _).alloc _, h1.alloc _, h2, by simp⟩
def lbV (x : Lab) : Value := .agg #[.string x.1, .string x.2]
set_option maxRecDepth 100000 in
set_option maxHeartbeats 400000 in
theorem cmpOne_any (x y : Lab) (w : World) : Calls Tryz.prog 90 #[lbV x, lbV y] w fun e w' => e = .returned (.int .i64 (cmpLb x y)) ∧ Grew w w' := by
  obtain ⟨x1, x2⟩ := x
  obtain ⟨y1, y2⟩ := y
  unfold lbV cmpLb cmp2
  simp only
  have hC := fun a b w => compare_any a b w
  generalize hc1 : cmpB x1 y1 = c1 at *
  generalize hc2 : cmpB x2 y2 = c2 at *
  have hA := hC x1 y1
  have hB := hC x2 y2
  rw [hc1] at hA
  rw [hc2] at hB
  have hO := fun g w h0 h1 => or_two c1 c2 g w h0 h1
  generalize (if c1 ≠ 0 then c1 else c2) = z at *
  clear hC hc1 hc2
  obtain ⟨W, hW, hgW, b1, b2, hzW⟩ := two_blk w #[.string x1, .string x2] #[.string y1, .string y2] 79 79
  have p0 : W.cell? ⟨w.heap.size, 0, none⟩ = some (.string x1) := b1.cell 0
  have p1 : W.cell? ⟨w.heap.size, 1, none⟩ = some (.string x2) := b1.cell 1
  have q0 : W.cell? ⟨w.heap.size + 1, 0, none⟩ = some (.string y1) := b2.cell 0
  have q1 : W.cell? ⟨w.heap.size + 1, 1, none⟩ = some (.string y2) := b2.cell 1
  go_enter Tryz.func90, Tryz.ntmps90
  go_wp2_with fail
  rw [← hW]
  clear hW
  refine wp_region_textS [(9, 2), (3, 1)] [w.heap.size, w.heap.size + 1] (by kernel_rfl) (by kernel_rfl) (cellsIn_two b1 b2) ?_
  simp only [wpU, tagOf, chk, List.nil_append, List.cons_append]
  intro K hK
  go_wp2_with fail
  refine OnlyN.normal (hK _ _ (fun _ => ⟨_, _, _, rfl, rfl, by simp⟩) ?_)
  clear hK K
  intro K hK
  go_wp2_with fail
  refine OnlyN.normal (hK _ _ (fun _ => ⟨_, _, _, rfl, rfl, by simp⟩) ?_)
  clear hK K
  intro K hK
  go_wp2_with fail
  refine (hA _).mono ?_
  rintro e w1 ⟨rfl, rfl⟩
  go_wp2_with fail
  refine OnlyN.normal (hK _ _ (sameIn_two (S := fun _ => False) (Chg.refl _ W).drew b1.lt b2.lt (fun e => e) fun e => e) ?_)
  clear hK K
  intro K hK
  go_wp2_with fail
  refine OnlyN.normal (hK _ _ (fun _ => ⟨_, _, _, rfl, rfl, by simp⟩) ?_)
  clear hK K
  intro K hK
  go_wp2_with fail
  refine OnlyN.normal (hK _ _ (fun _ => ⟨_, _, _, rfl, rfl, by simp⟩) ?_)
  clear hK K
  intro K hK
  go_wp2_with fail
  refine (hB _).mono ?_
  rintro e w1 ⟨rfl, rfl⟩
  go_wp2_with fail
  refine OnlyN.normal (hK _ _ (sameIn_two (S := fun _ => False) (Chg.refl _ W).drew b1.lt b2.lt (fun e => e) fun e => e) ?_)
  clear hK K hA hB
  intro K hK
  go_wp2_with fail
  refine OnlyN.normal (hK _ _ (sameIn_two (S := fun _ => False) ((Chg.refl _ W).alloc _).drew b1.lt b2.lt (fun e => e) fun e => e) ?_)
  clear hK K
  intro K hK
  go_wp2_with fail
  refine (hO (w.heap.size + 2) _ (by rw [← hzW]; simp) (by rw [← hzW]; simp)).mono ?_
  rintro e w1 ⟨rfl, rfl⟩
  go_wp2_with fail
  refine OnlyN.normal (hK _ _ (sameIn_two (S := fun _ => False) ((Chg.refl _ W).alloc _).drew b1.lt b2.lt (fun e => e) fun e => e) ?_)
  clear hK K
  go_wp2_with fail
  refine OnlyN.normal ?_
  go_wp2
  go_ret
  exact ⟨by simp, hgW.trans (((Chg.refl _ W).alloc _).drew)⟩

set_option maxRecDepth 100000 in
set_option maxHeartbeats 400000 in
theorem compareFunc_any (A B : Option Addr) (n c m d : Nat) (la lb : List Lab) (w : World) (ha : RE elLb w A n la) (hb : RE elLb w B m lb) (hn : n ≤ 9223372036854775807) (hm : m ≤ 9223372036854775807) :
    Calls Tryz.prog 89 #[.slice A n c, .slice B m d, .func (.func 90) #[] #[]] w fun e w' => e = .returned (.int .i64 (cmpLs la lb)) ∧ Grew w w' := by
  have hal := ha.1
  have hbl := hb.1
  go_enter Tryz.func89, Tryz.ntmps89
  go_wp2
  go_loopw [13] (fun i wr => ∃ k : Nat, k ≤ n ∧ k ≤ m ∧ i = .int .i64 (k : Int) ∧ Hid (cmpLs la lb = cmpLs (la.drop k) (lb.drop k)) ∧ Grew w wr) (fun i _ => n - (intOf i).toNat)
  case atStart => exact ⟨0, by omega, by omega, rfl, rfl, Chg.refl _ _⟩
  case round =>
    obtain ⟨k, hk, hkm, rfl, hc, hg⟩ := hrel
    by_cases hlt : k < n
    · obtain ⟨ad, x, rfl, hx, x0, x1⟩ := (ha.grew hg).lb hlt
      have hxd : la.drop k = x :: la.drop (k + 1) := by
        obtain ⟨h1, h2⟩ := List.getElem?_eq_some_iff.1 hx
        rw [List.drop_eq_getElem_cons h1, h2]
      by_cases hltm : k < m
      · obtain ⟨bd, y, rfl, hy, y0, y1⟩ := ((hb.grew hg).grew ((Chg.refl _ wr).alloc (.cells #[.string x.1, .string x.2] 79))).lb hltm
        have hyd : lb.drop k = y :: lb.drop (k + 1) := by
          obtain ⟨h1, h2⟩ := List.getElem?_eq_some_iff.1 hy
          rw [List.drop_eq_getElem_cons h1, h2]
        have hc' : Hid (cmpLs la lb = if cmpLb x y ≠ 0 then cmpLb x y else cmpLs (la.drop (k + 1)) (lb.drop (k + 1))) := by
          have := hc.out
          rw [hxd, hyd] at this
          rw [this]
          rfl
        have hO := fun w => cmpOne_any x y w
        unfold lbV at hO
        obtain ⟨z, hz⟩ : ∃ z, cmpLb x y = z := ⟨_, rfl⟩
        rw [hz] at hc' hO
        clear hxd hyd hc hz
        go_wp2_with fail
        refine (hO _).mono ?_
        rintro e w1 ⟨rfl, hg1⟩
        have hgg := hg.trans ((((Chg.refl (fun _ => False) wr).alloc (.cells #[.string x.1, .string x.2] 79)).alloc (.cells #[.string y.1, .string y.2] 79)).trans hg1)
        clear x0 x1 y0 y1 hx hy hO
        by_cases hz0 : z = 0
        · subst hz0
          rw [if_neg (by simp)] at hc'
          go_wp2
          go_roundw
          case rel => exact ⟨k + 1, by omega, by omega, by go_num, hc', hgg⟩
          case measure => simp [intOf]; omega
        · have e1 : (z != 0) = true := by simpa using hz0
          rw [if_pos hz0] at hc'
          go_wp2
          go_ret
          exact ⟨by rw [hc'.out]; simp, hgg⟩
      · have hyd : lb.drop k = [] := List.drop_of_length_le (by omega)
        have hc' : Hid (cmpLs la lb = 1) := by
          have := hc.out
          rw [hxd, hyd] at this
          exact this
        clear hxd hyd hc hx
        go_wp2
        go_ret
        exact ⟨by rw [hc'.out]; simp, hg.alloc _⟩
    · obtain rfl : k = n := by omega
      have hxd : la.drop k = [] := List.drop_of_length_le (by omega)
      by_cases hltm : k < m
      · have hc' : Hid (cmpLs la lb = -1) := by
          have := hc.out
          rw [hxd] at this
          cases hyd : lb.drop k with
          | nil =>
            have := congrArg List.length hyd
            rw [List.length_drop] at this
            simp at this
            omega
          | cons y r => rw [hyd] at this; exact this
        clear hxd hc
        go_wp2
        go_ret
        exact ⟨by rw [hc'.out]; simp, hg⟩
      · obtain rfl : k = m := by omega
        have hc' : Hid (cmpLs la lb = 0) := by
          have := hc.out
          rw [hxd, List.drop_of_length_le (by omega)] at this
          exact this
        clear hxd hc
        go_wp2
        go_ret
        exact ⟨by rw [hc'.out]; simp, hg⟩
theorem compare_labels (A B : Option Addr) (n c m d : Nat) (la lb : List Lab) (w : World) (ha : RE elLb w A n la) (hb : RE elLb w B m lb) (hn : n ≤ 9223372036854775807) (hm : m ≤ 9223372036854775807) :
    Calls Tryz.prog 59 #[.slice A n c, .slice B m d] w fun e w' => e = .returned (.int .i64 (cmpLs la lb)) ∧ Grew w w' := by
  have hC := compareFunc_any A B n c m d la lb w ha hb hn hm
  generalize cmpLs la lb = z at *
  go_enter Tryz.func59, Tryz.ntmps59
  go_wp2_with fail
  refine hC.mono ?_
  rintro e w1 ⟨rfl, hg⟩
  go_wp2
  go_ret
  exact ⟨by simp, hg⟩
end Go.Proofs.YtlcaaacbookopaaGreatDoor

namespace Go.Proofs.YtlcaaacbookopaaGreatDoor

theorem list_lit {α : Type} (d : α) : ∀ (n : Nat) (l : List α), l.length = n → l = (List.range n).map fun i => l.getD i d
  | n, l, h => by
    refine List.ext_getElem? fun i => ?_
    rw [List.getElem?_map]
    by_cases hi : i < n
    · rw [List.getElem?_range hi, List.getElem?_eq_getElem (show i < l.length by omega)]
      simp [List.getD_eq_getElem?_getD, List.getElem?_eq_getElem (show i < l.length by omega)]
    · rw [List.getElem?_eq_none (by omega), List.getElem?_eq_none (by simpa using hi)]
      rfl
/-- a frame by its slots -/
theorem frame_lit (a : Act) (n : Nat) (hs : a.tmps.size = n) (hd : a.defers = []) : a = { tmps := ((List.range n).map fun i => a.tmps.getD i undef).toArray, defers := [] } := by
  obtain ⟨tm, df⟩ := a
  subst hd
  have h1 : tm.toList = (List.range n).map fun i => tm.toList.getD i undef := list_lit undef n tm.toList (by simpa using hs)
  have h2 : (fun i => tm.toList.getD i undef) = fun i => tm.getD i undef := by
    funext i
    simp [List.getD_eq_getElem?_getD]
  rw [h2] at h1
  have h3 : tm = ((List.range n).map fun i => tm.getD i undef).toArray := by
    rw [← h1]
  exact congrArg (fun t => ({ tmps := t, defers := [] } : Act)) h3

/-- As Q; by a goto to label l: J l. -/
def ExJ (J : Nat → Act → World → Prop) (Q : Exit → Act → World → Prop) : Exit → Act → World → Prop
  | .goto l, a, w => J l a w
  | e, a, w => Q e a w

section
variable {P : Program} {a : Act} {w : World} {Q : Exit → Act → World → Prop}
theorem ExJ.ret {J : Nat → Act → World → Prop} : ExJ J Q .ret a w = Q .ret a w := rfl
theorem ExJ.goto {J : Nat → Act → World → Prop} {l : Nat} : ExJ J Q (.goto l) a w = J l a w := rfl
theorem ExJ.weak {J J' : Nat → Act → World → Prop} (h : ∀ l a w, J l a w → J' l a w) : ∀ e a w, ExJ J Q e a w → ExJ J' Q e a w := fun e a w hq => by
  cases e <;> first | exact hq | exact h _ _ _ hq

theorem wp_scope_many {c : Code} (J : Nat → Act → World → Prop) (μ : Nat → Act → World → Nat)
    (pass : ∀ l a w, J l a w → ∃ rest, findLabel c l = some rest ∧ rest.wp P (ExJ (fun l' a' w' => J l' a' w' ∧ μ l' a' w' < μ l a w) Q) a w)
    (first : c.wp P (ExJ J Q) a w) : (Code.scope c).wp P Q a w := by
  intro b k cs
  have key : ∀ n l a w rest, μ l a w = n → J l a w → findLabel c l = some rest → ∃ e a' w', Q e a' w' ∧ Arrives P (lone (b.at a (.code rest :: .inScope c :: k)) cs w) b k cs e a' w' := by
    intro n
    induction n using Nat.strongRecOn with
    | _ n ih =>
      intro l a w rest hn hJ hf
      obtain ⟨rest', hf', hwp⟩ := pass l a w hJ
      obtain rfl : rest' = rest := Option.some.inj (hf'.symm.trans hf)
      obtain ⟨e, a₁, w₁, hq, harr⟩ := hwp b (.inScope c :: k) cs
      cases e with
      | normal => exact ⟨.normal, a₁, w₁, hq, Steps.trans harr (.one step_inScope)⟩
      | exit id => exact ⟨.exit id, a₁, w₁, hq, fun k' hk => harr k' (by simp [exitTo, hk])⟩
      | goto l' =>
        obtain ⟨hJ', hlt⟩ := hq
        obtain ⟨rest2, hf2, _⟩ := pass l' a₁ w₁ hJ'
        obtain ⟨e₂, a₂, w₂, hq₂, harr₂⟩ := ih _ (by omega) l' a₁ w₁ rest2 rfl hJ' hf2
        exact ⟨e₂, a₂, w₂, hq₂, .of_steps (harr _ (by simp [gotoIn, hf2])) harr₂⟩
      | ret => exact ⟨_, a₁, w₁, hq, harr⟩
      | panic ch => exact ⟨_, a₁, w₁, hq, harr⟩
      | outgrown => exact ⟨_, a₁, w₁, hq, harr⟩
  obtain ⟨e, a₁, w₁, hq, harr⟩ := first b (.inScope c :: k) cs
  cases e with
  | normal => exact ⟨.normal, a₁, w₁, hq, .head step_scope (Steps.trans harr (.one step_inScope))⟩
  | exit id => exact ⟨.exit id, a₁, w₁, hq, fun k' hk => .head step_scope (harr k' (by simp [exitTo, hk]))⟩
  | goto l' =>
    obtain ⟨rest2, hf2, _⟩ := pass l' a₁ w₁ hq
    obtain ⟨e₂, a₂, w₂, hq₂, harr₂⟩ := key _ l' a₁ w₁ rest2 rfl hq hf2
    exact ⟨e₂, a₂, w₂, hq₂, .of_steps (.head step_scope (harr _ (by simp [gotoIn, hf2]))) harr₂⟩
  | ret => exact ⟨_, a₁, w₁, hq, .of_steps (.one step_scope) harr⟩
  | panic ch => exact ⟨_, a₁, w₁, hq, .of_steps (.one step_scope) harr⟩
  | outgrown => exact ⟨_, a₁, w₁, hq, .of_steps (.one step_scope) harr⟩

/-- The same, where the run falls into label l from ahead: there, too, J holds and no more need be walked. -/
theorem wp_scope_fall {c : Code} (J : Nat → Act → World → Prop) (μ : Nat → Act → World → Nat) (l0 : Nat) (body : Code) (hb : findLabel c l0 = some (.seq .skip body))
    (pass0 : ∀ a w, J l0 a w → body.wp P (ExJ (fun l' a' w' => J l' a' w' ∧ μ l' a' w' < μ l0 a w) Q) a w)
    (pass : ∀ l a w, l ≠ l0 → J l a w → ∃ rest, findLabel c l = some rest ∧ rest.wp P (ExJ (fun l' a' w' => J l' a' w' ∧ μ l' a' w' < μ l a w) Q) a w)
    (first : (∀ a w, J l0 a w → body.wp P (ExJ J Q) a w) → c.wp P (ExJ J Q) a w) : (Code.scope c).wp P Q a w := by
  refine wp_scope_many J μ (fun l a w h => ?_) (first fun a w h => Code.wp_mono (ExJ.weak fun _ _ _ h => h.1) (pass0 a w h))
  by_cases hl : l = l0
  · subst hl
    refine ⟨_, hb, ?_⟩
    apply wp_seq_k
    intro K hK
    apply wp_skip
    exact hK _ _ (pass0 a w h)
  · exact pass l a w hl h

/-- Two labels: to l0 the run jumps back (and falls in from ahead), to l1 it jumps at last. -/
theorem wp_scope_two {c : Code} (l0 l1 : Nat) (J0 J1 : Act → World → Prop) (μ : Act → World → Nat) (b0 b1 : Code) (h0 : findLabel c l0 = some (.seq .skip b0)) (h1 : findLabel c l1 = some (.seq .skip b1)) (hne : l0 ≠ l1)
    (pass0 : ∀ a w, J0 a w → b0.wp P (ExJ (fun l a' w' => (l = l0 ∧ J0 a' w' ∧ μ a' w' < μ a w) ∨ (l = l1 ∧ J1 a' w')) Q) a w)
    (pass1 : ∀ a w, J1 a w → b1.wp P (ExJ (fun _ _ _ => False) Q) a w)
    (first : (∀ a w, J0 a w → b0.wp P (ExJ (fun l a' w' => (l = l0 ∧ J0 a' w') ∨ (l = l1 ∧ J1 a' w')) Q) a w) → c.wp P (ExJ (fun l a' w' => (l = l0 ∧ J0 a' w') ∨ (l = l1 ∧ J1 a' w')) Q) a w) : (Code.scope c).wp P Q a w := by
  refine wp_scope_fall (fun l a' w' => (l = l0 ∧ J0 a' w') ∨ (l = l1 ∧ J1 a' w')) (fun l a' w' => if l = l0 then μ a' w' + 1 else 0) l0 b0 h0 ?_ ?_ (fun hb => first fun a w h => hb a w (.inl ⟨rfl, h⟩))
  · rintro a' w' (⟨_, h⟩ | ⟨e, _⟩)
    · refine Code.wp_mono (ExJ.weak ?_) (pass0 a' w' h)
      rintro l a2 w2 (⟨rfl, hJ, hm⟩ | ⟨rfl, hJ⟩)
      · exact ⟨.inl ⟨rfl, hJ⟩, by simp only [if_true]; omega⟩
      · exact ⟨.inr ⟨rfl, hJ⟩, by simp only [if_true]; rw [if_neg (Ne.symm hne)]; omega⟩
    · exact (hne e).elim
  · rintro l a' w' hl (⟨e, _⟩ | ⟨rfl, h⟩)
    · exact (hl e).elim
    · refine ⟨_, h1, ?_⟩
      apply wp_seq_k
      intro K hK
      apply wp_skip
      exact hK _ _ (Code.wp_mono (ExJ.weak fun _ _ _ h => h.elim) (pass1 a' w' h))
end
end Go.Proofs.YtlcaaacbookopaaGreatDoor
