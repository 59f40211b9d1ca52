/-
  Several texts in one:
  The document's merge of two lists of points. Conditions: none; no program in sight.
  The document's two lists of points as one. Conditions: lengths that memory bears.
  The document's copy of a series, and its two lists of series as one. Conditions: lengths that memory bears.
-/
import Derived.Test.YtjgbdkokcgcpjaaDoorPart45
import Derived.Test.YtjgbdkokcgcpjaaDoorPart23

namespace Go.Proofs.YtjgbdkokcgcpjaaDoor
open Go.RowKit

/-- two lists of points as one -/
def ptsM : List Ptn → List Ptn → List Ptn
  | [], b => b
  | p :: a, [] => p :: a
  | p :: a, q :: b => if p.1 < q.1 then p :: ptsM a (q :: b) else if q.1 < p.1 then q :: ptsM (p :: a) b else (p.1, max p.2 q.2) :: ptsM a b
termination_by a b => a.length + b.length

theorem lookP_nil (t : Int) : lookP [] t = none := rfl
theorem lookP_over {q : Ptn} {r : List Ptn} {t : Int} (h : Rise (q :: r)) (ht : t < q.1) : lookP (q :: r) t = none := lookP_none fun p hp => by
  rcases List.mem_cons.1 hp with rfl | hp
  · omega
  · have := (List.pairwise_cons.1 h).1 p hp
    omega
theorem ptsM_mem : ∀ (a b : List Ptn) (x : Ptn), x ∈ ptsM a b → ∃ y : Ptn, (y ∈ a ∨ y ∈ b) ∧ y.1 = x.1
  | [], b, x, h => by
    rw [ptsM] at h
    exact ⟨x, .inr h, rfl⟩
  | p :: a, [], x, h => by
    rw [ptsM] at h
    exact ⟨x, .inl h, rfl⟩
  | p :: a, q :: b, x, h => by
    rw [ptsM] at h
    split at h
    · rcases List.mem_cons.1 h with rfl | h
      · exact ⟨x, .inl (by simp), rfl⟩
      · obtain ⟨y, hy, e⟩ := ptsM_mem a (q :: b) x h
        exact ⟨y, hy.imp (List.mem_cons_of_mem _) id, e⟩
    · split at h
      · rcases List.mem_cons.1 h with rfl | h
        · exact ⟨x, .inr (by simp), rfl⟩
        · obtain ⟨y, hy, e⟩ := ptsM_mem (p :: a) b x h
          exact ⟨y, hy.imp id (List.mem_cons_of_mem _), e⟩
      · rcases List.mem_cons.1 h with rfl | h
        · exact ⟨p, .inl (by simp), rfl⟩
        · obtain ⟨y, hy, e⟩ := ptsM_mem a b x h
          exact ⟨y, hy.imp (List.mem_cons_of_mem _) (List.mem_cons_of_mem _), e⟩
termination_by a b => a.length + b.length

theorem ptsM_rise : ∀ (a b : List Ptn), Rise a → Rise b → Rise (ptsM a b)
  | [], b, _, hb => by rw [ptsM]; exact hb
  | p :: a, [], ha, _ => by rw [ptsM]; exact ha
  | p :: a, q :: b, ha, hb => by
    have ha1 := List.pairwise_cons.1 ha
    have hb1 := List.pairwise_cons.1 hb
    rw [ptsM]
    split
    · rename_i h
      refine List.pairwise_cons.2 ⟨fun x hx => ?_, ptsM_rise a (q :: b) ha1.2 hb⟩
      obtain ⟨y, hy, e⟩ := ptsM_mem _ _ x hx
      rcases hy with hy | hy
      · have := ha1.1 y hy
        omega
      · rcases List.mem_cons.1 hy with rfl | hy
        · omega
        · have := hb1.1 y hy
          omega
    · split
      · rename_i h1 h
        refine List.pairwise_cons.2 ⟨fun x hx => ?_, ptsM_rise (p :: a) b ha hb1.2⟩
        obtain ⟨y, hy, e⟩ := ptsM_mem _ _ x hx
        rcases hy with hy | hy
        · rcases List.mem_cons.1 hy with rfl | hy
          · omega
          · have := ha1.1 y hy
            omega
        · have := hb1.1 y hy
          omega
      · rename_i h1 h
        refine List.pairwise_cons.2 ⟨fun x hx => ?_, ptsM_rise a b ha1.2 hb1.2⟩
        obtain ⟨y, hy, e⟩ := ptsM_mem _ _ x hx
        rcases hy with hy | hy
        · have := ha1.1 y hy
          simp only
          omega
        · have := hb1.1 y hy
          simp only
          omega
termination_by a b => a.length + b.length

theorem ptsM_at (t : Int) : ∀ (a b : List Ptn), Rise a → Rise b → lookP (ptsM a b) t = maxO (lookP a t) (lookP b t)
  | [], b, _, _ => by rw [ptsM, lookP_nil]; rfl
  | p :: a, [], _, _ => by rw [ptsM, lookP_nil, maxO_none]
  | p :: a, q :: b, ha, hb => by
    have ha1 := List.pairwise_cons.1 ha
    have hb1 := List.pairwise_cons.1 hb
    rw [ptsM]
    split
    · rename_i h
      rw [lookP_cons, ptsM_at t a (q :: b) ha1.2 hb, lookP_cons p a]
      by_cases hp : p.1 = t
      · rw [if_pos hp, if_pos hp, lookP_over hb (by omega), maxO_none]
      · rw [if_neg hp, if_neg hp]
    · split
      · rename_i h1 h
        rw [lookP_cons, ptsM_at t (p :: a) b ha hb1.2, lookP_cons q b]
        by_cases hp : q.1 = t
        · rw [if_pos hp, if_pos hp, lookP_over ha (by omega)]
          rfl
        · rw [if_neg hp, if_neg hp]
      · rename_i h1 h
        rw [lookP_cons, ptsM_at t a b ha1.2 hb1.2, lookP_cons p a, lookP_cons q b]
        by_cases hp : p.1 = t
        · rw [if_pos hp, if_pos hp, if_pos (by omega)]
          rfl
        · rw [if_neg hp, if_neg hp, if_neg (by omega)]
termination_by a b => a.length + b.length

/-- two lists of series as one -/
def twoM : List Ser → List Ser → List Ser
  | [], b => b
  | s :: a, [] => s :: a
  | s :: a, r :: b => if cmpLs s.lbs r.lbs < 0 then s :: twoM a (r :: b) else if 0 < cmpLs s.lbs r.lbs then r :: twoM (s :: a) b else ⟨s.lbs, ptsM s.pts r.pts⟩ :: twoM a b
termination_by a b => a.length + b.length
theorem twoM_mem : ∀ (a b : List Ser) (x : Ser), x ∈ twoM a b → ∃ y : Ser, (y ∈ a ∨ y ∈ b) ∧ y.lbs = x.lbs
  | [], b, x, h => by
    rw [twoM] at h
    exact ⟨x, .inr h, rfl⟩
  | p :: a, [], x, h => by
    rw [twoM] at h
    exact ⟨x, .inl h, rfl⟩
  | p :: a, q :: b, x, h => by
    rw [twoM] at h
    split at h
    · rcases List.mem_cons.1 h with rfl | h
      · exact ⟨x, .inl (by simp), rfl⟩
      · obtain ⟨y, hy, e⟩ := twoM_mem a (q :: b) x h
        exact ⟨y, hy.imp (List.mem_cons_of_mem _) id, e⟩
    · split at h
      · rcases List.mem_cons.1 h with rfl | h
        · exact ⟨x, .inr (by simp), rfl⟩
        · obtain ⟨y, hy, e⟩ := twoM_mem (p :: a) b x h
          exact ⟨y, hy.imp id (List.mem_cons_of_mem _), e⟩
      · rcases List.mem_cons.1 h with rfl | h
        · exact ⟨p, .inl (by simp), rfl⟩
        · obtain ⟨y, hy, e⟩ := twoM_mem a b x h
          exact ⟨y, hy.imp (List.mem_cons_of_mem _) (List.mem_cons_of_mem _), e⟩
termination_by a b => a.length + b.length

theorem atV_head (s : Ser) (r : List Ser) (L : List Lab) (t : Int) : atV (s :: r) L t = if s.lbs = L then lookP s.pts t else atV r L t := by
  unfold atV lookS
  rw [List.find?_cons]
  by_cases h : s.lbs = L
  · rw [decide_eq_true h, if_pos h]
    rfl
  · rw [decide_eq_false h, if_neg h]
theorem atV_over {r : List Ser} {L : List Lab} (h : ∀ s ∈ r, s.lbs ≠ L) (t : Int) : atV r L t = none := by
  induction r with
  | nil => rfl
  | cons s r ih => rw [atV_head, if_neg (h s (by simp)), ih fun x hx => h x (List.mem_cons_of_mem _ hx)]
theorem Vs.cons_iff {s : Ser} {r : List Ser} : Vs (s :: r) ↔ (∀ x ∈ r, cmpLs s.lbs x.lbs < 0) ∧ Rise s.pts ∧ s.pts ≠ [] ∧ Vs r := by
  constructor
  · intro h
    have h1 := List.pairwise_cons.1 h.sort
    exact ⟨h1.1, h.rise s (by simp), h.some s (by simp), ⟨h1.2, fun x hx => h.rise x (List.mem_cons_of_mem _ hx), fun x hx => h.some x (List.mem_cons_of_mem _ hx)⟩⟩
  · rintro ⟨h1, h2, h3, h4⟩
    exact ⟨List.pairwise_cons.2 ⟨h1, h4.sort⟩, fun x hx => by
      rcases List.mem_cons.1 hx with rfl | hx
      · exact h2
      · exact h4.rise x hx, fun x hx => by
      rcases List.mem_cons.1 hx with rfl | hx
      · exact h3
      · exact h4.some x hx⟩
theorem ptsM_some {a b : List Ptn} (h : a ≠ []) : ptsM a b ≠ [] := by
  cases a with
  | nil => exact absurd rfl h
  | cons p a =>
    cases b with
    | nil => rw [ptsM]; exact h
    | cons q b =>
      rw [ptsM]
      split
      · simp
      · split <;> simp
theorem cmpLs_zero_of {x y : List Lab} (h1 : ¬ cmpLs x y < 0) (h2 : ¬ 0 < cmpLs x y) : x = y := (cmpLs_ok.zero x y).1 (by omega)

theorem twoM_vs : ∀ (a b : List Ser), Vs a → Vs b → Vs (twoM a b)
  | [], b, _, hb => by rw [twoM]; exact hb
  | p :: a, [], ha, _ => by rw [twoM]; exact ha
  | p :: a, q :: b, ha, hb => by
    obtain ⟨a1, a2, a3, a4⟩ := Vs.cons_iff.1 ha
    obtain ⟨b1, b2, b3, b4⟩ := Vs.cons_iff.1 hb
    rw [twoM]
    split
    · rename_i h
      refine Vs.cons_iff.2 ⟨fun x hx => ?_, a2, a3, twoM_vs a (q :: b) a4 hb⟩
      obtain ⟨y, hy, e⟩ := twoM_mem _ _ x hx
      rw [← e]
      rcases hy with hy | hy
      · exact a1 y hy
      · rcases List.mem_cons.1 hy with rfl | hy
        · exact h
        · exact cmpLs_ok.trans _ _ _ h (b1 y hy)
    · split
      · rename_i h1 h
        have h' := (cmpLs_ok.anti q.lbs p.lbs).2 h
        refine Vs.cons_iff.2 ⟨fun x hx => ?_, b2, b3, twoM_vs (p :: a) b ha b4⟩
        obtain ⟨y, hy, e⟩ := twoM_mem _ _ x hx
        rw [← e]
        rcases hy with hy | hy
        · rcases List.mem_cons.1 hy with rfl | hy
          · exact h'
          · exact cmpLs_ok.trans _ _ _ h' (a1 y hy)
        · exact b1 y hy
      · rename_i h1 h
        have he := cmpLs_zero_of h1 h
        refine Vs.cons_iff.2 ⟨fun x hx => ?_, ptsM_rise _ _ a2 b2, ptsM_some a3, twoM_vs a b a4 b4⟩
        obtain ⟨y, hy, e⟩ := twoM_mem _ _ x hx
        rw [← e]
        rcases hy with hy | hy
        · exact a1 y hy
        · show cmpLs p.lbs y.lbs < 0
          rw [he]
          exact b1 y hy
termination_by a b => a.length + b.length

theorem lt_ne {x y : List Lab} (h : cmpLs x y < 0) : x ≠ y := fun e => by
  subst e
  exact cmpLs_ok.irrefl _ h
theorem twoM_at (L : List Lab) (t : Int) : ∀ (a b : List Ser), Vs a → Vs b → atV (twoM a b) L t = maxO (atV a L t) (atV b L t)
  | [], b, _, _ => by rw [twoM, atV_nil]; rfl
  | p :: a, [], _, _ => by rw [twoM, atV_nil, maxO_none]
  | p :: a, q :: b, ha, hb => by
    obtain ⟨a1, a2, a3, a4⟩ := Vs.cons_iff.1 ha
    obtain ⟨b1, b2, b3, b4⟩ := Vs.cons_iff.1 hb
    rw [twoM]
    split
    · rename_i h
      rw [atV_head, twoM_at L t a (q :: b) a4 hb, atV_head p a]
      by_cases hp : p.lbs = L
      · rw [if_pos hp, if_pos hp, atV_over (r := q :: b) (fun x hx => ?_) t, maxO_none]
        rw [← hp]
        rcases List.mem_cons.1 hx with rfl | hx
        · exact (lt_ne h).symm
        · exact (lt_ne (cmpLs_ok.trans _ _ _ h (b1 x hx))).symm
      · rw [if_neg hp, if_neg hp]
    · split
      · rename_i h1 h
        have h' := (cmpLs_ok.anti q.lbs p.lbs).2 h
        rw [atV_head, twoM_at L t (p :: a) b ha b4, atV_head q b]
        by_cases hp : q.lbs = L
        · rw [if_pos hp, if_pos hp, atV_over (r := p :: a) (fun x hx => ?_) t]
          · rfl
          · rw [← hp]
            rcases List.mem_cons.1 hx with rfl | hx
            · exact (lt_ne h').symm
            · exact (lt_ne (cmpLs_ok.trans _ _ _ h' (a1 x hx))).symm
        · rw [if_neg hp, if_neg hp]
      · rename_i h1 h
        have he := cmpLs_zero_of h1 h
        rw [atV_head, twoM_at L t a b a4 b4, atV_head p a, atV_head q b, ← he]
        by_cases hp : p.lbs = L
        · rw [if_pos hp, if_pos hp, if_pos hp]
          exact ptsM_at t _ _ a2 b2
        · rw [if_neg hp, if_neg hp, if_neg hp]
termination_by a b => a.length + b.length
/-- one list after the other -/
theorem twoM_mrg {a b c : List Ser} (ha : Vs a) (hb : Vs b) (hc : Vs c) : Mrg [a, b, c] (twoM (twoM (twoM [] a) b) c) := by
  have e : twoM [] a = a := by rw [twoM]
  rw [e]
  have h1 := twoM_vs a b ha hb
  refine ⟨twoM_vs _ c h1 hc, fun L t => ?_⟩
  rw [twoM_at L t _ c h1 hc, twoM_at L t a b ha hb, maxO_assoc]
  simp only [maxL_cons, maxL_nil, maxO_none]
end Go.Proofs.YtjgbdkokcgcpjaaDoor

namespace Go.Proofs.YtjgbdkokcgcpjaaDoor
open Go.RowKit

theorem drop_at {α : Type} {l : List α} {k : Nat} {x : α} (h : l[k]? = some x) : l.drop k = x :: l.drop (k + 1) := by
  obtain ⟨h1, h2⟩ := List.getElem?_eq_some_iff.1 h
  rw [List.drop_eq_getElem_cons h1, h2]
theorem ptsM_r (a : List Ptn) : ptsM a [] = a := by cases a <;> rw [ptsM]
theorem ptsM_l (b : List Ptn) : ptsM [] b = b := by rw [ptsM]
theorem ptsM_lt {p q : Ptn} {a b : List Ptn} (h : p.1 < q.1) : ptsM (p :: a) (q :: b) = p :: ptsM a (q :: b) := by rw [ptsM, if_pos h]
theorem ptsM_gt {p q : Ptn} {a b : List Ptn} (h : q.1 < p.1) : ptsM (p :: a) (q :: b) = q :: ptsM (p :: a) b := by rw [ptsM, if_neg (by omega), if_pos h]
theorem ptsM_eq {p q : Ptn} {a b : List Ptn} (h : p.1 = q.1) : ptsM (p :: a) (q :: b) = (p.1, max p.2 q.2) :: ptsM a b := by rw [ptsM, if_neg (by omega), if_neg (by omega)]
theorem lenN {w : World} {base : Nat} {t : TypeId} {A : Option Addr} {n c : Nat} {l : List Ptn} (h : OE elPt w base t A n c l) : l.length = n := h.len (by decide)

set_option maxRecDepth 100000 in
set_option maxHeartbeats 8000000 in
theorem points10_any (A B : Option Addr) (n c m d : Nat) (ps qs : List Ptn) (w : World) (h : RE elPt w A n ps) (hb : RE elPt w B m qs) (hs : n + m ≤ 8796093022208) :
    Calls Tryd.prog 49 #[.slice A n c, .slice B m d] w (NewPt w (ptsM ps qs).length (ptsM ps qs)) := by
  obtain ⟨l, hl⟩ : ∃ l, ptsM ps qs = l := ⟨_, rfl⟩
  rw [hl]
  have hz0 : Hid ([] ++ ptsM (ps.drop 0) (qs.drop 0) = l) := hl
  have hln : Hid (ps.length = n) := h.1
  have hlm : Hid (qs.length = m) := hb.1
  clear hl
  go_enter Tryd.func49, Tryd.ntmps49
  go_wp2
  go_loopw [5, 6, 7] (fun o i j wr => ∃ (k q s e : Nat) (D : Option Addr) (out : List Ptn), o = .slice D s e ∧ i = .int .i64 (k : Int) ∧ j = .int .i64 (q : Int) ∧ k ≤ n ∧ q ≤ m ∧ s ≤ k + q ∧ Hid (out ++ ptsM (ps.drop k) (qs.drop q) = l) ∧ OE elPt wr w.heap.size 49 D s e out ∧ Grew w wr) (fun _ i j _ => n + m - ((intOf i).toNat + (intOf j).toNat))
  case atStart => exact ⟨0, 0, 0, 0, none, [], rfl, rfl, rfl, by omega, by omega, by omega, hz0, OE.nil _ _ _, Chg.refl _ _⟩
  case round =>
    clear hz0
    obtain ⟨k, q, s, e, D, out, rfl, rfl, rfl, hk, hq, hse, hv, ho, hg⟩ := hrel
    have hsz := hg.size
    have hA : Hid (∀ ad, D = some ad → w.heap.size ≤ ad.block) := fun ad e => (Own.blk_lt ho ad e).1
    by_cases hkn : k < n
    · obtain ⟨ad, p, rfl, hp, p0, p1⟩ := (h.grew hg).pt hkn
      have hpd := drop_at hp
      have ek : decide ((k : Int) < (n : Int)) = true := decide_eq_true (by omega)
      have ek2 : ((k : Int) == (n : Int)) = false := by simp; omega
      by_cases hqm : q < m
      · obtain ⟨bd, r, rfl, hr, r0, r1⟩ := (hb.grew hg).pt hqm
        have hrd := drop_at hr
        have eq2 : ((q : Int) == (m : Int)) = false := by simp; omega
        have hv := hv.out
        rw [hpd, hrd] at hv
        have hadW := World.block_lt_of_cell? wr _ p0
        have hbdW := World.block_lt_of_cell? wr _ r0
        rw [block_add] at hadW hbdW
        have hcA := ex_cell p0
        have hcB := ex_cell r0
        rw [block_add] at hcA hcB
        have hcs : CellsIn [ad.block, bd.block] wr := cellsIn_cons hcA (cellsIn_cons hcB (cellsIn_nil _))
        obtain ⟨ad', p', e1, _, hw0, _⟩ := h.pt hkn
        injection e1 with e1
        subst e1
        obtain ⟨bd', r', e2, _, hw1, _⟩ := hb.pt hqm
        injection e2 with e2
        subst e2
        have hadO := World.block_lt_of_cell? w _ hw0
        have hbdO := World.block_lt_of_cell? w _ hw1
        rw [block_add] at hadO hbdO
        clear hw0 hw1
        rcases Int.lt_trichotomy p.1 r.1 with h1 | h1 | h1
        · rw [ptsM_lt h1, ← hrd] at hv
          replace hv := Lib.hid (push_l hv)
          have e3 : decide (p.1 < r.1) = true := decide_eq_true h1
          clear h1 hpd hrd hp hr
          go_wp2_with fail
          refine wp_region_text [(3, 1), (2, 1)] (by kernel_rfl) (by kernel_rfl) ?_
          simp only [instr, chk, look, Nat.reduceBEq, if_true, if_false, Nat.reduceEqDiff, List.cons_append, List.nil_append]
          go_wp2_with fail
          refine OnlyN.normal ?_
          have ho1 : OE elPt (wr.drew.alloc (.cells #[.int .i64 p.1, .int .u64 (p.2 : Int)] 49)) w.heap.size 49 D s e out := (ho.drewN 1).grew ((Chg.refl _ _).alloc _)
          have hg1 : Grew w (wr.drew.alloc (.cells #[.int .i64 p.1, .int .u64 (p.2 : Int)] 49)) := hg.drew.alloc _
          have hsrc : RE elPt (wr.drew.alloc (.cells #[.int .i64 p.1, .int .u64 (p.2 : Int)] 49)) (some ⟨wr.heap.size, 0, none⟩) 1 [p] := RE.newAt rfl rfl rfl
          go_wp2_with (at_builtin; refine wpList_appE rfl _ _ 44 49 infoPt rfl Tryd.underlying44 rfl w.heap.size D s e out rfl ho1 (by simp; omega) _ 1 1 [p] rfl hsrc (by unfold maxLen; omega) (by omega) ?_; intro D2 e2 w2 h2)
          go_roundw
          case rel => exact ⟨k + 1, q, s + 1, e2, D2, out ++ [p], rfl, by go_num, rfl, by omega, by omega, by omega, hv, h2.oe, h2.grew hg1 hA.out⟩
          case measure => simp [intOf] <;> omega
        · rw [ptsM_eq h1] at hv
          replace hv := Lib.hid (push_l hv)
          have e3 : decide (p.1 < r.1) = false := decide_eq_false (by omega)
          have e4 : decide (r.1 < p.1) = false := decide_eq_false (by omega)
          have hmx : (max (p.2 : Int) (r.2 : Int)) = ((max p.2 r.2 : Nat) : Int) := by omega
          have hs2 : Hid (∀ W1, Chg (fun k => w.heap.size ≤ k) wr W1 → SameIn [ad.block, bd.block] wr W1) := fun W1 h1 i hi => by
            simp only [List.mem_cons, List.not_mem_nil, or_false] at hi
            rcases hi with rfl | rfl
            · exact h1.block _ hadW (fun e => by omega)
            · exact h1.block _ hbdW (fun e => by omega)
          clear h1 hpd hrd hp hr
          go_wp2_with fail
          refine wp_region_text [(3, 1), (2, 1)] (by kernel_rfl) (by kernel_rfl) ?_
          simp only [instr, chk, look, Nat.reduceBEq, if_true, if_false, Nat.reduceEqDiff, List.cons_append, List.nil_append]
          go_wp2_with fail
          refine OnlyN.normal ?_
          go_wp2_with fail
          refine wp_region_text [(3, 1), (2, 1)] (by kernel_rfl) (by kernel_rfl) ?_
          simp only [instr, chk, look, Nat.reduceBEq, if_true, if_false, Nat.reduceEqDiff, List.cons_append, List.nil_append]
          go_wp2_with fail
          refine OnlyN.normal ?_
          have ho1 : OE elPt (wr.drew.drew.drew.alloc (.cells #[.int .i64 p.1, .int .u64 ((max p.2 r.2 : Nat) : Int)] 49)) w.heap.size 49 D s e out := (ho.drewN 3).grew ((Chg.refl _ _).alloc _)
          have hg1 : Grew w (wr.drew.drew.drew.alloc (.cells #[.int .i64 p.1, .int .u64 ((max p.2 r.2 : Nat) : Int)] 49)) := hg.drew.drew.drew.alloc _
          have hsrc : RE elPt (wr.drew.drew.drew.alloc (.cells #[.int .i64 p.1, .int .u64 ((max p.2 r.2 : Nat) : Int)] 49)) (some ⟨wr.heap.size, 0, none⟩) 1 [(p.1, max p.2 r.2)] := RE.newAt rfl rfl rfl
          go_wp2_with fail
          refine wp_region_textS [(3, 1)] [ad.block, bd.block] (by kernel_rfl) (by kernel_rfl) hcs ?_
          simp only [wpU, tagOf, chk, List.nil_append, List.cons_append]
          intro K hK
          go_wp2_with fail
          refine OnlyN.normal (hK _ _ (fun _ => ⟨_, _, _, rfl, rfl, by simp [block_add]⟩) ?_)
          clear hK K
          intro K hK
          go_wp2_with fail
          refine OnlyN.normal (hK _ _ (fun _ => ⟨_, _, _, rfl, rfl, by simp [block_add]⟩) ?_)
          clear hK K
          intro K hK
          go_wp2_with fail
          refine OnlyN.normal (hK _ _ (fun _ => ⟨_, _, _, rfl, rfl, by simp [block_add]⟩) ?_)
          clear hK K
          intro K hK
          go_wp2_with fail
          refine OnlyN.normal (hK _ _ (hs2.out _ (Chg.refl _ wr).drew.drew.drew) ?_)
          clear hK K
          intro K hK
          go_wp2_with fail
          refine OnlyN.normal (hK _ _ (hs2.out _ ((Chg.refl _ wr).drew.drew.drew.alloc _)) ?_)
          clear hK K
          intro K hK
          go_wp2_with (at_builtin; refine wpList_appE rfl _ _ 44 49 infoPt rfl Tryd.underlying44 rfl w.heap.size D s e out rfl ho1 (by simp; omega) _ 1 1 [(p.1, max p.2 r.2)] rfl hsrc (by unfold maxLen; omega) (by omega) ?_; intro D2 e2 w2 h2)
          refine OnlyN.normal (hK _ _ (hs2.out _ (((Chg.refl _ wr).drew.drew.drew.alloc _).trans (h2.chg.mono fun x _ ⟨ad2, e5, e6⟩ => by rw [e6]; exact hA.out ad2 e5))) ?_)
          clear hK K
          go_wp2_with fail
          refine OnlyN.normal ?_
          go_wp2
          go_roundw
          case rel => exact ⟨k + 1, q + 1, s + 1, e2, D2, out ++ [(p.1, max p.2 r.2)], rfl, by go_num, by go_num, by omega, by omega, by omega, hv, h2.oe, h2.grew hg1 hA.out⟩
          case measure => simp [intOf] <;> omega
        · rw [ptsM_gt h1, ← hpd] at hv
          replace hv := Lib.hid (push_l hv)
          have e3 : decide (p.1 < r.1) = false := decide_eq_false (by omega)
          have e4 : decide (r.1 < p.1) = true := decide_eq_true h1
          clear h1 hpd hrd hp hr
          go_wp2_with fail
          refine wp_region_text [(3, 1), (2, 1)] (by kernel_rfl) (by kernel_rfl) ?_
          simp only [instr, chk, look, Nat.reduceBEq, if_true, if_false, Nat.reduceEqDiff, List.cons_append, List.nil_append]
          go_wp2_with fail
          refine OnlyN.normal ?_
          go_wp2_with fail
          refine wp_region_text [(3, 1), (2, 1)] (by kernel_rfl) (by kernel_rfl) ?_
          simp only [instr, chk, look, Nat.reduceBEq, if_true, if_false, Nat.reduceEqDiff, List.cons_append, List.nil_append]
          go_wp2_with fail
          refine OnlyN.normal ?_
          have ho1 : OE elPt (wr.drew.drew.alloc (.cells #[.int .i64 r.1, .int .u64 (r.2 : Int)] 49)) w.heap.size 49 D s e out := (ho.drewN 2).grew ((Chg.refl _ _).alloc _)
          have hg1 : Grew w (wr.drew.drew.alloc (.cells #[.int .i64 r.1, .int .u64 (r.2 : Int)] 49)) := hg.drew.drew.alloc _
          have hsrc : RE elPt (wr.drew.drew.alloc (.cells #[.int .i64 r.1, .int .u64 (r.2 : Int)] 49)) (some ⟨wr.heap.size, 0, none⟩) 1 [r] := RE.newAt rfl rfl rfl
          go_wp2_with (at_builtin; refine wpList_appE rfl _ _ 44 49 infoPt rfl Tryd.underlying44 rfl w.heap.size D s e out rfl ho1 (by simp; omega) _ 1 1 [r] rfl hsrc (by unfold maxLen; omega) (by omega) ?_; intro D2 e2 w2 h2)
          go_roundw
          case rel => exact ⟨k, q + 1, s + 1, e2, D2, out ++ [r], rfl, rfl, by go_num, by omega, by omega, by omega, hv, h2.oe, h2.grew hg1 hA.out⟩
          case measure => simp [intOf] <;> omega
      · obtain rfl : q = m := by omega
        have eq2 : ((q : Int) == (q : Int)) = true := by simp
        have hv := hv.out
        rw [List.drop_of_length_le (l := qs) (by have := hlm.out; omega), ptsM_r, hpd] at hv
        have hv2 : out ++ p :: ptsM (ps.drop (k + 1)) (qs.drop q) = l := by
          rw [List.drop_of_length_le (l := qs) (by have := hlm.out; omega), ptsM_r]
          exact hv
        replace hv := Lib.hid (push_l hv2)
        clear hv2 hpd hp
        go_wp2_with fail
        refine wp_region_text [(3, 1), (2, 1)] (by kernel_rfl) (by kernel_rfl) ?_
        simp only [instr, chk, look, Nat.reduceBEq, if_true, if_false, Nat.reduceEqDiff, List.cons_append, List.nil_append]
        go_wp2_with fail
        all_goals try exact (absP (by assumption)).elim
        refine OnlyN.normal ?_
        have ho1 : OE elPt (wr.drew.alloc (.cells #[.int .i64 p.1, .int .u64 (p.2 : Int)] 49)) w.heap.size 49 D s e out := (ho.drewN 1).grew ((Chg.refl _ _).alloc _)
        have hg1 : Grew w (wr.drew.alloc (.cells #[.int .i64 p.1, .int .u64 (p.2 : Int)] 49)) := hg.drew.alloc _
        have hsrc : RE elPt (wr.drew.alloc (.cells #[.int .i64 p.1, .int .u64 (p.2 : Int)] 49)) (some ⟨wr.heap.size, 0, none⟩) 1 [p] := RE.newAt rfl rfl rfl
        go_wp2_with (at_builtin; refine wpList_appE rfl _ _ 44 49 infoPt rfl Tryd.underlying44 rfl w.heap.size D s e out rfl ho1 (by simp; omega) _ 1 1 [p] rfl hsrc (by unfold maxLen; omega) (by omega) ?_; intro D2 e2 w2 h2)
        go_roundw
        case rel => exact ⟨k + 1, q, s + 1, e2, D2, out ++ [p], rfl, by go_num, rfl, by omega, by omega, by omega, hv, h2.oe, h2.grew hg1 hA.out⟩
        case measure => simp [intOf] <;> omega
    · obtain rfl : k = n := by omega
      have ek : decide ((k : Int) < (k : Int)) = false := decide_eq_false (by omega)
      have ek2 : ((k : Int) == (k : Int)) = true := by simp
      by_cases hqm : q < m
      · obtain ⟨bd, r, rfl, hr, r0, r1⟩ := (hb.grew hg).pt hqm
        have hrd := drop_at hr
        have eq2 : ((q : Int) == (m : Int)) = false := by simp; omega
        have hv := hv.out
        rw [List.drop_of_length_le (l := ps) (by have := hln.out; omega), ptsM_l, hrd] at hv
        have hv2 : out ++ r :: ptsM (ps.drop k) (qs.drop (q + 1)) = l := by
          rw [List.drop_of_length_le (l := ps) (by have := hln.out; omega), ptsM_l]
          exact hv
        replace hv := Lib.hid (push_l hv2)
        clear hv2 hrd hr
        go_wp2_with fail
        refine wp_region_text [(3, 1), (2, 1)] (by kernel_rfl) (by kernel_rfl) ?_
        simp only [instr, chk, look, Nat.reduceBEq, if_true, if_false, Nat.reduceEqDiff, List.cons_append, List.nil_append]
        go_wp2_with fail
        refine OnlyN.normal ?_
        go_wp2_with fail
        refine wp_region_text [(3, 1), (2, 1)] (by kernel_rfl) (by kernel_rfl) ?_
        simp only [instr, chk, look, Nat.reduceBEq, if_true, if_false, Nat.reduceEqDiff, List.cons_append, List.nil_append]
        go_wp2_with fail
        refine OnlyN.normal ?_
        have ho1 : OE elPt (wr.drew.drew.alloc (.cells #[.int .i64 r.1, .int .u64 (r.2 : Int)] 49)) w.heap.size 49 D s e out := (ho.drewN 2).grew ((Chg.refl _ _).alloc _)
        have hg1 : Grew w (wr.drew.drew.alloc (.cells #[.int .i64 r.1, .int .u64 (r.2 : Int)] 49)) := hg.drew.drew.alloc _
        have hsrc : RE elPt (wr.drew.drew.alloc (.cells #[.int .i64 r.1, .int .u64 (r.2 : Int)] 49)) (some ⟨wr.heap.size, 0, none⟩) 1 [r] := RE.newAt rfl rfl rfl
        go_wp2_with (at_builtin; refine wpList_appE rfl _ _ 44 49 infoPt rfl Tryd.underlying44 rfl w.heap.size D s e out rfl ho1 (by simp; omega) _ 1 1 [r] rfl hsrc (by unfold maxLen; omega) (by omega) ?_; intro D2 e2 w2 h2)
        go_roundw
        case rel => exact ⟨k, q + 1, s + 1, e2, D2, out ++ [r], rfl, rfl, by go_num, by omega, by omega, by omega, hv, h2.oe, h2.grew hg1 hA.out⟩
        case measure => simp [intOf] <;> omega
      · obtain rfl : q = m := by omega
        have hv := hv.out
        rw [List.drop_of_length_le (l := ps) (by have := hln.out; omega), ptsM_l, List.drop_of_length_le (l := qs) (by have := hlm.out; omega), List.append_nil] at hv
        replace hv := Lib.hid hv
        have hlen : Hid (out.length = s) := lenN ho
        go_wp2
        go_ret
        exact ⟨D, e, by rw [← hv.out, hlen.out]; simp, by rw [← hv.out, hlen.out]; exact ho, hg⟩
end Go.Proofs.YtjgbdkokcgcpjaaDoor

namespace Go.Proofs.YtjgbdkokcgcpjaaDoor
open Go.RowKit

set_option maxRecDepth 100000 in
set_option maxHeartbeats 4000000 in
theorem copied10_any (la : Option Addr) (ln lc : Nat) (pa : Option Addr) (pn pc : Nat) (s : Ser) (w : World) (hi : SrIs w ⟨la, ln, lc, pa, pn, pc⟩ s) (hl1 : ln ≤ 1048576) (hp1 : pn ≤ 1099511627776) :
    Calls Tryd.prog 48 #[.agg #[.slice la ln lc, .slice pa pn pc]] w fun e w' => ∃ A2 c2 A4 c4, e = .returned (.agg #[.slice A2 ln c2, .slice A4 pn c4]) ∧ NsE w' w.heap.size ⟨A2, ln, c2, A4, pn, c4⟩ s ∧ Grew w w' := by
  obtain ⟨W, hW⟩ : ∃ W, W = (w.alloc (.cells #[.slice la ln lc, .slice pa pn pc] 46)).alloc (.cells #[.slice none 0 0, .slice none 0 0] 46) := ⟨_, rfl⟩
  have hgW : Grew w W := by rw [hW]; exact ((Chg.refl _ w).alloc _).alloc _
  have hbx : Blk W w.heap.size 46 #[.slice la ln lc, .slice pa pn pc] := by rw [hW]; exact (Blk.new w _ _).alloc _
  have hbz : Blk W (w.heap.size + 1) 46 #[.slice none 0 0, .slice none 0 0] := by
    rw [hW]
    have := Blk.new (w.alloc (.cells #[.slice la ln lc, .slice pa pn pc] 46)) 46 #[.slice none 0 0, .slice none 0 0]
    rwa [World.size_alloc] at this
  have b0 := hbx.cell 0
  have b1 := hbx.cell 1
  have hsW := hi.grew hgW
  have hszW := hgW.size
  have hb0 := hbx.lt
  have hcs := cellsIn_one hbx
  have hsame : Hid (∀ W1, Grew W W1 → SameIn [w.heap.size] W W1) := fun W1 h1 => sameIn_of h1 hcs fun _ _ e => e
  clear hi
  go_enter Tryd.func48, Tryd.ntmps48
  go_wp2_with fail
  rw [← hW]
  clear hW
  refine wp_region_textsD [] [w.heap.size] [[0, 1, 2, 3, 4, 5, 6, 7, 8, 9], [0, 1, 2, 4, 3, 5, 6, 7, 8, 9], [4, 0, 1, 2, 3, 5, 6, 7, 8, 9]] (by kernel_rfl) (by kernel_rfl) hcs ?_
  intro t ht
  simp only [List.mem_cons, List.not_mem_nil, or_false] at ht
  rcases ht with rfl | rfl | rfl
  all_goals
    simp only [opsOf, List.filterMap_cons, List.filterMap_nil, List.getElem?_toArray, List.getElem?_cons_zero, List.getElem?_cons_succ]
    simp only [wpU, tagOf, chk, List.cons_append, List.nil_append]
  · -- labels' empty slice, labels, points' empty slice, points
        have gX : Grew W (W.drew.alloc (.cells #[] 67)) := (Chg.refl _ W).drew.alloc _
        have oL : OE elLb (W.drew.alloc (.cells #[] 67)) W.heap.size 67 (some ⟨W.heap.size, 0, none⟩) 0 0 [] := OE.made W.drew W.heap.size 67 (Nat.le_refl _)
        have rL := hsW.lb.grew gX
        have hX : W.heap.size ≤ W.heap.size := Nat.le_refl _
        intro K hK
        go_wp2_with fail
        refine OnlyN.normal (hK _ _ (hsame.out _ gX) ?_)
        clear hK K
        intro K hK
        go_wp2_with fail
        refine OnlyN.normal (hK _ _ (fun _ => ⟨_, _, _, rfl, rfl, by simp⟩) ?_)
        clear hK K
        intro K hK
        go_wp2_with (at_builtin; refine wpList_appE rfl _ _ 43 67 infoLab rfl Tryd.underlying43 rfl W.heap.size (some ⟨W.heap.size, 0, none⟩) 0 0 [] rfl oL (gX.size) la ln lc s.lbs rfl rL (by unfold maxLen; omega) (by omega) ?_; intro A2 c2 w2 h2)
        have g2 : Grew W w2 := h2.grew gX (head_le hX)
        have hz2 := g2.size
        refine OnlyN.normal (hK _ _ (hsame.out _ g2) ?_)
        clear hK K
        have g23 : Grew w2 (w2.alloc (.cells #[] 49)) := (Chg.refl _ w2).alloc _
        have oP : OE elPt (w2.alloc (.cells #[] 49)) W.heap.size 49 (some ⟨w2.heap.size, 0, none⟩) 0 0 [] := OE.made w2 W.heap.size 49 g2.size
        have rP := hsW.pt.grew (g2.trans g23)
        have gz : W.heap.size ≤ (w2.alloc (.cells #[] 49)).heap.size := (g2.trans g23).size
        have c21 := (hbx.grew g2).cell 1
        intro K hK
        go_wp2_with fail
        refine OnlyN.normal (hK _ _ (hsame.out _ (g2.trans g23)) ?_)
        clear hK K
        have c22 : (w2.alloc (.cells #[] 49)).cell? ⟨w.heap.size, 1, none⟩ = some (.slice pa pn pc) := (hbx.grew (g2.trans g23)).cell 1
        intro K hK
        go_wp2_with fail
        refine OnlyN.normal (hK _ _ (fun _ => ⟨_, _, _, rfl, rfl, by simp⟩) ?_)
        clear hK K
        intro K hK
        go_wp2_with (at_builtin; refine wpList_appE rfl _ _ 44 49 infoPt rfl Tryd.underlying44 rfl W.heap.size (some ⟨w2.heap.size, 0, none⟩) 0 0 [] rfl oP gz pa pn pc s.pts rfl rP (by unfold maxLen; omega) (by omega) ?_; intro A4 c4 w4 h4)
        obtain ⟨hN, g4, gz4⟩ := copy_ab (m := ⟨la, ln, lc, pa, pn, pc⟩) h2 gX (head_le hX) g23 oP h4
        refine OnlyN.normal (hK _ _ (hsame.out _ g4) ?_)
        clear hK K
        have hb4 := hbz.grew g4
        have z0 : w4.cell? ⟨w.heap.size + 1, 0, none⟩ = some (.slice none 0 0) := by rw [hb4.cell]; rfl
        have z1 : w4.cell? ⟨w.heap.size + 1, 1, none⟩ = some (.slice none 0 0) := by rw [hb4.cell]; rfl
        have f0 := hb4.frozen 0
        have f1 := hb4.frozen 1
        have hch : Chg (fun x => x = w.heap.size + 1) w4 ((w4.setCell ⟨w.heap.size + 1, 0, none⟩ (.slice A2 ln c2)).setCell ⟨w.heap.size + 1, 1, none⟩ (.slice A4 pn c4)) := (Chg.one _ _ _ _).setCell (p := ⟨w.heap.size + 1, 1, none⟩) (.inr rfl) _
        have hb5 : Blk ((w4.setCell ⟨w.heap.size + 1, 0, none⟩ (.slice A2 ln c2)).setCell ⟨w.heap.size + 1, 1, none⟩ (.slice A4 pn c4)) (w.heap.size + 1) 46 #[.slice A2 ln c2, .slice A4 pn c4] := by simpa using (hb4.set 0 (.slice A2 ln c2)).set 1 (.slice A4 pn c4)
        have r0 := hb5.cell 0
        have r1 := hb5.cell 1
        have hg5 : Grew w ((w4.setCell ⟨w.heap.size + 1, 0, none⟩ (.slice A2 ln c2)).setCell ⟨w.heap.size + 1, 1, none⟩ (.slice A4 pn c4)) := ((hgW.trans g4).setCell (p := ⟨w.heap.size + 1, 0, none⟩) (.inl (by simp)) _).setCell (p := ⟨w.heap.size + 1, 1, none⟩) (.inl (by simp)) _
        have hN5 : NsE ((w4.setCell ⟨w.heap.size + 1, 0, none⟩ (.slice A2 ln c2)).setCell ⟨w.heap.size + 1, 1, none⟩ (.slice A4 pn c4)) w.heap.size ⟨A2, ln, c2, A4, pn, c4⟩ s := NsE.mono ⟨hN.lb.chg hch (fun ad e => Own.ne_blk hN.lb hb4 (by decide) ad e), hN.pt.chg hch (fun ad e => Own.ne_blk hN.pt hb4 (by decide) ad e)⟩ hszW
        intro K hK
        go_wp2_with fail
        refine OnlyN.normal (hK _ _ (sameIn_of ((Chg.of_grew g4).trans hch) hcs (fun k' hk' e5 => by
          simp only [List.mem_cons, List.not_mem_nil, or_false] at hk'
          omega)) ?_)
        clear hK K
        go_wp2_with fail
        refine OnlyN.normal ?_
        generalize (w4.setCell ⟨w.heap.size + 1, 0, none⟩ (.slice A2 ln c2)).setCell ⟨w.heap.size + 1, 1, none⟩ (.slice A4 pn c4) = w5 at *
        clear hch hb4 z0 z1 f0 f1 g4 hN h4 h2 oL rL rP oP gX g23
        go_wp2
        exact bodyPost_ret (v := .agg #[.slice A2 ln c2, .slice A4 pn c4]) (by simp [results, Tryd.results48, go_sem, r0, r1]) rfl ⟨A2, c2, A4, c4, rfl, hN5, hg5⟩
  · -- both empty slices, labels, points
        have gX : Grew W ((W.drew.alloc (.cells #[] 67)).alloc (.cells #[] 49)) := ((Chg.refl _ W).drew.alloc _).alloc _
        have oL : OE elLb ((W.drew.alloc (.cells #[] 67)).alloc (.cells #[] 49)) W.heap.size 67 (some ⟨W.heap.size, 0, none⟩) 0 0 [] := (OE.made W.drew W.heap.size 67 (Nat.le_refl _)).alloc _
        have oP0 : OE elPt ((W.drew.alloc (.cells #[] 67)).alloc (.cells #[] 49)) W.heap.size 49 (some ⟨W.heap.size + 1, 0, none⟩) 0 0 [] := by
          have := OE.made (E := elPt) (W.drew.alloc (.cells #[] 67)) W.heap.size 49 (by simp)
          rwa [World.size_alloc] at this
        have rL := hsW.lb.grew gX
        have hX : W.heap.size ≤ W.heap.size := Nat.le_refl _
        intro K hK
        go_wp2_with fail
        refine OnlyN.normal (hK _ _ (hsame.out _ ((Chg.refl _ W).drew.alloc _)) ?_)
        clear hK K
        intro K hK
        go_wp2_with fail
        refine OnlyN.normal (hK _ _ (fun _ => ⟨_, _, _, rfl, rfl, by simp⟩) ?_)
        clear hK K
        intro K hK
        go_wp2_with fail
        refine OnlyN.normal (hK _ _ (hsame.out _ gX) ?_)
        clear hK K
        intro K hK
        go_wp2_with (at_builtin; refine wpList_appE rfl _ _ 43 67 infoLab rfl Tryd.underlying43 rfl W.heap.size (some ⟨W.heap.size, 0, none⟩) 0 0 [] rfl oL (gX.size) la ln lc s.lbs rfl rL (by unfold maxLen; omega) (by omega) ?_; intro A2 c2 w2 h2)
        have g2 : Grew W w2 := h2.grew gX (head_le hX)
        have hz2 := g2.size
        refine OnlyN.normal (hK _ _ (hsame.out _ g2) ?_)
        clear hK K
        have g23 : Grew w2 w2 := Chg.refl _ _
        have oP : OE elPt w2 W.heap.size 49 (some ⟨W.heap.size + 1, 0, none⟩) 0 0 [] := oP0.apart oL (by decide) h2.chg
        have rP := hsW.pt.grew g2
        have gz : W.heap.size ≤ w2.heap.size := g2.size
        have c21 := (hbx.grew g2).cell 1
        intro K hK
        go_wp2_with fail
        refine OnlyN.normal (hK _ _ (fun _ => ⟨_, _, _, rfl, rfl, by simp⟩) ?_)
        clear hK K
        intro K hK
        go_wp2_with (at_builtin; refine wpList_appE rfl _ _ 44 49 infoPt rfl Tryd.underlying44 rfl W.heap.size (some ⟨W.heap.size + 1, 0, none⟩) 0 0 [] rfl oP gz pa pn pc s.pts rfl rP (by unfold maxLen; omega) (by omega) ?_; intro A4 c4 w4 h4)
        obtain ⟨hN, g4, gz4⟩ := copy_ab (m := ⟨la, ln, lc, pa, pn, pc⟩) h2 gX (head_le hX) g23 oP h4
        refine OnlyN.normal (hK _ _ (hsame.out _ g4) ?_)
        clear hK K
        have hb4 := hbz.grew g4
        have z0 : w4.cell? ⟨w.heap.size + 1, 0, none⟩ = some (.slice none 0 0) := by rw [hb4.cell]; rfl
        have z1 : w4.cell? ⟨w.heap.size + 1, 1, none⟩ = some (.slice none 0 0) := by rw [hb4.cell]; rfl
        have f0 := hb4.frozen 0
        have f1 := hb4.frozen 1
        have hch : Chg (fun x => x = w.heap.size + 1) w4 ((w4.setCell ⟨w.heap.size + 1, 0, none⟩ (.slice A2 ln c2)).setCell ⟨w.heap.size + 1, 1, none⟩ (.slice A4 pn c4)) := (Chg.one _ _ _ _).setCell (p := ⟨w.heap.size + 1, 1, none⟩) (.inr rfl) _
        have hb5 : Blk ((w4.setCell ⟨w.heap.size + 1, 0, none⟩ (.slice A2 ln c2)).setCell ⟨w.heap.size + 1, 1, none⟩ (.slice A4 pn c4)) (w.heap.size + 1) 46 #[.slice A2 ln c2, .slice A4 pn c4] := by simpa using (hb4.set 0 (.slice A2 ln c2)).set 1 (.slice A4 pn c4)
        have r0 := hb5.cell 0
        have r1 := hb5.cell 1
        have hg5 : Grew w ((w4.setCell ⟨w.heap.size + 1, 0, none⟩ (.slice A2 ln c2)).setCell ⟨w.heap.size + 1, 1, none⟩ (.slice A4 pn c4)) := ((hgW.trans g4).setCell (p := ⟨w.heap.size + 1, 0, none⟩) (.inl (by simp)) _).setCell (p := ⟨w.heap.size + 1, 1, none⟩) (.inl (by simp)) _
        have hN5 : NsE ((w4.setCell ⟨w.heap.size + 1, 0, none⟩ (.slice A2 ln c2)).setCell ⟨w.heap.size + 1, 1, none⟩ (.slice A4 pn c4)) w.heap.size ⟨A2, ln, c2, A4, pn, c4⟩ s := NsE.mono ⟨hN.lb.chg hch (fun ad e => Own.ne_blk hN.lb hb4 (by decide) ad e), hN.pt.chg hch (fun ad e => Own.ne_blk hN.pt hb4 (by decide) ad e)⟩ hszW
        intro K hK
        go_wp2_with fail
        refine OnlyN.normal (hK _ _ (sameIn_of ((Chg.of_grew g4).trans hch) hcs (fun k' hk' e5 => by
          simp only [List.mem_cons, List.not_mem_nil, or_false] at hk'
          omega)) ?_)
        clear hK K
        go_wp2_with fail
        refine OnlyN.normal ?_
        generalize (w4.setCell ⟨w.heap.size + 1, 0, none⟩ (.slice A2 ln c2)).setCell ⟨w.heap.size + 1, 1, none⟩ (.slice A4 pn c4) = w5 at *
        clear hch hb4 z0 z1 f0 f1 g4 hN h4 h2 oL rL rP oP gX g23
        go_wp2
        exact bodyPost_ret (v := .agg #[.slice A2 ln c2, .slice A4 pn c4]) (by simp [results, Tryd.results48, go_sem, r0, r1]) rfl ⟨A2, c2, A4, c4, rfl, hN5, hg5⟩
  · -- points' empty slice, labels' one, labels, points
        have gX : Grew W ((W.drew.alloc (.cells #[] 49)).alloc (.cells #[] 67)) := ((Chg.refl _ W).drew.alloc _).alloc _
        have oP0 : OE elPt ((W.drew.alloc (.cells #[] 49)).alloc (.cells #[] 67)) W.heap.size 49 (some ⟨W.heap.size, 0, none⟩) 0 0 [] := (OE.made W.drew W.heap.size 49 (Nat.le_refl _)).alloc _
        have oL : OE elLb ((W.drew.alloc (.cells #[] 49)).alloc (.cells #[] 67)) W.heap.size 67 (some ⟨W.heap.size + 1, 0, none⟩) 0 0 [] := by
          have := OE.made (E := elLb) (W.drew.alloc (.cells #[] 49)) W.heap.size 67 (by simp)
          rwa [World.size_alloc] at this
        have rL := hsW.lb.grew gX
        have hX : W.heap.size ≤ W.heap.size + 1 := by omega
        intro K hK
        go_wp2_with fail
        refine OnlyN.normal (hK _ _ (hsame.out _ ((Chg.refl _ W).drew.alloc _)) ?_)
        clear hK K
        intro K hK
        go_wp2_with fail
        refine OnlyN.normal (hK _ _ (hsame.out _ gX) ?_)
        clear hK K
        intro K hK
        go_wp2_with fail
        refine OnlyN.normal (hK _ _ (fun _ => ⟨_, _, _, rfl, rfl, by simp⟩) ?_)
        clear hK K
        intro K hK
        go_wp2_with (at_builtin; refine wpList_appE rfl _ _ 43 67 infoLab rfl Tryd.underlying43 rfl W.heap.size (some ⟨W.heap.size + 1, 0, none⟩) 0 0 [] rfl oL (gX.size) la ln lc s.lbs rfl rL (by unfold maxLen; omega) (by omega) ?_; intro A2 c2 w2 h2)
        have g2 : Grew W w2 := h2.grew gX (head_le hX)
        have hz2 := g2.size
        refine OnlyN.normal (hK _ _ (hsame.out _ g2) ?_)
        clear hK K
        have g23 : Grew w2 w2 := Chg.refl _ _
        have oP : OE elPt w2 W.heap.size 49 (some ⟨W.heap.size, 0, none⟩) 0 0 [] := oP0.apart oL (by decide) h2.chg
        have rP := hsW.pt.grew g2
        have gz : W.heap.size ≤ w2.heap.size := g2.size
        have c21 := (hbx.grew g2).cell 1
        intro K hK
        go_wp2_with fail
        refine OnlyN.normal (hK _ _ (fun _ => ⟨_, _, _, rfl, rfl, by simp⟩) ?_)
        clear hK K
        intro K hK
        go_wp2_with (at_builtin; refine wpList_appE rfl _ _ 44 49 infoPt rfl Tryd.underlying44 rfl W.heap.size (some ⟨W.heap.size, 0, none⟩) 0 0 [] rfl oP gz pa pn pc s.pts rfl rP (by unfold maxLen; omega) (by omega) ?_; intro A4 c4 w4 h4)
        obtain ⟨hN, g4, gz4⟩ := copy_ab (m := ⟨la, ln, lc, pa, pn, pc⟩) h2 gX (head_le hX) g23 oP h4
        refine OnlyN.normal (hK _ _ (hsame.out _ g4) ?_)
        clear hK K
        have hb4 := hbz.grew g4
        have z0 : w4.cell? ⟨w.heap.size + 1, 0, none⟩ = some (.slice none 0 0) := by rw [hb4.cell]; rfl
        have z1 : w4.cell? ⟨w.heap.size + 1, 1, none⟩ = some (.slice none 0 0) := by rw [hb4.cell]; rfl
        have f0 := hb4.frozen 0
        have f1 := hb4.frozen 1
        have hch : Chg (fun x => x = w.heap.size + 1) w4 ((w4.setCell ⟨w.heap.size + 1, 0, none⟩ (.slice A2 ln c2)).setCell ⟨w.heap.size + 1, 1, none⟩ (.slice A4 pn c4)) := (Chg.one _ _ _ _).setCell (p := ⟨w.heap.size + 1, 1, none⟩) (.inr rfl) _
        have hb5 : Blk ((w4.setCell ⟨w.heap.size + 1, 0, none⟩ (.slice A2 ln c2)).setCell ⟨w.heap.size + 1, 1, none⟩ (.slice A4 pn c4)) (w.heap.size + 1) 46 #[.slice A2 ln c2, .slice A4 pn c4] := by simpa using (hb4.set 0 (.slice A2 ln c2)).set 1 (.slice A4 pn c4)
        have r0 := hb5.cell 0
        have r1 := hb5.cell 1
        have hg5 : Grew w ((w4.setCell ⟨w.heap.size + 1, 0, none⟩ (.slice A2 ln c2)).setCell ⟨w.heap.size + 1, 1, none⟩ (.slice A4 pn c4)) := ((hgW.trans g4).setCell (p := ⟨w.heap.size + 1, 0, none⟩) (.inl (by simp)) _).setCell (p := ⟨w.heap.size + 1, 1, none⟩) (.inl (by simp)) _
        have hN5 : NsE ((w4.setCell ⟨w.heap.size + 1, 0, none⟩ (.slice A2 ln c2)).setCell ⟨w.heap.size + 1, 1, none⟩ (.slice A4 pn c4)) w.heap.size ⟨A2, ln, c2, A4, pn, c4⟩ s := NsE.mono ⟨hN.lb.chg hch (fun ad e => Own.ne_blk hN.lb hb4 (by decide) ad e), hN.pt.chg hch (fun ad e => Own.ne_blk hN.pt hb4 (by decide) ad e)⟩ hszW
        intro K hK
        go_wp2_with fail
        refine OnlyN.normal (hK _ _ (sameIn_of ((Chg.of_grew g4).trans hch) hcs (fun k' hk' e5 => by
          simp only [List.mem_cons, List.not_mem_nil, or_false] at hk'
          omega)) ?_)
        clear hK K
        go_wp2_with fail
        refine OnlyN.normal ?_
        generalize (w4.setCell ⟨w.heap.size + 1, 0, none⟩ (.slice A2 ln c2)).setCell ⟨w.heap.size + 1, 1, none⟩ (.slice A4 pn c4) = w5 at *
        clear hch hb4 z0 z1 f0 f1 g4 hN h4 h2 oL rL rP oP gX g23
        go_wp2
        exact bodyPost_ret (v := .agg #[.slice A2 ln c2, .slice A4 pn c4]) (by simp [results, Tryd.results48, go_sem, r0, r1]) rfl ⟨A2, c2, A4, c4, rfl, hN5, hg5⟩
end Go.Proofs.YtjgbdkokcgcpjaaDoor
