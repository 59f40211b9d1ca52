/-
  Several texts in one:
  The document's merge of two lists of points. Conditions: none; no program in sight.
  The document's two lists of points as one. Conditions: lengths that memory bears.
  The document's copy of a series, and its two lists of series as one. Conditions: lengths that memory bears.
  The document's two lists of series as one. Conditions: lengths that memory bears.
  The document's Between. Conditions: lengths that memory bears.
  A number without its sign (the law's Low). Conditions: none.
-/
import Derived.Test.YtailooldnelecaaGreatDoorPart38
import Derived.Test.YtailooldnelecaaGreatDoorPart33
import Derived.Test.YtailooldnelecaaGreatDoorPart35
import Derived.Test.YtailooldnelecaaGreatDoorPart37
import Derived.Test.YtailooldnelecaaGreatDoorPart1
import Derived.Test.YtailooldnelecaaGreatDoorRows
import Derived.OpenShut

namespace Go.Proofs.YtailooldnelecaaGreatDoor
open Go.RowKit

/-- two lists of points as one -/
def ptsM : List Ptn → List Ptn → List Ptn
  | [], b => b
  | p :: a, [] => p :: a
  | p :: a, q :: b => if p.1 < q.1 then p :: ptsM a (q :: b) else if q.1 < p.1 then q :: ptsM (p :: a) b else (p.1, max p.2 q.2) :: ptsM a b
termination_by a b => a.length + b.length

theorem lookP_nil (t : Int) : lookP [] t = none := rfl
theorem lookP_over {q : Ptn} {r : List Ptn} {t : Int} (h : Rise (q :: r)) (ht : t < q.1) : lookP (q :: r) t = none := lookP_none fun p hp => by
  rcases List.mem_cons.1 hp with rfl | hp
  · omega
  · have := (List.pairwise_cons.1 h).1 p hp
    omega
theorem ptsM_mem : ∀ (a b : List Ptn) (x : Ptn), x ∈ ptsM a b → ∃ y : Ptn, (y ∈ a ∨ y ∈ b) ∧ y.1 = x.1
  | [], b, x, h => by
    rw [ptsM] at h
    exact ⟨x, .inr h, rfl⟩
  | p :: a, [], x, h => by
    rw [ptsM] at h
    exact ⟨x, .inl h, rfl⟩
  | p :: a, q :: b, x, h => by
    rw [ptsM] at h
    split at h
    · rcases List.mem_cons.1 h with rfl | h
      · exact ⟨x, .inl (by simp), rfl⟩
      · obtain ⟨y, hy, e⟩ := ptsM_mem a (q :: b) x h
        exact ⟨y, hy.imp (List.mem_cons_of_mem _) id, e⟩
    · split at h
      · rcases List.mem_cons.1 h with rfl | h
        · exact ⟨x, .inr (by simp), rfl⟩
        · obtain ⟨y, hy, e⟩ := ptsM_mem (p :: a) b x h
          exact ⟨y, hy.imp id (List.mem_cons_of_mem _), e⟩
      · rcases List.mem_cons.1 h with rfl | h
        · exact ⟨p, .inl (by simp), rfl⟩
        · obtain ⟨y, hy, e⟩ := ptsM_mem a b x h
          exact ⟨y, hy.imp (List.mem_cons_of_mem _) (List.mem_cons_of_mem _), e⟩
termination_by a b => a.length + b.length

theorem ptsM_rise : ∀ (a b : List Ptn), Rise a → Rise b → Rise (ptsM a b)
  | [], b, _, hb => by rw [ptsM]; exact hb
  | p :: a, [], ha, _ => by rw [ptsM]; exact ha
  | p :: a, q :: b, ha, hb => by
    have ha1 := List.pairwise_cons.1 ha
    have hb1 := List.pairwise_cons.1 hb
    rw [ptsM]
    split
    · rename_i h
      refine List.pairwise_cons.2 ⟨fun x hx => ?_, ptsM_rise a (q :: b) ha1.2 hb⟩
      obtain ⟨y, hy, e⟩ := ptsM_mem _ _ x hx
      rcases hy with hy | hy
      · have := ha1.1 y hy
        omega
      · rcases List.mem_cons.1 hy with rfl | hy
        · omega
        · have := hb1.1 y hy
          omega
    · split
      · rename_i h1 h
        refine List.pairwise_cons.2 ⟨fun x hx => ?_, ptsM_rise (p :: a) b ha hb1.2⟩
        obtain ⟨y, hy, e⟩ := ptsM_mem _ _ x hx
        rcases hy with hy | hy
        · rcases List.mem_cons.1 hy with rfl | hy
          · omega
          · have := ha1.1 y hy
            omega
        · have := hb1.1 y hy
          omega
      · rename_i h1 h
        refine List.pairwise_cons.2 ⟨fun x hx => ?_, ptsM_rise a b ha1.2 hb1.2⟩
        obtain ⟨y, hy, e⟩ := ptsM_mem _ _ x hx
        rcases hy with hy | hy
        · have := ha1.1 y hy
          simp only
          omega
        · have := hb1.1 y hy
          simp only
          omega
termination_by a b => a.length + b.length

theorem ptsM_at (t : Int) : ∀ (a b : List Ptn), Rise a → Rise b → lookP (ptsM a b) t = maxO (lookP a t) (lookP b t)
  | [], b, _, _ => by rw [ptsM, lookP_nil]; rfl
  | p :: a, [], _, _ => by rw [ptsM, lookP_nil, maxO_none]
  | p :: a, q :: b, ha, hb => by
    have ha1 := List.pairwise_cons.1 ha
    have hb1 := List.pairwise_cons.1 hb
    rw [ptsM]
    split
    · rename_i h
      rw [lookP_cons, ptsM_at t a (q :: b) ha1.2 hb, lookP_cons p a]
      by_cases hp : p.1 = t
      · rw [if_pos hp, if_pos hp, lookP_over hb (by omega), maxO_none]
      · rw [if_neg hp, if_neg hp]
    · split
      · rename_i h1 h
        rw [lookP_cons, ptsM_at t (p :: a) b ha hb1.2, lookP_cons q b]
        by_cases hp : q.1 = t
        · rw [if_pos hp, if_pos hp, lookP_over ha (by omega)]
          rfl
        · rw [if_neg hp, if_neg hp]
      · rename_i h1 h
        rw [lookP_cons, ptsM_at t a b ha1.2 hb1.2, lookP_cons p a, lookP_cons q b]
        by_cases hp : p.1 = t
        · rw [if_pos hp, if_pos hp, if_pos (by omega)]
          rfl
        · rw [if_neg hp, if_neg hp, if_neg (by omega)]
termination_by a b => a.length + b.length

/-- two lists of series as one -/
def twoM : List Ser → List Ser → List Ser
  | [], b => b
  | s :: a, [] => s :: a
  | s :: a, r :: b => if cmpLs s.lbs r.lbs < 0 then s :: twoM a (r :: b) else if 0 < cmpLs s.lbs r.lbs then r :: twoM (s :: a) b else ⟨s.lbs, ptsM s.pts r.pts⟩ :: twoM a b
termination_by a b => a.length + b.length
theorem twoM_mem : ∀ (a b : List Ser) (x : Ser), x ∈ twoM a b → ∃ y : Ser, (y ∈ a ∨ y ∈ b) ∧ y.lbs = x.lbs
  | [], b, x, h => by
    rw [twoM] at h
    exact ⟨x, .inr h, rfl⟩
  | p :: a, [], x, h => by
    rw [twoM] at h
    exact ⟨x, .inl h, rfl⟩
  | p :: a, q :: b, x, h => by
    rw [twoM] at h
    split at h
    · rcases List.mem_cons.1 h with rfl | h
      · exact ⟨x, .inl (by simp), rfl⟩
      · obtain ⟨y, hy, e⟩ := twoM_mem a (q :: b) x h
        exact ⟨y, hy.imp (List.mem_cons_of_mem _) id, e⟩
    · split at h
      · rcases List.mem_cons.1 h with rfl | h
        · exact ⟨x, .inr (by simp), rfl⟩
        · obtain ⟨y, hy, e⟩ := twoM_mem (p :: a) b x h
          exact ⟨y, hy.imp id (List.mem_cons_of_mem _), e⟩
      · rcases List.mem_cons.1 h with rfl | h
        · exact ⟨p, .inl (by simp), rfl⟩
        · obtain ⟨y, hy, e⟩ := twoM_mem a b x h
          exact ⟨y, hy.imp (List.mem_cons_of_mem _) (List.mem_cons_of_mem _), e⟩
termination_by a b => a.length + b.length

theorem atV_head (s : Ser) (r : List Ser) (L : List Lab) (t : Int) : atV (s :: r) L t = if s.lbs = L then lookP s.pts t else atV r L t := by
  unfold atV lookS
  rw [List.find?_cons]
  by_cases h : s.lbs = L
  · rw [decide_eq_true h, if_pos h]
    rfl
  · rw [decide_eq_false h, if_neg h]
theorem atV_over {r : List Ser} {L : List Lab} (h : ∀ s ∈ r, s.lbs ≠ L) (t : Int) : atV r L t = none := by
  induction r with
  | nil => rfl
  | cons s r ih => rw [atV_head, if_neg (h s (by simp)), ih fun x hx => h x (List.mem_cons_of_mem _ hx)]
theorem Vs.cons_iff {s : Ser} {r : List Ser} : Vs (s :: r) ↔ (∀ x ∈ r, cmpLs s.lbs x.lbs < 0) ∧ Rise s.pts ∧ s.pts ≠ [] ∧ Vs r := by
  constructor
  · intro h
    have h1 := List.pairwise_cons.1 h.sort
    exact ⟨h1.1, h.rise s (by simp), h.some s (by simp), ⟨h1.2, fun x hx => h.rise x (List.mem_cons_of_mem _ hx), fun x hx => h.some x (List.mem_cons_of_mem _ hx)⟩⟩
  · rintro ⟨h1, h2, h3, h4⟩
    exact ⟨List.pairwise_cons.2 ⟨h1, h4.sort⟩, fun x hx => by
      rcases List.mem_cons.1 hx with rfl | hx
      · exact h2
      · exact h4.rise x hx, fun x hx => by
      rcases List.mem_cons.1 hx with rfl | hx
      · exact h3
      · exact h4.some x hx⟩
theorem ptsM_some {a b : List Ptn} (h : a ≠ []) : ptsM a b ≠ [] := by
  cases a with
  | nil => exact absurd rfl h
  | cons p a =>
    cases b with
    | nil => rw [ptsM]; exact h
    | cons q b =>
      rw [ptsM]
      split
      · simp
      · split <;> simp
theorem cmpLs_zero_of {x y : List Lab} (h1 : ¬ cmpLs x y < 0) (h2 : ¬ 0 < cmpLs x y) : x = y := (cmpLs_ok.zero x y).1 (by omega)

theorem twoM_vs : ∀ (a b : List Ser), Vs a → Vs b → Vs (twoM a b)
  | [], b, _, hb => by rw [twoM]; exact hb
  | p :: a, [], ha, _ => by rw [twoM]; exact ha
  | p :: a, q :: b, ha, hb => by
    obtain ⟨a1, a2, a3, a4⟩ := Vs.cons_iff.1 ha
    obtain ⟨b1, b2, b3, b4⟩ := Vs.cons_iff.1 hb
    rw [twoM]
    split
    · rename_i h
      refine Vs.cons_iff.2 ⟨fun x hx => ?_, a2, a3, twoM_vs a (q :: b) a4 hb⟩
      obtain ⟨y, hy, e⟩ := twoM_mem _ _ x hx
      rw [← e]
      rcases hy with hy | hy
      · exact a1 y hy
      · rcases List.mem_cons.1 hy with rfl | hy
        · exact h
        · exact cmpLs_ok.trans _ _ _ h (b1 y hy)
    · split
      · rename_i h1 h
        have h' := (cmpLs_ok.anti q.lbs p.lbs).2 h
        refine Vs.cons_iff.2 ⟨fun x hx => ?_, b2, b3, twoM_vs (p :: a) b ha b4⟩
        obtain ⟨y, hy, e⟩ := twoM_mem _ _ x hx
        rw [← e]
        rcases hy with hy | hy
        · rcases List.mem_cons.1 hy with rfl | hy
          · exact h'
          · exact cmpLs_ok.trans _ _ _ h' (a1 y hy)
        · exact b1 y hy
      · rename_i h1 h
        have he := cmpLs_zero_of h1 h
        refine Vs.cons_iff.2 ⟨fun x hx => ?_, ptsM_rise _ _ a2 b2, ptsM_some a3, twoM_vs a b a4 b4⟩
        obtain ⟨y, hy, e⟩ := twoM_mem _ _ x hx
        rw [← e]
        rcases hy with hy | hy
        · exact a1 y hy
        · show cmpLs p.lbs y.lbs < 0
          rw [he]
          exact b1 y hy
termination_by a b => a.length + b.length

theorem lt_ne {x y : List Lab} (h : cmpLs x y < 0) : x ≠ y := fun e => by
  subst e
  exact cmpLs_ok.irrefl _ h
theorem twoM_at (L : List Lab) (t : Int) : ∀ (a b : List Ser), Vs a → Vs b → atV (twoM a b) L t = maxO (atV a L t) (atV b L t)
  | [], b, _, _ => by rw [twoM, atV_nil]; rfl
  | p :: a, [], _, _ => by rw [twoM, atV_nil, maxO_none]
  | p :: a, q :: b, ha, hb => by
    obtain ⟨a1, a2, a3, a4⟩ := Vs.cons_iff.1 ha
    obtain ⟨b1, b2, b3, b4⟩ := Vs.cons_iff.1 hb
    rw [twoM]
    split
    · rename_i h
      rw [atV_head, twoM_at L t a (q :: b) a4 hb, atV_head p a]
      by_cases hp : p.lbs = L
      · rw [if_pos hp, if_pos hp, atV_over (r := q :: b) (fun x hx => ?_) t, maxO_none]
        rw [← hp]
        rcases List.mem_cons.1 hx with rfl | hx
        · exact (lt_ne h).symm
        · exact (lt_ne (cmpLs_ok.trans _ _ _ h (b1 x hx))).symm
      · rw [if_neg hp, if_neg hp]
    · split
      · rename_i h1 h
        have h' := (cmpLs_ok.anti q.lbs p.lbs).2 h
        rw [atV_head, twoM_at L t (p :: a) b ha b4, atV_head q b]
        by_cases hp : q.lbs = L
        · rw [if_pos hp, if_pos hp, atV_over (r := p :: a) (fun x hx => ?_) t]
          · rfl
          · rw [← hp]
            rcases List.mem_cons.1 hx with rfl | hx
            · exact (lt_ne h').symm
            · exact (lt_ne (cmpLs_ok.trans _ _ _ h' (a1 x hx))).symm
        · rw [if_neg hp, if_neg hp]
      · rename_i h1 h
        have he := cmpLs_zero_of h1 h
        rw [atV_head, twoM_at L t a b a4 b4, atV_head p a, atV_head q b, ← he]
        by_cases hp : p.lbs = L
        · rw [if_pos hp, if_pos hp, if_pos hp]
          exact ptsM_at t _ _ a2 b2
        · rw [if_neg hp, if_neg hp, if_neg hp]
termination_by a b => a.length + b.length
/-- one list after the other -/
theorem twoM_mrg {a b c : List Ser} (ha : Vs a) (hb : Vs b) (hc : Vs c) : Mrg [a, b, c] (twoM (twoM (twoM [] a) b) c) := by
  have e : twoM [] a = a := by rw [twoM]
  rw [e]
  have h1 := twoM_vs a b ha hb
  refine ⟨twoM_vs _ c h1 hc, fun L t => ?_⟩
  rw [twoM_at L t _ c h1 hc, twoM_at L t a b ha hb, maxO_assoc]
  simp only [maxL_cons, maxL_nil, maxO_none]
end Go.Proofs.YtailooldnelecaaGreatDoor

namespace Go.Proofs.YtailooldnelecaaGreatDoor
open Go.RowKit

theorem drop_at {α : Type} {l : List α} {k : Nat} {x : α} (h : l[k]? = some x) : l.drop k = x :: l.drop (k + 1) := by
  obtain ⟨h1, h2⟩ := List.getElem?_eq_some_iff.1 h
  rw [List.drop_eq_getElem_cons h1, h2]
theorem ptsM_r (a : List Ptn) : ptsM a [] = a := by cases a <;> rw [ptsM]
theorem ptsM_l (b : List Ptn) : ptsM [] b = b := by rw [ptsM]
theorem ptsM_lt {p q : Ptn} {a b : List Ptn} (h : p.1 < q.1) : ptsM (p :: a) (q :: b) = p :: ptsM a (q :: b) := by rw [ptsM, if_pos h]
theorem ptsM_gt {p q : Ptn} {a b : List Ptn} (h : q.1 < p.1) : ptsM (p :: a) (q :: b) = q :: ptsM (p :: a) b := by rw [ptsM, if_neg (by omega), if_pos h]
theorem ptsM_eq {p q : Ptn} {a b : List Ptn} (h : p.1 = q.1) : ptsM (p :: a) (q :: b) = (p.1, max p.2 q.2) :: ptsM a b := by rw [ptsM, if_neg (by omega), if_neg (by omega)]
theorem lenN {w : World} {base : Nat} {t : TypeId} {A : Option Addr} {n c : Nat} {l : List Ptn} (h : OE elPt w base t A n c l) : l.length = n := h.len (by decide)

end Go.Proofs.YtailooldnelecaaGreatDoor

namespace Go.Proofs.YtailooldnelecaaGreatDoor
open Go.RowKit

end Go.Proofs.YtailooldnelecaaGreatDoor

namespace Go.Proofs.YtailooldnelecaaGreatDoor
open Go.RowKit

theorem twoM_r (a : List Ser) : twoM a [] = a := by cases a <;> rw [twoM]
theorem twoM_l (b : List Ser) : twoM [] b = b := by rw [twoM]
theorem twoM_lt {p q : Ser} {a b : List Ser} (h : cmpLs p.lbs q.lbs < 0) : twoM (p :: a) (q :: b) = p :: twoM a (q :: b) := by rw [twoM, if_pos h]
theorem twoM_gt {p q : Ser} {a b : List Ser} (h : 0 < cmpLs p.lbs q.lbs) : twoM (p :: a) (q :: b) = q :: twoM (p :: a) b := by rw [twoM, if_neg (by omega), if_pos h]
theorem twoM_eq {p q : Ser} {a b : List Ser} (h : cmpLs p.lbs q.lbs = 0) : twoM (p :: a) (q :: b) = ⟨p.lbs, ptsM p.pts q.pts⟩ :: twoM a b := by rw [twoM, if_neg (by omega), if_neg (by omega)]
theorem push_s {out r l : List Ser} {x : Ser} (h : out ++ x :: r = l) : (out ++ [x]) ++ r = l := by rw [← h]; simp
theorem ptsM_len : ∀ (a b : List Ptn), (ptsM a b).length ≤ a.length + b.length
  | [], b => by rw [ptsM]; simp
  | p :: a, [] => by rw [ptsM]; simp
  | p :: a, q :: b => by
    rw [ptsM]
    split
    · have := ptsM_len a (q :: b)
      simp only [List.length_cons] at *
      omega
    · split
      · have := ptsM_len (p :: a) b
        simp only [List.length_cons] at *
        omega
      · have := ptsM_len a b
        simp only [List.length_cons] at *
        omega
termination_by a b => a.length + b.length
theorem small_at {w : World} {ss : List Ser} {m : SerM} {s : Ser} (h : Small ss) (hs : s ∈ ss) (hi : SrIs w m s) : m.ln ≤ 1048576 ∧ m.pn ≤ 1099511627776 := by
  have hel := h.el s hs
  exact ⟨by rw [← hi.lb.1]; exact hel.1, by rw [← hi.pt.1]; exact hel.2⟩

end Go.Proofs.YtailooldnelecaaGreatDoor

namespace Go.Proofs.YtailooldnelecaaGreatDoor
open Go.RowKit

/-- the series that matchers say yes of, their points of a stretch, none without any -/
def betS (mt : List Mat) (f t : Int) (ss : List Ser) : List Ser := clipS f t (pickS mt ss)
theorem betS_no {mt : List Mat} {f t : Int} {ss : List Ser} {k : Nat} {s : Ser} (h : ss[k]? = some s) (h1 : saysB mt s.lbs = false) : betS mt f t (ss.take (k + 1)) = betS mt f t (ss.take k) := by
  unfold betS
  rw [pickS_no h h1]
theorem betS_yes {mt : List Mat} {f t : Int} {ss : List Ser} {k : Nat} {s : Ser} (h : ss[k]? = some s) (h1 : saysB mt s.lbs = true) : betS mt f t (ss.take (k + 1)) = betS mt f t (ss.take k) ++ if clipP f t s.pts = [] then [] else [⟨s.lbs, clipP f t s.pts⟩] := by
  unfold betS
  rw [pickS_yes h h1, clipS_snoc]
theorem OE.notS {α : Type} {E : El α} {w : World} {base : Nat} {t u : TypeId} {A : Option Addr} {n c g : Nat} {l : List α} {cs : Array Value} (h : OE E w base t A n c l) (hb : Blk w g u cs) (hne : t ≠ u) : ¬ ∃ ad, A = some ad ∧ g = ad.block := fun ⟨ad, e, e2⟩ => Own.ne_blk h hb hne ad e e2.symm

set_option maxRecDepth 100000 in
set_option maxHeartbeats 16000000 in
theorem between8_any (A : Option Addr) (n c : Nat) (ss : List Ser) (M : Option Addr) (mn mc : Nat) (mt : List Mat) (f t : Int) (w : World) (h : RS w A n ss) (hs : Small ss) (hM : RE elMa w M mn mt) (hmn : mn ≤ 9223372036854775807)
    (hmt : ∀ x ∈ mt, x.2.2.size ≤ 16777216) (hlb : ∀ s ∈ ss, ∀ x ∈ s.lbs, x.2.size ≤ 16777216) :
    Calls Tryz.prog 39 #[.slice A n c, .slice M mn mc, .int .i64 f, .int .i64 t] w (NewS w (betS mt f t ss)) := by
  have hln := h.len
  have hn : n ≤ 1073741824 := by rw [← hln]; exact hs.n
  replace hln := Lib.hid hln
  replace hs := Lib.hid hs
  replace hmt := Lib.hid hmt
  replace hlb := Lib.hid hlb
  go_enter Tryz.func39, Tryz.ntmps39
  go_wp2
  go_loopw [9, 10] (fun o i wr => ∃ (k s0 e0 : Nat) (B : Option Addr), k ≤ n ∧ i = .int .i64 (k : Int) ∧ o = .slice B s0 e0 ∧ s0 ≤ k ∧ NS wr w.heap.size B s0 e0 (betS mt f t (ss.take k)) ∧ Grew w wr) (fun _ i _ => n - (intOf i).toNat)
  case atStart => exact ⟨0, 0, 0, none, by omega, rfl, rfl, by omega, NS.nil _ _, Chg.refl _ _⟩
  case round =>
    obtain ⟨k, s0, e0, B, hk, rfl, rfl, hsk, ho, hg⟩ := hrel
    by_cases hlt : k < n
    · obtain ⟨ad, ⟨la, ln, lc, pa, pn, pc⟩, s, rfl, hx, hsi, z0, z1⟩ := h.at_ hlt
      dsimp only at z0 z1
      have hmem := List.mem_of_getElem? hx
      have hel := small_at (m := ⟨la, ln, lc, pa, pn, pc⟩) hs.out hmem hsi
      have hlc := hsi.lc
      have hpc := hsi.pc
      dsimp only at hel hlc hpc
      have hS := says4_any M mn mc mt la ln lc s.lbs wr (hM.grew hg) (hsi.lb.grew hg) hmn (by omega) hmt.out (hlb.out s hmem)
      have hn1 := fun hh => betS_no (f := f) (t := t) hx (mt := mt) hh
      have hy1 := fun hh => betS_yes (f := f) (t := t) hx (mt := mt) hh
      have x0 := hg.cell z0 (fun e => e)
      generalize saysB mt s.lbs = yes at *
      clear hx hmem
      go_wp2_with fail
      refine hS.mono ?_
      rintro e w1 ⟨rfl, hg1⟩
      have hg01 := hg.trans hg1
      have ho1 := ho.grew hg1
      clear hS ho hg hg1 x0
      cases yes
      · have hb := hn1 rfl
        rw [← hb] at ho1
        clear hn1 hy1 hb
        go_wp2
        go_roundw
        case rel => exact ⟨k + 1, s0, e0, B, by omega, by go_num, rfl, by omega, ho1, hg01⟩
        case measure => simp [intOf]; omega
      · have hy := hy1 rfl
        clear hn1 hy1
        generalize hnx : betS mt f t (ss.take (k + 1)) = nxt at *
        replace hnx := Lib.hid hnx
        replace hy := Lib.hid hy
        have x0 := hg01.cell z0 (fun e => e)
        have gX : Grew w1 (w1.alloc (.cells #[] 72)) := (Chg.refl _ w1).alloc _
        have oL : OE elLb (w1.alloc (.cells #[] 72)) w1.heap.size 72 (some ⟨w1.heap.size, 0, none⟩) 0 0 [] := OE.made w1 w1.heap.size 72 (Nat.le_refl _)
        have rL := hsi.lb.grew (hg01.trans gX)
        have x0' := gX.cell x0 (fun e => e)
        go_wp2_with (at_builtin; refine wpList_appE rfl _ _ 28 72 infoLab rfl Tryz.underlying28 rfl w1.heap.size (some ⟨w1.heap.size, 0, none⟩) 0 0 [] rfl oL (gX.size) la ln lc s.lbs rfl rL (by unfold maxLen; omega) (by omega) ?_; intro A2 c2 w2 h2)
        have g2 : Grew w1 w2 := h2.grew gX (head_le (Nat.le_refl _))
        have hX := Blk.new w2 61 #[.slice A2 ln c2, .slice none 0 0]
        have oA := (h2.at0).grew ((Chg.refl _ w2).alloc (.cells #[.slice A2 ln c2, .slice none 0 0] 61))
        have g3 : Grew w1 (w2.alloc (.cells #[.slice A2 ln c2, .slice none 0 0] 61)) := g2.alloc _
        have hgx1 : w1.heap.size ≤ w2.heap.size := g2.size
        have gW : Grew w1 (w2.alloc (.cells #[.slice A2 ln c2, .slice none 0 0] 61)) := g3
        have hgx2 : w2.heap.size < (w2.alloc (.cells #[.slice A2 ln c2, .slice none 0 0] 61)).heap.size := hX.lt
        clear h2 oL rL gX x0 x0' g2 g3
        go_wp2
        go_loopw [12] (fun i wr => ∃ (q sd ed : Nat) (D : Option Addr), q ≤ pn ∧ i = .int .i64 (q : Int) ∧ sd ≤ q ∧ Blk wr w2.heap.size 61 #[.slice A2 ln c2, .slice D sd ed] ∧ OE elLb wr w1.heap.size 72 A2 ln c2 s.lbs ∧ OE elPt wr w1.heap.size 69 D sd ed (clipP f t (s.pts.take q)) ∧ Grew w1 wr) (fun i _ => pn - (intOf i).toNat)
        case atStart => exact ⟨0, 0, 0, none, by omega, rfl, by omega, hX, oA, OE.nil _ _ _, gW⟩
        case round =>
          clear hX oA gW hgx2
          obtain ⟨q, sd, ed, D, hq, rfl, hsd, hX, oA, oP, gW⟩ := hrel
          have hgW := hg01.trans gW
          have x1 := hgW.cell z1 (fun e => e)
          have hgxl := hX.lt
          have hszW := gW.size
          by_cases hql : q < pn
          · have hp1 := hsi.pt
            dsimp only at hp1
            obtain ⟨pd, p, hpa, hp, p0, p1⟩ := (hp1.grew hgW).pt hql
            subst hpa
            have gY : Grew wr (wr.alloc (.cells #[.int .i64 p.1, .int .u64 (p.2 : Int)] 69)) := (Chg.refl _ wr).alloc _
            have hbY : Blk (wr.alloc (.cells #[.int .i64 p.1, .int .u64 (p.2 : Int)] 69)) wr.heap.size 69 #[.int .i64 p.1, .int .u64 (p.2 : Int)] := Blk.new wr _ _
            have b0 := hbY.cell 0
            have b1 := hbY.cell 1
            by_cases h1 : f ≤ p.1
            · have e1 : decide (f ≤ p.1) = true := decide_eq_true h1
              by_cases h2 : p.1 ≤ t
              · have e2 : decide (p.1 ≤ t) = true := decide_eq_true h2
                have hcl := clipP_yes (f := f) (t := t) hp h1 h2
                generalize clipP f t (s.pts.take q) = out at *
                replace hcl := Lib.hid hcl
                have gY2 : Grew wr ((wr.alloc (.cells #[.int .i64 p.1, .int .u64 (p.2 : Int)] 69)).alloc (.cells #[.int .i64 p.1, .int .u64 (p.2 : Int)] 69)) := gY.alloc _
                have xg1 : (wr.alloc (.cells #[.int .i64 p.1, .int .u64 (p.2 : Int)] 69)).cell? ⟨w2.heap.size, 1, none⟩ = some (.slice D sd ed) := (hX.grew gY).cell 1
                have hX2 := hX.grew gY2
                have ho2 := OE.grew oP gY2
                have oA2 := OE.grew oA gY2
                have hgz := gY2.size
                have hsrc : RE elPt ((wr.alloc (.cells #[.int .i64 p.1, .int .u64 (p.2 : Int)] 69)).alloc (.cells #[.int .i64 p.1, .int .u64 (p.2 : Int)] 69)) (some ⟨(wr.alloc (.cells #[.int .i64 p.1, .int .u64 (p.2 : Int)] 69)).heap.size, 0, none⟩) 1 [p] := RE.newAt rfl rfl rfl
                rw [World.size_alloc] at hsrc
                have hc2 := ho2.cap
                clear hp h1 h2
                go_wp2_with (at_builtin; refine wpList_appE rfl _ _ 59 69 infoPt rfl Tryz.underlying59 rfl w1.heap.size D sd ed out rfl ho2 (by simp; omega) _ 1 1 [p] rfl hsrc (by unfold maxLen; omega) (by omega) ?_; intro D2 e2 w3 h3; have hX3 := hX2.chg h3.chg (ho2.notS hX2 (by decide)); have y1 := hX3.cell 1; have f1 := hX3.frozen 1)
                have hch : Chg (fun x => x = w2.heap.size) w3 (w3.setCell ⟨w2.heap.size, 1, none⟩ (.slice D2 (sd + 1) e2)) := Chg.one _ _ _ _
                have hX4 : Blk (w3.setCell ⟨w2.heap.size, 1, none⟩ (.slice D2 (sd + 1) e2)) w2.heap.size 61 #[.slice A2 ln c2, .slice D2 (sd + 1) e2] := by simpa using hX3.set 1 (.slice D2 (sd + 1) e2)
                have oA3 := oA2.apart ho2 (by decide) h3.chg
                have oA4 := OE.chg oA3 hch (fun ad e => Own.ne_blk oA3 hX3 (by decide) ad e)
                have oP4 := OE.chg h3.oe hch (fun ad e => Own.ne_blk h3.oe hX3 (by decide) ad e)
                have gW4 : Grew w1 (w3.setCell ⟨w2.heap.size, 1, none⟩ (.slice D2 (sd + 1) e2)) := (h3.grew (gW.trans gY2) (fun ad e => (Own.blk_lt oP ad e).1)).setCell (p := ⟨w2.heap.size, 1, none⟩) (.inl hgx1) _
                rw [← hcl.out] at oP4
                clear hX hX2 hX3 ho2 oA oA2 oA3 oP gY gY2 h3 y1 f1 hch hbY
                go_roundw
                case rel => exact ⟨q + 1, sd + 1, e2, D2, by omega, by go_num, by omega, hX4, oA4, oP4, gW4⟩
                case measure => simp [intOf]; omega
              · have e2 : decide (p.1 ≤ t) = false := decide_eq_false h2
                have hcl := clipP_no (f := f) (t := t) hp (fun e => h2 e.2)
                rw [← hcl] at oP
                clear hp h1 h2 hcl
                go_wp2
                go_roundw
                case rel => exact ⟨q + 1, sd, ed, D, by omega, by go_num, by omega, hX.grew gY, OE.grew oA gY, OE.grew oP gY, gW.trans gY⟩
                case measure => simp [intOf]; omega
            · have e1 : decide (f ≤ p.1) = false := decide_eq_false h1
              have hcl := clipP_no (f := f) (t := t) hp (fun e => h1 e.1)
              rw [← hcl] at oP
              clear hp h1 hcl
              go_wp2
              go_roundw
              case rel => exact ⟨q + 1, sd, ed, D, by omega, by go_num, by omega, hX.grew gY, OE.grew oA gY, OE.grew oP gY, gW.trans gY⟩
              case measure => simp [intOf]; omega
          · obtain rfl : q = pn := by omega
            have hpl := hsi.pt.1
            dsimp only at hpl
            rw [List.take_of_length_le (by omega)] at oP
            have hlen : (clipP f t s.pts).length = sd := oP.len (by decide)
            generalize clipP f t s.pts = cp at *
            have y0 := hX.cell 0
            have y1 := hX.cell 1
            by_cases hs0 : sd = 0
            · subst hs0
              have hcp : cp = [] := List.eq_nil_of_length_eq_zero hlen
              have hyy := hy.out
              rw [if_pos hcp, List.append_nil] at hyy
              have ho2 := ho1.grew gW
              rw [← hyy] at ho2
              clear hlen hcp hyy hpl
              go_wp2
              go_roundw
              case rel => exact ⟨k + 1, s0, e0, B, by omega, by go_num, rfl, by omega, by rw [hnx.out]; exact ho2, hgW⟩
              case measure => simp [intOf]; omega
            · have hcp : cp ≠ [] := fun e => by rw [e] at hlen; exact hs0 hlen.symm
              have hyy := hy.out
              rw [if_neg hcp] at hyy
              replace hyy := Lib.hid hyy
              have e1 : decide (0 < sd) = true := decide_eq_true (by omega)
              obtain ⟨ms, ho4⟩ := (ho1.grew gW).op
              have hN : NsE wr w1.heap.size ⟨A2, ln, c2, D, sd, ed⟩ ⟨s.lbs, cp⟩ := ⟨oA, oP⟩
              have hszb := hg01.size
              have hszw := hgW.size
              have hc4 := ho4.row.cap
              have hE5 : OE elSr (wr.alloc (.cells #[.slice A2 ln c2, .slice D sd ed] 61)) w.heap.size 61 B s0 e0 ms := ho4.row.grew ((Chg.refl _ wr).alloc _)
              have hsrc : RE elSr (wr.alloc (.cells #[.slice A2 ln c2, .slice D sd ed] 61)) (some ⟨wr.heap.size, 0, none⟩) 1 [⟨A2, ln, c2, D, sd, ed⟩] := RE.newAt rfl rfl rfl
              clear hlen hcp hpl
              go_wp2_with (at_builtin; refine wpList_appE rfl _ _ 36 61 infoSer rfl Tryz.underlying36 rfl w.heap.size B s0 e0 ms rfl hE5 (by simp; omega) _ 1 1 [⟨A2, ln, c2, D, sd, ed⟩] rfl hsrc (by unfold maxLen; omega) (by omega) ?_; intro B2 C2 w5 h5)
              have hNS := (ho4.grew ((Chg.refl _ wr).alloc (.cells #[.slice A2 ln c2, .slice D sd ed] 61))).app ((NsE.mono hN hszb).grew ((Chg.refl _ wr).alloc _)) h5
              have hg5 : Grew w w5 := h5.grew (hgW.alloc _) (fun ad e => (Own.blk_lt ho4.row ad e).1)
              rw [← hyy.out] at hNS
              clear ho4 hE5 hsrc h5 hN hX oA oP
              go_roundw
              case rel => exact ⟨k + 1, s0 + 1, C2, B2, by omega, by go_num, rfl, by omega, by rw [hnx.out]; exact hNS, hg5⟩
              case measure => simp [intOf]; omega
    · obtain rfl : k = n := by omega
      have hl := ho.len
      rw [List.take_of_length_le (by have := hln.out; omega)] at ho hl
      subst hl
      go_wp2
      go_ret
      exact ⟨B, e0, by simp, ho, hg⟩
end Go.Proofs.YtailooldnelecaaGreatDoor

namespace Go.Proofs.YtailooldnelecaaGreatDoor
open Go.RowKit

theorem low_form (x : Int) : ∃ r : Nat, r < 9223372036854775808 ∧ bits .and .i64 x 9223372036854775807 = (r : Int) := by
  refine ⟨(BitVec.ofInt 64 x &&& BitVec.ofInt 64 9223372036854775807).toNat, ?_, ?_⟩
  · rw [BitVec.toNat_and]
    exact Nat.and_lt_two_pow (n := 63) _ (by decide)
  · show IntKind.i64.wrap ((BitVec.ofInt 64 x &&& BitVec.ofInt 64 9223372036854775807).toNat : Int) = _
    have : (BitVec.ofInt 64 x &&& BitVec.ofInt 64 9223372036854775807).toNat < 2 ^ 63 := by
      rw [BitVec.toNat_and]
      exact Nat.and_lt_two_pow (n := 63) _ (by decide)
    rw [IntKind.wrap_i64]
    omega
/-- a number that is not negative; the world as it was -/
def LowPost (w : World) (e : Ending) (w' : World) : Prop := ∃ r : Nat, r ≤ 9223372036854775807 ∧ e = .returned (.int .i64 (r : Int)) ∧ w = w'
end Go.Proofs.YtailooldnelecaaGreatDoor
