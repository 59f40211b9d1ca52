/-
  Several texts in one:
  What 'covers' says, in plain words; clips and picks of lists that may be. Conditions: none; no program in sight.
  The laws SeriesCovers and SeriesApart, walked. Conditions: lengths that memory bears; the longest text that the library takes is as it is set.
-/
import Derived.Test.YtjgbdkokcgcpjaaDoorPart36
import Derived.Test.YtjgbdkokcgcpjaaDoorPart40

namespace Go.Proofs.YtjgbdkokcgcpjaaDoor

theorem holdsP_iff : ∀ (a b : List Ptn), Rise a → Rise b → (holdsP a b = true ↔ ∀ q ∈ b, q ∈ a)
  | a, [], _, _ => by rw [holdsP_nil]; simp
  | [], q :: b, _, _ => by
    rw [holdsP_none]
    exact ⟨fun h => (by cases h), fun h => (by cases h q (by simp))⟩
  | p :: a, q :: b, ha, hb => by
    have ha' := List.pairwise_cons.1 ha
    have hb' := List.pairwise_cons.1 hb
    by_cases h : p.1 < q.1
    · rw [holdsP_lt h, holdsP_iff a (q :: b) ha'.2 hb]
      have hne : ∀ x ∈ q :: b, x ≠ p := fun x hx e => by
        subst e
        rcases List.mem_cons.1 hx with rfl | hx
        · omega
        · have := hb'.1 x hx
          omega
      constructor
      · intro h1 x hx
        exact List.mem_cons_of_mem _ (h1 x hx)
      · intro h1 x hx
        rcases List.mem_cons.1 (h1 x hx) with h2 | h2
        · exact absurd h2 (hne x hx)
        · exact h2
    · rw [holdsP_ge h, Bool.and_eq_true, decide_eq_true_iff, holdsP_iff (p :: a) b ha hb'.2]
      constructor
      · rintro ⟨rfl, h2⟩ x hx
        rcases List.mem_cons.1 hx with rfl | hx
        · simp
        · exact h2 x hx
      · intro h1
        refine ⟨?_, fun x hx => h1 x (by simp [hx])⟩
        rcases List.mem_cons.1 (h1 q (by simp)) with h2 | h2
        · exact h2.symm
        · have := ha'.1 q h2
          omega
termination_by a b => a.length + b.length
/-- each series of b is in a, with all its points -/
def CovP (a b : List Ser) : Prop := ∀ s ∈ b, ∃ s' ∈ a, s'.lbs = s.lbs ∧ ∀ q ∈ s.pts, q ∈ s'.pts
theorem coversS_iff : ∀ (a b : List Ser), Vs a → Vs b → (coversS a b = true ↔ CovP a b)
  | a, [], _, _ => by rw [coversS_nil]; simp [CovP]
  | [], q :: b, _, _ => by
    rw [coversS_none]
    refine ⟨fun h => (by cases h), fun h => ?_⟩
    obtain ⟨s', h1, _⟩ := h q (by simp)
    cases h1
  | p :: a, q :: b, ha, hb => by
    have ha1 := List.pairwise_cons.1 ha.sort
    have hb1 := List.pairwise_cons.1 hb.sort
    have ha' : Vs a := ⟨ha1.2, fun s hs => ha.rise s (by simp [hs]), fun s hs => ha.some s (by simp [hs])⟩
    have hb' : Vs b := ⟨hb1.2, fun s hs => hb.rise s (by simp [hs]), fun s hs => hb.some s (by simp [hs])⟩
    by_cases h : cmpLs p.lbs q.lbs < 0
    · rw [coversS_lt h, coversS_iff a (q :: b) ha' hb]
      have hne : ∀ x ∈ q :: b, p.lbs ≠ x.lbs := fun x hx e => by
        rcases List.mem_cons.1 hx with rfl | hx
        · rw [e] at h
          exact cmpLs_ok.irrefl _ h
        · have := cmpLs_ok.trans _ _ _ h (hb1.1 x hx)
          rw [e] at this
          exact cmpLs_ok.irrefl _ this
      constructor
      · intro h1 x hx
        obtain ⟨s', k1, k2⟩ := h1 x hx
        exact ⟨s', by simp [k1], k2⟩
      · intro h1 x hx
        obtain ⟨s', k1, k2, k3⟩ := h1 x hx
        rcases List.mem_cons.1 k1 with rfl | k1
        · exact absurd k2 (hne x hx)
        · exact ⟨s', k1, k2, k3⟩
    · rw [coversS_ge h, Bool.and_eq_true, Bool.and_eq_true, decide_eq_true_iff, holdsP_iff p.pts q.pts (ha.rise p (by simp)) (hb.rise q (by simp)), coversS_iff (p :: a) b ha hb']
      constructor
      · rintro ⟨h1, h2, h3⟩ x hx
        rcases List.mem_cons.1 hx with rfl | hx
        · exact ⟨p, by simp, (cmpLs_ok.zero _ _).1 h1, h2⟩
        · exact h3 x hx
      · intro h1
        obtain ⟨s', k1, k2, k3⟩ := h1 q (by simp)
        have hp : s' = p := by
          rcases List.mem_cons.1 k1 with h2 | h2
          · exact h2
          · have := ha1.1 s' h2
            rw [k2] at this
            exact absurd this h
        subst hp
        exact ⟨(cmpLs_ok.zero _ _).2 k2, k3, fun x hx => h1 x (by simp [hx])⟩
termination_by a b => a.length + b.length
theorem covB_iff {a b : List Ser} (ha : OkL a) (hb : OkL b) : covB' a b = true ↔ CovP a b := by
  unfold covB'
  rw [okS_iff.2 ha, okS_iff.2 hb, Bool.true_and, Bool.true_and]
  exact coversS_iff a b ha.1 hb.1
theorem covB_no {a b : List Ser} (h : ¬ (OkL a ∧ OkL b)) : covB' a b = false := by
  unfold covB'
  rw [Bool.and_eq_false_iff, Bool.and_eq_false_iff]
  by_cases h1 : OkL a
  · right
    left
    rw [Bool.eq_false_iff]
    exact fun h2 => h ⟨h1, okS_iff.1 h2⟩
  · left
    rw [Bool.eq_false_iff]
    exact fun h2 => h1 (okS_iff.1 h2)
theorem covP_refl (a : List Ser) : CovP a a := fun s hs => ⟨s, hs, rfl, fun _ h => h⟩
theorem covP_nil (a : List Ser) : CovP a [] := fun s hs => by cases hs
theorem vs_uniq {a : List Ser} (h : Vs a) {s s' : Ser} (hs : s ∈ a) (hs' : s' ∈ a) (e : s.lbs = s'.lbs) : s = s' := by
  have h1 := (lookS_mem h.sort).2 ⟨hs, e⟩
  have h2 := (lookS_mem h.sort (L := s'.lbs)).2 ⟨hs', rfl⟩
  rw [h1] at h2
  exact Option.some.inj h2
theorem covP_anti {a b : List Ser} (ha : Vs a) (hb : Vs b) (h : CovP a b) (h' : CovP b a) : a = b := by
  have key : ∀ {a b : List Ser}, Vs a → Vs b → CovP a b → CovP b a → ∀ s ∈ a, s ∈ b := by
    intro a b ha hb h h' s hs
    obtain ⟨s1, k1, k2, k3⟩ := h' s hs
    obtain ⟨s2, q1, q2, q3⟩ := h s1 k1
    have e := vs_uniq ha q1 hs (q2.trans k2)
    subst e
    have hp : s2.pts = s1.pts := sorted_ext (fun p q : Ptn => p.1 < q.1) (fun _ => by omega) (fun _ _ _ h1 h2 => Int.lt_trans h1 h2) (ha.rise _ hs) (hb.rise _ k1) fun x => ⟨k3 x, q3 x⟩
    have : s2 = s1 := by
      cases s2
      cases s1
      simp only at hp k2
      rw [hp, k2]
    rw [this]
    exact k1
  exact sorted_ext (fun x y : Ser => cmpLs x.lbs y.lbs < 0) (fun x => cmpLs_ok.irrefl _) (fun _ _ _ h1 h2 => cmpLs_ok.trans _ _ _ h1 h2) ha.sort hb.sort fun s => ⟨key ha hb h h' s, key hb ha h' h s⟩
theorem both_eq {a b : List Ser} (ha : OkL a) (hb : OkL b) : (covB' a b && covB' b a) = eqB a b := by
  rw [Bool.eq_iff_iff, Bool.and_eq_true, covB_iff ha hb, covB_iff hb ha, eqB_iff]
  constructor
  · rintro ⟨h1, h2⟩
    exact covP_anti ha.1 hb.1 h1 h2
  · rintro rfl
    exact ⟨covP_refl _, covP_refl _⟩

/-! ### clips and picks -/
theorem clipS_mem {f t : Int} {ss : List Ser} {s : Ser} : s ∈ clipS f t ss ↔ ∃ x ∈ ss, s = ⟨x.lbs, clipP f t x.pts⟩ ∧ clipP f t x.pts ≠ [] := by
  induction ss with
  | nil => simp [clipS]
  | cons y r ih =>
    rw [clipS]
    split
    · rename_i h
      rw [ih]
      constructor
      · rintro ⟨x, hx, h1⟩
        exact ⟨x, by simp [hx], h1⟩
      · rintro ⟨x, hx, h1, h2⟩
        rcases List.mem_cons.1 hx with rfl | hx
        · exact absurd h h2
        · exact ⟨x, hx, h1, h2⟩
    · rename_i h
      rw [List.mem_cons, ih]
      constructor
      · rintro (h1 | ⟨x, hx, h1⟩)
        · exact ⟨y, by simp, h1, h⟩
        · exact ⟨x, by simp [hx], h1⟩
      · rintro ⟨x, hx, h1, h2⟩
        rcases List.mem_cons.1 hx with rfl | hx
        · exact .inl h1
        · exact .inr ⟨x, hx, h1, h2⟩
theorem clipS_sort {f t : Int} {ss : List Ser} (h : SortS ss) : SortS (clipS f t ss) := by
  induction ss with
  | nil => exact List.Pairwise.nil
  | cons y r ih =>
    have h1 := List.pairwise_cons.1 h
    rw [clipS]
    split
    · exact ih h1.2
    · refine List.pairwise_cons.2 ⟨fun s hs => ?_, ih h1.2⟩
      obtain ⟨x, hx, rfl, _⟩ := clipS_mem.1 hs
      exact h1.1 x hx
theorem clipS_ok {f t : Int} {ss : List Ser} (h : OkL ss) : OkL (clipS f t ss) := ⟨⟨clipS_sort h.1.sort, fun s hs => by
    obtain ⟨x, hx, rfl, _⟩ := clipS_mem.1 hs
    exact (h.1.rise x hx).filter _, fun s hs => by
    obtain ⟨x, hx, rfl, h2⟩ := clipS_mem.1 hs
    exact h2⟩, fun s hs => by
    obtain ⟨x, hx, rfl, _⟩ := clipS_mem.1 hs
    exact h.2 x hx⟩
theorem clipS_cov {f t : Int} {ss : List Ser} : CovP ss (clipS f t ss) := fun s hs => by
  obtain ⟨x, hx, rfl, _⟩ := clipS_mem.1 hs
  exact ⟨x, hx, rfl, fun q hq => (List.mem_filter.1 hq).1⟩
theorem clipS_tot (f t : Int) (ss : List Ser) : tot (clipS f t ss) ≤ tot ss := by
  induction ss with
  | nil => simp [clipS]
  | cons y r ih =>
    rw [clipS]
    split
    · rw [tot_cons]
      omega
    · rw [tot_cons, tot_cons]
      have : (clipP f t y.pts).length ≤ y.pts.length := List.length_filter_le _ _
      dsimp only
      omega
theorem pickS_ok {ms : List Mat} {ss : List Ser} (h : OkL ss) : OkL (pickS ms ss) := ⟨⟨h.1.sort.filter _, fun s hs => h.1.rise s (List.mem_filter.1 hs).1, fun s hs => h.1.some s (List.mem_filter.1 hs).1⟩, fun s hs => h.2 s (List.mem_filter.1 hs).1⟩
theorem pickS_tot (ms : List Mat) (ss : List Ser) : tot (pickS ms ss) ≤ tot ss := by
  induction ss with
  | nil => simp [pickS]
  | cons y r ih =>
    unfold pickS at ih ⊢
    rw [List.filter_cons]
    split
    · rw [tot_cons, tot_cons]
      omega
    · rw [tot_cons]
      omega
/-- what stands at a place, of a clip and of a pick -/
theorem lookP_clip {f t : Int} {ps : List Ptn} (h : Rise ps) (x : Int) : lookP (clipP f t ps) x = if f ≤ x ∧ x ≤ t then lookP ps x else none := by
  have hc : Rise (clipP f t ps) := h.filter _
  have key : ∀ v, lookP (clipP f t ps) x = some v ↔ (if f ≤ x ∧ x ≤ t then lookP ps x else none) = some v := fun v => by
    rw [lookP_mem hc]
    unfold clipP
    rw [List.mem_filter]
    unfold okP
    rw [Bool.and_eq_true, decide_eq_true_iff, decide_eq_true_iff]
    dsimp only
    split
    · rename_i h1
      rw [lookP_mem h]
      simp [h1]
    · rename_i h1
      simp [h1]
  cases h1 : lookP (clipP f t ps) x with
  | some v => exact ((key v).1 h1).symm
  | none =>
    cases h2 : (if f ≤ x ∧ x ≤ t then lookP ps x else none) with
    | none => rfl
    | some v =>
      have := (key v).2 h2
      rw [h1] at this
      cases this
theorem atV_some {ss : List Ser} (h : Vs ss) {L : List Lab} {t : Int} {v : Nat} : atV ss L t = some v ↔ ∃ s ∈ ss, s.lbs = L ∧ (t, v) ∈ s.pts := by
  unfold atV
  constructor
  · intro h1
    cases h2 : lookS ss L with
    | none => rw [h2] at h1; cases h1
    | some s =>
      rw [h2] at h1
      obtain ⟨h3, h4⟩ := (lookS_mem h.sort).1 h2
      exact ⟨s, h3, h4, (lookP_mem (h.rise s h3)).1 h1⟩
  · rintro ⟨s, h1, h2, h3⟩
    rw [(lookS_mem h.sort).2 ⟨h1, h2⟩]
    exact (lookP_mem (h.rise s h1)).2 h3
theorem opt_ext {a b : Option Nat} (h : ∀ v, a = some v ↔ b = some v) : a = b := by
  cases a with
  | some v => exact ((h v).1 rfl).symm
  | none =>
    cases b with
    | none => rfl
    | some v => have := (h v).2 rfl; cases this
theorem atV_clip {f t : Int} {ss : List Ser} (h : OkL ss) (L : List Lab) (x : Int) : atV (clipS f t ss) L x = if f ≤ x ∧ x ≤ t then atV ss L x else none := opt_ext fun v => by
  rw [atV_some (clipS_ok h).1]
  constructor
  · rintro ⟨s, hs, h1, h2⟩
    obtain ⟨y, hy, rfl, _⟩ := clipS_mem.1 hs
    unfold clipP at h2
    rw [List.mem_filter] at h2
    obtain ⟨h2, h3⟩ := h2
    unfold okP at h3
    rw [Bool.and_eq_true, decide_eq_true_iff, decide_eq_true_iff] at h3
    rw [if_pos h3]
    exact (atV_some h.1).2 ⟨y, hy, h1, h2⟩
  · intro h1
    split at h1
    · rename_i h3
      obtain ⟨y, hy, h4, h5⟩ := (atV_some h.1).1 h1
      have hm : (x, v) ∈ clipP f t y.pts := List.mem_filter.2 ⟨h5, by unfold okP; rw [Bool.and_eq_true, decide_eq_true_iff, decide_eq_true_iff]; exact h3⟩
      exact ⟨⟨y.lbs, clipP f t y.pts⟩, clipS_mem.2 ⟨y, hy, rfl, List.ne_nil_of_mem hm⟩, h4, hm⟩
    · cases h1
theorem atV_pick {ms : List Mat} {ss : List Ser} (h : OkL ss) (L : List Lab) (x : Int) : atV (pickS ms ss) L x = if saysB ms L = true then atV ss L x else none := opt_ext fun v => by
  rw [atV_some (pickS_ok h).1]
  constructor
  · rintro ⟨s, hs, h1, h2⟩
    obtain ⟨h3, h4⟩ := List.mem_filter.1 hs
    rw [h1] at h4
    rw [if_pos h4]
    exact (atV_some h.1).2 ⟨s, h3, h1, h2⟩
  · intro h1
    split at h1
    · rename_i h3
      obtain ⟨y, hy, h4, h5⟩ := (atV_some h.1).1 h1
      exact ⟨y, List.mem_filter.2 ⟨hy, by rw [h4]; exact h3⟩, h4, h5⟩
    · cases h1
/-- clipping and picking a merge is merging the clips and picks -/
theorem apart_eq {a b m : List Ser} {ms : List Mat} {f t : Int} (ha : OkL a) (hb : OkL b) (hm : Mrg [a, b] m) : Mrg [pickS ms (clipS f t a), pickS ms (clipS f t b)] (pickS ms (clipS f t m)) := by
  have hmo : OkL m := hm.ok fun x hx => by
    simp only [List.mem_cons, List.not_mem_nil, or_false] at hx
    rcases hx with rfl | rfl
    · exact ha
    · exact hb
  refine ⟨(pickS_ok (clipS_ok hmo)).1, fun L x => ?_⟩
  have hat := hm.at_ L x
  simp only [maxL_cons, maxL_nil, maxO_none] at hat ⊢
  rw [atV_pick (clipS_ok hmo), atV_pick (clipS_ok ha), atV_pick (clipS_ok hb), atV_clip hmo, atV_clip ha, atV_clip hb, hat]
  split
  · split <;> rfl
  · rfl
end Go.Proofs.YtjgbdkokcgcpjaaDoor

namespace Go.Proofs.YtjgbdkokcgcpjaaDoor
open Go.RowKit

theorem clipM_any {w : World} {A : Option Addr} {n c N : Nat} {ss : List Ser} (f t : Int) (h : InM w A n c ss N) (hN : N ≤ 1073741824) : Calls Tryd.prog 18 #[.slice A n c, .int .i64 f, .int .i64 t] w fun e w' => ∃ B d, e = .returned (.tuple #[.slice B (clipS f t ss).length d, .int .i64 0]) ∧ InM w' B (clipS f t ss).length d (clipS f t ss) N ∧ Grew w w' :=
  (clip_yes A n c ss f t w h.rs (by have := h.cap; omega) h.ok (okL_small h.ok (Nat.le_trans h.len hN) (by have := h.tot; omega))).mono fun e w' ⟨B, d, he, hNS, hg⟩ => ⟨B, d, he, ⟨hNS.rs, hNS.cap, clipS_ok h.ok, Nat.le_trans (clipS_len f t ss) h.len, Nat.le_trans (clipS_tot f t ss) h.tot⟩, hg⟩
theorem coversM {w : World} {A B : Option Addr} {n c m d N M : Nat} {l r : List Ser} (ha : InM w A n c l N) (hb : InM w B m d r M) : Calls Tryd.prog 21 #[.slice A n c, .slice B m d] w fun e w' => e = .returned (.bool (covB' l r)) ∧ Grew w w' :=
  covers_any A B n c m d l r w ha.rs hb.rs ha.cap (by have := hb.cap; omega)

set_option maxRecDepth 100000 in
set_option maxHeartbeats 8000000 in
theorem covers_no2 (A B : Option Addr) (n m cn cm : Nat) (a b : List Ser) (f t : Int) (w : World) (ha : InS w A n cn a) (hb : InS w B m cm b) (hm : MaxL w) (hno : ¬ (OkL a ∧ OkL b)) :
    Calls Tryd.prog 8 #[.slice A n cn, .slice B m cm, .int .i64 f, .int .i64 t] w fun e w' => e = .returned (.bool true) ∧ Grew w w' := by
  have hcv := covB_no hno
  replace hno := Lib.hid hno
  go_enter Tryd.func8, Tryd.ntmps8
  go_wp2_with fail
  refine (copyIn w ha (Chg.refl _ _)).mono ?_
  rintro e w1 ⟨A1, c1, rfl, h1, g1⟩
  go_wp2_with fail
  refine (copyIn w1 hb g1).mono ?_
  rintro e w2 ⟨A2, c2, rfl, h2, g2⟩
  have g02 := g1.trans g2
  go_wp2_with fail
  have hga : Grew w2 (w2.alloc (.cells #[.slice A1 a.length c1, .slice A2 b.length c2] 22)) := (Chg.refl _ _).alloc _
  refine (merge_no _ 2 2 [⟨A1, a.length, c1, a⟩, ⟨A2, b.length, c2, b⟩] _ (RE.newAt rfl rfl rfl) (all2 (((h1.grew g2).ls).grew hga) ((h2.ls).grew hga)) (fun h => hno.out ⟨?_, ?_⟩) (by decide)).mono ?_
  · exact h ⟨A1, a.length, c1, a⟩ (by simp)
  · exact h ⟨A2, b.length, c2, b⟩ (by simp)
  rintro e w4 ⟨rfl, g4⟩
  have g04 := g02.trans (hga.trans g4)
  clear h1 h2 g1 g2 g02 hga g4
  go_wp2_with fail
  refine (copyIn w4 ha g04).mono ?_
  rintro e w5 ⟨A5, c5, rfl, h5, g5⟩
  go_wp2_with fail
  refine (copyIn w5 hb (g04.trans g5)).mono ?_
  rintro e w6 ⟨A6, c6, rfl, h6, g6⟩
  go_wp2_with fail
  refine (covers_any A5 A6 a.length c5 b.length c6 a b w6 (h5.grew g6).rs h6.rs h5.cap (by have := h6.cap; omega)).mono ?_
  rw [hcv]
  rintro e w7 ⟨rfl, g7⟩
  have g07 := ((g04.trans g5).trans g6).trans g7
  go_wp2_with fail
  refine (awake_any w7 (hm.grew g07)).mono ?_
  rintro e w8 ⟨rfl, g8⟩
  go_wp2
  go_ret
  exact ⟨by simp, g07.trans g8⟩

set_option maxRecDepth 100000 in
set_option maxHeartbeats 16000000 in
theorem covers_yes2 (A B : Option Addr) (n m cn cm : Nat) (a b : List Ser) (f t : Int) (w : World) (ha : InM w A n cn a 4194304) (hb : InM w B m cm b 4194304) (hm : MaxL w) :
    Calls Tryd.prog 8 #[.slice A n cn, .slice B m cm, .int .i64 f, .int .i64 t] w fun e w' => e = .returned (.bool true) ∧ Grew w w' := by
  have hboth := Lib.hid (both_eq ha.ok hb.ok)
  go_enter Tryd.func8, Tryd.ntmps8
  go_wp2_with fail
  refine (copyM ha (by decide)).mono ?_
  rintro e w1 ⟨A1, c1, rfl, h1, g1⟩
  go_wp2_with fail
  refine (copyM (hb.grew g1) (by decide)).mono ?_
  rintro e w2 ⟨A2, c2, rfl, h2, g2⟩
  go_wp2_with fail
  refine (mg2 rfl (h1.grew g2) h2 (by decide)).mono ?_
  rintro e w3 ⟨AM, cM, mm, rfl, hM, hMm, g3⟩
  have g03 := (g1.trans g2).trans (((Chg.refl _ w2).alloc _).trans g3)
  clear h1 h2 g1 g2 g3
  go_wp2_with fail
  refine (copyM hM (by decide)).mono ?_
  rintro e w4 ⟨A4, c4, rfl, h4, g4⟩
  go_wp2_with fail
  refine (clipM_any f t h4 (by decide)).mono ?_
  rintro e w5 ⟨AC, cC, rfl, hC, g5⟩
  have hclen := Lib.hid (covB_iff hM.ok hC.ok)
  have hcm := (covB_iff hM.ok hC.ok).2 clipS_cov
  have hmm := (covB_iff hM.ok hM.ok).2 (covP_refl _)
  have hmn := (covB_iff hM.ok (b := []) ⟨Vs.nil, fun s hs => by cases hs⟩).2 (covP_nil _)
  generalize clipS f t mm = cl at *
  have g05 := (g03.trans g4).trans g5
  have hM5 := hM.grew (g4.trans g5)
  clear h4 g4 g5 hM g03 hclen
  -- a and b cover each other?
  go_wp2_with fail
  refine (copyM (ha.grew g05) (by decide)).mono ?_
  rintro e w6 ⟨B1, d1, rfl, h1, g1⟩
  go_wp2_with fail
  refine (copyM (hb.grew (g05.trans g1)) (by decide)).mono ?_
  rintro e w7 ⟨B2, d2, rfl, h2, g2⟩
  go_wp2_with fail
  refine (coversM (h1.grew g2) h2).mono ?_
  rintro e w8 ⟨rfl, g3⟩
  have g08 := ((g05.trans g1).trans g2).trans g3
  have g58 := (g1.trans g2).trans g3
  have hM8 := hM5.grew g58
  have hC8 := hC.grew g58
  clear h1 h2 g1 g2 g3 g58 hM5 hC
  generalize hz1 : covB' a b = z1 at *
  cases z1
  · rw [Bool.false_and] at hboth
    replace hz1 := Lib.hid hz1
    go_wp2_with fail
    refine (copyM hM8 (by decide)).mono ?_
    rintro e v1 ⟨D1, e1, rfl, q1, k1⟩
    go_wp2_with fail
    refine (copyM (hM8.grew k1) (by decide)).mono ?_
    rintro e v2 ⟨D2, e2, rfl, q2, k2⟩
    go_wp2_with fail
    refine (coversM (q1.grew k2) q2).mono ?_
    rw [hmm]
    rintro e v3 ⟨rfl, k3⟩
    have k03 := (k1.trans k2).trans k3
    clear q1 q2 k1 k2 k3
    go_wp2_with fail
    refine (coversM (hM8.grew k03) (hC8.grew k03)).mono ?_
    rw [hcm]
    rintro e v4 ⟨rfl, k4⟩
    have k04 := k03.trans k4
    go_wp2_with fail
    refine (covers_any _ none _ _ 0 0 mm [] v4 (hM8.grew k04).rs (RS.nil _ _) (hM8.grew k04).cap (by decide)).mono ?_
    rw [hmn]
    rintro e v5 ⟨rfl, k5⟩
    have k05 := k04.trans k5
    have g0v := g08.trans k05
    go_wp2_with fail
    refine (sameM (ha.grew g0v) (hb.grew g0v)).mono ?_
    rw [← hboth.out]
    rintro e v6 ⟨rfl, k6⟩
    have g06 := g0v.trans k6
    go_wp2_with fail
    refine (awake_any v6 (hm.grew g06)).mono ?_
    rintro e v7 ⟨rfl, k7⟩
    go_wp2
    go_ret
    exact ⟨by simp, g06.trans k7⟩
  · rw [Bool.true_and] at hboth
    replace hz1 := Lib.hid hz1
    go_wp2_with fail
    refine (copyM (hb.grew g08) (by decide)).mono ?_
    rintro e w9 ⟨B1, d1, rfl, h1, g1⟩
    go_wp2_with fail
    refine (copyM (ha.grew (g08.trans g1)) (by decide)).mono ?_
    rintro e w10 ⟨B2, d2, rfl, h2, g2⟩
    go_wp2_with fail
    refine (coversM (h1.grew g2) h2).mono ?_
    rintro e w11 ⟨rfl, g3⟩
    have g011 := ((g08.trans g1).trans g2).trans g3
    have g811 := (g1.trans g2).trans g3
    have hM11 := hM8.grew g811
    have hC11 := hC8.grew g811
    clear h1 h2 g1 g2 g3 g811 hM8 hC8
    generalize hz2 : covB' b a = z2 at *
    cases z2
    all_goals
      replace hz2 := Lib.hid hz2
      go_wp2_with fail
      refine (copyM hM11 (by decide)).mono ?_
      rintro e v1 ⟨D1, e1, rfl, q1, k1⟩
      go_wp2_with fail
      refine (copyM (hM11.grew k1) (by decide)).mono ?_
      rintro e v2 ⟨D2, e2, rfl, q2, k2⟩
      go_wp2_with fail
      refine (coversM (q1.grew k2) q2).mono ?_
      rw [hmm]
      rintro e v3 ⟨rfl, k3⟩
      have k03 := (k1.trans k2).trans k3
      clear q1 q2 k1 k2 k3
      go_wp2_with fail
      refine (coversM (hM11.grew k03) (hC11.grew k03)).mono ?_
      rw [hcm]
      rintro e v4 ⟨rfl, k4⟩
      have k04 := k03.trans k4
      go_wp2_with fail
      refine (covers_any _ none _ _ 0 0 mm [] v4 (hM11.grew k04).rs (RS.nil _ _) (hM11.grew k04).cap (by decide)).mono ?_
      rw [hmn]
      rintro e v5 ⟨rfl, k5⟩
      have k05 := k04.trans k5
      have g0v := g011.trans k05
      go_wp2_with fail
      refine (sameM (ha.grew g0v) (hb.grew g0v)).mono ?_
      rw [← hboth.out]
      rintro e v6 ⟨rfl, k6⟩
      have g06 := g0v.trans k6
      go_wp2_with fail
      refine (awake_any v6 (hm.grew g06)).mono ?_
      rintro e v7 ⟨rfl, k7⟩
      go_wp2
      go_ret
      exact ⟨by simp, g06.trans k7⟩
theorem walk_seriesCovers (A : Option Addr) (n cn : Nat) (a : List Ser) (B : Option Addr) (m cm : Nat) (b : List Ser) (f t : Int) (w : World) (ha : InS w A n cn a) (hb : InS w B m cm b) (_ : (Lit.int .i64 f).wf = true) (_ : (Lit.int .i64 t).wf = true) (hm : MaxL w) :
    Calls Tryd.prog 8 #[.slice A n cn, .slice B m cm, .int .i64 f, .int .i64 t] w fun e w' => e = .returned (.bool true) ∧ Grew w w' := by
  by_cases h : OkL a ∧ OkL b
  · exact covers_yes2 A B n m cn cm a b f t w (ha.m h.1) (hb.m h.2) hm
  · exact covers_no2 A B n m cn cm a b f t w ha hb hm h
end Go.Proofs.YtjgbdkokcgcpjaaDoor
