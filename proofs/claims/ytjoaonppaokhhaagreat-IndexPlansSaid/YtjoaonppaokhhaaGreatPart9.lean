/-
  Several texts in one:
  A region whose order is drawn and in which some operations that act may change places: walked once for each order of those that act. Conditions: a check of the region that the kernel runs; no program in sight.
-/
import Derived.Test.YtjoaonppaokhhaaGreatPart8

namespace Go.Proofs.YtjoaonppaokhhaaGreat

section
variable {P : Program} {Q : Exit → Act → World → Prop} {tys : List (Nat × Nat)} {S : World → Prop} {l : List Oper}

def actB (P : Program) (tys : List (Nat × Nat)) (l : List Oper) (i : Nat) : Bool := match l[i]? with
  | some o => decide (2 ≤ kindB P tys o)
  | none => false
/-- j stands before i -/
def okB (P : Program) (tys : List (Nat × Nat)) (l : List Oper) (tab : Array Nat) (j i : Nat) : Bool :=
  ((tab.getD i 0).testBit j || (actB P tys l j && actB P tys l i) || match l[j]?, l[i]? with
    | some oj, some oi => pairT P tys l.toArray oj oi
    | _, _ => false) && match l[j]? with
    | some oj => oj.after.all fun e => !Region.binds .any e || decide (e.on ≠ i)
    | none => false
def pwB (f : Nat → Nat → Bool) : List Nat → Bool
  | [] => true
  | x :: r => (r.all fun y => f x y) && pwB f r
theorem pwB_spec {f : Nat → Nat → Bool} : ∀ {r : List Nat}, pwB f r = true → r.Pairwise fun x y => f x y = true
  | [], _ => List.Pairwise.nil
  | x :: r, h => by
    simp only [pwB, Bool.and_eq_true] at h
    exact List.Pairwise.cons (fun y hy => List.all_eq_true.1 h.1 y hy) (pwB_spec h.2)
def stepR (i : Nat) (r : List Nat) : Option (List Nat) := if r.head? = some i then some r.tail else none
/-- each order of those that act is among rs -/
def covB (n : Nat) (tab : Array Nat) : Nat → List (List Nat) → Bool
  | 0, rs => !rs.isEmpty
  | f + 1, rs => !rs.isEmpty && (List.range n).all fun i => !(rs.all fun r => r.contains i) || (rs.any fun r => r.any fun j => decide (j ≠ i) && (tab.getD i 0).testBit j) || (decide ((rs.filterMap (stepR i)).length ≤ 1) && covB n tab f (rs.filterMap (stepR i)))
theorem fm_congr {α β : Type} {f g : α → Option β} : ∀ {l : List α}, (∀ x ∈ l, f x = g x) → l.filterMap f = l.filterMap g
  | [], _ => rfl
  | x :: l, h => by rw [List.filterMap_cons, List.filterMap_cons, h x (by simp), fm_congr fun y hy => h y (by simp [hy])]
theorem covB_ne {n : Nat} {tab : Array Nat} {f : Nat} {rs : List (List Nat)} (h : covB n tab f rs = true) : rs ≠ [] := by
  rintro rfl
  cases f <;> simp [covB] at h
def permB (n : Nat) (t : List Nat) : Bool := decide (t.length = n) && ((List.range n).all fun i => t.contains i) && t.all (fun i => decide (i < n)) && decide t.Nodup
def edgeB : Nat → List Oper → Bool
  | _, [] => true
  | i, o :: l => (o.after.all fun e => !Region.binds .any e || decide (e.on < i)) && edgeB (i + 1) l
theorem edgeB_spec : ∀ (l : List Oper) (k : Nat), edgeB k l = true → ∀ i o, l[i]? = some o → ∀ e ∈ o.after, Region.binds .any e = true → e.on < k + i
  | [], k, _, i, o, h => by simp at h
  | o :: l, k, h, i, o', ho => by
    simp only [edgeB, Bool.and_eq_true] at h
    cases i with
    | zero =>
      simp at ho
      subst ho
      intro e he hb
      have := Array.all_eq_true_iff_forall_mem.1 h.1 e he
      simpa [hb] using this
    | succ i =>
      have := edgeB_spec l (k + 1) h.2 i o' (by simpa using ho)
      rwa [show k + 1 + i = k + (i + 1) by omega] at this
def textsB (P : Program) (tys : List (Nat × Nat)) (l : List Oper) (ts : List (List Nat)) : Bool :=
  Region.noSelect l.toArray && edgeB 0 l && (l.all fun o => kindB P tys o == tagOf tys o) && (ts.all fun t => permB l.length t && pwB (okB P tys l (ancTab l #[])) t) && covB l.length (ancTab l #[]) l.length (ts.map (·.filter (actB P tys l)))

def opsOf (l : List Oper) (r : List Nat) : List Oper := r.filterMap (l.toArray[·]?)

/-- what holds on the way -/
structure Fam (P : Program) (Q : Exit → Act → World → Prop) (tys : List (Nat × Nat)) (S : World → Prop) (l : List Oper) (listed : Array Bool) (rs : List (List Nat)) (a : Act) (w : World) : Prop where
  mem : ∀ r ∈ rs, ∀ i, i ∈ r ↔ i ∈ rem l.length listed
  nodup : ∀ r ∈ rs, r.Nodup
  pw : ∀ r ∈ rs, r.Pairwise fun j i => okB P tys l (ancTab l #[]) j i = true
  cov : ∃ f, covB l.length (ancTab l #[]) f (rs.map (·.filter (actB P tys l))) = true ∧ ∀ r ∈ rs, (r.filter (actB P tys l)).length ≤ f
  wp : ∀ r ∈ rs, wpT P l.toArray Q tys S (opsOf l r) a w
  here : S w

theorem any_of_texts (hno : Region.noSelect l.toArray = true) (hed : edgeB 0 l = true) : ∀ (fuel : Nat) (listed : Array Bool) (rs : List (List Nat)) (a : Act) (w : World), listed.size = l.length → Closed l.toArray listed → (rem l.length listed).length ≤ fuel →
    Fam P Q tys S l listed rs a w → wpAny P .any l.toArray (OnlyN Q) fuel listed a w := by
  have hedg := edgeB_spec l 0 hed
  simp only [Nat.zero_add] at hedg
  have hsel := Region.noSelect_spec hno
  have hselm : ∀ o : Oper, o ∈ l.toArray → ∀ cs b, o.op ≠ .select cs b := fun o ho cs b => by
    obtain ⟨i, hi, rfl⟩ := Array.mem_iff_getElem.1 ho
    exact hsel i _ cs b (Array.getElem?_eq_getElem hi)
  obtain ⟨hgood, hsz⟩ := ancTab_good (ops := l.toArray) l #[] (fun j => by simp) (fun i hi => by simp at hi)
  simp only [List.size_toArray, List.length_nil, Nat.zero_add] at hsz
  have ready_rem : ∀ {listed : Array Bool} {i : Nat}, i ∈ Region.ready .any l.toArray listed → i ∈ rem l.length listed := fun {listed i} h => by
    obtain ⟨h0, o, ho, _⟩ := mem_ready.1 h
    exact mem_rem.2 ⟨by simpa using (Array.getElem?_eq_some_iff.1 ho).1, h0⟩
  intro fuel
  induction fuel with
  | zero =>
    intro listed rs a w _ _ hlen F
    have h0 : rem l.length listed = [] := List.eq_nil_of_length_eq_zero (by omega)
    obtain ⟨f, hc, _⟩ := F.cov
    obtain ⟨r, hr⟩ := List.exists_mem_of_ne_nil rs (fun e => covB_ne hc (by rw [e]; rfl))
    have hr0 : r = [] := List.eq_nil_iff_forall_not_mem.2 fun i hi => by have := (F.mem r hr i).1 hi; rw [h0] at this; cases this
    subst hr0
    refine ⟨?_, F.wp [] hr⟩
    cases hx : Region.ready .any l.toArray listed with
    | nil => rfl
    | cons x xs =>
      have : x ∈ rem l.length listed := ready_rem (by rw [hx]; simp)
      rw [h0] at this
      cases this
  | succ fuel ih =>
    intro listed rs a w hls hcl hlen F
    obtain ⟨f, hc, hf⟩ := F.cov
    obtain ⟨r0, hr0⟩ := List.exists_mem_of_ne_nil rs (fun e => covB_ne hc (by rw [e]; rfl))
    refine ⟨fun hr => ?_, fun i hi => ?_⟩
    · cases hx : r0 with
      | nil => subst hx; exact F.wp [] hr0
      | cons i0 rest =>
        subst hx
        have hm := (F.mem _ hr0 i0).1 (by simp)
        obtain ⟨hlt, hun⟩ := mem_rem.1 hm
        have ho : l.toArray[i0]? = some l[i0] := by simp [hlt]
        have : i0 ∈ Region.ready .any l.toArray listed := mem_ready.2 ⟨hun, _, ho, fun e hee hb => by
          cases hv : listed.getD e.on false with
          | true => rfl
          | false =>
            exfalso
            have hp := List.pairwise_cons.1 (F.pw _ hr0)
            have h1 := hedg i0 _ (by simp [hlt]) e hee hb
            have hm2 : e.on ∈ rem l.length listed := mem_rem.2 ⟨by omega, getD_in (by omega) hv⟩
            have hm3 := (F.mem _ hr0 e.on).2 hm2
            rcases List.mem_cons.1 hm3 with e1 | e1
            · omega
            · have h5 := hp.1 _ e1
              simp only [okB, Bool.and_eq_true] at h5
              have h6 := h5.2
              rw [show l[i0]? = some l[i0] from by simp [hlt]] at h6
              have h7 := Array.all_eq_true_iff_forall_mem.1 h6 e hee
              simp [hb] at h7⟩
        rw [hr] at this
        cases this
    · have hir := ready_rem hi
      obtain ⟨hun, oi, hoi, hall⟩ := mem_ready.1 hi
      have hil : l[i]? = some oi := by simpa using hoi
      have hit : i < l.length := (List.getElem?_eq_some_iff.1 hil).1
      have hnanc : ∀ j ∈ rem l.length listed, ((ancTab l #[]).getD i 0).testBit j = false := fun j hj => by
        cases hb : ((ancTab l #[]).getD i 0).testBit j with
        | false => rfl
        | true =>
          have := anc_listed hgood hcl i oi (by omega) hoi (fun e hee => hall e (by simpa using hee)) hb
          rw [getD_both (mem_rem.1 hj).2] at this
          cases this
      have hcl' : Closed l.toArray (listed.setIfInBounds i true) := fun k ok hok hk e hee hb => by
        by_cases hik : i = k
        · subst hik
          obtain rfl : ok = oi := Option.some.inj (hok.symm.trans hoi)
          exact getD_set_true (hall e (by simpa using hee) hb)
        · rw [getD_set_ne false hik] at hk
          exact getD_set_true (hcl k ok hok hk e hee hb)
      have hrem : ∀ k, k ∈ rem l.length (listed.setIfInBounds i true) ↔ k ∈ rem l.length listed ∧ k ≠ i := fun k => by
        rw [mem_rem, mem_rem]
        by_cases hik : i = k
        · subst hik
          have hsz2 : i < listed.size := by omega
          simp [hsz2]
        · rw [getD_set_ne true hik]
          exact ⟨fun h => ⟨h, fun e => hik e.symm⟩, fun h => h.1⟩
      have hlen2 : (rem l.length (listed.setIfInBounds i true)).length ≤ fuel := by
        obtain ⟨l1, l2, he⟩ := List.append_of_mem hir
        rw [rem_set he]
        rw [he] at hlen
        simp at hlen ⊢
        omega
      -- one text, with i taken to its front
      have one : ∀ r ∈ rs, (actB P tys l i = true → (r.filter (actB P tys l)).head? = some i) → ∃ A B, r = A ++ i :: B ∧ r.erase i = A ++ B ∧ (actB P tys l i = true → A.filter (actB P tys l) = []) ∧ OkT P tys S l.toArray oi a ∧
          Stp P l.toArray Q oi (fun a' w' => S w' ∧ wpT P l.toArray Q tys S (opsOf l (A ++ B)) a' w') a w := fun r hr hact => by
        obtain ⟨A, B, rfl⟩ := List.append_of_mem ((F.mem r hr i).2 hir)
        have hnd := F.nodup _ hr
        have hiA : i ∉ A := fun h => by
          rw [List.nodup_append] at hnd
          exact hnd.2.2 i h i (by simp) rfl
        have hA0 : actB P tys l i = true → A.filter (actB P tys l) = [] := fun h => by
          have h2 := hact h
          rw [List.filter_append] at h2
          cases hx : A.filter (actB P tys l) with
          | nil => rfl
          | cons y ys =>
            rw [hx] at h2
            simp at h2
            have hy : y ∈ A.filter (actB P tys l) := by rw [hx]; simp
            rw [h2] at hy
            exact (hiA (List.mem_filter.1 hy).1).elim
        refine ⟨A, B, rfl, by rw [List.erase_append_right _ hiA]; simp, hA0, ?_⟩
        have hwp := F.wp _ hr
        have e1 : opsOf l (A ++ i :: B) = opsOf l A ++ oi :: opsOf l B := by
          unfold opsOf
          rw [List.filterMap_append, List.filterMap_cons_some hoi]
        rw [e1] at hwp
        have hfr := wpT.front hselm oi (Array.mem_of_getElem? hoi) (opsOf l B) (opsOf l A) a w F.here (fun oj hoj => by
          obtain ⟨j, hj, hjo⟩ := List.mem_filterMap.1 hoj
          have hjl : l[j]? = some oj := by simpa using hjo
          refine ⟨Array.mem_of_getElem? hjo, ?_⟩
          have hpw := F.pw _ hr
          rw [List.pairwise_append] at hpw
          have h5 := hpw.2.2 j hj i (by simp)
          simp only [okB, Bool.and_eq_true, Bool.or_eq_true] at h5
          have hjr : j ∈ rem l.length listed := (F.mem _ hr j).1 (by simp [hj])
          rcases h5.1 with (h6 | h6) | h6
          · rw [hnanc j hjr] at h6; cases h6
          · have := hA0 h6.2
            have hjf : j ∈ A.filter (actB P tys l) := List.mem_filter.2 ⟨hj, h6.1⟩
            rw [this] at hjf
            cases hjf
          · rw [hjl, hil] at h6
            simp only [pairT, Bool.and_eq_true, Bool.or_eq_true, decide_eq_true_eq] at h6
            exact ⟨h6.2, h6.1⟩) hwp
        refine ⟨hfr.1, hfr.2.mono fun a' w' ⟨h1, h2⟩ => ⟨h1, ?_⟩⟩
        unfold opsOf
        rw [List.filterMap_append]
        exact h2
      -- the family behind i
      obtain ⟨rs', hne', hsub, hsing, hcov'⟩ : ∃ rs' : List (List Nat), rs' ≠ [] ∧ (∀ r' ∈ rs', ∃ r ∈ rs, r' = r.erase i ∧ (actB P tys l i = true → (r.filter (actB P tys l)).head? = some i)) ∧ (actB P tys l i = true → rs'.length ≤ 1) ∧
          ∃ f', covB l.length (ancTab l #[]) f' (rs'.map (·.filter (actB P tys l))) = true ∧ ∀ r' ∈ rs', (r'.filter (actB P tys l)).length ≤ f' := by
        cases hai : actB P tys l i with
        | false =>
          have hfe : ∀ r ∈ rs, (r.erase i).filter (actB P tys l) = r.filter (actB P tys l) := fun r hr => by
            obtain ⟨A, B, rfl⟩ := List.append_of_mem ((F.mem r hr i).2 hir)
            have hnd := F.nodup _ hr
            have hiA : i ∉ A := fun h => by
              rw [List.nodup_append] at hnd
              exact hnd.2.2 i h i (by simp) rfl
            rw [List.erase_append_right _ hiA, List.erase_cons_head, List.filter_append, List.filter_append, List.filter_cons, hai]
            simp
          refine ⟨List.map (fun r : List Nat => r.erase i) rs, (by intro e; rw [List.map_eq_nil_iff] at e; rw [e] at hr0; cases hr0), fun r' hr' => ?_, (fun h => by cases h), f, ?_, fun r' hr' => ?_⟩
          · obtain ⟨r, hr, rfl⟩ := List.mem_map.1 hr'
            exact ⟨r, hr, rfl, fun h => by cases h⟩
          · have e2 : (List.map (fun r : List Nat => r.erase i) rs).map (fun r => r.filter (actB P tys l)) = rs.map (fun r => r.filter (actB P tys l)) := by
              rw [List.map_map]
              exact List.map_congr_left fun r hr => hfe r hr
            rw [e2]
            exact hc
          · obtain ⟨r, hr, rfl⟩ := List.mem_map.1 hr'
            rw [hfe r hr]
            exact hf r hr
        | true =>
          have hmemf : ∀ r ∈ rs, i ∈ r.filter (actB P tys l) := fun r hr => List.mem_filter.2 ⟨(F.mem r hr i).2 hir, hai⟩
          cases f with
          | zero =>
            have := hf r0 hr0
            have h2 := hmemf r0 hr0
            rw [List.eq_nil_of_length_eq_zero (Nat.le_zero.1 this)] at h2
            cases h2
          | succ f =>
            simp only [covB, Bool.and_eq_true] at hc
            have h3 := List.all_eq_true.1 hc.2 i (List.mem_range.2 hit)
            have h4 : ((rs.map (·.filter (actB P tys l))).all fun r => r.contains i) = true := List.all_eq_true.2 fun x hx => by
              obtain ⟨r, hr, rfl⟩ := List.mem_map.1 hx
              exact List.contains_iff_mem.2 (hmemf r hr)
            have h5 : ((rs.map (·.filter (actB P tys l))).any fun r => r.any fun j => decide (j ≠ i) && ((ancTab l #[]).getD i 0).testBit j) = false := by
              rw [List.any_eq_false]
              intro x hx
              obtain ⟨r, hr, rfl⟩ := List.mem_map.1 hx
              rw [Bool.not_eq_true, List.any_eq_false]
              intro j hj
              rw [hnanc j ((F.mem r hr j).1 (List.mem_filter.1 hj).1)]
              simp
            rw [h4, h5] at h3
            simp only [Bool.not_true, Bool.or_self, Bool.false_or, Bool.and_eq_true, decide_eq_true_eq] at h3
            obtain ⟨h30, h3⟩ := h3
            obtain ⟨pick, hpick⟩ : ∃ pick : List Nat → Option (List Nat), pick = fun r => if (r.filter (actB P tys l)).head? = some i then some (r.erase i) else none := ⟨_, rfl⟩
            have hstep : (rs.filterMap pick).map (·.filter (actB P tys l)) = (rs.map (·.filter (actB P tys l))).filterMap (stepR i) := by
              rw [List.map_filterMap, List.filterMap_map]
              refine fm_congr fun r hr => ?_
              simp only [Function.comp, hpick, stepR]
              split
              · rename_i hh
                obtain ⟨A, B, hAB, he, hA0, _, _⟩ := one r hr (fun _ => hh)
                simp only [Option.map_some]
                rw [he, List.filter_append, hA0 hai, List.nil_append, hAB, List.filter_append, hA0 hai, List.nil_append, List.filter_cons, hai]
                simp
              · rfl
            refine ⟨rs.filterMap pick, fun e => covB_ne h3 (by rw [← hstep, e]; rfl), fun r' hr' => ?_, fun _ => by rw [← hstep, List.length_map] at h30; exact h30, f, by rw [hstep]; exact h3, fun r' hr' => ?_⟩
            · obtain ⟨r, hr, hp⟩ := List.mem_filterMap.1 hr'
              rw [hpick] at hp
              simp only at hp
              split at hp
              · rename_i hh
                injection hp with hp
                exact ⟨r, hr, hp.symm, fun _ => hh⟩
              · cases hp
            · obtain ⟨r, hr, hp⟩ := List.mem_filterMap.1 hr'
              rw [hpick] at hp
              simp only at hp
              split at hp
              · rename_i hh
                injection hp with hp
                obtain ⟨A, B, hAB, he, hA0, _, _⟩ := one r hr (fun _ => hh)
                have h6 := hf r hr
                rw [← hp, he, List.filter_append, hA0 hai, List.nil_append]
                rw [hAB, List.filter_append, hA0 hai, List.nil_append, List.filter_cons, hai] at h6
                simp at h6
                omega
              · cases hp
      -- the step is taken in one of them; what follows holds for all
      have hst : Stp P l.toArray Q oi (fun a' w' => wpAny P .any l.toArray (OnlyN Q) fuel (listed.setIfInBounds i true) a' w') a w := by
        have all : Stp P l.toArray Q oi (fun a' w' => S w' ∧ ∀ r' ∈ rs', wpT P l.toArray Q tys S (opsOf l r') a' w') a w := by
          have each : ∀ r' ∈ rs', OkT P tys S l.toArray oi a ∧ Stp P l.toArray Q oi (fun a' w' => S w' ∧ wpT P l.toArray Q tys S (opsOf l r') a' w') a w := fun r' hr' => by
            obtain ⟨r, hr, rfl, hh⟩ := hsub r' hr'
            obtain ⟨A, B, hAB, he, hA0, h7, h8⟩ := one r hr hh
            rw [he]
            exact ⟨h7, h8⟩
          obtain ⟨r1, hr1⟩ := List.exists_mem_of_ne_nil rs' hne'
          cases hai : actB P tys l i with
          | true =>
            have h1 := hsing hai
            refine (each r1 hr1).2.mono fun a' w' ⟨hS', h9⟩ => ⟨hS', fun r' hr' => ?_⟩
            match rs', h1, hr1, hr' with
            | [x], _, hr1, hr' =>
              simp only [List.mem_cons, List.not_mem_nil, or_false] at hr1 hr'
              subst hr1; subst hr'
              exact h9
          | false =>
            have hk : kindB P tys oi ≤ 1 := by
              unfold actB at hai
              rw [hil] at hai
              simp only [decide_eq_false_iff_not] at hai
              omega
            obtain ⟨v, hy⟩ := (each r1 hr1).1.yv hk F.here (each r1 hr1).2
            exact (hy.stp F.here).2 ⟨F.here, fun r' hr' => ((hy.stp F.here).1 (each r' hr').2).2⟩
        refine all.mono fun a' w' ⟨hS', hw'⟩ => ih (listed.setIfInBounds i true) rs' a' w' (by simpa using hls) hcl' hlen2 ⟨fun r' hr' k => ?_, fun r' hr' => ?_, fun r' hr' => ?_, hcov', hw', hS'⟩
        · obtain ⟨r, hr, rfl, hh⟩ := hsub r' hr'
          rw [(F.nodup r hr).mem_erase_iff, hrem, F.mem r hr k]
          exact And.comm
        · obtain ⟨r, hr, rfl, hh⟩ := hsub r' hr'
          exact (F.nodup r hr).erase i
        · obtain ⟨r, hr, rfl, hh⟩ := hsub r' hr'
          exact (F.pw r hr).sublist (List.erase_sublist)
      unfold wpOp
      rw [hoi]
      unfold Stp at hst
      dsimp only
      split
      · rename_i hw; rw [if_pos hw] at hst; exact .inl hst
      · rename_i hw; rw [if_neg hw] at hst; exact hst

/-- A region whose order is drawn, one walk for each order of those of its operations that act; the blocks bs, in which what is loaded lies, stay as they are. -/
theorem wp_region_texts (tys : List (Nat × Nat)) (bs : List Nat) (ts : List (List Nat)) {id : Nat} {l : List Oper} {a : Act} {w : World} (hm : P.follows .mixedOrders = true) (hB : textsB P tys l ts = true) (hc : CellsIn bs w)
    (h : ∀ t ∈ ts, wpU P l.toArray Q tys bs w [] (opsOf l t) a w.drew) : (Code.region id l.toArray true).wp P Q a w := by
  simp only [textsB, Bool.and_eq_true] at hB
  obtain ⟨⟨⟨⟨hno, hed⟩, hkd⟩, hts⟩, hcv⟩ := hB
  refine Code.wp_mono OnlyN.out (wp_region_any hm ?_)
  have hr : rem l.length (Array.replicate l.length false) = List.range l.length := List.filter_eq_self.2 fun i hi => by
    have := List.mem_range.1 hi
    simp [this]
  have hS : SameIn bs w { w with drawn := w.drawn + 1 } := fun k _ => rfl
  have hp : ∀ t ∈ ts, (t.length = l.length ∧ (∀ i, i < l.length → i ∈ t) ∧ (∀ i ∈ t, i < l.length) ∧ t.Nodup) ∧ pwB (okB P tys l (ancTab l #[])) t = true := fun t ht => by
    have := List.all_eq_true.1 hts t ht
    simp only [permB, Bool.and_eq_true, decide_eq_true_eq] at this
    obtain ⟨⟨⟨⟨h1, h2⟩, h3⟩, h4⟩, h5⟩ := this
    exact ⟨⟨h1, fun i hi => List.contains_iff_mem.1 (List.all_eq_true.1 h2 i (List.mem_range.2 hi)), fun i hi => by simpa using List.all_eq_true.1 h3 i hi, h4⟩, h5⟩
  refine any_of_texts (S := SameIn bs w) hno hed _ _ ts _ _ (by simp) ?_ ?_ ⟨fun t ht i => ?_, fun t ht => (hp t ht).1.2.2.2, fun t ht => pwB_spec (hp t ht).2, ⟨l.length, hcv, fun t ht => ?_⟩, fun t ht => ?_, hS⟩
  · intro i o _ hi
    simp only [List.size_toArray] at hi
    rw [getD_replicate_false] at hi
    cases hi
  · simp only [List.size_toArray]
    rw [hr]
    simp
  · simp only [List.size_toArray]
    rw [hr, List.mem_range]
    exact ⟨(hp t ht).1.2.2.1 i, (hp t ht).1.2.1 i⟩
  · exact Nat.le_trans (List.length_filter_le _ _) (by rw [(hp t ht).1.1]; exact Nat.le_refl _)
  · exact wpU_sound hc (opsOf l t) none [] (fun o ho => by
      obtain ⟨j, hj, hjo⟩ := List.mem_filterMap.1 ho
      have : o ∈ l := by
        have h9 : l[j]? = some o := by simpa using hjo
        exact List.mem_of_getElem? h9
      have := List.all_eq_true.1 hkd o this
      simpa using this) (fun x hx => by cases hx) a _ (fun x hx => by cases hx) hS (h t ht)
end
end Go.Proofs.YtjoaonppaokhhaaGreat
