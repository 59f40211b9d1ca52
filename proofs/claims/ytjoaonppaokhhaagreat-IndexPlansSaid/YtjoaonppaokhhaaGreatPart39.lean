/-
  Several texts in one:
  A region whose order is drawn, walked in the order of its text, with loads beside what acts, and stores behind all loads that may store into what was loaded. Conditions: a check of the region that the kernel runs; no program in sight.
-/
import Derived.Test.YtjoaonppaokhhaaGreatPart8

namespace Go.Proofs.YtjoaonppaokhhaaGreat

section
variable {P : Program} {ops : Array Oper} {Q : Exit → Act → World → Prop} {tys : List (Nat × Nat)} {S : World → Prop}

abbrev AnyW : World → Prop := fun _ => True
def isSt (o : Oper) : Bool := match o.op with | .store .. => true | _ => false
theorem isSt_kind {o : Oper} (h : isSt o = true) : kindB P tys o = 2 := by
  obtain ⟨dst, op, type, pos, after, guard⟩ := o
  cases op <;> first | rfl | (exact absurd h (by simp [isSt]))
def OkM (P : Program) (tys : List (Nat × Nat)) (S : World → Prop) (ops : Array Oper) (o : Oper) (a : Act) : Prop := OkT P tys S ops o a ∧ (kindB P tys o ≠ 1 → OkT P tys AnyW ops o a)
def wpM (P : Program) (ops : Array Oper) (Q : Exit → Act → World → Prop) (tys : List (Nat × Nat)) (S : World → Prop) : List Oper → Act → World → Prop
  | [], a, w => OnlyN Q .normal a w
  | o :: rest, a, w => OkM P tys S ops o a ∧ Stp P ops Q o (fun a' w' => if isSt o = true then wpT P ops Q tys AnyW rest a' w' else S w' ∧ wpM P ops Q tys S rest a' w') a w

theorem okT_two {o : Oper} {a : Act} (h : kindB P tys o = 2) : OkT P tys S ops o a := fun hk => by omega

theorem wpM.front (hsel : ∀ o : Oper, o ∈ ops → ∀ cs b, o.op ≠ .select cs b) (oi : Oper) (hi : oi ∈ ops) (l2 : List Oper) : ∀ (l1 : List Oper) (a : Act) (w : World), S w →
    (∀ oj ∈ l1, oj ∈ ops ∧ oj.apart ops oi = true ∧ (kindB P tys oj ≤ 1 ∨ kindB P tys oi ≤ 1) ∧ (isSt oj = true → kindB P tys oi ≠ 1) ∧ (isSt oi = true → kindB P tys oj ≠ 1)) →
    wpM P ops Q tys S (l1 ++ oi :: l2) a w → OkM P tys S ops oi a ∧ Stp P ops Q oi (fun a' w' => if isSt oi = true then wpT P ops Q tys AnyW (l1 ++ l2) a' w' else S w' ∧ wpM P ops Q tys S (l1 ++ l2) a' w') a w
  | [], a, w, _, _, h => h
  | oj :: l1, a, w, hS, hp, h => by
    obtain ⟨hm, h1, h2, h3, h4⟩ := hp oj (by simp)
    obtain ⟨hok, hst⟩ := h
    cases hsj : isSt oj with
    | true =>
      simp only [hsj, if_true] at hst
      have hkj : kindB P tys oj = 2 := isSt_kind hsj
      have hki : kindB P tys oi = 0 := by have := h3 hsj; omega
      have hf : Stp P ops Q oj (fun a' w' => AnyW w' ∧ OkT P tys AnyW ops oi a' ∧ Stp P ops Q oi (fun a'' w'' => AnyW w'' ∧ wpT P ops Q tys AnyW (l1 ++ l2) a'' w'') a' w') a w :=
        hst.mono fun a' w' h' => ⟨trivial, wpT.front hsel oi hi l2 l1 a' w' trivial (fun o ho => ⟨(hp o (by simp [ho])).1, (hp o (by simp [ho])).2.1, (hp o (by simp [ho])).2.2.1⟩) h'⟩
      obtain ⟨g1, g2⟩ := Stp.swapT h1 (hsel _ hm) (hsel _ hi) h2 trivial (okT_two hkj) hf
      have hsi : isSt oi = false := by
        cases hx : isSt oi with
        | false => rfl
        | true => have := isSt_kind (P := P) (tys := tys) hx; omega
      obtain ⟨v, hy⟩ := g1.yv (by omega) trivial g2
      have g3 := (hy.stp trivial).1 g2
      refine ⟨⟨fun hk hw w' n w2 _ hr => ?_, fun _ => g1⟩, ?_⟩
      · obtain ⟨e, u, hu, h9⟩ := g1 hk hw w' n w2 trivial hr
        exact ⟨e, u, hu, fun w3 _ => h9 w3 trivial⟩
      · refine (hy.stp trivial).2 ?_
        simp only [hsi, Bool.false_eq_true, if_false]
        obtain ⟨_, k1, k2⟩ := g3
        refine ⟨hS, ⟨okT_two hkj, fun _ => k1⟩, k2.mono fun a' w' ⟨_, h'⟩ => ?_⟩
        simp only [hsj, if_true]
        exact h'
    | false =>
      simp only [hsj, Bool.false_eq_true, if_false] at hst
      have ih : Stp P ops Q oj (fun a' w' => S w' ∧ OkM P tys S ops oi a' ∧ Stp P ops Q oi (fun a'' w'' => if isSt oi = true then wpT P ops Q tys AnyW (l1 ++ l2) a'' w'' else S w'' ∧ wpM P ops Q tys S (l1 ++ l2) a'' w'') a' w') a w :=
        hst.mono fun a' w' ⟨hS', h'⟩ => ⟨hS', wpM.front hsel oi hi l2 l1 a' w' hS' (fun o ho => hp o (by simp [ho])) h'⟩
      cases hsi : isSt oi with
      | true =>
        simp only [hsi, if_true] at ih
        have hki : kindB P tys oi = 2 := isSt_kind hsi
        have hkj : kindB P tys oj ≠ 1 := h4 hsi
        have hf : Stp P ops Q oj (fun a' w' => AnyW w' ∧ OkT P tys AnyW ops oi a' ∧ Stp P ops Q oi (fun a'' w'' => AnyW w'' ∧ wpT P ops Q tys AnyW (l1 ++ l2) a'' w'') a' w') a w :=
          ih.mono fun a' w' ⟨_, _, h'⟩ => ⟨trivial, okT_two hki, h'.mono fun _ _ h'' => ⟨trivial, h''⟩⟩
        obtain ⟨g1, g2⟩ := Stp.swapT h1 (hsel _ hm) (hsel _ hi) h2 trivial (hok.2 hkj) hf
        refine ⟨⟨okT_two hki, fun _ => g1⟩, g2.mono fun a' w' ⟨_, k1, k2⟩ => ?_⟩
        simp only [if_true]
        exact ⟨k1, k2⟩
      | false =>
        simp only [hsi, Bool.false_eq_true, if_false] at ih
        by_cases hkj : kindB P tys oj ≤ 1
        · -- oj leaves the world
          obtain ⟨v, hy⟩ := hok.1.yv hkj hS ih
          have hf : Stp P ops Q oj (fun a' w' => S w' ∧ OkT P tys S ops oi a' ∧ Stp P ops Q oi (fun a'' w'' => S w'' ∧ wpM P ops Q tys S (l1 ++ l2) a'' w'') a' w') a w :=
            ih.mono fun a' w' ⟨k1, k2, k3⟩ => ⟨k1, k2.1, k3⟩
          obtain ⟨g1, g2⟩ := Stp.swapT h1 (hsel _ hm) (hsel _ hi) h2 hS hok.1 hf
          have hput := ((hy.stp hS).1 ih).2.1
          obtain ⟨_, q2, q3⟩ := Oper.apart_spec h1
          have hsame := same_put (u := v) (a := a) (a' := a.put oj.dst v) (Oper.apart_spec h1).1 (hsel _ hi) rfl
          refine ⟨⟨g1, fun hk => (hput.2 hk).same ⟨hsame.1.symm, hsame.2.symm⟩⟩, ?_⟩
          refine g2.frame.mono fun a' w' ⟨⟨u, ht⟩, k1, k2, k3⟩ => ?_
          simp only [Bool.false_eq_true, if_false]
          have hs2 := same_put (Oper.apart_spec h1).2.2 (hsel _ hm) ht
          refine ⟨k1, ⟨k2, fun hk => (hok.2 hk).same hs2⟩, k3.mono fun a'' w'' ⟨j1, j2⟩ => ?_⟩
          simp only [hsj, Bool.false_eq_true, if_false]
          exact ⟨j1, j2⟩
        · have hki : kindB P tys oi ≤ 1 := by omega
          have hf : Stp P ops Q oj (fun a' w' => S w' ∧ OkT P tys S ops oi a' ∧ Stp P ops Q oi (fun a'' w'' => S w'' ∧ wpM P ops Q tys S (l1 ++ l2) a'' w'') a' w') a w :=
            ih.mono fun a' w' ⟨k1, k2, k3⟩ => ⟨k1, k2.1, k3⟩
          obtain ⟨g1, g2⟩ := Stp.swapT h1 (hsel _ hm) (hsel _ hi) h2 hS hok.1 hf
          obtain ⟨a1, w1, ⟨u1, ht1⟩, _, hok1, _⟩ := ih.frame.ends
          have e1 := same_put (Oper.apart_spec h1).1 (hsel _ hi) ht1
          refine ⟨⟨g1, fun hk => (hok1.2 hk).same ⟨e1.1.symm, e1.2.symm⟩⟩, ?_⟩
          refine g2.frame.mono fun a' w' ⟨⟨u, ht⟩, k1, k2, k3⟩ => ?_
          simp only [Bool.false_eq_true, if_false]
          have hs2 := same_put (Oper.apart_spec h1).2.2 (hsel _ hm) ht
          refine ⟨k1, ⟨k2, fun hk => (hok.2 hk).same hs2⟩, k3.mono fun a'' w'' ⟨j1, j2⟩ => ?_⟩
          simp only [hsj, Bool.false_eq_true, if_false]
          exact ⟨j1, j2⟩

/-- all loads are behind no store, and each store waits for all of them -/
def stB (P : Program) (tys : List (Nat × Nat)) (l : List Oper) : Bool := (List.range l.length).all fun s => !((l[s]?).any isSt) || (List.range l.length).all fun j => !((l[j]?).any fun o => kindB P tys o == 1) || (decide (j < s) && ((ancTab l #[]).getD s 0).testBit j)
theorem stB_spec {l : List Oper} (h : stB P tys l = true) {s j : Nat} {os oj : Oper} (hs : l[s]? = some os) (hj : l[j]? = some oj) (h1 : isSt os = true) (h2 : kindB P tys oj = 1) : j < s ∧ ((ancTab l #[]).getD s 0).testBit j = true := by
  have a1 := List.all_eq_true.1 h s (List.mem_range.2 (List.getElem?_eq_some_iff.1 hs).1)
  rw [hs] at a1
  simp only [Option.any_some, h1, Bool.not_true, Bool.false_or] at a1
  have a2 := List.all_eq_true.1 a1 j (List.mem_range.2 (List.getElem?_eq_some_iff.1 hj).1)
  rw [hj] at a2
  simpa only [Option.any_some, h2, beq_self_eq_true, Bool.not_true, Bool.false_or, Bool.and_eq_true, decide_eq_true_eq] using a2

theorem any_of_textM {l : List Oper} (hB : textT P tys l = true) (hL : stB P tys l = true) : ∀ (fuel : Nat) (listed : Array Bool) (a : Act) (w : World), S w → listed.size = l.length → Closed l.toArray listed → (rem l.length listed).length ≤ fuel →
    wpM P l.toArray Q tys S ((rem l.length listed).filterMap (l.toArray[·]?)) a w → wpAny P .any l.toArray (OnlyN Q) fuel listed a w := by
  have hB0 := hB
  simp only [textT, Bool.and_eq_true] at hB
  obtain ⟨hno, hcol⟩ := hB
  have hsel := Region.noSelect_spec hno
  have hselm : ∀ o : Oper, o ∈ l.toArray → ∀ cs b, o.op ≠ .select cs b := fun o ho cs b => by
    obtain ⟨i, hi, rfl⟩ := Array.mem_iff_getElem.1 ho
    exact hsel i _ cs b (Array.getElem?_eq_getElem hi)
  obtain ⟨hgood, hsz⟩ := ancTab_good (ops := l.toArray) l #[] (fun j => by simp) (fun i hi => by simp at hi)
  simp only [List.size_toArray, List.length_nil, Nat.zero_add] at hsz
  have hcs := colT_spec l 0 hcol
  simp only [Nat.zero_add] at hcs
  have ready_rem : ∀ {listed : Array Bool} {i : Nat}, i ∈ Region.ready .any l.toArray listed → i ∈ rem l.length listed := fun {listed i} h => by
    obtain ⟨h0, o, ho, _⟩ := mem_ready.1 h
    exact mem_rem.2 ⟨by simpa using (Array.getElem?_eq_some_iff.1 ho).1, h0⟩
  intro fuel
  induction fuel with
  | zero =>
    intro listed a w _ _ _ hlen h
    have h0 : rem l.length listed = [] := List.eq_nil_of_length_eq_zero (by omega)
    rw [h0] at h
    refine ⟨?_, h⟩
    cases hr : Region.ready .any l.toArray listed with
    | nil => rfl
    | cons x xs =>
      have : x ∈ rem l.length listed := ready_rem (by rw [hr]; simp)
      rw [h0] at this
      cases this
  | succ fuel ih =>
    intro listed a w hS hls hcl hlen h
    have least : ∀ i0 rest, rem l.length listed = i0 :: rest → i0 ∈ Region.ready .any l.toArray listed := fun i0 rest he => by
      have hm : i0 ∈ rem l.length listed := by rw [he]; simp
      obtain ⟨hlt, hun⟩ := mem_rem.1 hm
      have ho : l.toArray[i0]? = some l[i0] := by simp [hlt]
      refine mem_ready.2 ⟨hun, _, ho, fun e hee hb => ?_⟩
      have hel := (hcs i0 l[i0] (by simp [hlt])).2 e (by simpa using hee) hb
      cases hv : listed.getD e.on false with
      | true => rfl
      | false =>
        have hm2 : e.on ∈ rem l.length listed := mem_rem.2 ⟨by omega, getD_in (by omega) hv⟩
        have hs := rem_sorted l.length listed
        rw [he] at hs hm2
        rcases List.mem_cons.1 hm2 with e1 | e1
        · omega
        · have := (List.pairwise_cons.1 hs).1 _ e1
          omega
    refine ⟨fun hr => ?_, fun i hi => ?_⟩
    · cases he : rem l.length listed with
      | nil => rw [he] at h; exact h
      | cons i0 rest =>
        have := least i0 rest he
        rw [hr] at this
        cases this
    · obtain ⟨l1, l2, he⟩ := List.append_of_mem (ready_rem hi)
      obtain ⟨hun, oi, hoi, hall⟩ := mem_ready.1 hi
      have hil : l[i]? = some oi := by simpa using hoi
      have hit : i < l.length := (List.getElem?_eq_some_iff.1 hil).1
      have hs := rem_sorted l.length listed
      rw [he, List.pairwise_append] at hs
      rw [he, List.filterMap_append, List.filterMap_cons_some hoi] at h
      have hfr := wpM.front hselm oi (Array.mem_of_getElem? hoi) (l2.filterMap (l.toArray[·]?)) (l1.filterMap (l.toArray[·]?)) a w hS (fun oj hoj => by
        obtain ⟨j, hj, hjo⟩ := List.mem_filterMap.1 hoj
        have hjl : l[j]? = some oj := by simpa using hjo
        have hji : j < i := hs.2.2 j hj i (by simp)
        have hju : listed.getD j true = false := (mem_rem.1 (by rw [he]; simp [hj])).2
        have hnb : ((ancTab l #[]).getD i 0).testBit j = true → False := fun hb => by
          have := anc_listed hgood hcl i oi (by omega) hoi (fun e hee => hall e (by simpa using hee)) hb
          rw [getD_both hju] at this
          cases this
        refine ⟨Array.mem_of_getElem? hjo, ?_⟩
        rcases (hcs i oi hil).1 j oj hji (by simpa using hjo) with hb | hb
        · exact (hnb hb).elim
        · simp only [pairT, Bool.and_eq_true, Bool.or_eq_true, decide_eq_true_eq] at hb
          exact ⟨hb.2, hb.1, fun h1 h2 => by have := (stB_spec hL hjl hil h1 h2).1; omega, fun h1 h2 => hnb (stB_spec hL hil hjl h1 h2).2⟩) h
      have hcl' : Closed l.toArray (listed.setIfInBounds i true) := fun k ok hok hk e hee hb => by
        by_cases hik : i = k
        · subst hik
          obtain rfl : ok = oi := Option.some.inj (hok.symm.trans hoi)
          exact getD_set_true (hall e (by simpa using hee) hb)
        · rw [getD_set_ne false hik] at hk
          exact getD_set_true (hcl k ok hok hk e hee hb)
      have hrs := rem_set he
      have hle : (rem l.length (listed.setIfInBounds i true)).length ≤ fuel := by rw [hrs]; rw [he] at hlen; simp at hlen ⊢; omega
      have hst : Stp P l.toArray Q oi (fun a' w' => wpAny P .any l.toArray (OnlyN Q) fuel (listed.setIfInBounds i true) a' w') a w := hfr.2.mono fun a' w' h' => by
        cases hsi : isSt oi with
        | true =>
          simp only [hsi, if_true] at h'
          exact any_of_textT (S := AnyW) hB0 fuel (listed.setIfInBounds i true) a' w' trivial (by simpa using hls) hcl' hle (by rw [hrs, List.filterMap_append]; exact h')
        | false =>
          simp only [hsi, Bool.false_eq_true, if_false] at h'
          exact ih (listed.setIfInBounds i true) a' w' h'.1 (by simpa using hls) hcl' hle (by rw [hrs, List.filterMap_append]; exact h'.2)
      unfold wpOp
      rw [hoi]
      unfold Stp at hst
      dsimp only
      split
      · rename_i hw; rw [if_pos hw] at hst; exact .inl hst
      · rename_i hw; rw [if_neg hw] at hst; exact hst
variable {bs : List Nat} {W : World}

/-- The walk's pieces: up to each load, up to each operation that acts; from the first store on in one. -/
def wpUM (P : Program) (ops : Array Oper) (Q : Exit → Act → World → Prop) (tys : List (Nat × Nat)) (bs : List Nat) (W : World) : List Oper → List Oper → Act → World → Prop
  | acc, [], a, w => wpList P ops (OnlyN Q) acc a w
  | acc, o :: rest, a, w =>
    match isSt o with
    | true => wpList P ops (OnlyN Q) (acc ++ o :: instr tys rest) a w
    | false =>
      match tagOf tys o with
      | 0 => wpUM P ops Q tys bs W (acc ++ (chk tys o ++ [o])) rest a w
      | 1 => ∀ K : Act → World → Prop, (∀ a w, LoadIn bs ops o a → wpUM P ops Q tys bs W [o] rest a w → K a w) → wpList P ops (OnlyN fun _ => K) acc a w
      | _ => ∀ K : Act → World → Prop, (∀ a w, SameIn bs W w → wpUM P ops Q tys bs W [] rest a w → K a w) → wpList P ops (OnlyN fun _ => K) (acc ++ [o]) a w

/-- behind the first store -/
theorem after_sound : ∀ (rest : List Oper), (∀ o ∈ rest, kindB P tys o ≠ 1 ∧ kindB P tys o ≤ 2) → ∀ (a : Act) (w : World), wpList P ops (OnlyN Q) (instr tys rest) a w → wpT P ops Q tys AnyW rest a w
  | [], _, a, w, h => h
  | o :: rest, hr, a, w, h => by
    rw [instr] at h
    obtain ⟨hok, hst⟩ := chk_step h
    refine ⟨fun hk hw => (hok (by have := (hr o (by simp)).1; omega) hw).calmS, hst.mono fun a' w' h' => ⟨trivial, after_sound rest (fun o ho => hr o (by simp [ho])) a' w' h'⟩⟩

/-- a run of operations that hang on no world -/
theorem pend_soundM {Q' : Exit → Act → World → Prop} {more T : List Oper} (hR : ∀ a w, SameIn bs W w → wpList P ops (OnlyN Q') more a w → wpM P ops Q tys (SameIn bs W) T a w) :
    ∀ (pend : List Oper), (∀ o ∈ pend, kindB P tys o = 0) → ∀ a w, SameIn bs W w → wpList P ops (OnlyN Q') (instr tys pend ++ more) a w → wpM P ops Q tys (SameIn bs W) (pend ++ T) a w
  | [], _, a, w, hS, h => hR a w hS h
  | o :: pend, hp, a, w, hS, h => by
    have hk := hp o (by simp)
    rw [instr, List.append_assoc, List.cons_append] at h
    obtain ⟨hok, hst⟩ := chk_step h
    obtain ⟨v, hy⟩ := hok.yv hk hst
    have h2 := (hy.stp trivial).1 hst
    have hsf : isSt o = false := by
      cases hx : isSt o with
      | false => rfl
      | true => have := isSt_kind (P := P) (tys := tys) hx; omega
    refine ⟨⟨fun _ hw => (hok hk hw).calmS, fun _ _ hw => (hok hk hw).calmS⟩, (hy.stp trivial).2 ?_⟩
    simp only [hsf, Bool.false_eq_true, if_false]
    exact ⟨hS, pend_soundM hR pend (fun o ho => hp o (by simp [ho])) _ _ hS h2⟩

theorem full_soundM {Q' : Exit → Act → World → Prop} {more T : List Oper} (hc : CellsIn bs W) (hR : ∀ a w, SameIn bs W w → wpList P ops (OnlyN Q') more a w → wpM P ops Q tys (SameIn bs W) T a w)
    (hd : Option Oper) (pend : List Oper) (hp : ∀ o ∈ pend, kindB P tys o = 0) (a : Act) (w : World) (hl : ∀ o ∈ hd, kindB P tys o = 1 ∧ LoadIn bs ops o a) (hS : SameIn bs W w)
    (h : wpList P ops (OnlyN Q') (hd.toList ++ instr tys pend ++ more) a w) : wpM P ops Q tys (SameIn bs W) (hd.toList ++ pend ++ T) a w := by
  cases hd with
  | none => exact pend_soundM hR pend hp a w hS h
  | some o =>
    obtain ⟨hk, hli⟩ := hl o rfl
    simp only [Option.toList_some, List.cons_append] at h ⊢
    have hst := stp_of_list h
    have hok : OkT P tys (SameIn bs W) ops o a := hli.okT hc
    obtain ⟨v, hy⟩ := hok.yv (by omega) hS hst
    have hsf : isSt o = false := by
      cases hx : isSt o with
      | false => rfl
      | true => have := isSt_kind (P := P) (tys := tys) hx; omega
    refine ⟨⟨hok, fun hk2 => (hk2 hk).elim⟩, (hy.stp hS).2 ?_⟩
    simp only [hsf, Bool.false_eq_true, if_false]
    exact ⟨hS, pend_soundM hR pend hp _ _ hS ((hy.stp hS).1 hst)⟩

/-- no load behind the first store -/
def ldB (P : Program) (tys : List (Nat × Nat)) : List Oper → Bool
  | [] => true
  | o :: rest => (!isSt o || rest.all fun o => kindB P tys o != 1) && ldB P tys rest
theorem tag_le (o : Oper) : tagOf tys o ≤ 2 := by
  unfold tagOf
  repeat' (first | omega | split)

theorem wpUM_sound (hc : CellsIn bs W) : ∀ (rest : List Oper) (hd : Option Oper) (pend : List Oper), ldB P tys rest = true → (∀ o ∈ rest, kindB P tys o = tagOf tys o) → (∀ o ∈ pend, kindB P tys o = 0) →
    ∀ (a : Act) (w : World), (∀ o ∈ hd, kindB P tys o = 1 ∧ LoadIn bs ops o a) → SameIn bs W w → wpUM P ops Q tys bs W (hd.toList ++ instr tys pend) rest a w → wpM P ops Q tys (SameIn bs W) (hd.toList ++ pend ++ rest) a w
  | [], hd, pend, _, _, hp, a, w, hl, hS, h => full_soundM (Q := Q) (Q' := Q) (more := []) (T := []) hc (fun a w _ h => h) hd pend hp a w hl hS (by rw [List.append_nil]; exact h)
  | o :: rest, hd, pend, hb, hr, hp, a, w, hl, hS, h => by
    have hko := hr o (by simp)
    have hr' : ∀ o ∈ rest, kindB P tys o = tagOf tys o := fun x hx => hr x (by simp [hx])
    simp only [ldB, Bool.and_eq_true] at hb
    obtain ⟨hb1, hb2⟩ := hb
    unfold wpUM at h
    split at h
    · rename_i hst
      have hal : ∀ x ∈ rest, kindB P tys x ≠ 1 ∧ kindB P tys x ≤ 2 := fun x hx => by
        rw [hst] at hb1
        have := List.all_eq_true.1 (by simpa using hb1 : (rest.all fun o => kindB P tys o != 1) = true) x hx
        exact ⟨by simpa using this, by rw [hr' x hx]; exact tag_le x⟩
      have := full_soundM (Q := Q) (Q' := Q) (more := o :: instr tys rest) (T := o :: rest) hc (fun a w hS h => by
        refine ⟨⟨okT_two (isSt_kind hst), fun _ => okT_two (isSt_kind hst)⟩, (stp_of_list h).mono fun a' w' h' => ?_⟩
        simp only [hst, if_true]
        exact after_sound rest hal a' w' h') hd pend hp a w hl hS h
      exact this
    · rename_i hst
      split at h
      · rename_i ht
        have := wpUM_sound hc rest hd (pend ++ [o]) hb2 hr' (fun x hx => by
          rcases List.mem_append.1 hx with hx | hx
          · exact hp x hx
          · simp only [List.mem_cons, List.not_mem_nil, or_false] at hx
            subst hx
            rw [hko, ht]) a w hl hS (by rw [instr_append, instr_one, ← List.append_assoc]; exact h)
        simpa [List.append_assoc] using this
      · rename_i ht
        have h2 := h (fun a w => SameIn bs W w → wpM P ops Q tys (SameIn bs W) (o :: rest) a w) fun a w hli hu hS => by
          have := wpUM_sound hc rest (some o) [] hb2 hr' (fun x hx => by cases hx) a w (fun x hx => by cases hx; exact ⟨by rw [hko, ht], hli⟩) hS hu
          exact this
        have := full_soundM (Q := Q) (Q' := fun _ => fun a w => SameIn bs W w → wpM P ops Q tys (SameIn bs W) (o :: rest) a w) (more := []) (T := o :: rest) hc (fun a w hS h => h hS) hd pend hp a w hl hS (by rw [List.append_nil]; exact h2)
        exact this
      · rename_i ht0 ht1
        have h2k : kindB P tys o = 2 := by
          have h7 := tag_le (tys := tys) o
          have h8 : tagOf tys o ≠ 0 := ht0
          have h9 : tagOf tys o ≠ 1 := ht1
          omega
        have h2 := h (fun a w => SameIn bs W w ∧ wpM P ops Q tys (SameIn bs W) rest a w) fun a w hS hu =>
          ⟨hS, wpUM_sound hc rest none [] hb2 hr' (fun x hx => by cases hx) a w (fun x hx => by cases hx) hS hu⟩
        have := full_soundM (Q := Q) (Q' := fun _ => fun a w => SameIn bs W w ∧ wpM P ops Q tys (SameIn bs W) rest a w) (more := [o]) (T := o :: rest) hc (fun a w hS h => by
          refine ⟨⟨okT_two h2k, fun _ => okT_two h2k⟩, (stp_of_list h).q.mono fun a' w' h' => ?_⟩
          simp only [hst, Bool.false_eq_true, if_false]
          exact ⟨(h' : _ ∧ _).1, (h' : _ ∧ _).2⟩) hd pend hp a w hl hS h2
        exact this

/-- The check that the kernel runs. -/
def textM (P : Program) (tys : List (Nat × Nat)) (l : List Oper) : Bool := ((textT P tys l && l.all fun o => kindB P tys o == tagOf tys o) && stB P tys l) && ldB P tys l

/-- A region whose order is drawn, in the order of its text; the blocks bs, in which what is loaded lies, stay as they are up to the first store, ahead of which all loads are. -/
theorem wp_region_textM (tys : List (Nat × Nat)) (bs : List Nat) {id : Nat} {l : List Oper} {a : Act} {w : World} (hm : P.follows .mixedOrders = true) (hB : textM P tys l = true) (hc : CellsIn bs w)
    (h : wpUM P l.toArray Q tys bs w [] l a w.drew) : (Code.region id l.toArray true).wp P Q a w := by
  simp only [textM, Bool.and_eq_true] at hB
  obtain ⟨⟨hB, hL⟩, hD⟩ := hB
  refine Code.wp_mono OnlyN.out (wp_region_any hm ?_)
  have hr : rem l.length (Array.replicate l.length false) = List.range l.length := List.filter_eq_self.2 fun i hi => by
    have := List.mem_range.1 hi
    simp [this]
  have hl : (List.range l.length).filterMap (l.toArray[·]?) = l := by
    have := range_get l []
    simpa [List.range_eq_range'] using this
  have hS : SameIn bs w { w with drawn := w.drawn + 1 } := fun k _ => rfl
  refine any_of_textM (S := SameIn bs w) hB.1 hL _ _ _ _ hS (by simp) ?_ ?_ ?_
  · intro i o _ hi
    simp only [List.size_toArray] at hi
    rw [getD_replicate_false] at hi
    cases hi
  · simp only [List.size_toArray]
    rw [hr]
    simp
  · simp only [List.size_toArray]
    rw [hr, hl]
    exact wpUM_sound hc l none [] hD (fun o ho => by have := List.all_eq_true.1 hB.2 o ho; simpa using this) (fun x hx => by cases hx) a _ (fun x hx => by cases hx) hS h
end
end Go.Proofs.YtjoaonppaokhhaaGreat
