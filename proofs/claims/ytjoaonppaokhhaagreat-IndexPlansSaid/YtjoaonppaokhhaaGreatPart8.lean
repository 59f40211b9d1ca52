/-
  Several texts in one:
  A region whose order is drawn, walked in the order of its text, with loads beside what acts, and a last operation behind all others that may store into what was loaded. Conditions: a check of the region that the kernel runs; no program in sight.
  Blocks that stay as they are, told from what is known of them. Conditions: none; no program in sight.
-/
import Derived.Test.YtjoaonppaokhhaaGreatPart7

namespace Go.Proofs.YtjoaonppaokhhaaGreat

section
variable {P : Program} {ops : Array Oper} {Q : Exit → Act → World → Prop} {tys : List (Nat × Nat)} {S : World → Prop}

def wpL (P : Program) (ops : Array Oper) (Q : Exit → Act → World → Prop) (tys : List (Nat × Nat)) (S : World → Prop) : List Oper → Act → World → Prop
  | [], a, w => OnlyN Q .normal a w
  | o :: rest, a, w => OkT P tys S ops o a ∧ Stp P ops Q o (fun a' w' => (rest = [] ∨ S w') ∧ wpL P ops Q tys S rest a' w') a w

theorem wpL.front (hsel : ∀ o : Oper, o ∈ ops → ∀ cs b, o.op ≠ .select cs b) (oi : Oper) (hi : oi ∈ ops) (l2 : List Oper) (hne : l2 ≠ []) : ∀ (l1 : List Oper) (a : Act) (w : World), S w →
    (∀ oj ∈ l1, oj ∈ ops ∧ oj.apart ops oi = true ∧ (kindB P tys oj ≤ 1 ∨ kindB P tys oi ≤ 1)) →
    wpL P ops Q tys S (l1 ++ oi :: l2) a w → OkT P tys S ops oi a ∧ Stp P ops Q oi (fun a' w' => S w' ∧ wpL P ops Q tys S (l1 ++ l2) a' w') a w
  | [], a, w, _, _, h => ⟨h.1, h.2.mono fun a' w' ⟨hS, h'⟩ => ⟨hS.elim (fun e => (hne e).elim) id, h'⟩⟩
  | oj :: l1, a, w, hS, hp, h => by
    obtain ⟨hm, h1, h2⟩ := hp oj (by simp)
    have h3 : Stp P ops Q oj (fun a' w' => S w' ∧ OkT P tys S ops oi a' ∧ Stp P ops Q oi (fun a'' w'' => S w'' ∧ wpL P ops Q tys S (l1 ++ l2) a'' w'') a' w') a w :=
      h.2.mono fun a' w' ⟨hS', h'⟩ => by
        have hS2 : S w' := hS'.elim (fun e => by simp at e) id
        exact ⟨hS2, wpL.front hsel oi hi l2 hne l1 a' w' hS2 (fun o ho => hp o (by simp [ho])) h'⟩
    obtain ⟨g1, g2⟩ := Stp.swapT h1 (hsel _ hm) (hsel _ hi) h2 hS h.1 h3
    exact ⟨g1, g2.mono fun a' w' ⟨k1, k2, k3⟩ => ⟨k1, k2, k3.mono fun a'' w'' ⟨j1, j2⟩ => ⟨.inr j1, j2⟩⟩⟩

/-- the last is behind all others -/
def lastB (l : List Oper) : Bool := (List.range (l.length - 1)).all fun j => ((ancTab l #[]).getD (l.length - 1) 0).testBit j

theorem any_of_textL {l : List Oper} (hB : textT P tys l = true) (hL : lastB l = true) : ∀ (fuel : Nat) (listed : Array Bool) (a : Act) (w : World), (rem l.length listed = [] ∨ S w) → listed.size = l.length → Closed l.toArray listed → (rem l.length listed).length ≤ fuel →
    wpL P l.toArray Q tys S ((rem l.length listed).filterMap (l.toArray[·]?)) a w → wpAny P .any l.toArray (OnlyN Q) fuel listed a w := by
  simp only [textT, Bool.and_eq_true] at hB
  obtain ⟨hno, hcol⟩ := hB
  have hsel := Region.noSelect_spec hno
  have hselm : ∀ o : Oper, o ∈ l.toArray → ∀ cs b, o.op ≠ .select cs b := fun o ho cs b => by
    obtain ⟨i, hi, rfl⟩ := Array.mem_iff_getElem.1 ho
    exact hsel i _ cs b (Array.getElem?_eq_getElem hi)
  obtain ⟨hgood, hsz⟩ := ancTab_good (ops := l.toArray) l #[] (fun j => by simp) (fun i hi => by simp at hi)
  simp only [List.size_toArray, List.length_nil, Nat.zero_add] at hsz
  have hcs := colT_spec l 0 hcol
  simp only [Nat.zero_add] at hcs
  have ready_rem : ∀ {listed : Array Bool} {i : Nat}, i ∈ Region.ready .any l.toArray listed → i ∈ rem l.length listed := fun {listed i} h => by
    obtain ⟨h0, o, ho, _⟩ := mem_ready.1 h
    exact mem_rem.2 ⟨by simpa using (Array.getElem?_eq_some_iff.1 ho).1, h0⟩
  intro fuel
  induction fuel with
  | zero =>
    intro listed a w _ _ _ hlen h
    have h0 : rem l.length listed = [] := List.eq_nil_of_length_eq_zero (by omega)
    rw [h0] at h
    refine ⟨?_, h⟩
    cases hr : Region.ready .any l.toArray listed with
    | nil => rfl
    | cons x xs =>
      have : x ∈ rem l.length listed := ready_rem (by rw [hr]; simp)
      rw [h0] at this
      cases this
  | succ fuel ih =>
    intro listed a w hS0 hls hcl hlen h
    have least : ∀ i0 rest, rem l.length listed = i0 :: rest → i0 ∈ Region.ready .any l.toArray listed := fun i0 rest he => by
      have hm : i0 ∈ rem l.length listed := by rw [he]; simp
      obtain ⟨hlt, hun⟩ := mem_rem.1 hm
      have ho : l.toArray[i0]? = some l[i0] := by simp [hlt]
      refine mem_ready.2 ⟨hun, _, ho, fun e hee hb => ?_⟩
      have hel := (hcs i0 l[i0] (by simp [hlt])).2 e (by simpa using hee) hb
      cases hv : listed.getD e.on false with
      | true => rfl
      | false =>
        have hm2 : e.on ∈ rem l.length listed := mem_rem.2 ⟨by omega, getD_in (by omega) hv⟩
        have hs := rem_sorted l.length listed
        rw [he] at hs hm2
        rcases List.mem_cons.1 hm2 with e1 | e1
        · omega
        · have := (List.pairwise_cons.1 hs).1 _ e1
          omega
    refine ⟨fun hr => ?_, fun i hi => ?_⟩
    · cases he : rem l.length listed with
      | nil => rw [he] at h; exact h
      | cons i0 rest =>
        have := least i0 rest he
        rw [hr] at this
        cases this
    · obtain ⟨l1, l2, he⟩ := List.append_of_mem (ready_rem hi)
      have hS : S w := hS0.elim (fun e => by rw [he] at e; simp at e) id
      obtain ⟨hun, oi, hoi, hall⟩ := mem_ready.1 hi
      have hil : l[i]? = some oi := by simpa using hoi
      have hit : i < l.length := (List.getElem?_eq_some_iff.1 hil).1
      have hs := rem_sorted l.length listed
      rw [he, List.pairwise_append] at hs
      rw [he, List.filterMap_append, List.filterMap_cons_some hoi] at h
      have hap : ∀ oj ∈ l1.filterMap (l.toArray[·]?), oj ∈ l.toArray ∧ oj.apart l.toArray oi = true ∧ (kindB P tys oj ≤ 1 ∨ kindB P tys oi ≤ 1) := fun oj hoj => by
        obtain ⟨j, hj, hjo⟩ := List.mem_filterMap.1 hoj
        refine ⟨Array.mem_of_getElem? hjo, ?_⟩
        have hji : j < i := hs.2.2 j hj i (by simp)
        have hju : listed.getD j true = false := (mem_rem.1 (by rw [he]; simp [hj])).2
        rcases (hcs i oi hil).1 j oj hji (by simpa using hjo) with hb | hb
        · have := anc_listed hgood hcl i oi (by omega) hoi (fun e hee => hall e (by simpa using hee)) hb
          rw [getD_both hju] at this
          cases this
        · simp only [pairT, Bool.and_eq_true, Bool.or_eq_true, decide_eq_true_eq] at hb
          exact ⟨hb.2, hb.1⟩
      have hcl' : Closed l.toArray (listed.setIfInBounds i true) := fun k ok hok hk e hee hb => by
        by_cases hik : i = k
        · subst hik
          obtain rfl : ok = oi := Option.some.inj (hok.symm.trans hoi)
          exact getD_set_true (hall e (by simpa using hee) hb)
        · rw [getD_set_ne false hik] at hk
          exact getD_set_true (hcl k ok hok hk e hee hb)
      have hrs := rem_set he
      have hst : Stp P l.toArray Q oi (fun a' w' => wpAny P .any l.toArray (OnlyN Q) fuel (listed.setIfInBounds i true) a' w') a w := by
        have hl2 : ∀ x ∈ l2, x < l.length := fun x hx => (mem_rem.1 (show x ∈ rem l.length listed by rw [he]; simp [hx])).1
        have hnl : (l2 = [] ∧ l1 = []) ∨ l2.filterMap (l.toArray[·]?) ≠ [] := by
          rcases l2 with _ | ⟨x, xs⟩
          · left
            refine ⟨rfl, List.eq_nil_iff_forall_not_mem.2 fun j hj => ?_⟩
            have hji : j < i := hs.2.2 j hj i (by simp)
            have hju : listed.getD j true = false := (mem_rem.1 (by rw [he]; simp [hj])).2
            have hlast : i = l.length - 1 := by
              rcases Nat.lt_or_ge i (l.length - 1) with hlt | hge
              · have hlm : l.length - 1 ∈ rem l.length listed := by
                  rcases hv : listed.getD (l.length - 1) true with _ | _
                  · exact mem_rem.2 ⟨by omega, hv⟩
                  · exfalso
                    have hbl : (l.toArray[l.length - 1]?) = some l[l.length - 1] := by simp [show l.length - 1 < l.length by omega]
                    have hbit : ((ancTab l #[]).getD (l.length - 1) 0).testBit i = true := List.all_eq_true.1 hL i (List.mem_range.2 hlt)
                    have hvf : listed.getD (l.length - 1) false = true := by
                      have h9 : l.length - 1 < listed.size := by omega
                      simpa [Array.getD, h9] using hv
                    have hall2 : ∀ e ∈ (l[l.length - 1]).after, Region.binds .any e = true → listed.getD e.on false = true := fun e hee hb => hcl (l.length - 1) _ hbl hvf e (by simpa using hee) hb
                    have := anc_listed hgood hcl (l.length - 1) _ (by omega) hbl (fun e hee => hall2 e (by simpa using hee)) hbit
                    rw [getD_both hun] at this
                    cases this
                rw [he] at hlm
                simp only [List.mem_append, List.mem_cons, List.not_mem_nil, or_false] at hlm
                rcases hlm with hlm | hlm
                · have := hs.2.2 _ hlm i (by simp)
                  omega
                · omega
              · omega
            have hbit : ((ancTab l #[]).getD i 0).testBit j = true := by rw [hlast]; exact List.all_eq_true.1 hL j (List.mem_range.2 (by omega))
            have := anc_listed hgood hcl i oi (by omega) hoi (fun e hee => hall e (by simpa using hee)) hbit
            rw [getD_both hju] at this
            cases this
          · right
            rw [List.filterMap_cons_some (b := l[x]'(hl2 x (by simp))) (by simp [hl2 x (by simp)])]
            exact List.cons_ne_nil _ _
        rcases hnl with ⟨rfl, rfl⟩ | hnl
        · simp only [List.filterMap_nil, List.nil_append] at h
          exact h.2.mono fun a' w' ⟨_, h'⟩ => ih (listed.setIfInBounds i true) a' w' (.inl (by rw [hrs]; rfl)) (by simpa using hls) hcl' (by rw [hrs]; simp) (by rw [hrs]; exact h')
        · have hfr := wpL.front hselm oi (Array.mem_of_getElem? hoi) (l2.filterMap (l.toArray[·]?)) hnl (l1.filterMap (l.toArray[·]?)) a w hS hap h
          exact hfr.2.mono fun a' w' ⟨hS', h'⟩ => ih (listed.setIfInBounds i true) a' w' (.inr hS') (by simpa using hls) hcl' (by rw [hrs]; rw [he] at hlen; simp at hlen ⊢; omega) (by rw [hrs, List.filterMap_append]; exact h')
      unfold wpOp
      rw [hoi]
      unfold Stp at hst
      dsimp only
      split
      · rename_i hw; rw [if_pos hw] at hst; exact .inl hst
      · rename_i hw; rw [if_neg hw] at hst; exact hst
variable {bs : List Nat} {W : World}

def wpUL (P : Program) (ops : Array Oper) (Q : Exit → Act → World → Prop) (tys : List (Nat × Nat)) (bs : List Nat) (W : World) : List Oper → List Oper → Act → World → Prop
  | acc, [], a, w => wpList P ops (OnlyN Q) acc a w
  | acc, o :: rest, a, w =>
    match tagOf tys o with
    | 0 => wpUL P ops Q tys bs W (acc ++ (chk tys o ++ [o])) rest a w
    | 1 => ∀ K : Act → World → Prop, (∀ a w, LoadIn bs ops o a → wpUL P ops Q tys bs W [o] rest a w → K a w) → wpList P ops (OnlyN fun _ => K) acc a w
    | _ => match rest with
      | [] => wpList P ops (OnlyN Q) (acc ++ [o]) a w
      | _ => ∀ K : Act → World → Prop, (∀ a w, SameIn bs W w → wpUL P ops Q tys bs W [] rest a w → K a w) → wpList P ops (OnlyN fun _ => K) (acc ++ [o]) a w

/-- a run of operations that hang on no world -/
theorem pend_soundL {Q' : Exit → Act → World → Prop} {more T : List Oper} (hR : ∀ a w, SameIn bs W w → wpList P ops (OnlyN Q') more a w → wpL P ops Q tys (SameIn bs W) T a w) :
    ∀ (pend : List Oper), (∀ o ∈ pend, kindB P tys o = 0) → ∀ a w, SameIn bs W w → wpList P ops (OnlyN Q') (instr tys pend ++ more) a w → wpL P ops Q tys (SameIn bs W) (pend ++ T) a w
  | [], _, a, w, hS, h => hR a w hS h
  | o :: pend, hp, a, w, hS, h => by
    have hk := hp o (by simp)
    rw [instr, List.append_assoc, List.cons_append] at h
    obtain ⟨hok, hst⟩ := chk_step h
    obtain ⟨v, hy⟩ := hok.yv hk hst
    have h2 := (hy.stp trivial).1 hst
    exact ⟨fun _ hw => (hok hk hw).calmS, (hy.stp trivial).2 ⟨.inr hS, pend_soundL hR pend (fun o ho => hp o (by simp [ho])) _ _ hS h2⟩⟩

theorem full_soundL {Q' : Exit → Act → World → Prop} {more T : List Oper} (hc : CellsIn bs W) (hR : ∀ a w, SameIn bs W w → wpList P ops (OnlyN Q') more a w → wpL P ops Q tys (SameIn bs W) T a w)
    (hd : Option Oper) (pend : List Oper) (hp : ∀ o ∈ pend, kindB P tys o = 0) (a : Act) (w : World) (hl : ∀ o ∈ hd, kindB P tys o = 1 ∧ LoadIn bs ops o a) (hS : SameIn bs W w)
    (h : wpList P ops (OnlyN Q') (hd.toList ++ instr tys pend ++ more) a w) : wpL P ops Q tys (SameIn bs W) (hd.toList ++ pend ++ T) a w := by
  cases hd with
  | none => exact pend_soundL hR pend hp a w hS h
  | some o =>
    obtain ⟨hk, hli⟩ := hl o rfl
    simp only [Option.toList_some, List.cons_append] at h ⊢
    have hst := stp_of_list h
    have hok : OkT P tys (SameIn bs W) ops o a := hli.okT hc
    obtain ⟨v, hy⟩ := hok.yv (by omega) hS hst
    exact ⟨hok, (hy.stp hS).2 ⟨.inr hS, pend_soundL hR pend hp _ _ hS ((hy.stp hS).1 hst)⟩⟩

theorem wpUL_sound (hc : CellsIn bs W) : ∀ (rest : List Oper) (hd : Option Oper) (pend : List Oper), (∀ o ∈ rest, kindB P tys o = tagOf tys o) → (∀ o ∈ pend, kindB P tys o = 0) →
    ∀ (a : Act) (w : World), (∀ o ∈ hd, kindB P tys o = 1 ∧ LoadIn bs ops o a) → SameIn bs W w → wpUL P ops Q tys bs W (hd.toList ++ instr tys pend) rest a w → wpL P ops Q tys (SameIn bs W) (hd.toList ++ pend ++ rest) a w
  | [], hd, pend, _, hp, a, w, hl, hS, h => full_soundL (Q' := Q) (more := []) (T := []) hc (fun a w _ h => h) hd pend hp a w hl hS (by rw [List.append_nil]; exact h)
  | o :: rest, hd, pend, hr, hp, a, w, hl, hS, h => by
    have hko := hr o (by simp)
    have hr' : ∀ o ∈ rest, kindB P tys o = tagOf tys o := fun x hx => hr x (by simp [hx])
    unfold wpUL at h
    split at h
    · rename_i ht
      have := wpUL_sound hc rest hd (pend ++ [o]) hr' (fun x hx => by
        rcases List.mem_append.1 hx with hx | hx
        · exact hp x hx
        · simp only [List.mem_cons, List.not_mem_nil, or_false] at hx
          subst hx
          rw [hko, ht]) a w hl hS (by rw [instr_append, instr_one, ← List.append_assoc]; exact h)
      simpa [List.append_assoc] using this
    · rename_i ht
      have h2 := h (fun a w => SameIn bs W w → wpL P ops Q tys (SameIn bs W) (o :: rest) a w) fun a w hli hu hS => by
        have := wpUL_sound hc rest (some o) [] hr' (fun x hx => by cases hx) a w (fun x hx => by cases hx; exact ⟨by rw [hko, ht], hli⟩) hS hu
        exact this
      have := full_soundL (Q' := fun _ => fun a w => SameIn bs W w → wpL P ops Q tys (SameIn bs W) (o :: rest) a w) (more := []) (T := o :: rest) hc (fun a w hS h => h hS) hd pend hp a w hl hS (by rw [List.append_nil]; exact h2)
      exact this
    · rename_i ht0 ht1
      have hnk : ∀ a', OkT P tys (SameIn bs W) ops o a' := fun a' hk => by
        exfalso
        have : tagOf tys o ≤ 1 := by rw [← hko]; exact hk
        rcases Nat.le_one_iff_eq_zero_or_eq_one.1 this with h | h
        · exact ht0 h
        · exact ht1 h
      split at h
      · have := full_soundL (Q' := Q) (more := [o]) (T := [o]) hc (fun a w hS h => ⟨hnk a, (stp_of_list h).mono fun a' w' h' => ⟨.inl rfl, h'⟩⟩) hd pend hp a w hl hS h
        exact this
      · have h2 := h (fun a w => SameIn bs W w ∧ wpL P ops Q tys (SameIn bs W) rest a w) fun a w hS hu =>
          ⟨hS, wpUL_sound hc rest none [] hr' (fun x hx => by cases hx) a w (fun x hx => by cases hx) hS hu⟩
        have := full_soundL (Q' := fun _ => fun a w => SameIn bs W w ∧ wpL P ops Q tys (SameIn bs W) rest a w) (more := [o]) (T := o :: rest) hc (fun a w hS h =>
          ⟨hnk a, (stp_of_list h).q.mono fun a' w' h' => ⟨.inr (h' : _ ∧ _).1, (h' : _ ∧ _).2⟩⟩) hd pend hp a w hl hS h2
        exact this

/-- The check that the kernel runs. -/
def textL (P : Program) (tys : List (Nat × Nat)) (l : List Oper) : Bool := (textT P tys l && l.all fun o => kindB P tys o == tagOf tys o) && lastB l

/-- A region whose order is drawn, in the order of its text; the blocks bs, in which what is loaded lies, stay as they are but for the last operation. -/
theorem wp_region_textL (tys : List (Nat × Nat)) (bs : List Nat) {id : Nat} {l : List Oper} {a : Act} {w : World} (hm : P.follows .mixedOrders = true) (hB : textL P tys l = true) (hc : CellsIn bs w)
    (h : wpUL P l.toArray Q tys bs w [] l a w.drew) : (Code.region id l.toArray true).wp P Q a w := by
  simp only [textL, Bool.and_eq_true] at hB
  obtain ⟨hB, hL⟩ := hB
  refine Code.wp_mono OnlyN.out (wp_region_any hm ?_)
  have hr : rem l.length (Array.replicate l.length false) = List.range l.length := List.filter_eq_self.2 fun i hi => by
    have := List.mem_range.1 hi
    simp [this]
  have hl : (List.range l.length).filterMap (l.toArray[·]?) = l := by
    have := range_get l []
    simpa [List.range_eq_range'] using this
  have hS : SameIn bs w { w with drawn := w.drawn + 1 } := fun k _ => rfl
  refine any_of_textL (S := SameIn bs w) hB.1 hL _ _ _ _ (.inr hS) (by simp) ?_ ?_ ?_
  · intro i o _ hi
    simp only [List.size_toArray] at hi
    rw [getD_replicate_false] at hi
    cases hi
  · simp only [List.size_toArray]
    rw [hr]
    simp
  · simp only [List.size_toArray]
    rw [hr, hl]
    exact wpUL_sound hc l none [] (fun o ho => by have := List.all_eq_true.1 hB.2 o ho; simpa using this) (fun x hx => by cases hx) a _ (fun x hx => by cases hx) hS h
end
end Go.Proofs.YtjoaonppaokhhaaGreat

namespace Go.Proofs.YtjoaonppaokhhaaGreat

theorem sameIn_one {k : Nat} {W w : World} {t : TypeId} {cs : Array Value} (h1 : Blk W k t cs) (h2 : Blk w k t cs) : SameIn [k] W w := fun i hi => by
  simp only [List.mem_cons, List.not_mem_nil, or_false] at hi
  subst hi
  exact Eq.trans h2 (Eq.symm h1)
theorem cellsIn_one {k : Nat} {W : World} {t : TypeId} {cs : Array Value} (h : Blk W k t cs) : CellsIn [k] W := fun i hi => by
  simp only [List.mem_cons, List.not_mem_nil, or_false] at hi
  subst hi
  exact ⟨_, _, _, h⟩
/-- a number shifted to its place -/
theorem shl_fits {v a b : Nat} (hv : v < 2 ^ (64 - a - b)) (hab : a + b ≤ 63) : IntKind.u64.wrap ((v : Int) * 2 ^ b) = ((v * 2 ^ b : Nat) : Int) := by
  have h3 : v * 2 ^ b < 2 ^ (64 - a - b) * 2 ^ b := Nat.mul_lt_mul_of_pos_right hv (Nat.two_pow_pos _)
  rw [← Nat.pow_add] at h3
  have h4 : 2 ^ (64 - a - b + b) ≤ 2 ^ 64 := Nat.pow_le_pow_right (by omega) (by omega)
  rw [IntKind.wrap_u64, ← show ((v * 2 ^ b : Nat) : Int) = (v : Int) * 2 ^ b by simp]
  omega
theorem Chg.at3 {S : Nat → Prop} {w w1 : World} {h : Nat} (hc : Chg S w w1) (hh : w.heap.size ≤ h) (a b c : Value) : Chg S w (((w1.setCell ⟨h, 0, none⟩ a).setCell ⟨h, 1, none⟩ b).setCell ⟨h, 2, none⟩ c) :=
  Chg.setCell (Chg.setCell (Chg.setCell hc (p := ⟨h, 0, none⟩) (.inl hh) _) (p := ⟨h, 1, none⟩) (.inl hh) _) (p := ⟨h, 2, none⟩) (.inl hh) _
theorem cellsIn_cell {W : World} {ad : Addr} {u : Value} (h : W.cell? ad = some u) : CellsIn [ad.block] W := fun i hi => by
  simp only [List.mem_cons, List.not_mem_nil, or_false] at hi
  subst hi
  unfold World.cell? at h
  split at h
  · exact ⟨_, _, _, by assumption⟩
  · cases h
theorem sameIn_chg {S : Nat → Prop} {W w : World} {k : Nat} (hc : Chg S W w) (hk : k < W.heap.size) (hn : ¬ S k) : SameIn [k] W w := fun i hi => by
  simp only [List.mem_cons, List.not_mem_nil, or_false] at hi
  subst hi
  exact hc.block i hk hn
theorem cellsIn_two {j k : Nat} {W : World} {t t' : TypeId} {cs cs' : Array Value} (h : Blk W j t cs) (h' : Blk W k t' cs') : CellsIn [j, k] W := fun i hi => by
  simp only [List.mem_cons, List.not_mem_nil, or_false] at hi
  rcases hi with rfl | rfl
  · exact ⟨_, _, _, h⟩
  · exact ⟨_, _, _, h'⟩
theorem sameIn_two {S : Nat → Prop} {W w : World} {j k : Nat} (hc : Chg S W w) (hj : j < W.heap.size) (hk : k < W.heap.size) (hn : ¬ S j) (hn' : ¬ S k) : SameIn [j, k] W w := fun i hi => by
  simp only [List.mem_cons, List.not_mem_nil, or_false] at hi
  rcases hi with rfl | rfl
  · exact hc.block _ hj hn
  · exact hc.block _ hk hn'
theorem Chg.one (w : World) (b i : Nat) (u : Value) : Chg (fun x => x = b) w (w.setCell ⟨b, i, none⟩ u) := (Chg.refl (fun x => x = b) w).setCell (p := ⟨b, i, none⟩) (.inr rfl) u
end Go.Proofs.YtjoaonppaokhhaaGreat
