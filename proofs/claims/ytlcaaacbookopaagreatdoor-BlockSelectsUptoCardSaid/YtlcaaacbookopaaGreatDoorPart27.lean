/-
  Several texts in one:
  A region whose order is drawn, in which an operation panics: what may come ahead of it is walked in the text's order, then that operation. Conditions: a check of the region that the kernel runs; a panic's end does not hang on the slots; no program in sight.
  A meta's sources read out of any bytes, or given up. Conditions: lengths that memory bears.
-/
import Derived.Test.YtlcaaacbookopaaGreatDoorPart6
import Derived.Test.YtlcaaacbookopaaGreatDoorPart26

namespace Go.Proofs.YtlcaaacbookopaaGreatDoor

section
variable {P : Program} {ops : Array Oper} {Q : Exit → Act → World → Prop} {tys : List (Nat × Nat)}

/-- Panics alone. -/
def OnlyP (Q : Exit → Act → World → Prop) : Exit → Act → World → Prop
  | .panic c, a, w => Q (.panic c) a w
  | _, _, _ => False
theorem OnlyP.noOut : ¬ LetsOut (OnlyP Q) := fun ⟨_, _, h⟩ => h
/-- the operation is wanted, and panics so -/
def Dies (P : Program) (ops : Array Oper) (Q : Exit → Act → World → Prop) (o : Oper) (a : Act) (w : World) : Prop :=
  Region.wanted o (yielded ops a.tmps) = true ∧ o.wp P a w (fun _ _ => False) (OnlyP Q)
/-- where a walk ends normally, the operation dies -/
def DieQ (P : Program) (ops : Array Oper) (Q : Exit → Act → World → Prop) (o : Oper) : Exit → Act → World → Prop
  | .normal, a, w => Dies P ops Q o a w
  | _, _, _ => False

theorem dieQ_of {o : Oper} {a : Act} {w : World} (h : wpList P ops (OnlyP Q) [o] a w) : DieQ P ops Q o .normal a w := by
  unfold wpList at h
  by_cases hw : Region.wanted o (yielded ops a.tmps) = true
  · rw [if_pos hw] at h
    refine ⟨hw, (h.resolve_right fun h => OnlyP.noOut h.2)⟩
  · rw [if_neg hw] at h
    exact (h : False).elim
theorem Dies.wp {o : Oper} {a : Act} {w : World} {K : Act → World → Prop} (h : Dies P ops Q o a w) : o.wp P a w K Q := by
  have h := h.2
  unfold Oper.wp at *
  generalize (execOp a.eval o).run P w = r at *
  cases r with
  | ok n w' =>
    cases n <;> simp only [Oper.upon] at h ⊢
    case enter f args =>
      refine Calls.mono h fun e w'' he => ?_
      cases e with
      | returned u => exact (he : False).elim
      | panicked c => exact he
      | outgrown => exact (OnlyP.noOut he).elim
    case row row args =>
      obtain ⟨v, w'', he, _⟩ := h default []
      exact (he : False).elim
  | halt x w' => cases x <;> simp only [Oper.upon] at h ⊢ <;> exact h
theorem Dies.unput {o : Oper} {a : Act} {w : World} {d : Option Tmp} {v : Value} (hQ : ∀ c (a : Act) d v w, Q (.panic c) (a.put d v) w → Q (.panic c) a w) (hl : ∀ t, d = some t → t ∉ o.looksAt ops) (hsel : ∀ cs b, o.op ≠ .select cs b)
    (h : Dies P ops Q o (a.put d v) w) : Dies P ops Q o a w := by
  obtain ⟨hw, h⟩ := h
  refine ⟨by rw [← wanted_put (ops := ops) o a d v hl]; exact hw, ?_⟩
  have hx := execOp_put (ops := ops) o hsel a d v hl
  unfold Oper.wp at *
  rw [hx] at h
  generalize (execOp a.eval o).run P w = r at *
  cases r with
  | ok n w' =>
    cases n <;> simp only [Oper.upon] at h ⊢
    case enter f args =>
      refine Calls.mono h fun e w'' he => ?_
      cases e with
      | returned u => exact he
      | panicked c => exact hQ _ _ _ _ _ he
      | outgrown => exact he
    case row row args => exact h
  | halt x w' =>
    cases x <;> simp only [Oper.upon] at h ⊢
    case panic v => exact hQ _ _ _ _ _ h

def lookB (P : Program) (tys : List (Nat × Nat)) (ops : Array Oper) (o : Oper) (op : Oper) : Bool := (kindB P tys o == 0 || kindB P tys o == 1) && o.apart ops op
/-- operations that only look may be left out ahead of one that dies -/
theorem dies_of {op : Oper} (hQ : ∀ c (a : Act) d v w, Q (.panic c) (a.put d v) w → Q (.panic c) a w) (hsel : ∀ cs b, op.op ≠ .select cs b) : ∀ (rest : List Oper) (a : Act) (w : World), (∀ o ∈ rest, lookB P tys ops o op = true) →
    wpI P ops (DieQ P ops Q op) tys rest a w → Dies P ops Q op a w
  | [], a, w, _, h => h
  | o :: rest, a, w, hr, h => by
    have h1 := hr o (by simp)
    unfold lookB at h1
    rw [Bool.and_eq_true, Bool.or_eq_true, beq_iff_eq, beq_iff_eq] at h1
    obtain ⟨hk, hap⟩ := h1
    obtain ⟨hl, _, _⟩ := Oper.apart_spec hap
    have hv : ∃ v, wpI P ops (DieQ P ops Q op) tys rest (a.put o.dst v) w := by
      rcases hk with hk | hk
      · obtain ⟨v, hy⟩ := h.1.yv hk h.2
        exact ⟨v, (hy.stp trivial).1 h.2⟩
      · obtain ⟨v, hy⟩ := reads_yv hk h.2
        exact ⟨v, (hy.stp rfl).1 h.2⟩
    obtain ⟨v, hv⟩ := hv
    exact (dies_of hQ hsel rest _ w (fun o ho => hr o (by simp [ho])) hv).unput hQ hl hsel

/-! ### The check -/
def edgesB (o : Oper) (f : Nat → Bool) : Bool := o.after.all fun e => !Region.binds .any e || f e.on
def dieB (P : Program) (tys : List (Nat × Nat)) (l : List Oper) (pre : List Nat) (p : Nat) : Bool :=
  Region.noSelect l.toArray &&
  (decide (pre.Pairwise (· < ·)) &&
  ((pre.all fun i => match l[i]? with
    | some oi => edgesB oi (fun k => pre.contains k && decide (k < i)) && ((pre.all fun j => !decide (j < i) || ((ancTab l #[]).getD i 0).testBit j || match l[j]? with | some oj => pairB P tys l.toArray oj oi | none => false) &&
        (((ancTab l #[]).getD p 0).testBit i || match l[p]? with | some op => lookB P tys l.toArray oi op | none => false))
    | none => false) &&
  ((match l[p]? with
    | some op => edgesB op (fun k => pre.contains k)
    | none => false) &&
  (!pre.contains p && (List.range l.length).all fun i => pre.contains i || decide (i = p) || ((ancTab l #[]).getD i 0).testBit p))))

def left (pre : List Nat) (listed : Array Bool) : List Nat := pre.filter fun i => !listed.getD i true
theorem mem_left {pre : List Nat} {i : Nat} {listed : Array Bool} : i ∈ left pre listed ↔ i ∈ pre ∧ listed.getD i true = false := by
  simp [left]
theorem left_set {pre : List Nat} (hp : pre.Pairwise (· < ·)) {i : Nat} {listed : Array Bool} {l1 l2 : List Nat} (h : left pre listed = l1 ++ i :: l2) : left pre (listed.setIfInBounds i true) = l1 ++ l2 := by
  have hs : (left pre listed).Pairwise (· < ·) := List.Pairwise.filter _ hp
  rw [h] at hs
  have hi : i ∈ left pre listed := by rw [h]; simp
  have h1 : left pre (listed.setIfInBounds i true) = (left pre listed).filter (fun j => decide (j ≠ i)) := by
    unfold left
    rw [List.filter_filter]
    refine List.filter_congr fun j _ => ?_
    by_cases hji : i = j
    · subst hji
      have hsz : i < listed.size := by
        rcases Nat.lt_or_ge i listed.size with h' | h'
        · exact h'
        · have := (mem_left.1 hi).2
          simp [Array.getElem?_eq_none h'] at this
      simp [hsz]
    · rw [getD_set_ne true hji]
      simp [Ne.symm hji]
  rw [h1, h, List.filter_append, List.filter_cons]
  rw [List.pairwise_append] at hs
  obtain ⟨hs1, hs2, hs3⟩ := hs
  rw [List.pairwise_cons] at hs2
  have e1 : l1.filter (fun j => decide (j ≠ i)) = l1 := List.filter_eq_self.2 fun j hj => by have := hs3 j hj i (by simp); simp; omega
  have e2 : l2.filter (fun j => decide (j ≠ i)) = l2 := List.filter_eq_self.2 fun j hj => by have := hs2.1 j hj; simp; omega
  rw [e1, e2]
  simp

theorem edgesB_spec {o : Oper} {f : Nat → Bool} (h : edgesB o f = true) : ∀ e ∈ o.after.toList, Region.binds .any e = true → f e.on = true := fun e he hb => by
  have := Array.all_eq_true_iff_forall_mem.1 h e (by simpa using he)
  simpa [hb] using this

theorem any_of_die {l : List Oper} {pre : List Nat} {p : Nat} {op : Oper} (hop : l[p]? = some op) (hB : dieB P tys l pre p = true) (hQ : ∀ c (a : Act) d v w, Q (.panic c) (a.put d v) w → Q (.panic c) a w) : ∀ (fuel : Nat) (listed : Array Bool) (a : Act) (w : World), listed.size = l.length → Closed l.toArray listed → listed.getD p true = false → (left pre listed).length < fuel →
    wpI P l.toArray (DieQ P l.toArray Q op) tys ((left pre listed).filterMap (l.toArray[·]?)) a w → wpAny P .any l.toArray Q fuel listed a w := by
  simp only [dieB, Bool.and_eq_true, decide_eq_true_eq, hop] at hB
  obtain ⟨hno, hsort, hpre, hpe, hpn, hall⟩ := hB
  have hsel := Region.noSelect_spec hno
  have hselm : ∀ o : Oper, o ∈ l.toArray → ∀ cs b, o.op ≠ .select cs b := fun o ho cs b => by
    obtain ⟨i, hi, rfl⟩ := Array.mem_iff_getElem.1 ho
    exact hsel i _ cs b (Array.getElem?_eq_getElem hi)
  obtain ⟨hgood, hsz⟩ := ancTab_good (ops := l.toArray) l #[] (fun j => by simp) (fun i hi => by simp at hi)
  simp only [List.size_toArray, List.length_nil, Nat.zero_add] at hsz
  have hplt : p < l.length := (List.getElem?_eq_some_iff.1 hop).1
  have hpnm : p ∉ pre := fun h => by
    have h2 : pre.contains p = true := List.contains_iff_mem.2 h
    rw [h2] at hpn
    cases hpn
  -- what the check says of one of those ahead
  have one : ∀ i ∈ pre, ∃ oi, l[i]? = some oi ∧ (∀ e ∈ oi.after.toList, Region.binds .any e = true → e.on ∈ pre ∧ e.on < i) ∧ (∀ j ∈ pre, j < i → ∀ oj, l[j]? = some oj → ((ancTab l #[]).getD i 0).testBit j = true ∨ pairB P tys l.toArray oj oi = true) ∧
      (((ancTab l #[]).getD p 0).testBit i = true ∨ lookB P tys l.toArray oi op = true) := fun i hi => by
    have h := List.all_eq_true.1 hpre i hi
    cases ho : l[i]? with
    | none => rw [ho] at h; cases h
    | some oi =>
      rw [ho] at h
      simp only [Bool.and_eq_true, Bool.or_eq_true] at h
      obtain ⟨h1, h2, h3⟩ := h
      refine ⟨oi, rfl, fun e he hb => ?_, fun j hj hji oj hoj => ?_, h3⟩
      · have := edgesB_spec h1 e he hb
        rw [Bool.and_eq_true, List.contains_iff_mem, decide_eq_true_iff] at this
        exact this
      · have := List.all_eq_true.1 h2 j hj
        rw [hoj] at this
        simp only [hji, decide_true, Bool.not_true, Bool.false_or, Bool.or_eq_true] at this
        exact this
  have hpl : ∀ i ∈ pre, i < l.length := fun i hi => by
    obtain ⟨oi, ho, _⟩ := one i hi
    exact (List.getElem?_eq_some_iff.1 ho).1
  intro fuel
  induction fuel with
  | zero =>
    intro listed a w _ _ _ hlen _
    omega
  | succ fuel ih =>
    intro listed a w hls hcl hpu hlen h
    have hunl : ∀ i, i < l.length → listed.getD i true ≠ false → listed.getD i false = true := fun i hi hne => by
      cases hv : listed.getD i false with
      | true => rfl
      | false => exact absurd (getD_in (by omega) hv) hne
    have someReady : Region.ready .any l.toArray listed ≠ [] := fun hr => by
      cases he : left pre listed with
      | nil =>
        have : p ∈ Region.ready .any l.toArray listed := by
          refine mem_ready.2 ⟨hpu, op, by simpa using hop, fun e hee hb => ?_⟩
          have hin := edgesB_spec hpe e (by simpa using hee) hb
          rw [List.contains_iff_mem] at hin
          refine hunl _ (hpl _ hin) fun hf => ?_
          have : e.on ∈ left pre listed := mem_left.2 ⟨hin, hf⟩
          rw [he] at this
          cases this
        rw [hr] at this
        cases this
      | cons i0 rest =>
        have hm : i0 ∈ left pre listed := by rw [he]; simp
        obtain ⟨hin, hun⟩ := mem_left.1 hm
        obtain ⟨oi, ho, hed, _⟩ := one i0 hin
        have : i0 ∈ Region.ready .any l.toArray listed := by
          refine mem_ready.2 ⟨hun, oi, by simpa using ho, fun e hee hb => ?_⟩
          obtain ⟨h1, h2⟩ := hed e (by simpa using hee) hb
          refine hunl _ (hpl _ h1) fun hf => ?_
          have hm2 : e.on ∈ left pre listed := mem_left.2 ⟨h1, hf⟩
          have hs : (left pre listed).Pairwise (· < ·) := List.Pairwise.filter _ hsort
          rw [he] at hs hm2
          rcases List.mem_cons.1 hm2 with e1 | e1
          · omega
          · have := (List.pairwise_cons.1 hs).1 _ e1
            omega
        rw [hr] at this
        cases this
    refine ⟨fun hr => absurd hr someReady, fun i hi => ?_⟩
    obtain ⟨hun, oi, hoi, hedg⟩ := mem_ready.1 hi
    have hil : l[i]? = some oi := by simpa using hoi
    have hit : i < l.length := (List.getElem?_eq_some_iff.1 hil).1
    unfold wpOp
    rw [hoi]
    dsimp only
    by_cases hip : i = p
    · subst hip
      obtain rfl : oi = op := Option.some.inj (hil.symm.trans hop)
      have hd : Dies P l.toArray Q oi a w := by
        refine dies_of hQ (hselm oi (Array.mem_of_getElem? hoi)) _ a w (fun o ho => ?_) h
        obtain ⟨j, hj, hjo⟩ := List.mem_filterMap.1 ho
        obtain ⟨hjp, hju⟩ := mem_left.1 hj
        obtain ⟨oj, hoj, _, _, hx⟩ := one j hjp
        obtain rfl : o = oj := by
          have : l[j]? = some o := by simpa using hjo
          exact Option.some.inj (this.symm.trans hoj)
        rcases hx with hb | hb
        · have := anc_listed hgood hcl i oi (by omega) hoi (fun e hee => hedg e (by simpa using hee)) hb
          rw [getD_both hju] at this
          cases this
        · exact hb
      rw [if_pos hd.1]
      exact .inl hd.wp
    · by_cases hin : i ∈ pre
      · obtain ⟨l1, l2, he⟩ := List.append_of_mem (mem_left.2 ⟨hin, hun⟩)
        have hs : (left pre listed).Pairwise (· < ·) := List.Pairwise.filter _ hsort
        obtain ⟨oi', hoi', _, hpair, _⟩ := one i hin
        obtain rfl : oi' = oi := Option.some.inj (hoi'.symm.trans hil)
        rw [he, List.pairwise_append] at hs
        rw [he, List.filterMap_append, List.filterMap_cons_some hoi] at h
        have hfr := wpI.front hselm oi' (Array.mem_of_getElem? hoi) (l2.filterMap (l.toArray[·]?)) (l1.filterMap (l.toArray[·]?)) a w (fun oj hoj => by
          obtain ⟨j, hj, hjo⟩ := List.mem_filterMap.1 hoj
          refine ⟨Array.mem_of_getElem? hjo, ?_⟩
          have hji : j < i := hs.2.2 j hj i (by simp)
          have hjm : j ∈ left pre listed := by rw [he]; simp [hj]
          obtain ⟨hjp, hju⟩ := mem_left.1 hjm
          rcases hpair j hjp hji oj (by simpa using hjo) with hb | hb
          · have := anc_listed hgood hcl i oi' (by omega) hoi (fun e hee => hedg e (by simpa using hee)) hb
            rw [getD_both hju] at this
            cases this
          · simp only [pairB, Bool.and_eq_true, Bool.or_eq_true, beq_iff_eq] at hb
            exact ⟨hb.2, by rcases hb.1 with (h1 | h1) | h1 <;> simp_all⟩) h
        have hcl' : Closed l.toArray (listed.setIfInBounds i true) := fun k ok hok hk e hee hb => by
          by_cases hik : i = k
          · subst hik
            obtain rfl : ok = oi' := Option.some.inj (hok.symm.trans hoi)
            exact getD_set_true (hedg e (by simpa using hee) hb)
          · rw [getD_set_ne false hik] at hk
            exact getD_set_true (hcl k ok hok hk e hee hb)
        have hrs := left_set hsort he
        have hpu' : (listed.setIfInBounds i true).getD p true = false := by rw [getD_set_ne true hip]; exact hpu
        have hst := hfr.2.mono fun a' w' h' => ih (listed.setIfInBounds i true) a' w' (by simpa using hls) hcl' hpu' (by rw [hrs]; rw [he] at hlen; simp at hlen ⊢; omega) (by rw [hrs, List.filterMap_append]; exact h')
        unfold Stp at hst
        split
        · rename_i hw
          rw [if_pos hw] at hst
          refine .inl ?_
          unfold Oper.wp at hst ⊢
          generalize (execOp a.eval oi').run P w = r at hst ⊢
          cases r with
          | ok n w' =>
            cases n <;> simp only [Oper.upon] at hst ⊢ <;>
              first
                | exact hst
                | exact Calls.mono hst (fun e w'' he => by cases e <;> first | exact he | exact (he : False).elim | exact (OnlyN.noOut he).elim)
          | halt x w' =>
            cases x <;> simp only [Oper.upon] at hst ⊢
            case panic v => exact (hst : False).elim
        · rename_i hw; rw [if_neg hw] at hst; exact hst
      · have hb := List.all_eq_true.1 hall i (List.mem_range.2 hit)
        have hnc : pre.contains i = false := by
          cases hx : pre.contains i with
          | false => rfl
          | true => exact absurd (List.contains_iff_mem.1 hx) hin
        rw [hnc] at hb
        simp only [hip, decide_false, Bool.false_or] at hb
        have := anc_listed hgood hcl i oi (by omega) hoi (fun e hee => hedg e (by simpa using hee)) hb
        rw [getD_both hpu] at this
        cases this

/-- A region whose order is drawn, in which operation p panics; pre: what may come ahead of it. -/
theorem wp_region_die (tys : List (Nat × Nat)) (pre : List Nat) (p : Nat) {id : Nat} {l : List Oper} {op : Oper} {a : Act} {w : World} (hm : P.follows .mixedOrders = true) (hop : l[p]? = some op) (hB : dieB P tys l pre p = true) (hQ : ∀ c (a : Act) d v w, Q (.panic c) (a.put d v) w → Q (.panic c) a w) (hf : pre.length < l.length)
    (h : wpList P l.toArray (OnlyN (DieQ P l.toArray Q op)) (instr tys (pre.filterMap (l[·]?))) a w.drew) : (Code.region id l.toArray true).wp P Q a w := by
  refine wp_region_any hm ?_
  have hr : left pre (Array.replicate l.length false) = pre := List.filter_eq_self.2 fun i hi => by
    have hpl : i < l.length := by
      simp only [dieB, Bool.and_eq_true, decide_eq_true_eq] at hB
      have h1 := List.all_eq_true.1 hB.2.2.1 i hi
      cases ho : l[i]? with
      | none => rw [ho] at h1; cases h1
      | some oi => exact (List.getElem?_eq_some_iff.1 ho).1
    simp [hpl]
  have hplt : p < l.length := (List.getElem?_eq_some_iff.1 hop).1
  refine any_of_die hop hB hQ _ _ _ _ (by simp) ?_ ?_ ?_ ?_
  · intro i o _ hi
    simp only [List.size_toArray] at hi
    rw [getD_replicate_false] at hi
    cases hi
  · simp [hplt]
  · simp only [List.size_toArray]
    rw [hr]
    exact hf
  · simp only [List.size_toArray]
    rw [hr]
    simp only [List.getElem?_toArray]
    exact wpI_of_list _ a _ h
end
end Go.Proofs.YtlcaaacbookopaaGreatDoor

namespace Go.Proofs.YtlcaaacbookopaaGreatDoor
open Go.RowKit

/-- a meta that is being read out of any bytes -/
structure DnS (w W : World) (l : List UInt8) (gm gv g : Nat) (B : Option Addr) (n c q : Nat) (cs : Array Value) : Prop where
  rd : RdS W g B n c l q
  bm : Blk W gm 25 cs
  bv : Blk W gv 70 #[.pointer (some ⟨g, 0, none⟩)]
  bn : ∀ ad, B = some ad → 0 < n → ad.block ≠ gm
  ch : Chg (fun k => k = gm) w W
  lo : w.heap.size ≤ g
theorem DnS.to {w W W' : World} {l : List UInt8} {gm gv g : Nat} {B : Option Addr} {n c q q2 : Nat} {cs : Array Value} (h : DnS w W l gm gv g B n c q cs) (ht : RdT W W' g B n c l q2) : DnS w W' l gm gv g B n c q2 cs :=
  ⟨ht.rd, h.bm.chg ht.ch (fun e => Blk.neT h.bm h.rd.bk (by decide) e), h.bv.chg ht.ch (fun e => Blk.neT h.bv h.rd.bk (by decide) e), h.bn, h.ch.step ht.ch fun j hj e => by have := h.lo; omega, h.lo⟩
theorem DnS.grew {w W W' : World} {l : List UInt8} {gm gv g : Nat} {B : Option Addr} {n c q : Nat} {cs : Array Value} (h : DnS w W l gm gv g B n c q cs) (hg : Grew W W') : DnS w W' l gm gv g B n c q cs :=
  ⟨h.rd.chg hg (fun e => e) (fun _ _ _ e => e), h.bm.grew hg, h.bv.grew hg, h.bn, h.ch.trans (Chg.of_grew hg), h.lo⟩
theorem DnS.set {w W : World} {l : List UInt8} {gm gv g : Nat} {B : Option Addr} {n c q : Nat} {cs : Array Value} (h : DnS w W l gm gv g B n c q cs) (i : Nat) (u : Value) : DnS w (W.setCell ⟨gm, i, none⟩ u) l gm gv g B n c q (cs.setIfInBounds i u) :=
  ⟨h.rd.chg (Chg.cell1 W gm i u) (fun e => Blk.neT h.rd.bk h.bm (by decide) e) (fun ad e h0 hk => h.bn ad e h0 hk), h.bm.set i u, h.bv.far (Blk.neT h.bv h.bm (by decide)) u, h.bn, h.ch.trans (Chg.cell1 W gm i u), h.lo⟩
theorem DnS.append {α : Type} {E : El α} {w W W' : World} {l : List UInt8} {gm gv g : Nat} {B : Option Addr} {n c q : Nat} {cs : Array Value} {t : TypeId} {A A' : Option Addr} {p r d d' : Nat} {ls rs : List α} (h : DnS w W l gm gv g B n c q cs)
    (ho : OE E W w.heap.size t A p d rs) (ha : ApE E W w.heap.size t A r d ls A' d' W') (h1 : t ≠ 25) (h2 : t ≠ 70) (h3 : t ≠ 77) (hB : ∀ ad bd, B = some ad → 0 < n → A = some bd → ad.block ≠ bd.block) : DnS w W' l gm gv g B n c q cs :=
  ⟨h.rd.chg ha.chg (fun ⟨ad, e, hk⟩ => Own.ne_blk ho h.rd.bk h3 ad e hk.symm) (fun ad e h0 ⟨bd, e2, hk⟩ => hB ad bd e h0 e2 hk), h.bm.chg ha.chg (fun ⟨ad, e, hk⟩ => Own.ne_blk ho h.bm h1 ad e hk.symm), h.bv.chg ha.chg (fun ⟨ad, e, hk⟩ => Own.ne_blk ho h.bv h2 ad e hk.symm), h.bn,
    h.ch.step ha.chg fun j hj ⟨ad, e, hk⟩ => by have := (Own.blk_lt ho ad e).1; omega, h.lo⟩
theorem DnS.look {w W : World} {l : List UInt8} {gm gv g : Nat} {B : Option Addr} {n c q : Nat} {cs : Array Value} (h : DnS w W l gm gv g B n c q cs) : W.cell? ⟨gv, 0, none⟩ = some (.pointer (some ⟨g, 0, none⟩)) := h.bv.cell 0

set_option maxRecDepth 100000 in
set_option maxHeartbeats 4000000 in
theorem each_no (m : Met) (w W : World) (l : List UInt8) (gm gv g : Nat) (B : Option Addr) (n c q j : Nat) (A : Option Addr) (d : Nat) (h : DnS w W l gm gv g B n c q (csM m A j d)) (hn : n ≤ 140737488355328) (hr : (uintR l (q : Int)).2.2 ≠ 0) :
    Calls Tryz.prog 47 #[.pointer (some ⟨gm, 0, none⟩), .pointer (some ⟨gv, 0, none⟩)] W fun e W' => GvU e ∧ Chg (fun k => k = gm) w W' := by
  have m4 := h.bm.cell 4
  have v0 := h.bv.cell 0
  simp only [List.getElem?_toArray, List.getElem?_cons_succ, List.getElem?_cons_zero] at m4 v0
  have hR := fun W' (hg : Grew W W') => rnumber_no g B n c l q W' (h.grew hg).rd hn hr
  replace hR := Lib.hid hR
  clear hr
  unfold GvU
  go_enter Tryz.func47, Tryz.ntmps47
  go_wp2_with fail
  refine wp_region_die [] [0, 1, 2] 3 (by kernel_rfl) rfl (by kernel_rfl) (fun c a d v w h => ⟨by have h1 := h.1; rwa [put_defers] at h1, h.2⟩) (by decide) ?_
  simp only [List.filterMap_cons, List.filterMap_nil, List.getElem?_cons_zero, List.getElem?_cons_succ, instr, chk, List.nil_append]
  go_wp2_with fail
  refine OnlyN.normal (dieQ_of ?_)
  go_wp2_with fail
  refine (hR.out _ (Chg.refl _ W).drew).mono ?_
  rintro e w1 ⟨he, hg⟩
  unfold GvU at he
  subst he
  exact ⟨rfl, rfl, (h.ch.trans (Chg.of_grew (Chg.refl _ W).drew)).trans (Chg.of_grew hg)⟩

set_option maxRecDepth 100000 in
set_option maxHeartbeats 4000000 in
theorem each_yes (m : Met) (w W : World) (l : List UInt8) (gm gv g : Nat) (B : Option Addr) (n c q j x q2 : Nat) (A : Option Addr) (d : Nat) (xs : List Nat) (h : DnS w W l gm gv g B n c q (csM m A j d)) (hA : OE elU W w.heap.size 22 A j d xs) (hrr : uintR l (q : Int) = (x, q2, 0))
    (hB : ∀ ad, B = some ad → 0 < n → ad.block < w.heap.size) (hn : n ≤ 140737488355328) (hj : j ≤ 64) :
    Calls Tryz.prog 47 #[.pointer (some ⟨gm, 0, none⟩), .pointer (some ⟨gv, 0, none⟩)] W fun e W' => e = .returned (.tuple #[]) ∧ ∃ A2 d2, DnS w W' l gm gv g B n c q2 (csM m A2 (j + 1) d2) ∧ OE elU W' w.heap.size 22 A2 (j + 1) d2 (xs ++ [x]) := by
  have m4 := h.bm.cell 4
  have v0 := h.bv.cell 0
  simp only [List.getElem?_toArray, List.getElem?_cons_succ, List.getElem?_cons_zero] at m4 v0
  have hcs : CellsIn [gm, gv] W := cellsIn_blk h.bm (cellsIn_blk h.bv (cellsIn_nil _))
  have hsz := h.ch.size
  have hcap := hA.cap
  replace hrr := Lib.hid hrr
  go_enter Tryz.func47, Tryz.ntmps47
  go_wp2_with fail
  refine wp_region_textL [] [gm, gv] (by kernel_rfl) (by kernel_rfl) hcs ?_
  simp only [wpUL, tagOf, chk, List.cons_append, List.nil_append]
  intro K hK
  go_wp2_with fail
  refine OnlyN.normal (hK _ _ (fun _ => ⟨_, _, _, rfl, rfl, by simp⟩) ?_)
  clear hK K
  intro K hK
  go_wp2_with fail
  refine OnlyN.normal (hK _ _ (fun _ => ⟨_, _, _, rfl, rfl, by simp⟩) ?_)
  clear hK K
  intro K hK
  go_wp2_with fail
  refine (rnumber_ok g B n c l q x q2 _ ((h.grew ((Chg.refl _ W).drew)).rd) hn hrr.out).mono ?_
  rintro e W1 ⟨rfl, hT⟩
  have h1 := (h.grew ((Chg.refl _ W).drew)).to hT
  have hc1 : Chg (fun k => k = g) W W1 := (Chg.refl _ W).drew.trans hT.ch
  have hA1 : OE elU W1 w.heap.size 22 A j d xs := OE.chg hA hc1 fun ad e hk => Own.ne_blk hA h.rd.bk (by decide) ad e hk
  have hng : ∀ k', k' ∈ [gm, gv] → k' ≠ g := fun k' hk' => by
    simp only [List.mem_cons, List.not_mem_nil, or_false] at hk'
    rcases hk' with rfl | rfl
    · exact Blk.neT h.bm h.rd.bk (by decide)
    · exact Blk.neT h.bv h.rd.bk (by decide)
  go_wp2_with fail
  refine OnlyN.normal (hK _ _ (sameIn_of hc1 hcs hng) ?_)
  clear hK K
  have hsz1 := h1.ch.size
  have hga : Grew W1 (W1.alloc (.cells #[.int .u64 (x : Int)] 22)) := (Chg.refl _ W1).alloc _
  have hsrc : RE elU (W1.alloc (.cells #[.int .u64 (x : Int)] 22)) (some ⟨W1.heap.size, 0, none⟩) 1 [x] := RE.newAt rfl rfl rfl
  have hA2 := hA1.grew hga
  intro K hK
  go_wp2_with fail
  refine OnlyN.normal (hK _ _ (sameIn_of (hc1.trans (Chg.of_grew hga)) hcs hng) ?_)
  clear hK K
  intro K hK
  go_wp2_with (at_builtin; go_loud (refine wpList_appE rfl _ _ 23 22 infoU64 rfl Tryz.underlying23 rfl w.heap.size A j d _ rfl hA2 (by simp; omega) _ 1 1 [x] rfl hsrc (by unfold maxLen; omega) (by omega) ?_); intro A3 d3 W3 h3)
  have h4 := (h1.grew hga).append hA2 h3 (by decide) (by decide) (by decide) (fun ad bd e h0 e2 => by have := hB ad e h0; have := (Own.blk_lt hA2 bd e2).1; omega)
  have hng2 : ∀ k', k' ∈ [gm, gv] → ¬ (k' = g ∨ ∃ ad, A = some ad ∧ k' = ad.block) := fun k' hk' => by
    rintro (e | ⟨ad, e, hk⟩)
    · exact hng k' hk' e
    · simp only [List.mem_cons, List.not_mem_nil, or_false] at hk'
      rcases hk' with rfl | rfl
      · exact Own.ne_blk hA h.bm (by decide) ad e hk.symm
      · exact Own.ne_blk hA h.bv (by decide) ad e hk.symm
  refine OnlyN.normal (hK _ _ (sameIn_of (((hc1.mono fun k _ e => Or.inl e).trans (Chg.of_grew hga)).trans (h3.chg.mono fun k _ e => Or.inr e)) hcs hng2) ?_)
  clear hK K
  have m4' := h4.bm.cell 4
  have mf' := h4.bm.frozen 4
  simp only [List.getElem?_toArray, List.getElem?_cons_succ, List.getElem?_cons_zero] at m4'
  have h5 := h4.set 4 (.slice A3 (j + 1) d3)
  have hA5 : OE elU (W3.setCell ⟨gm, 4, none⟩ (.slice A3 (j + 1) d3)) w.heap.size 22 A3 (j + 1) d3 (xs ++ [x]) := OE.farBlk h3.oe h4.bm (by decide) 4 _
  go_wp2_with fail
  refine OnlyN.normal ?_
  clear hA2 hsrc h3 hA1 hT h1 h4 m4' mf' m4 v0 hcs
  go_wp2
  go_end0
  simp only [List.setIfInBounds_toArray, List.set_cons_succ, List.set_cons_zero] at h5
  exact ⟨rfl, A3, d3, h5, hA5⟩

/-- a number more of a meta's sources, or given up -/
theorem each_any (m : Met) (w W : World) (l : List UInt8) (gm gv g : Nat) (B : Option Addr) (n c q j : Nat) (A : Option Addr) (d : Nat) (xs : List Nat) (h : DnS w W l gm gv g B n c q (csM m A j d)) (hA : OE elU W w.heap.size 22 A j d xs)
    (hB : ∀ ad, B = some ad → 0 < n → ad.block < w.heap.size) (hn : n ≤ 140737488355328) (hj : j ≤ 64) :
    Calls Tryz.prog 47 #[.pointer (some ⟨gm, 0, none⟩), .pointer (some ⟨gv, 0, none⟩)] W fun e W' =>
      (∃ x q2 A2 d2, x < 18446744073709551616 ∧ q2 ≤ l.length ∧ l.take q2 = l.take q ++ uv x ∧ e = .returned (.tuple #[]) ∧ DnS w W' l gm gv g B n c q2 (csM m A2 (j + 1) d2) ∧ OE elU W' w.heap.size 22 A2 (j + 1) d2 (xs ++ [x])) ∨ (GvU e ∧ Chg (fun k => k = gm) w W') := by
  by_cases hr : (uintR l (q : Int)).2.2 = 0
  · obtain ⟨x, q2, h1, h2, h3, _, h4⟩ := uintR_part hr
    exact (each_yes m w W l gm gv g B n c q j x q2 A d xs h hA h1 hB hn hj).mono fun e W' ⟨he, A2, d2, hD, hO⟩ => .inl ⟨x, q2, A2, d2, h2, h3, h4, he, hD, hO⟩
  · exact (each_no m w W l gm gv g B n c q j A d h hn hr).mono fun e W' h => .inr h

set_option maxRecDepth 100000 in
set_option maxHeartbeats 4000000 in
theorem rows_any (m : Met) (w W : World) (l : List UInt8) (gm gv g : Nat) (B : Option Addr) (n c q : Nat) (h : DnS w W l gm gv g B n c q (csM m none 0 0))
    (hB : ∀ ad, B = some ad → 0 < n → ad.block < w.heap.size) (hn : n ≤ 140737488355328) :
    Calls Tryz.prog 46 #[.pointer (some ⟨g, 0, none⟩), .int .u64 64, .func (.func 47) #[] #[.pointer (some ⟨gm, 0, none⟩), .pointer (some ⟨gv, 0, none⟩)]] W
      fun e W' => (∃ xs q2 A2 d2, xs.length ≤ 64 ∧ (∀ x ∈ xs, x < 18446744073709551616) ∧ q2 ≤ l.length ∧ l.take q2 = l.take q ++ (uv xs.length ++ xs.flatMap uv) ∧ e = .returned (.tuple #[]) ∧ DnS w W' l gm gv g B n c q2 (csM m A2 xs.length d2) ∧ OE elU W' w.heap.size 22 A2 xs.length d2 xs) ∨ (GvU e ∧ Chg (fun k => k = gm) w W') := by
  unfold GvU
  go_enter Tryz.func46, Tryz.ntmps46
  go_wp2_with fail
  refine (rnumber_any g B n c l q _ h.rd hn).mono ?_
  rintro e W1 (⟨p, q1, hp, hq1, hl1, rfl, hT⟩ | ⟨he, hg⟩)
  · have h1 := h.to hT
    clear hT h
    by_cases hle : p ≤ 64
    · have ho6 : (p : Int) ≤ 64 := by omega
      replace hl1 := Lib.hid hl1
      go_wp2_with fail
      refine (must_yes _).mono ?_
      rintro e W2 ⟨rfl, rfl⟩
      go_wp2
      go_loopw [6] (fun s wr => ∃ (j : Nat) (A : Option Addr) (d q2 : Nat) (xs : List Nat), j ≤ p ∧ s = .int .u64 ((p - j : Nat) : Int) ∧ DnS w wr l gm gv g B n c q2 (csM m A j d) ∧ OE elU wr w.heap.size 22 A j d xs ∧ Hid (q2 ≤ l.length ∧ l.take q2 = l.take q ++ (uv p ++ xs.flatMap uv) ∧ ∀ x ∈ xs, x < 18446744073709551616)) (fun s _ => (intOf s).toNat)
      case atStart => exact ⟨0, none, 0, q1, [], by omega, rfl, h1, OE.nil _ _ _, Lib.hid ⟨hq1, by rw [hl1.out]; simp, fun x hx => by cases hx⟩⟩
      case round =>
        clear h1
        obtain ⟨j, A, d, q2, xs, hj, rfl, hD, hA, hh⟩ := hrel
        by_cases hlt : j < p
        · have hE := each_any m w wr l gm gv g B n c q2 j A d xs hD hA hB hn (by omega)
          obtain ⟨r, hr⟩ : ∃ r, p - j = r + 1 := ⟨p - j - 1, by omega⟩
          rw [hr]
          have hr2 : p - (j + 1) = r := by omega
          have hwq : IntKind.u64.wrap (r : Int) = (r : Int) := by rw [IntKind.wrap_u64]; omega
          replace hr2 := Lib.hid hr2
          clear hr
          go_wp2_with fail
          refine hE.mono ?_
          rintro e W3 (⟨x, q3, A3, d3, hx, hq3, hl3, rfl, hD3, hA3⟩ | ⟨he, hc⟩)
          · have hh3 : Hid (q3 ≤ l.length ∧ l.take q3 = l.take q ++ (uv p ++ (xs ++ [x]).flatMap uv) ∧ ∀ y ∈ xs ++ [x], y < 18446744073709551616) := by
              refine Lib.hid ⟨hq3, ?_, fun y hy => ?_⟩
              · rw [hl3, hh.out.2.1]
                simp
              · rcases List.mem_append.1 hy with hy | hy
                · exact hh.out.2.2 y hy
                · rcases List.mem_singleton.1 hy with rfl
                  exact hx
            clear hE hD hA hh hl3
            go_wp2
            go_roundw
            case rel => exact ⟨j + 1, A3, d3, q3, xs ++ [x], by omega, by rw [hr2.out], hD3, hA3, hh3⟩
            case measure => simp [intOf]
          · unfold GvU at he
            subst he
            clear hE hD hA hh
            go_wp2
            exact ⟨rfl, .inr ⟨rfl, hc⟩⟩
        · obtain rfl : p = j := by omega
          have hxl : xs.length = p := hA.len (by decide)
          rw [Nat.sub_self]
          clear hl1
          go_wp2
          first
            | go_end0
            | refine bodyPost_ret (results_none rfl _ _ _) rfl ?_
          subst hxl
          exact .inl ⟨xs, q2, A, d, hle, hh.out.2.2, hh.out.1, hh.out.2.1, rfl, hD, hA⟩
    · have ho6 : ¬ (p : Int) ≤ 64 := by omega
      clear hl1
      go_wp2_with fail
      rw [show decide ((p : Int) ≤ 64) = false from decide_eq_false (by omega)]
      refine (must_no _).mono ?_
      rintro e W2 ⟨he, rfl⟩
      unfold GvU at he
      subst he
      go_wp2
      exact ⟨rfl, .inr ⟨rfl, h1.ch⟩⟩
  · unfold GvU at he
    subst he
    go_wp2
    exact ⟨rfl, .inr ⟨rfl, h.ch.trans (Chg.of_grew hg)⟩⟩
end Go.Proofs.YtlcaaacbookopaaGreatDoor
