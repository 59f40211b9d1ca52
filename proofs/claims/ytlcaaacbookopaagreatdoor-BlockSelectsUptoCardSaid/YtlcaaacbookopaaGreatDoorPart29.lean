/-
  Several texts in one:
  A region whose order is drawn, with loads beside what acts, in which an operation panics. Conditions: a check of the region that the kernel runs; a panic's end does not hang on the slots; no program in sight.
  Points of a stretch; series and points counted. Conditions: lengths that memory bears.
  Rows of series in new memory: what they hold, what they abide, how they are appended to. Conditions: none.
  (block.read)'s closures: a text read, a pair of labels read, out of any bytes, or given up. Conditions: lengths that memory bears.
-/
import Derived.Test.YtlcaaacbookopaaGreatDoorPart27
import Derived.Test.YtlcaaacbookopaaGreatDoorPart6
import Derived.Test.YtlcaaacbookopaaGreatDoorPart16
import Derived.Test.YtlcaaacbookopaaGreatDoorPart7
import Derived.Test.YtlcaaacbookopaaGreatDoorPart23
import Derived.Test.YtlcaaacbookopaaGreatDoorPart28

namespace Go.Proofs.YtlcaaacbookopaaGreatDoor

section
variable {P : Program} {ops : Array Oper} {Q : Exit → Act → World → Prop} {tys : List (Nat × Nat)} {S : World → Prop}

def lookT (P : Program) (tys : List (Nat × Nat)) (ops : Array Oper) (o : Oper) (op : Oper) : Bool := decide (kindB P tys o ≤ 1) && o.apart ops op
/-- operations that only look may be left out ahead of one that dies -/
theorem dies_ofT {op : Oper} (hQ : ∀ c (a : Act) d v w, Q (.panic c) (a.put d v) w → Q (.panic c) a w) (hsel : ∀ cs b, op.op ≠ .select cs b) : ∀ (rest : List Oper) (a : Act) (w : World), (∀ o ∈ rest, lookT P tys ops o op = true) →
    S w → wpT P ops (DieQ P ops Q op) tys S rest a w → Dies P ops Q op a w
  | [], a, w, _, _, h => h
  | o :: rest, a, w, hr, hS, h => by
    have h1 := hr o (by simp)
    unfold lookT at h1
    rw [Bool.and_eq_true, decide_eq_true_iff] at h1
    obtain ⟨hk, hap⟩ := h1
    obtain ⟨hl, _, _⟩ := Oper.apart_spec hap
    have hv : ∃ v, wpT P ops (DieQ P ops Q op) tys S rest (a.put o.dst v) w := by
      obtain ⟨v, hy⟩ := h.1.yv hk hS h.2
      exact ⟨v, ((hy.stp hS).1 h.2).2⟩
    obtain ⟨v, hv⟩ := hv
    exact (dies_ofT hQ hsel rest _ w (fun o ho => hr o (by simp [ho])) hS hv).unput hQ hl hsel

def dieS (P : Program) (tys : List (Nat × Nat)) (l : List Oper) (pre : List Nat) (p : Nat) : Bool :=
  Region.noSelect l.toArray &&
  (decide (pre.Pairwise (· < ·)) &&
  ((pre.all fun i => match l[i]? with
    | some oi => edgesB oi (fun k => pre.contains k && decide (k < i)) && ((pre.all fun j => !decide (j < i) || ((ancTab l #[]).getD i 0).testBit j || match l[j]? with | some oj => pairT P tys l.toArray oj oi | none => false) &&
        (((ancTab l #[]).getD p 0).testBit i || match l[p]? with | some op => lookT P tys l.toArray oi op | none => false))
    | none => false) &&
  ((match l[p]? with
    | some op => edgesB op (fun k => pre.contains k)
    | none => false) &&
  (!pre.contains p && (List.range l.length).all fun i => pre.contains i || decide (i = p) || ((ancTab l #[]).getD i 0).testBit p))))

theorem any_of_dieS {l : List Oper} {pre : List Nat} {p : Nat} {op : Oper} (hop : l[p]? = some op) (hB : dieS P tys l pre p = true) (hQ : ∀ c (a : Act) d v w, Q (.panic c) (a.put d v) w → Q (.panic c) a w) : ∀ (fuel : Nat) (listed : Array Bool) (a : Act) (w : World), S w → listed.size = l.length → Closed l.toArray listed → listed.getD p true = false → (left pre listed).length < fuel →
    wpT P l.toArray (DieQ P l.toArray Q op) tys S ((left pre listed).filterMap (l.toArray[·]?)) a w → wpAny P .any l.toArray Q fuel listed a w := by
  simp only [dieS, Bool.and_eq_true, decide_eq_true_eq, hop] at hB
  obtain ⟨hno, hsort, hpre, hpe, hpn, hall⟩ := hB
  have hsel := Region.noSelect_spec hno
  have hselm : ∀ o : Oper, o ∈ l.toArray → ∀ cs b, o.op ≠ .select cs b := fun o ho cs b => by
    obtain ⟨i, hi, rfl⟩ := Array.mem_iff_getElem.1 ho
    exact hsel i _ cs b (Array.getElem?_eq_getElem hi)
  obtain ⟨hgood, hsz⟩ := ancTab_good (ops := l.toArray) l #[] (fun j => by simp) (fun i hi => by simp at hi)
  simp only [List.size_toArray, List.length_nil, Nat.zero_add] at hsz
  have hplt : p < l.length := (List.getElem?_eq_some_iff.1 hop).1
  have hpnm : p ∉ pre := fun h => by
    have h2 : pre.contains p = true := List.contains_iff_mem.2 h
    rw [h2] at hpn
    cases hpn
  -- what the check says of one of those ahead
  have one : ∀ i ∈ pre, ∃ oi, l[i]? = some oi ∧ (∀ e ∈ oi.after.toList, Region.binds .any e = true → e.on ∈ pre ∧ e.on < i) ∧ (∀ j ∈ pre, j < i → ∀ oj, l[j]? = some oj → ((ancTab l #[]).getD i 0).testBit j = true ∨ pairT P tys l.toArray oj oi = true) ∧
      (((ancTab l #[]).getD p 0).testBit i = true ∨ lookT P tys l.toArray oi op = true) := fun i hi => by
    have h := List.all_eq_true.1 hpre i hi
    cases ho : l[i]? with
    | none => rw [ho] at h; cases h
    | some oi =>
      rw [ho] at h
      simp only [Bool.and_eq_true, Bool.or_eq_true] at h
      obtain ⟨h1, h2, h3⟩ := h
      refine ⟨oi, rfl, fun e he hb => ?_, fun j hj hji oj hoj => ?_, h3⟩
      · have := edgesB_spec h1 e he hb
        rw [Bool.and_eq_true, List.contains_iff_mem, decide_eq_true_iff] at this
        exact this
      · have := List.all_eq_true.1 h2 j hj
        rw [hoj] at this
        simp only [hji, decide_true, Bool.not_true, Bool.false_or, Bool.or_eq_true] at this
        exact this
  have hpl : ∀ i ∈ pre, i < l.length := fun i hi => by
    obtain ⟨oi, ho, _⟩ := one i hi
    exact (List.getElem?_eq_some_iff.1 ho).1
  intro fuel
  induction fuel with
  | zero =>
    intro listed a w _ _ _ _ hlen _
    omega
  | succ fuel ih =>
    intro listed a w hS hls hcl hpu hlen h
    have hunl : ∀ i, i < l.length → listed.getD i true ≠ false → listed.getD i false = true := fun i hi hne => by
      cases hv : listed.getD i false with
      | true => rfl
      | false => exact absurd (getD_in (by omega) hv) hne
    have someReady : Region.ready .any l.toArray listed ≠ [] := fun hr => by
      cases he : left pre listed with
      | nil =>
        have : p ∈ Region.ready .any l.toArray listed := by
          refine mem_ready.2 ⟨hpu, op, by simpa using hop, fun e hee hb => ?_⟩
          have hin := edgesB_spec hpe e (by simpa using hee) hb
          rw [List.contains_iff_mem] at hin
          refine hunl _ (hpl _ hin) fun hf => ?_
          have : e.on ∈ left pre listed := mem_left.2 ⟨hin, hf⟩
          rw [he] at this
          cases this
        rw [hr] at this
        cases this
      | cons i0 rest =>
        have hm : i0 ∈ left pre listed := by rw [he]; simp
        obtain ⟨hin, hun⟩ := mem_left.1 hm
        obtain ⟨oi, ho, hed, _⟩ := one i0 hin
        have : i0 ∈ Region.ready .any l.toArray listed := by
          refine mem_ready.2 ⟨hun, oi, by simpa using ho, fun e hee hb => ?_⟩
          obtain ⟨h1, h2⟩ := hed e (by simpa using hee) hb
          refine hunl _ (hpl _ h1) fun hf => ?_
          have hm2 : e.on ∈ left pre listed := mem_left.2 ⟨h1, hf⟩
          have hs : (left pre listed).Pairwise (· < ·) := List.Pairwise.filter _ hsort
          rw [he] at hs hm2
          rcases List.mem_cons.1 hm2 with e1 | e1
          · omega
          · have := (List.pairwise_cons.1 hs).1 _ e1
            omega
        rw [hr] at this
        cases this
    refine ⟨fun hr => absurd hr someReady, fun i hi => ?_⟩
    obtain ⟨hun, oi, hoi, hedg⟩ := mem_ready.1 hi
    have hil : l[i]? = some oi := by simpa using hoi
    have hit : i < l.length := (List.getElem?_eq_some_iff.1 hil).1
    unfold wpOp
    rw [hoi]
    dsimp only
    by_cases hip : i = p
    · subst hip
      obtain rfl : oi = op := Option.some.inj (hil.symm.trans hop)
      have hd : Dies P l.toArray Q oi a w := by
        refine dies_ofT hQ (hselm oi (Array.mem_of_getElem? hoi)) _ a w (fun o ho => ?_) hS h
        obtain ⟨j, hj, hjo⟩ := List.mem_filterMap.1 ho
        obtain ⟨hjp, hju⟩ := mem_left.1 hj
        obtain ⟨oj, hoj, _, _, hx⟩ := one j hjp
        obtain rfl : o = oj := by
          have : l[j]? = some o := by simpa using hjo
          exact Option.some.inj (this.symm.trans hoj)
        rcases hx with hb | hb
        · have := anc_listed hgood hcl i oi (by omega) hoi (fun e hee => hedg e (by simpa using hee)) hb
          rw [getD_both hju] at this
          cases this
        · exact hb
      rw [if_pos hd.1]
      exact .inl hd.wp
    · by_cases hin : i ∈ pre
      · obtain ⟨l1, l2, he⟩ := List.append_of_mem (mem_left.2 ⟨hin, hun⟩)
        have hs : (left pre listed).Pairwise (· < ·) := List.Pairwise.filter _ hsort
        obtain ⟨oi', hoi', _, hpair, _⟩ := one i hin
        obtain rfl : oi' = oi := Option.some.inj (hoi'.symm.trans hil)
        rw [he, List.pairwise_append] at hs
        rw [he, List.filterMap_append, List.filterMap_cons_some hoi] at h
        have hfr := wpT.front hselm oi' (Array.mem_of_getElem? hoi) (l2.filterMap (l.toArray[·]?)) (l1.filterMap (l.toArray[·]?)) a w hS (fun oj hoj => by
          obtain ⟨j, hj, hjo⟩ := List.mem_filterMap.1 hoj
          refine ⟨Array.mem_of_getElem? hjo, ?_⟩
          have hji : j < i := hs.2.2 j hj i (by simp)
          have hjm : j ∈ left pre listed := by rw [he]; simp [hj]
          obtain ⟨hjp, hju⟩ := mem_left.1 hjm
          rcases hpair j hjp hji oj (by simpa using hjo) with hb | hb
          · have := anc_listed hgood hcl i oi' (by omega) hoi (fun e hee => hedg e (by simpa using hee)) hb
            rw [getD_both hju] at this
            cases this
          · simp only [pairT, Bool.and_eq_true, Bool.or_eq_true, decide_eq_true_eq] at hb
            exact ⟨hb.2, hb.1⟩) h
        have hcl' : Closed l.toArray (listed.setIfInBounds i true) := fun k ok hok hk e hee hb => by
          by_cases hik : i = k
          · subst hik
            obtain rfl : ok = oi' := Option.some.inj (hok.symm.trans hoi)
            exact getD_set_true (hedg e (by simpa using hee) hb)
          · rw [getD_set_ne false hik] at hk
            exact getD_set_true (hcl k ok hok hk e hee hb)
        have hrs := left_set hsort he
        have hpu' : (listed.setIfInBounds i true).getD p true = false := by rw [getD_set_ne true hip]; exact hpu
        have hst := hfr.2.mono fun a' w' ⟨hS', h'⟩ => ih (listed.setIfInBounds i true) a' w' hS' (by simpa using hls) hcl' hpu' (by rw [hrs]; rw [he] at hlen; simp at hlen ⊢; omega) (by rw [hrs, List.filterMap_append]; exact h')
        unfold Stp at hst
        split
        · rename_i hw
          rw [if_pos hw] at hst
          refine .inl ?_
          unfold Oper.wp at hst ⊢
          generalize (execOp a.eval oi').run P w = r at hst ⊢
          cases r with
          | ok n w' =>
            cases n <;> simp only [Oper.upon] at hst ⊢ <;>
              first
                | exact hst
                | exact Calls.mono hst (fun e w'' he => by cases e <;> first | exact he | exact (he : False).elim | exact (OnlyN.noOut he).elim)
          | halt x w' =>
            cases x <;> simp only [Oper.upon] at hst ⊢
            case panic v => exact (hst : False).elim
        · rename_i hw; rw [if_neg hw] at hst; exact hst
      · have hb := List.all_eq_true.1 hall i (List.mem_range.2 hit)
        have hnc : pre.contains i = false := by
          cases hx : pre.contains i with
          | false => rfl
          | true => exact absurd (List.contains_iff_mem.1 hx) hin
        rw [hnc] at hb
        simp only [hip, decide_false, Bool.false_or] at hb
        have := anc_listed hgood hcl i oi (by omega) hoi (fun e hee => hedg e (by simpa using hee)) hb
        rw [getD_both hpu] at this
        cases this

def dieSS (P : Program) (tys : List (Nat × Nat)) (l : List Oper) (pre : List Nat) (p : Nat) : Bool := dieS P tys l pre p && (pre.filterMap (l[·]?)).all fun o => kindB P tys o == tagOf tys o

/-- A region whose order is drawn, with loads beside what acts, in which operation p panics; pre: what may come ahead of it; bs: the blocks in which what is loaded lies. -/
theorem wp_region_dieS (tys : List (Nat × Nat)) (bs : List Nat) (pre : List Nat) (p : Nat) {id : Nat} {l : List Oper} {op : Oper} {a : Act} {w : World} (hm : P.follows .mixedOrders = true) (hop : l[p]? = some op) (hB : dieSS P tys l pre p = true) (hQ : ∀ c (a : Act) d v w, Q (.panic c) (a.put d v) w → Q (.panic c) a w) (hf : pre.length < l.length) (hc : CellsIn bs w)
    (h : wpU P l.toArray (DieQ P l.toArray Q op) tys bs w [] (pre.filterMap (l[·]?)) a w.drew) : (Code.region id l.toArray true).wp P Q a w := by
  simp only [dieSS, Bool.and_eq_true] at hB
  obtain ⟨hB, hU⟩ := hB
  refine wp_region_any hm ?_
  have hr : left pre (Array.replicate l.length false) = pre := List.filter_eq_self.2 fun i hi => by
    have hpl : i < l.length := by
      simp only [dieS, Bool.and_eq_true, decide_eq_true_eq] at hB
      have h1 := List.all_eq_true.1 hB.2.2.1 i hi
      cases ho : l[i]? with
      | none => rw [ho] at h1; cases h1
      | some oi => exact (List.getElem?_eq_some_iff.1 ho).1
    simp [hpl]
  have hplt : p < l.length := (List.getElem?_eq_some_iff.1 hop).1
  have hS : SameIn bs w { w with drawn := w.drawn + 1 } := fun k _ => rfl
  refine any_of_dieS (S := SameIn bs w) hop hB hQ _ _ _ _ hS (by simp) ?_ ?_ ?_ ?_
  · intro i o _ hi
    simp only [List.size_toArray] at hi
    rw [getD_replicate_false] at hi
    cases hi
  · simp [hplt]
  · simp only [List.size_toArray]
    rw [hr]
    exact hf
  · simp only [List.size_toArray]
    rw [hr]
    simp only [List.getElem?_toArray]
    exact wpU_sound hc _ none [] (fun o ho => by have := List.all_eq_true.1 hU o ho; simpa using this) (fun x hx => by cases hx) a _ (fun x hx => by cases hx) hS h
end
end Go.Proofs.YtlcaaacbookopaaGreatDoor

namespace Go.Proofs.YtlcaaacbookopaaGreatDoor
open Go.RowKit

def okP (f t : Int) (p : Ptn) : Bool := decide (f ≤ p.1) && decide (p.1 ≤ t)
def clipP (f t : Int) (ps : List Ptn) : List Ptn := ps.filter (okP f t)
theorem take_snoc {α : Type} {l : List α} {k : Nat} {x : α} (h : l[k]? = some x) : l.take (k + 1) = l.take k ++ [x] := by
  rw [List.take_add_one, h]
  rfl
theorem clipP_yes {f t : Int} {ps : List Ptn} {k : Nat} {p : Ptn} (h : ps[k]? = some p) (h1 : f ≤ p.1) (h2 : p.1 ≤ t) : clipP f t (ps.take (k + 1)) = clipP f t (ps.take k) ++ [p] := by
  rw [take_snoc h, clipP, List.filter_append]
  simp [clipP, okP, h1, h2]
theorem clipP_no {f t : Int} {ps : List Ptn} {k : Nat} {p : Ptn} (h : ps[k]? = some p) (h1 : ¬ (f ≤ p.1 ∧ p.1 ≤ t)) : clipP f t (ps.take (k + 1)) = clipP f t (ps.take k) := by
  rw [take_snoc h, clipP, List.filter_append]
  have : okP f t p = false := by
    unfold okP
    rw [Bool.and_eq_false_iff, decide_eq_false_iff_not, decide_eq_false_iff_not]
    omega
  simp [clipP, this]
/-- points of all series -/
def tot (ss : List Ser) : Nat := (ss.map (fun s => s.pts.length)).sum
end Go.Proofs.YtlcaaacbookopaaGreatDoor

namespace Go.Proofs.YtlcaaacbookopaaGreatDoor
open Go.RowKit

theorem infoLab : (Tryz.prog.info? 79).map (fun i => (i.zero, i.size, i.bytes)) = some (some (.agg #[.string ⟨#[]⟩, .string ⟨#[]⟩]), 2, 32) := by kernel_rfl
/-- a series whose labels and points lie in rows from base on -/
structure NsE (w : World) (base : Nat) (m : SerM) (s : Ser) : Prop where
  lb : OE elLb w base 79 m.la m.ln m.lc s.lbs
  pt : OE elPt w base 82 m.pa m.pn m.pc s.pts
theorem NsE.is {w : World} {base : Nat} {m : SerM} {s : Ser} (h : NsE w base m s) : SrIs w m s := ⟨h.lb.re (by decide), h.pt.re (by decide), h.lb.cap, h.pt.cap⟩
theorem NsE.grew {w w' : World} {base : Nat} {m : SerM} {s : Ser} (h : NsE w base m s) (hc : Grew w w') : NsE w' base m s := ⟨h.lb.grew hc, h.pt.grew hc⟩
theorem NsE.drewN {w : World} {base : Nat} {m : SerM} {s : Ser} (h : NsE w base m s) (k : Nat) : NsE (w.drewN k) base m s := ⟨h.lb, h.pt⟩
/-- rows of unlike types lie in unlike blocks -/
theorem OE.ne {α β : Type} {E : El α} {F : El β} {w : World} {b b' : Nat} {t u : TypeId} {A B : Option Addr} {n c m d : Nat} {l : List α} {r : List β} (h : OE E w b t A n c l) (h' : OE F w b' u B m d r) (hne : t ≠ u) : ∀ ad bd, A = some ad → B = some bd → ad.block ≠ bd.block := by
  rintro ad bd rfl rfl
  rcases h'.2 with ⟨e, _⟩ | ⟨g, cap, cur, e, _, hg, _⟩
  · cases e
  · injection e with e1 e2 e3
    injection e1 with e1
    subst e1
    exact Own.ne_blk h hg hne ad rfl
/-- .. so a row abides what turns the other's block -/
theorem OE.apart {α β : Type} {E : El α} {F : El β} {w w' : World} {b b' : Nat} {t u : TypeId} {A B : Option Addr} {n c m d : Nat} {l : List α} {r : List β} (h : OE E w b t A n c l) (h' : OE F w b' u B m d r) (hne : t ≠ u) (hc : Chg (fun k => ∃ ad, B = some ad ∧ k = ad.block) w w') : OE E w' b t A n c l :=
  h.chg hc fun ad e ⟨bd, e', hk⟩ => h.ne h' hne ad bd e e' hk
theorem NsE.apart {β : Type} {F : El β} {w w' : World} {base b' : Nat} {u : TypeId} {B : Option Addr} {k d : Nat} {r : List β} {m : SerM} {s : Ser} (h : NsE w base m s) (h' : OE F w b' u B k d r) (h1 : 79 ≠ u) (h2 : 82 ≠ u) (hc : Chg (fun k => ∃ ad, B = some ad ∧ k = ad.block) w w') : NsE w' base m s :=
  ⟨h.lb.apart h' h1 hc, h.pt.apart h' h2 hc⟩
/-- a row of such series -/
def NS (w : World) (base : Nat) (A : Option Addr) (n c : Nat) (ss : List Ser) : Prop := ∃ ms : List SerM, OE elSr w base 85 A n c ms ∧ ms.length = ss.length ∧ ∀ (i : Nat) (m : SerM) (s : Ser), ms[i]? = some m → ss[i]? = some s → NsE w base m s
theorem NS.rs {w : World} {base : Nat} {A : Option Addr} {n c : Nat} {ss : List Ser} (h : NS w base A n c ss) : RS w A n ss := by
  obtain ⟨ms, h1, h2, h3⟩ := h
  exact ⟨ms, h1.re (by decide), h2, fun i m s hm hs => (h3 i m s hm hs).is⟩
theorem NS.len {w : World} {base : Nat} {A : Option Addr} {n c : Nat} {ss : List Ser} (h : NS w base A n c ss) : ss.length = n := h.rs.len
theorem NS.cap {w : World} {base : Nat} {A : Option Addr} {n c : Nat} {ss : List Ser} (h : NS w base A n c ss) : n ≤ c ∧ c ≤ 9223372036854775807 := by
  obtain ⟨ms, h1, _⟩ := h
  exact h1.cap
theorem NS.grew {w w' : World} {base : Nat} {A : Option Addr} {n c : Nat} {ss : List Ser} (h : NS w base A n c ss) (hc : Grew w w') : NS w' base A n c ss := by
  obtain ⟨ms, h1, h2, h3⟩ := h
  exact ⟨ms, h1.grew hc, h2, fun i m s hm hs => (h3 i m s hm hs).grew hc⟩
theorem NS.chg {S : Nat → Prop} {w w' : World} {base : Nat} {A : Option Addr} {n c : Nat} {ss : List Ser} (h : NS w base A n c ss) (hc : Chg S w w') (hn : ∀ k, base ≤ k → ¬ S k) : NS w' base A n c ss := by
  obtain ⟨ms, h1, h2, h3⟩ := h
  exact ⟨ms, h1.chg hc (fun ad e => hn _ (Own.blk_lt h1 ad e).1), h2, fun i m s hm hs => ⟨(h3 i m s hm hs).lb.chg hc (fun ad e => hn _ (Own.blk_lt (h3 i m s hm hs).lb ad e).1), (h3 i m s hm hs).pt.chg hc (fun ad e => hn _ (Own.blk_lt (h3 i m s hm hs).pt ad e).1)⟩⟩
theorem NS.drewN {w : World} {base : Nat} {A : Option Addr} {n c : Nat} {ss : List Ser} (h : NS w base A n c ss) (k : Nat) : NS (w.drewN k) base A n c ss := by
  obtain ⟨ms, h1, h2, h3⟩ := h
  exact ⟨ms, h1.drewN k, h2, fun i m s hm hs => (h3 i m s hm hs).drewN k⟩
theorem NS.mono {w : World} {base base' : Nat} {A : Option Addr} {n c : Nat} {ss : List Ser} (h : NS w base A n c ss) (hb : base' ≤ base) : NS w base' A n c ss := by
  obtain ⟨ms, h1, h2, h3⟩ := h
  exact ⟨ms, Own.mono h1 hb, h2, fun i m s hm hs => ⟨Own.mono (h3 i m s hm hs).lb hb, Own.mono (h3 i m s hm hs).pt hb⟩⟩
theorem NS.nil (w : World) (base : Nat) : NS w base none 0 0 [] := ⟨[], OE.nil _ _ _, rfl, fun i m s hm => by simp at hm⟩
theorem NS.blk {w : World} {base : Nat} {A : Option Addr} {n c : Nat} {ss : List Ser} (h : NS w base A n c ss) : ∀ ad, A = some ad → base ≤ ad.block ∧ ad.block < w.heap.size := by
  obtain ⟨ms, h1, _⟩ := h
  exact Own.blk_lt h1
/-- one more appended: the row as it stands open for the append -/
structure NSo (w : World) (base : Nat) (A : Option Addr) (n c : Nat) (ms : List SerM) (ss : List Ser) : Prop where
  row : OE elSr w base 85 A n c ms
  len : ms.length = ss.length
  el : ∀ (i : Nat) (m : SerM) (s : Ser), ms[i]? = some m → ss[i]? = some s → NsE w base m s
theorem NS.op {w : World} {base : Nat} {A : Option Addr} {n c : Nat} {ss : List Ser} (h : NS w base A n c ss) : ∃ ms, NSo w base A n c ms ss := by
  obtain ⟨ms, h1, h2, h3⟩ := h
  exact ⟨ms, h1, h2, h3⟩
theorem NSo.ns {w : World} {base : Nat} {A : Option Addr} {n c : Nat} {ms : List SerM} {ss : List Ser} (h : NSo w base A n c ms ss) : NS w base A n c ss := ⟨ms, h.row, h.len, h.el⟩
theorem NSo.grew {w w' : World} {base : Nat} {A : Option Addr} {n c : Nat} {ms : List SerM} {ss : List Ser} (h : NSo w base A n c ms ss) (hc : Grew w w') : NSo w' base A n c ms ss :=
  ⟨h.row.grew hc, h.len, fun i m s hm hs => (h.el i m s hm hs).grew hc⟩
theorem snoc_get {α : Type} {l : List α} {x y : α} {i : Nat} (h : (l ++ [x])[i]? = some y) : l[i]? = some y ∨ (i = l.length ∧ y = x) := by
  by_cases hi : i < l.length
  · rw [List.getElem?_append_left hi] at h
    exact .inl h
  · rw [List.getElem?_append_right (by omega)] at h
    have hi2 : i - l.length = 0 := by
      have := (List.getElem?_eq_some_iff.1 h).1
      simp at this
      omega
    rw [hi2] at h
    simp at h
    exact .inr ⟨by omega, h.symm⟩
theorem NSo.app {w w' : World} {base : Nat} {A A' : Option Addr} {n k c c' : Nat} {ms : List SerM} {ss : List Ser} {m : SerM} {s : Ser} (h : NSo w base A n c ms ss) (hm : NsE w base m s) (ha : ApE elSr w base 85 A k c (ms ++ [m]) A' c' w') : NS w' base A' k c' (ss ++ [s]) := by
  refine ⟨ms ++ [m], ha.oe, by rw [List.length_append, List.length_append, h.len]; rfl, fun i m' s' hm' hs' => ?_⟩
  rcases snoc_get hm' with h1 | ⟨h1, rfl⟩
  · rcases snoc_get hs' with h2 | ⟨h2, rfl⟩
    · exact (h.el i m' s' h1 h2).apart h.row (by decide) (by decide) ha.chg
    · have := (List.getElem?_eq_some_iff.1 h1).1
      have := h.len
      omega
  · rcases snoc_get hs' with h2 | ⟨h2, rfl⟩
    · have := (List.getElem?_eq_some_iff.1 h2).1
      have := h.len
      omega
    · exact hm.apart h.row (by decide) (by decide) ha.chg
end Go.Proofs.YtlcaaacbookopaaGreatDoor

namespace Go.Proofs.YtlcaaacbookopaaGreatDoor
open Go.RowKit

/-- a block that is being read: the reader and the variable that holds it -/
structure KrS (w W : World) (l : List UInt8) (g gv : Nat) (B : Option Addr) (n c q : Nat) : Prop where
  rd : RdS W g B n c l q
  bv : Blk W gv 70 #[.pointer (some ⟨g, 0, none⟩)]
  gr : Grew w W
  lo : w.heap.size ≤ g
  bb : ∀ ad, B = some ad → 0 < n → ad.block < w.heap.size
theorem KrS.to {w W W' : World} {l : List UInt8} {g gv : Nat} {B : Option Addr} {n c q q2 : Nat} (h : KrS w W l g gv B n c q) (ht : RdT W W' g B n c l q2) : KrS w W' l g gv B n c q2 :=
  ⟨ht.rd, h.bv.chg ht.ch (fun e => Blk.neT h.bv h.rd.bk (by decide) e), h.gr.step ht.ch fun j hj e => by
    have e : j = g := e
    have := h.lo
    omega, h.lo, h.bb⟩
theorem KrS.chg {S : Nat → Prop} {w W W' : World} {l : List UInt8} {g gv : Nat} {B : Option Addr} {n c q : Nat} (h : KrS w W l g gv B n c q) (hc : Chg S W W') (h1 : ¬ S g) (h2 : ¬ S gv) (h3 : ∀ k, k < w.heap.size → ¬ S k) : KrS w W' l g gv B n c q :=
  ⟨h.rd.chg hc h1 (fun ad e h0 => h3 _ (h.bb ad e h0)), h.bv.chg hc h2, h.gr.step hc fun j hj e => h3 j hj e, h.lo, h.bb⟩
theorem KrS.grew {w W W' : World} {l : List UInt8} {g gv : Nat} {B : Option Addr} {n c q : Nat} (h : KrS w W l g gv B n c q) (hg : Grew W W') : KrS w W' l g gv B n c q := h.chg hg (fun e => e) (fun e => e) (fun _ _ e => e)
/-- .. and its texts, as far as they are read -/
structure TxI (w W : World) (l : List UInt8) (g gv ga : Nat) (B : Option Addr) (n c q : Nat) (A : Option Addr) (j d : Nat) (al : List ByteArray) : Prop where
  kr : KrS w W l g gv B n c q
  ba : Blk W ga 86 #[.slice A j d]
  al : OE elNm W w.heap.size 9 A j d al
  la : w.heap.size ≤ ga
theorem TxI.to {w W W' : World} {l : List UInt8} {g gv ga : Nat} {B : Option Addr} {n c q q2 : Nat} {A : Option Addr} {j d : Nat} {al : List ByteArray} (h : TxI w W l g gv ga B n c q A j d al) (ht : RdT W W' g B n c l q2) : TxI w W' l g gv ga B n c q2 A j d al :=
  ⟨h.kr.to ht, h.ba.chg ht.ch (fun e => Blk.neT h.ba h.kr.rd.bk (by decide) e), OE.chg h.al ht.ch (fun ad e hk => Own.ne_blk h.al h.kr.rd.bk (by decide) ad e hk), h.la⟩
theorem TxI.grew {w W W' : World} {l : List UInt8} {g gv ga : Nat} {B : Option Addr} {n c q : Nat} {A : Option Addr} {j d : Nat} {al : List ByteArray} (h : TxI w W l g gv ga B n c q A j d al) (hg : Grew W W') : TxI w W' l g gv ga B n c q A j d al :=
  ⟨h.kr.grew hg, h.ba.grew hg, h.al.grew hg, h.la⟩
theorem TxI.app {w W W' : World} {l : List UInt8} {g gv ga : Nat} {B : Option Addr} {n c q : Nat} {A A' : Option Addr} {j d r d' : Nat} {al ls : List ByteArray} (h : TxI w W l g gv ga B n c q A j d al) (ha : ApE elNm W w.heap.size 9 A r d ls A' d' W') :
    KrS w W' l g gv B n c q ∧ Blk W' ga 86 #[.slice A j d] :=
  ⟨h.kr.chg ha.chg (fun ⟨ad, e, hk⟩ => Own.ne_blk h.al h.kr.rd.bk (by decide) ad e hk.symm) (fun ⟨ad, e, hk⟩ => Own.ne_blk h.al h.kr.bv (by decide) ad e hk.symm) (fun k hk ⟨ad, e, he⟩ => by have := (Own.blk_lt h.al ad e).1; omega),
    h.ba.chg ha.chg (fun ⟨ad, e, hk⟩ => Own.ne_blk h.al h.ba (by decide) ad e hk.symm)⟩

set_option maxRecDepth 100000 in
set_option maxHeartbeats 4000000 in
theorem etext_no (w W : World) (l : List UInt8) (g gv ga : Nat) (B : Option Addr) (n c q : Nat) (A : Option Addr) (j d : Nat) (al : List ByteArray) (h : TxI w W l g gv ga B n c q A j d al) (hn : n ≤ 140737488355328) (hc : n ≤ c ∧ c ≤ 9223372036854775807) (hr : (textR l (q : Int)).2.2 ≠ 0) :
    Calls Tryz.prog 82 #[.pointer (some ⟨ga, 0, none⟩), .pointer (some ⟨gv, 0, none⟩)] W fun e W' => GvU e ∧ Grew w W' := by
  have a0 := h.ba.cell 0
  have v0 := h.kr.bv.cell 0
  simp only [List.getElem?_toArray, List.getElem?_cons_zero] at a0 v0
  have hR := fun W' (hg : Grew W W') => rtext_no g B n c l q W' (h.kr.grew hg).rd hn hc hr
  replace hR := Lib.hid hR
  clear hr
  unfold GvU
  go_enter Tryz.func82, Tryz.ntmps82
  go_wp2_with fail
  refine wp_region_die [] [0, 1] 2 (by kernel_rfl) rfl (by kernel_rfl) (fun c a d v w h => ⟨by have h1 := h.1; rwa [put_defers] at h1, h.2⟩) (by decide) ?_
  simp only [List.filterMap_cons, List.filterMap_nil, List.getElem?_cons_zero, List.getElem?_cons_succ, instr, chk, List.nil_append]
  go_wp2_with fail
  refine OnlyN.normal (dieQ_of ?_)
  go_wp2_with fail
  refine (hR.out _ (Chg.refl _ W).drew).mono ?_
  rintro e w1 ⟨he, hg⟩
  unfold GvU at he
  subst he
  exact ⟨rfl, rfl, h.kr.gr.trans ((Chg.refl _ W).drew.trans hg)⟩

set_option maxRecDepth 100000 in
set_option maxHeartbeats 4000000 in
theorem etext_yes (w W : World) (l : List UInt8) (g gv ga : Nat) (B : Option Addr) (n c q : Nat) (A : Option Addr) (j d : Nat) (al : List ByteArray) (s : List UInt8) (q2 : Nat) (h : TxI w W l g gv ga B n c q A j d al) (hn : n ≤ 140737488355328) (hc : n ≤ c ∧ c ≤ 9223372036854775807) (hrr : textR l (q : Int) = (s, q2, 0)) (hj : j ≤ 1099511627776) :
    Calls Tryz.prog 82 #[.pointer (some ⟨ga, 0, none⟩), .pointer (some ⟨gv, 0, none⟩)] W fun e W' => e = .returned (.tuple #[]) ∧ ∃ A2 d2, TxI w W' l g gv ga B n c q2 A2 (j + 1) d2 (al ++ [⟨s.toArray⟩]) := by
  have a0 := h.ba.cell 0
  have v0 := h.kr.bv.cell 0
  simp only [List.getElem?_toArray, List.getElem?_cons_zero] at a0 v0
  have hcs : CellsIn [ga, gv] W := cellsIn_blk h.ba (cellsIn_blk h.kr.bv (cellsIn_nil _))
  have hsz := h.kr.gr.size
  have hcap := h.al.cap
  have hla := h.la
  have hR := fun W' (hg : Grew W W') => rtext_ok g B n c l s q q2 W' (h.kr.grew hg).rd hn hc hrr
  generalize (⟨s.toArray⟩ : ByteArray) = x at hR ⊢
  replace hR := Lib.hid hR
  clear hrr
  go_enter Tryz.func82, Tryz.ntmps82
  go_wp2_with fail
  refine wp_region_textL [] [ga, gv] (by kernel_rfl) (by kernel_rfl) hcs ?_
  simp only [wpUL, tagOf, List.cons_append, List.nil_append]
  intro K hK
  go_wp2_with fail
  refine OnlyN.normal (hK _ _ (fun _ => ⟨_, _, _, rfl, rfl, by simp⟩) ?_)
  clear hK K
  intro K hK
  go_wp2_with fail
  refine OnlyN.normal (hK _ _ (fun _ => ⟨_, _, _, rfl, rfl, by simp⟩) ?_)
  clear hK K
  intro K hK
  go_wp2_with fail
  refine (hR.out _ (Chg.refl _ W).drew).mono ?_
  rintro e W1 ⟨rfl, hT⟩
  have h1 := (h.grew ((Chg.refl _ W).drew)).to hT
  have hc1 : Chg (fun k => k = g) W W1 := (Chg.refl _ W).drew.trans hT.ch
  have hng : ∀ k', k' ∈ [ga, gv] → k' ≠ g := fun k' hk' => by
    simp only [List.mem_cons, List.not_mem_nil, or_false] at hk'
    rcases hk' with rfl | rfl
    · exact Blk.neT h.ba h.kr.rd.bk (by decide)
    · exact Blk.neT h.kr.bv h.kr.rd.bk (by decide)
  go_wp2_with fail
  refine OnlyN.normal (hK _ _ (sameIn_of hc1 hcs hng) ?_)
  clear hK K
  have hsz1 := h1.kr.gr.size
  have hga : Grew W1 (W1.alloc (.cells #[.string x] 9)) := (Chg.refl _ W1).alloc _
  have hsrc : RE elNm (W1.alloc (.cells #[.string x] 9)) (some ⟨W1.heap.size, 0, none⟩) 1 [x] := RE.newAt rfl rfl rfl
  have h2 := h1.grew hga
  intro K hK
  go_wp2_with fail
  refine OnlyN.normal (hK _ _ (sameIn_of (hc1.trans (Chg.of_grew hga)) hcs hng) ?_)
  clear hK K
  intro K hK
  go_wp2_with (at_builtin; go_loud (refine wpList_appE rfl _ _ 86 9 infoNm rfl Tryz.underlying86 rfl w.heap.size A j d _ rfl h2.al (by simp; omega) _ 1 1 [x] rfl hsrc (by unfold maxLen; omega) (by omega) ?_); intro A3 d3 W3 h3)
  obtain ⟨k3, b3⟩ := h2.app h3
  have hng2 : ∀ k', k' ∈ [ga, gv] → ¬ (k' = g ∨ ∃ ad, A = some ad ∧ k' = ad.block) := fun k' hk' => by
    rintro (e | ⟨ad, e, hk⟩)
    · exact hng k' hk' e
    · simp only [List.mem_cons, List.not_mem_nil, or_false] at hk'
      rcases hk' with rfl | rfl
      · exact Own.ne_blk h.al h.ba (by decide) ad e hk.symm
      · exact Own.ne_blk h.al h.kr.bv (by decide) ad e hk.symm
  refine OnlyN.normal (hK _ _ (sameIn_of (((hc1.mono fun k _ e => Or.inl e).trans (Chg.of_grew hga)).trans (h3.chg.mono fun k _ e => Or.inr e)) hcs hng2) ?_)
  clear hK K
  have m4' := b3.cell 0
  have mf' := b3.frozen 0
  simp only [List.getElem?_toArray, List.getElem?_cons_zero] at m4'
  have b5 := b3.set 0 (.slice A3 (j + 1) d3)
  simp only [List.setIfInBounds_toArray, List.set_cons_zero] at b5
  have k5 : KrS w (W3.setCell ⟨ga, 0, none⟩ (.slice A3 (j + 1) d3)) l g gv B n c q2 := k3.chg (Chg.cell1 W3 ga 0 _) (fun e => Blk.neT k3.rd.bk b3 (by decide) e) (fun e => Blk.neT k3.bv b3 (by decide) e) (fun k hk e => by
    have e : k = ga := e
    omega)
  have o5 : OE elNm (W3.setCell ⟨ga, 0, none⟩ (.slice A3 (j + 1) d3)) w.heap.size 9 A3 (j + 1) d3 (al ++ [x]) := OE.farBlk h3.oe b3 (by decide) 0 _
  go_wp2_with fail
  refine OnlyN.normal ?_
  clear h2 hsrc h3 hT h1 m4' mf' a0 v0 hcs hR
  go_wp2
  go_end0
  exact ⟨rfl, A3, d3, k5, b5, o5, hla⟩

/-- a text more, or given up -/
theorem etext_any (w W : World) (l : List UInt8) (g gv ga : Nat) (B : Option Addr) (n c q : Nat) (A : Option Addr) (j d : Nat) (al : List ByteArray) (h : TxI w W l g gv ga B n c q A j d al) (hn : n ≤ 140737488355328) (hc : n ≤ c ∧ c ≤ 9223372036854775807) (hj : j ≤ 1099511627776) :
    Calls Tryz.prog 82 #[.pointer (some ⟨ga, 0, none⟩), .pointer (some ⟨gv, 0, none⟩)] W fun e W' => (∃ s q2 A2 d2, s.length < 18446744073709551616 ∧ l.drop q = wrdB s ++ l.drop q2 ∧ e = .returned (.tuple #[]) ∧ TxI w W' l g gv ga B n c q2 A2 (j + 1) d2 (al ++ [⟨s.toArray⟩])) ∨ (GvU e ∧ Grew w W' ∧ NoTxt (l.drop q)) := by
  by_cases hr : (textR l (q : Int)).2.2 = 0
  · obtain ⟨s, q2, h1, h2, h3⟩ := textR_some hr
    exact (etext_yes w W l g gv ga B n c q A j d al s q2 h hn hc h1 hj).mono fun e W' ⟨he, A2, d2, hT⟩ => .inl ⟨s, q2, A2, d2, h2, h3, he, hT⟩
  · exact (etext_no w W l g gv ga B n c q A j d al h hn hc hr).mono fun e W' ⟨h1, h2⟩ => .inr ⟨h1, h2, textR_none hr⟩
end Go.Proofs.YtlcaaacbookopaaGreatDoor
