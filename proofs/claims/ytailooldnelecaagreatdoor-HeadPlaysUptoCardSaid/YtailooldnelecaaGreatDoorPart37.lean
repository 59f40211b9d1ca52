/-
  Several texts in one:
  Drawn regions in a round of a range over a function: the walks in the order of the text, there. Conditions: a check of the region that the kernel runs; no program in sight.
  Lists of series merged: what a loop over the iterator keeps. Conditions: lengths that memory bears.
  Two rows of points as one. Conditions: lengths that memory bears.
  Lists of series merged. Conditions: lengths that memory bears.
  Lists of series that may not be merged; the series of a stretch; the series that matchers say yes of. Conditions: lengths that memory bears.
  The series that matchers say yes of. Conditions: lengths that memory bears.
  Has a row of points all of another one? Conditions: none.
  Has a list of series all points of another one? Conditions: lengths that memory bears.
  Merges in plain words; the series of the statements' own trial. Conditions: none.
-/
import Derived.Test.YtailooldnelecaaGreatDoorPart8
import Derived.Test.YtailooldnelecaaGreatDoorPart2
import Derived.OrdersIn
import Derived.TacticsIn
import Derived.RangeFuncCalls
import Derived.Test.YtailooldnelecaaGreatDoorPart36
import Derived.Test.YtailooldnelecaaGreatDoorPart33
import Derived.Test.YtailooldnelecaaGreatDoorPart13
import Derived.Test.YtailooldnelecaaGreatDoorPart14
import Derived.Test.YtailooldnelecaaGreatDoorPart22
import Derived.Test.YtailooldnelecaaGreatDoorPart15

namespace Go.Proofs.YtailooldnelecaaGreatDoor

section
variable {P : Program} {Q : Exit → Act → World → Prop} {tys : List (Nat × Nat)} {bs : List Nat}

def noDefB (l : List Oper) : Bool := l.all fun o => match o.op with
  | .defer _ => false
  | _ => true
theorem noDefB_spec {l : List Oper} (h : noDefB l = true) : ∀ (i : Nat) (o : Oper), l.toArray[i]? = some o → ∀ c, o.op ≠ .defer c := fun i o ho c e => by
  have h1 : l[i]? = some o := by simpa using ho
  have := List.all_eq_true.1 h o (List.mem_of_getElem? h1)
  rw [e] at this
  cases this
theorem rows_in {lp n : Nat} {row : String} {args : Array Value} {w : World} {R : Value → World → Prop} (h : Rows P row args w R) : RowsIn (Fence.wide.inRound lp) n P row args w R := fun c cs _ => by
  obtain ⟨v, w', r, s⟩ := h c cs
  exact ⟨v, w', r, stepsIn_wide.2 s⟩
theorem wpIn_of {lp n : Nat} {o : Oper} {K : Act → World → Prop} {a : Act} {w : World} (hd : ∀ c, o.op ≠ .defer c) (h : o.wp P a w K Q) : o.wpIn (Fence.wide.inRound lp) n P a w K Q := by
  unfold Oper.wpIn
  refine ⟨fun _ _ => trivial, ?_⟩
  rw [Oper.semAt_eq _ _ _ hd]
  unfold Oper.wp at h
  generalize (execOp a.eval o).run P w = r at *
  cases r with
  | ok x w' =>
    cases x <;> simp only [Oper.upon, Oper.uponIn] at h ⊢ <;>
      first
        | exact h
        | exact ⟨fun e => (by cases e), CallsIn.inRound lp (callsIn_wide.2 h)⟩
        | exact ⟨fun e => (by cases e), rows_in h⟩
  | halt x w' => cases x <;> simp only [Oper.upon, Oper.uponIn] at h ⊢ <;> exact h
theorem wpAnyIn_of {lp n : Nat} {md : Region.Mode} {ops : Array Oper} (hd : ∀ (i : Nat) (o : Oper), ops[i]? = some o → ∀ c, o.op ≠ .defer c) : ∀ (fuel : Nat) (listed : Array Bool) (a : Act) (w : World), wpAny P md ops (OnlyN Q) fuel listed a w → wpAnyIn (Fence.wide.inRound lp) n P md ops (OnlyN Q) fuel listed a w
  | 0, listed, a, w, h => h
  | fuel + 1, listed, a, w, h => by
    refine ⟨h.1, fun i hi => ?_⟩
    have h2 := h.2 i hi
    unfold wpOp at h2
    unfold wpOpIn
    cases ho : ops[i]? with
    | none =>
      rw [ho] at h2
      exact wpAnyIn_of hd fuel _ a w h2
    | some o =>
      rw [ho] at h2
      dsimp only at h2 ⊢
      split
      · rename_i hw
        rw [if_pos hw] at h2
        rcases h2 with h2 | ⟨_, h2⟩
        · exact wpIn_of (hd i o ho) (Oper.wp_mono (fun a' w' h3 => wpAnyIn_of hd fuel _ a' w' h3) h2)
        · exact absurd h2 OnlyN.noOut
      · rename_i hw
        rw [if_neg hw] at h2
        exact ⟨fun _ _ => trivial, wpAnyIn_of hd fuel _ _ w h2⟩

theorem wp_region_textS_in {lp n : Nat} (tys : List (Nat × Nat)) (bs : List Nat) {id : Nat} {l : List Oper} {a : Act} {w : World} (hm : P.follows .mixedOrders = true) (hB : textS P tys l = true) (hd : noDefB l = true) (hc : CellsIn bs w)
    (h : wpU P l.toArray Q tys bs w [] l a w.drew) : (Code.region id l.toArray true).wpIn (Fence.wide.inRound lp) n P Q a w := by
  simp only [textS, Bool.and_eq_true] at hB
  refine Code.wpIn_mono OnlyN.out (wpIn_region_any hm (wpAnyIn_of (noDefB_spec hd) _ _ _ _ ?_))
  have hr : rem l.length (Array.replicate l.length false) = List.range l.length := List.filter_eq_self.2 fun i hi => by
    have := List.mem_range.1 hi
    simp [this]
  have hl : (List.range l.length).filterMap (l.toArray[·]?) = l := by
    have := range_get l []
    simpa [List.range_eq_range'] using this
  have hS : SameIn bs w { w with drawn := w.drawn + 1 } := fun k _ => rfl
  refine any_of_textT (S := SameIn bs w) hB.1 _ _ _ _ hS (by simp) ?_ ?_ ?_
  · intro i o _ hi
    simp only [List.size_toArray] at hi
    rw [getD_replicate_false] at hi
    cases hi
  · simp only [List.size_toArray]
    rw [hr]
    simp
  · simp only [List.size_toArray]
    rw [hr, hl]
    exact wpU_sound hc l none [] (fun o ho => by have := List.all_eq_true.1 hB.2 o ho; simpa using this) (fun x hx => by cases hx) a _ (fun x hx => by cases hx) hS h

theorem wp_region_textL_in {lp n : Nat} (tys : List (Nat × Nat)) (bs : List Nat) {id : Nat} {l : List Oper} {a : Act} {w : World} (hm : P.follows .mixedOrders = true) (hB : textL P tys l = true) (hd : noDefB l = true) (hc : CellsIn bs w)
    (h : wpUL P l.toArray Q tys bs w [] l a w.drew) : (Code.region id l.toArray true).wpIn (Fence.wide.inRound lp) n P Q a w := by
  simp only [textL, Bool.and_eq_true] at hB
  obtain ⟨hB, hL⟩ := hB
  refine Code.wpIn_mono OnlyN.out (wpIn_region_any hm (wpAnyIn_of (noDefB_spec hd) _ _ _ _ ?_))
  have hr : rem l.length (Array.replicate l.length false) = List.range l.length := List.filter_eq_self.2 fun i hi => by
    have := List.mem_range.1 hi
    simp [this]
  have hl : (List.range l.length).filterMap (l.toArray[·]?) = l := by
    have := range_get l []
    simpa [List.range_eq_range'] using this
  have hS : SameIn bs w { w with drawn := w.drawn + 1 } := fun k _ => rfl
  refine any_of_textL (S := SameIn bs w) hB.1 hL _ _ _ _ (.inr hS) (by simp) ?_ ?_ ?_
  · intro i o _ hi
    simp only [List.size_toArray] at hi
    rw [getD_replicate_false] at hi
    cases hi
  · simp only [List.size_toArray]
    rw [hr]
    simp
  · simp only [List.size_toArray]
    rw [hr, hl]
    exact wpUL_sound hc l none [] (fun o ho => by have := List.all_eq_true.1 hB.2 o ho; simpa using this) (fun x hx => by cases hx) a _ (fun x hx => by cases hx) hS h

variable {α : Type} {E : El α}
theorem wpListIn_appE {lp n' : Nat} {ops : Array Oper} {rest : List Oper} {o : Oper} {a : Act} {w : World} (hgd : o.guard = none) (s x : Operand) (ts t : TypeId) {z : Value} {bytes : Nat}
    (hinfo : (P.info? t).map (fun i => (i.zero, i.size, i.bytes)) = some (some z, E.sz, bytes)) (hzs : z.cells.size = E.sz) (ht : P.underlying ts = some (.slice t))
    (ho : o.op = .call { callee := .builtin .append, args := #[s, x], argTypes := #[ts, ts] })
    (base : Nat) (A : Option Addr) (n c : Nat) (l : List α) (hs : a.eval s = .slice A n c) (hown : OE E w base t A n c l) (hbase : base ≤ w.heap.size)
    (B : Option Addr) (m d : Nat) (r : List α) (hx : a.eval x = .slice B m d) (hr : RE E w B m r) (h63 : n + m ≤ maxLen) (hbytes : (n + m) * bytes ≤ 140737488355328)
    (h : ∀ A' c' w', ApE E w base t A (n + m) c (l ++ r) A' c' w' → wpListIn (Fence.wide.inRound lp) n' P ops Q rest (a.put o.dst (.slice A' (n + m) c')) w') : wpListIn (Fence.wide.inRound lp) n' P ops Q (o :: rest) a w := by
  obtain ⟨i0, hi, hz0, hz1, hz2⟩ := info_parts hinfo
  refine wpListIn_plain hgd fun K hK => wpIn_of (fun c e => by rw [ho] at e; cases e) ?_
  refine wp_app w s x ts t ho i0 z E.sz bytes ht hi hz0 hz1 hz2 hzs base A n c _ hs hown hbase B m d _ hx (by rw [E.flat_length, hr.1]) hr.2 (E.flat_one' r) h63 hbytes ?_
  intro A' c' w' h1
  exact hK _ _ (h A' c' w' (by unfold ApE; rw [E.flat_append]; exact h1))
end
end Go.Proofs.YtailooldnelecaaGreatDoor

namespace Go.Proofs.YtailooldnelecaaGreatDoor
open Go.RowKit

/-- an element of what is merged so far: its labels came in, its points came in or are new -/
structure OutE (w W : World) (m : SerM) (s : Ser) : Prop where
  lb : RE elLb w m.la m.ln s.lbs
  lc : m.ln ≤ m.lc ∧ m.lc ≤ 9223372036854775807
  pt : (RE elPt w m.pa m.pn s.pts ∧ m.pn ≤ m.pc ∧ m.pc ≤ 9223372036854775807) ∨ OE elPt W w.heap.size 69 m.pa m.pn m.pc s.pts
theorem far_re {α : Type} {E : El α} {w W : World} {A : Option Addr} {n : Nat} {l : List α} (hs : 0 < E.sz) (h : RE E w A n l) (hf : Chg (fun k => w.heap.size ≤ k) w W) : RE E W A n l := h.far hf fun ad e h0 => by have := h.lt hs ad e h0; omega
theorem OutE.is {w W : World} {m : SerM} {s : Ser} (h : OutE w W m s) (hf : Chg (fun k => w.heap.size ≤ k) w W) : SrIs W m s := by
  rcases h.pt with ⟨h1, h2⟩ | h1
  · exact ⟨far_re (by decide) h.lb hf, far_re (by decide) h1 hf, h.lc, h2⟩
  · exact ⟨far_re (by decide) h.lb hf, h1.re (by decide), h.lc, h1.cap⟩
theorem OutE.of {w W : World} {m : SerM} {s : Ser} (h : SrIs w m s) : OutE w W m s := ⟨h.lb, h.lc, .inl ⟨h.pt, h.pc⟩⟩
structure OutR (w W : World) (A : Option Addr) (n c : Nat) (ms : List SerM) (ss : List Ser) : Prop where
  row : OE elSr W w.heap.size 61 A n c ms
  len : ms.length = ss.length
  el : ∀ (i : Nat) (m : SerM) (s : Ser), ms[i]? = some m → ss[i]? = some s → OutE w W m s
theorem OutR.rs {w W : World} {A : Option Addr} {n c : Nat} {ms : List SerM} {ss : List Ser} (h : OutR w W A n c ms ss) (hf : Chg (fun k => w.heap.size ≤ k) w W) : RS W A n ss := ⟨ms, h.row.re (by decide), h.len, fun i m s hm hs => (h.el i m s hm hs).is hf⟩
/-- between two rounds -/
def Inv (w : World) (ob : Nat) (ss : List Ser) (W : World) : Prop := ∃ A n c ms, Blk W ob 36 #[.slice A n c] ∧ OutR w W A n c ms ss ∧ Chg (fun k => w.heap.size ≤ k) w W
/-- what a round's body turns: the box of what is merged so far, and its row -/
def BodyS (base : Nat) (W : World) (k : Nat) : Prop := base ≤ k ∧ ∃ cs t fr, W.heap[k]? = some (.cells cs t fr) ∧ (t = 36 ∨ t = 61)
theorem bodyS_trans {base : Nat} {a b c : World} (h : Chg (BodyS base a) a b) (h' : Chg (BodyS base b) b c) : Chg (BodyS base a) a c := h.step h' fun k hk ⟨hb, cs, t, fr, e, ht⟩ => by
  refine Classical.byContradiction fun hn => hn ?_
  rw [h.block k hk hn] at e
  exact ⟨hb, cs, t, fr, e, ht⟩
theorem bodyS_keeps {base B : Nat} {W W' : World} (h : Chg (BodyS base W) W W') : KeepsFrom B W W' := ⟨h.size, fun k o _ hk ho => (h.block k (Array.getElem?_eq_some_iff.1 hk).1 fun ⟨_, cs, t, fr, h2, _⟩ => by
  rw [h2] at hk
  injection hk with hk
  rw [← hk] at ho
  cases ho).trans hk⟩
theorem flat_snoc_set (ms : List SerM) (m : SerM) (u : Value) : (elSr.flat (ms ++ [m])).set (ms.length * 2 + 1) u = elSr.flat ms ++ [.slice m.la m.ln m.lc, u] := by
  rw [El.flat_append, El.flat_one]
  have hl : (elSr.flat ms).length = ms.length * 2 := elSr.flat_length ms
  rw [List.set_append_right _ _ (by omega), hl, show ms.length * 2 + 1 - ms.length * 2 = 1 by omega]
  rfl
theorem OutE.chg {S : Nat → Prop} {w W W' : World} {m : SerM} {s : Ser} (h : OutE w W m s) (hc : Chg S W W') (hn : ∀ k cs fr, S k → W.heap[k]? ≠ some (.cells cs 69 fr)) : OutE w W' m s := ⟨h.lb, h.lc, h.pt.imp id fun h1 => h1.chg hc fun ad e hk => by
  obtain ⟨_, cs, fr, h4⟩ := Own.heapTy h1 ⟨ad, e, rfl⟩
  exact hn _ _ _ hk h4⟩
theorem ne_of_blk {w : World} {g : Nat} {t u : TypeId} {cs : Array Value} (h : Blk w g t cs) (hne : t ≠ u) : ∀ cs' fr, w.heap[g]? ≠ some (.cells cs' u fr) := fun cs' fr e => by
  unfold Blk at h
  rw [h] at e
  injection e with e
  injection e with _ e
  exact hne e
theorem ne_of_own {w : World} {base sz n c : Nat} {A : Option Addr} {t u : TypeId} {xs : List Value} (h : Own w base t sz A n c xs) (hne : t ≠ u) : ∀ k cs' fr, (∃ ad, A = some ad ∧ k = ad.block) → w.heap[k]? ≠ some (.cells cs' u fr) := fun k cs' fr hk e => by
  obtain ⟨_, cs, fr', h2⟩ := Own.heapTy h hk
  rw [h2] at e
  injection e with e
  injection e with _ e
  exact hne e
/-- one appended, and laid into the box -/
theorem OutR.app {w W Wa w2 : World} {A A2 : Option Addr} {n c c2 ob : Nat} {ms : List SerM} {ss : List Ser} {m : SerM} {s : Ser} (h : OutR w W A n c ms ss) (hb : Blk W ob 36 #[.slice A n c]) (hf : Chg (fun k => w.heap.size ≤ k) w W) (hob : w.heap.size ≤ ob) (hg : Grew W Wa) (hm : SrIs w m s)
    (ha : ApE elSr Wa w.heap.size 61 A (n + 1) c (ms ++ [m]) A2 c2 w2) :
    Blk w2 ob 36 #[.slice A n c] ∧ Inv w ob (ss ++ [s]) (w2.setCell ⟨ob, 0, none⟩ (.slice A2 (n + 1) c2)) ∧ Chg (BodyS w.heap.size W) W (w2.setCell ⟨ob, 0, none⟩ (.slice A2 (n + 1) c2)) := by
  have hra := h.row.grew hg
  have hba := hb.grew hg
  have hb2 : Blk w2 ob 36 #[.slice A n c] := hba.chg ha.chg fun ⟨ad, e1, e2⟩ => Own.ne_blk hra hba (by decide) ad e1 e2.symm
  have hch : Chg (fun k => k = ob) w2 (w2.setCell ⟨ob, 0, none⟩ (.slice A2 (n + 1) c2)) := Chg.one _ _ _ _
  have hb3 : Blk (w2.setCell ⟨ob, 0, none⟩ (.slice A2 (n + 1) c2)) ob 36 #[.slice A2 (n + 1) c2] := by simpa using hb2.set 0 (.slice A2 (n + 1) c2)
  have hC1 : Chg (BodyS w.heap.size W) W w2 := (Chg.of_grew hg).step ha.chg fun k hk hk2 => by
    obtain ⟨h1, cs, fr, h2⟩ := Own.heapTy hra hk2
    rw [hg.block k hk (fun e => e)] at h2
    exact ⟨h1, cs, _, fr, h2, .inr rfl⟩
  have hC : Chg (BodyS w.heap.size W) W (w2.setCell ⟨ob, 0, none⟩ (.slice A2 (n + 1) c2)) := hC1.step hch fun k _ e => by
    rw [e]
    exact ⟨hob, _, _, _, hb, .inl rfl⟩
  refine ⟨hb2, ⟨A2, n + 1, c2, ms ++ [m], hb3, ⟨ha.oe.chg hch fun ad e => Own.ne_blk ha.oe hb2 (by decide) ad e, by rw [List.length_append, List.length_append, h.len]; rfl, fun i m' s' hm' hs' => ?_⟩, hf.step hC fun k _ hk => hk.1⟩, hC⟩
  have old : ∀ m' s', OutE w W m' s' → OutE w (w2.setCell ⟨ob, 0, none⟩ (.slice A2 (n + 1) c2)) m' s' := fun m' s' h1 => ((h1.chg hg fun _ _ _ e => e.elim).chg ha.chg fun k cs fr hk => ne_of_own hra (by decide) k cs fr hk).chg hch fun k cs fr hk => by
    rw [hk]
    exact ne_of_blk hb2 (by decide) cs fr
  rcases snoc_get hm' with h1 | ⟨h1, rfl⟩
  · rcases snoc_get hs' with h2 | ⟨h2, rfl⟩
    · exact old _ _ (h.el i m' s' h1 h2)
    · have := (List.getElem?_eq_some_iff.1 h1).1
      have := h.len
      omega
  · rcases snoc_get hs' with h2 | ⟨h2, rfl⟩
    · have := (List.getElem?_eq_some_iff.1 h2).1
      have := h.len
      omega
    · exact OutE.of hm
/-- the last one's points turned -/
theorem OutR.turn {w W W2 : World} {g n c ob : Nat} {pc : Nat} {pa : Option Addr} {ms : List SerM} {ss : List Ser} {m : SerM} {s : Ser} {ps : List Ptn} (h : OutR w W (some ⟨g, 0, none⟩) n c (ms ++ [m]) (ss ++ [s])) (hb : Blk W ob 36 #[.slice (some ⟨g, 0, none⟩) n c]) (hf : Chg (fun k => w.heap.size ≤ k) w W) (hg : Grew W W2)
    (hp : OE elPt W2 w.heap.size 69 pa ps.length pc ps) :
    Inv w ob (ss ++ [⟨s.lbs, ps⟩]) (W2.setCell ⟨g, ms.length * 2 + 1, none⟩ (.slice pa ps.length pc)) ∧ Chg (BodyS w.heap.size W) W (W2.setCell ⟨g, ms.length * 2 + 1, none⟩ (.slice pa ps.length pc)) := by
  have hr2 := h.row.grew hg
  have hb2 := hb.grew hg
  have hch : Chg (fun k => k = g) W2 (W2.setCell ⟨g, ms.length * 2 + 1, none⟩ (.slice pa ps.length pc)) := Chg.one _ _ _ _
  obtain ⟨hg1, cs, fr, hg2⟩ := Own.heapTy h.row ⟨_, rfl, rfl⟩
  have hC : Chg (BodyS w.heap.size W) W (W2.setCell ⟨g, ms.length * 2 + 1, none⟩ (.slice pa ps.length pc)) := (Chg.of_grew hg).step hch fun k _ e => by
    rw [e]
    exact ⟨hg1, cs, _, fr, hg2, .inr rfl⟩
  have hrow : OE elSr (W2.setCell ⟨g, ms.length * 2 + 1, none⟩ (.slice pa ps.length pc)) w.heap.size 61 (some ⟨g, 0, none⟩) n c (ms ++ [⟨m.la, m.ln, m.lc, pa, ps.length, pc⟩]) := by
    have := Own.set hr2 (ms.length * 2 + 1) (.slice pa ps.length pc)
    rw [flat_snoc_set] at this
    unfold OE
    rw [El.flat_append, El.flat_one]
    exact this
  have hl : ms.length = ss.length := by have := h.len; simpa using this
  have hne : ∀ k cs' fr', k = g → W2.heap[k]? ≠ some (.cells cs' 69 fr') := fun k cs' fr' e => by
    rw [e]
    exact ne_of_own hr2 (by decide) g cs' fr' ⟨_, rfl, rfl⟩
  refine ⟨⟨_, n, c, _, hb2.chg hch (fun e => by have := Own.ne_blk hr2 hb2 (by decide) _ rfl; exact this e.symm), ⟨hrow, by simp [hl], fun i m' s' hm' hs' => ?_⟩, hf.step hC fun k _ hk => hk.1⟩, hC⟩
  have old : ∀ m' s', OutE w W m' s' → OutE w (W2.setCell ⟨g, ms.length * 2 + 1, none⟩ (.slice pa ps.length pc)) m' s' := fun m' s' h1 => (h1.chg hg fun _ _ _ e => e.elim).chg hch hne
  rcases snoc_get hm' with h1 | ⟨h1, rfl⟩
  · rcases snoc_get hs' with h2 | ⟨h2, rfl⟩
    · refine old _ _ (h.el i m' s' ?_ ?_)
      · rw [List.getElem?_append_left (List.getElem?_eq_some_iff.1 h1).1]
        exact h1
      · rw [List.getElem?_append_left (List.getElem?_eq_some_iff.1 h2).1]
        exact h2
    · have := (List.getElem?_eq_some_iff.1 h1).1
      omega
  · rcases snoc_get hs' with h2 | ⟨h2, rfl⟩
    · have := (List.getElem?_eq_some_iff.1 h2).1
      omega
    · have h3 := old _ _ (h.el i m s (by rw [h1]; simp) (by rw [h1, hl]; simp))
      exact ⟨h3.lb, h3.lc, .inr (hp.chg hch fun ad e e2 => by
        obtain ⟨_, cs, fr, h4⟩ := Own.heapTy hp ⟨ad, e, rfl⟩
        exact hne _ _ _ e2 h4)⟩
end Go.Proofs.YtailooldnelecaaGreatDoor

namespace Go.Proofs.YtailooldnelecaaGreatDoor
open Go.RowKit

/-- two new blocks -/
theorem boxes (w : World) (t : TypeId) (X Y : Array Value) : Blk ((w.alloc (.cells X t)).alloc (.cells Y t)).drew w.heap.size t X ∧ Blk ((w.alloc (.cells X t)).alloc (.cells Y t)).drew (w.heap.size + 1) t Y ∧ Grew w ((w.alloc (.cells X t)).alloc (.cells Y t)).drew := by
  have n1 : Blk (w.alloc (.cells X t)) w.heap.size t X := Blk.new w t X
  have n3 : Blk ((w.alloc (.cells X t)).alloc (.cells Y t)) (w.heap.size + 1) t Y := by
    have := Blk.new (w.alloc (.cells X t)) t Y
    rwa [World.size_alloc] at this
  exact ⟨(n1.alloc _).drewN 1, n3.drewN 1, (((Chg.refl _ w).alloc _).alloc _).drew⟩
theorem mergeP_lt {p q : Ptn} {a b : List Ptn} (h : p.1 < q.1) : mergeP (p :: a) (q :: b) = p :: mergeP a (q :: b) := by rw [mergeP, if_pos h]
theorem mergeP_gt {p q : Ptn} {a b : List Ptn} (h : q.1 < p.1) : mergeP (p :: a) (q :: b) = q :: mergeP (p :: a) b := by rw [mergeP, if_neg (by omega), if_pos h]
theorem mergeP_eq {p q : Ptn} {a b : List Ptn} (h : p.1 = q.1) : mergeP (p :: a) (q :: b) = (p.1, max p.2 q.2) :: mergeP a b := by rw [mergeP, if_neg (by omega), if_neg (by omega)]
theorem push_l {out r l : List Ptn} {x : Ptn} (h : out ++ x :: r = l) : (out ++ [x]) ++ r = l := by rw [← h]; simp

theorem fin_app {w wr : World} {t : TypeId} {D A B : Option Addr} {k e n m : Nat} {out ps qs : List Ptn} (ho : OE elPt wr w.heap.size t D k e out) (h : RE elPt wr A n ps) (hb : RE elPt w B m qs) (hg : Grew w wr) (_ : (1 : Nat) = 1 ∨ True) :
    OE elPt wr w.heap.size t D k e out ∧ RE elPt wr A n ps ∧ ∀ D2 e2 w2, ApE elPt wr w.heap.size t D (k + n) e (out ++ ps) D2 e2 w2 → OE elPt w2 w.heap.size t D2 (k + n) e2 (out ++ ps) ∧ RE elPt w2 B m qs ∧ w.heap.size ≤ w2.heap.size ∧ Grew w w2 := by
  refine ⟨ho, h, fun D2 e2 w2 h2 => ?_⟩
  have hg2 : Grew w w2 := h2.grew hg (fun ad e => (Own.blk_lt ho ad e).1)
  exact ⟨h2.oe, hb.grew hg2, hg2.size, hg2⟩

end Go.Proofs.YtailooldnelecaaGreatDoor

namespace Go.Proofs.YtailooldnelecaaGreatDoor
open Go.RowKit
attribute [local go_sem] Oper.semAt_some

/-- a list handed in -/
structure LsIn (w : World) (x : Lst) : Prop where
  rs : RS w x.a x.n x.ss
  cap : x.n ≤ x.c ∧ x.c ≤ 9223372036854775807
theorem LsIn.grew {w w' : World} {x : Lst} (h : LsIn w x) (hc : Grew w w') : LsIn w' x := ⟨h.rs.grew hc, h.cap⟩

theorem chkL_len {L : List Lab} (h : chkL L = 0) : L.length ≤ 1048576 := by
  unfold chkL at h
  split at h
  · cases h
  · omega
end Go.Proofs.YtailooldnelecaaGreatDoor

namespace Go.Proofs.YtailooldnelecaaGreatDoor
open Go.RowKit

/-! ### Clip -/
def clipS (f t : Int) : List Ser → List Ser
  | [] => []
  | s :: r => if clipP f t s.pts = [] then clipS f t r else ⟨s.lbs, clipP f t s.pts⟩ :: clipS f t r
theorem clipS_snoc {f t : Int} {ss : List Ser} {s : Ser} : clipS f t (ss ++ [s]) = clipS f t ss ++ if clipP f t s.pts = [] then [] else [⟨s.lbs, clipP f t s.pts⟩] := by
  induction ss with
  | nil => simp [clipS]
  | cons x r ih =>
    rw [List.cons_append, clipS, clipS, ih]
    split <;> simp
theorem clipS_len (f t : Int) (ss : List Ser) : (clipS f t ss).length ≤ ss.length := by
  induction ss with
  | nil => simp [clipS]
  | cons x r ih =>
    rw [clipS]
    split <;> simp <;> omega

theorem clip_ab {w W w2 w3 : World} {ln k m C c2 pc : Nat} {A2 P B : Option Addr} {ss : List Ser} {lbs : List Lab} {cp : List Ptn} (h3 : ApE elLb (w2.alloc (.cells #[] 72)) W.heap.size 72 (some ⟨w2.heap.size, 0, none⟩) (0 + ln) 0 ([] ++ lbs) A2 c2 w3) (g : Grew W w2)
    (hP : OE elPt w2 W.heap.size 69 P k pc cp) (ho : NS W w.heap.size B m C ss) (hgw : Grew w W) :
    ∃ ms, OE elSr (w3.alloc (.cells #[.slice A2 ln c2, .slice P k pc] 61)) w.heap.size 61 B m C ms ∧ w.heap.size ≤ (w3.alloc (.cells #[.slice A2 ln c2, .slice P k pc] 61)).heap.size ∧ RE elSr (w3.alloc (.cells #[.slice A2 ln c2, .slice P k pc] 61)) (some ⟨w3.heap.size, 0, none⟩) 1 [⟨A2, ln, c2, P, k, pc⟩] ∧
      ∀ B2 C2 w4, ApE elSr (w3.alloc (.cells #[.slice A2 ln c2, .slice P k pc] 61)) w.heap.size 61 B (m + 1) C (ms ++ [⟨A2, ln, c2, P, k, pc⟩]) B2 C2 w4 → NS w4 w.heap.size B2 (m + 1) C2 (ss ++ [⟨lbs, cp⟩]) ∧ Grew w w4 := by
  have g3 : Grew W w3 := h3.grew (g.alloc _) (head_le g.size)
  obtain ⟨ms, ho3⟩ := (ho.grew g3).op
  have hl : OE elLb (w2.alloc (.cells #[] 72)) W.heap.size 72 (some ⟨w2.heap.size, 0, none⟩) 0 0 [] := OE.made w2 W.heap.size 72 g.size
  have hP3 : OE elPt w3 W.heap.size 69 P k pc cp := OE.apart (hP.grew ((Chg.refl _ w2).alloc _)) hl (by decide) h3.chg
  have hE : NsE w3 W.heap.size ⟨A2, ln, c2, P, k, pc⟩ ⟨lbs, cp⟩ := ⟨h3.at0, hP3⟩
  have hga : Grew w3 (w3.alloc (.cells #[.slice A2 ln c2, .slice P k pc] 61)) := (Chg.refl _ w3).alloc _
  exact ⟨ms, ho3.row.grew hga, (hgw.trans (g3.trans hga)).size, RE.newAt rfl rfl rfl, fun B2 C2 w4 h4 => ⟨(ho3.grew hga).app ((NsE.mono hE hgw.size).grew hga) h4, h4.grew (hgw.trans (g3.trans hga)) (fun ad e => (Own.blk_lt ho3.row ad e).1)⟩⟩

end Go.Proofs.YtailooldnelecaaGreatDoor

namespace Go.Proofs.YtailooldnelecaaGreatDoor
open Go.RowKit

def pickS (ms : List Mat) (ss : List Ser) : List Ser := ss.filter fun s => saysB ms s.lbs
theorem pickS_yes {ms : List Mat} {ss : List Ser} {k : Nat} {s : Ser} (h : ss[k]? = some s) (h1 : saysB ms s.lbs = true) : pickS ms (ss.take (k + 1)) = pickS ms (ss.take k) ++ [s] := by
  rw [take_snoc h, pickS, List.filter_append]
  simp [pickS, h1]
theorem pickS_no {ms : List Mat} {ss : List Ser} {k : Nat} {s : Ser} (h : ss[k]? = some s) (h1 : saysB ms s.lbs = false) : pickS ms (ss.take (k + 1)) = pickS ms (ss.take k) := by
  rw [take_snoc h, pickS, List.filter_append]
  simp [pickS, h1]
theorem pickS_small {ms : List Mat} {ss : List Ser} (h : Small ss) : Small (pickS ms ss) := ⟨Nat.le_trans (List.length_filter_le _ _) h.n, fun s hs => h.el s (List.mem_filter.1 hs).1⟩
/-- a row of series that came in -/
structure PkR (w W : World) (A : Option Addr) (n c : Nat) (ms : List SerM) (ss : List Ser) : Prop where
  row : OE elSr W w.heap.size 61 A n c ms
  len : ms.length = ss.length
  el : ∀ (i : Nat) (m : SerM) (s : Ser), ms[i]? = some m → ss[i]? = some s → SrIs w m s
theorem PkR.grew {w W W' : World} {A : Option Addr} {n c : Nat} {ms : List SerM} {ss : List Ser} (h : PkR w W A n c ms ss) (hg : Grew W W') : PkR w W' A n c ms ss := ⟨h.row.grew hg, h.len, h.el⟩
theorem PkR.rs {w W : World} {A : Option Addr} {n c : Nat} {ms : List SerM} {ss : List Ser} (h : PkR w W A n c ms ss) (hg : Grew w W) : RS W A n ss := ⟨ms, h.row.re (by decide), h.len, fun i m s hm hs => (h.el i m s hm hs).grew hg⟩
theorem PkR.app {w W W' : World} {A A' : Option Addr} {n k c c' : Nat} {ms : List SerM} {ss : List Ser} {m : SerM} {s : Ser} (h : PkR w W A n c ms ss) (hm : SrIs w m s) (ha : ApE elSr W w.heap.size 61 A k c (ms ++ [m]) A' c' W') : PkR w W' A' k c' (ms ++ [m]) (ss ++ [s]) := by
  refine ⟨ha.oe, by rw [List.length_append, List.length_append, h.len]; rfl, fun i m' s' hm' hs' => ?_⟩
  rcases snoc_get hm' with h1 | ⟨h1, rfl⟩
  · rcases snoc_get hs' with h2 | ⟨h2, rfl⟩
    · exact h.el i m' s' h1 h2
    · have := (List.getElem?_eq_some_iff.1 h1).1
      have := h.len
      omega
  · rcases snoc_get hs' with h2 | ⟨h2, rfl⟩
    · have := (List.getElem?_eq_some_iff.1 h2).1
      have := h.len
      omega
    · exact hm

end Go.Proofs.YtailooldnelecaaGreatDoor

namespace Go.Proofs.YtailooldnelecaaGreatDoor
open Go.RowKit

def holdsP : List Ptn → List Ptn → Bool
  | _, [] => true
  | [], _ :: _ => false
  | p :: a, q :: b => if p.1 < q.1 then holdsP a (q :: b) else decide (p = q) && holdsP (p :: a) b
termination_by a b => a.length + b.length
theorem holdsP_nil (a : List Ptn) : holdsP a [] = true := by cases a <;> simp [holdsP]
theorem holdsP_none (q : Ptn) (b : List Ptn) : holdsP [] (q :: b) = false := by simp [holdsP]
theorem holdsP_lt {p q : Ptn} {a b : List Ptn} (h : p.1 < q.1) : holdsP (p :: a) (q :: b) = holdsP a (q :: b) := by rw [holdsP, if_pos h]
theorem holdsP_ge {p q : Ptn} {a b : List Ptn} (h : ¬ p.1 < q.1) : holdsP (p :: a) (q :: b) = (decide (p = q) && holdsP (p :: a) b) := by rw [holdsP, if_neg h]

end Go.Proofs.YtailooldnelecaaGreatDoor

namespace Go.Proofs.YtailooldnelecaaGreatDoor
open Go.RowKit

def coversS : List Ser → List Ser → Bool
  | _, [] => true
  | [], _ :: _ => false
  | p :: a, q :: b => if cmpLs p.lbs q.lbs < 0 then coversS a (q :: b) else decide (cmpLs p.lbs q.lbs = 0) && (holdsP p.pts q.pts && coversS (p :: a) b)
termination_by a b => a.length + b.length
theorem coversS_nil (a : List Ser) : coversS a [] = true := by cases a <;> simp [coversS]
theorem coversS_none (q : Ser) (b : List Ser) : coversS [] (q :: b) = false := by simp [coversS]
theorem coversS_lt {p q : Ser} {a b : List Ser} (h : cmpLs p.lbs q.lbs < 0) : coversS (p :: a) (q :: b) = coversS a (q :: b) := by rw [coversS, if_pos h]
theorem coversS_ge {p q : Ser} {a b : List Ser} (h : ¬ cmpLs p.lbs q.lbs < 0) : coversS (p :: a) (q :: b) = (decide (cmpLs p.lbs q.lbs = 0) && (holdsP p.pts q.pts && coversS (p :: a) b)) := by rw [coversS, if_neg h]
theorem errB (ss : List Ser) : (errS ss : Int) = if okS none ss = true then 0 else 100 := by
  unfold errS
  split <;> rfl

/-- has a list all points of another one? -/
def covB' (sa sb : List Ser) : Bool := okS none sa && (okS none sb && coversS sa sb)
end Go.Proofs.YtailooldnelecaaGreatDoor

namespace Go.Proofs.YtailooldnelecaaGreatDoor

noncomputable def mrg (L : List (List Ser)) : List Ser := @dite _ (∃ m, Mrg L m) (Classical.propDecidable _) (fun h => Classical.choose h) (fun _ => [])
theorem mrg_of {L : List (List Ser)} {m : List Ser} (h : Mrg L m) : mrg L = m := by
  unfold mrg
  rw [dif_pos ⟨m, h⟩]
  exact (Classical.choose_spec (⟨m, h⟩ : ∃ m, Mrg L m)).uniq h
theorem Mrg.to {L L' : List (List Ser)} {m : List Ser} (h : Mrg L m) (he : ∀ K t, maxL L K t = maxL L' K t) : Mrg L' m := ⟨h.vs, fun K t => by rw [h.at_, he]⟩
theorem maxL_nil (K : List Lab) (t : Int) : maxL [] K t = none := rfl
theorem mrg_own {a : List Ser} (h : Vs a) : Mrg [a] a := ⟨h, fun K t => by rw [maxL_cons, maxL_nil, maxO_none]⟩
theorem mrg_nil : Mrg [] [] := ⟨Vs.nil, fun _K _t => rfl⟩
theorem maxO_left (a b c : Option Nat) : maxO a (maxO b c) = maxO b (maxO a c) := by rw [← maxO_assoc, maxO_comm a b, maxO_assoc]
theorem maxO_self2 (a b : Option Nat) : maxO a (maxO a b) = maxO a b := by rw [← maxO_assoc, maxO_self]

/-! ### the trial -/
def lbA : List Lab := [(⟨#[97]⟩, ⟨#[120]⟩)]
def serA : List Ser := [⟨lbA, [(1, 5), (2, 6)]⟩]
def serB : List Ser := [⟨lbA, [(2, 7)]⟩]
def serM : List Ser := [⟨lbA, [(1, 5), (2, 7)]⟩]
theorem chkA : chkL lbA = 0 := by decide +kernel
theorem vs_one {L : List Lab} {ps : List Ptn} (h : Rise ps) (hn : ps ≠ []) : Vs [⟨L, ps⟩] := ⟨List.pairwise_singleton _ _, fun s hs => by
    obtain rfl : s = _ := by simpa using hs
    exact h, fun s hs => by
    obtain rfl : s = _ := by simpa using hs
    exact hn⟩
theorem ok_one {L : List Lab} {ps : List Ptn} (hc : chkL L = 0) (h : Rise ps) (hn : ps ≠ []) : OkL [⟨L, ps⟩] := ⟨vs_one h hn, fun s hs => by
    obtain rfl : s = _ := by simpa using hs
    exact hc⟩
theorem okA : OkL serA := ok_one chkA (by simp [Rise]) (by simp)
theorem okB_ : OkL serB := ok_one chkA (by simp [Rise]) (by simp)
theorem okM : OkL serM := ok_one chkA (by simp [Rise]) (by simp)
theorem mrgAB : Mrg [serA, serB] serM := ⟨okM.1, fun K t => by
  rw [maxL_cons, maxL_cons, maxL_nil, maxO_none]
  unfold serA serB serM
  rw [atV_one, atV_one, atV_one]
  dsimp only
  by_cases h : lbA = K
  · rw [if_pos h, if_pos h, if_pos h]
    simp only [lookP_cons]
    by_cases h1 : (1 : Int) = t
    · rw [if_pos h1, if_pos h1, if_neg (by omega)]
      rfl
    · rw [if_neg h1, if_neg h1]
      by_cases h2 : (2 : Int) = t
      · rw [if_pos h2, if_pos h2]
        rfl
      · rw [if_neg h2, if_neg h2]
        rfl
  · rw [if_neg h, if_neg h, if_neg h]
    rfl⟩
theorem clipM : clipS 2 2 serM = serB := rfl
theorem saysA : saysB [(1, ⟨#[97]⟩, ⟨#[121]⟩)] lbA = false := by decide +kernel
theorem pickM : pickS [(1, ⟨#[97]⟩, ⟨#[121]⟩)] serM = [] := by
  unfold pickS serM
  rw [List.filter_cons]
  dsimp only
  rw [saysA]
  rfl
theorem totM : tot serM = 2 := rfl
theorem cmpA : cmpLs lbA lbA = 0 := (cmpLs_ok.zero _ _).2 rfl
theorem covMB : covB' serM serB = true := by
  unfold covB'
  rw [okS_iff.2 okM, okS_iff.2 okB_]
  unfold serM serB
  rw [coversS_ge (by show ¬ cmpLs lbA lbA < 0; rw [cmpA]; omega)]
  show (decide (cmpLs lbA lbA = 0) && _) = true
  rw [cmpA, coversS_nil, holdsP_lt (by decide), holdsP_ge (by decide), holdsP_nil]
  rfl
theorem covMA : covB' serM serA = false := by
  unfold covB'
  rw [okS_iff.2 okM, okS_iff.2 okA]
  unfold serM serA
  rw [coversS_ge (by show ¬ cmpLs lbA lbA < 0; rw [cmpA]; omega)]
  show (decide (cmpLs lbA lbA = 0) && _) = false
  rw [cmpA, coversS_nil, holdsP_ge (by decide), holdsP_lt (by decide), holdsP_ge (by decide)]
  rfl
theorem errEmpty : errS [⟨[], []⟩] = 100 := errS_no fun h => h.1.some ⟨[], []⟩ (by simp) rfl
end Go.Proofs.YtailooldnelecaaGreatDoor
