/-
  Several texts in one:
  The form of a list of series, and what a merge of lists keeps of it: plain. Conditions: none.
  Drawn regions in a round of a range over a function: the walks in the order of the text, there. Conditions: a check of the region that the kernel runs; no program in sight.
  Lists of series merged: what a loop over the iterator keeps. Conditions: lengths that memory bears.
  Two rows of points as one. Conditions: lengths that memory bears.
  Lists of series merged. Conditions: lengths that memory bears.
  Lists of series that may not be merged; the series of a stretch; the series that matchers say yes of. Conditions: lengths that memory bears.
  The series that matchers say yes of. Conditions: lengths that memory bears.
  Has a row of points all of another one? Conditions: none.
  Has a list of series all points of another one? Conditions: lengths that memory bears.
  Merges in plain words; the series of the statements' own trial. Conditions: none.
  The reference of match: one: a text is what an alternative says just if glob says so. Conditions: texts that memory bears.
  The reference of match: Like: a text is like a pattern just if likeB says so. Conditions: texts that memory bears.
  What every program of match answers, call by call (awake); the law MatchLikes, walked. Conditions: texts that memory bears.
  What every program of series answers, call by call (awake). Conditions: the longest text that the library takes is as it is set.
  Labels and matchers copied; a number without its sign; the opposite of a kind. Conditions: lengths that memory bears.
  Lists of series copied by the statements' own helper. Conditions: lengths that memory bears.
  A list of series that came in. Conditions: none.
  The law SeriesOrder, walked. Conditions: lengths that memory bears; the longest text that the library takes is as it is set.
  What 'covers' says, in plain words; clips and picks of lists that may be. Conditions: none; no program in sight.
  The laws SeriesCovers and SeriesApart, walked. Conditions: lengths that memory bears; the longest text that the library takes is as it is set.
  The law SeriesApart, walked. Conditions: lengths that memory bears; the longest text that the library takes is as it is set.
-/
import Derived.Test.YtlcaaacbookopaaGreatDoorPart38
import Derived.Test.YtlcaaacbookopaaGreatDoorPart16
import Derived.Test.YtlcaaacbookopaaGreatDoorPart29
import Derived.Test.YtlcaaacbookopaaGreatDoorPart6
import Derived.Test.YtlcaaacbookopaaGreatDoorPart7
import Derived.Test.YtlcaaacbookopaaGreatDoorPart3
import Derived.OrdersIn
import Derived.TacticsIn
import Derived.RangeFuncCalls
import Derived.Test.YtlcaaacbookopaaGreatDoorPart35
import Derived.Test.YtlcaaacbookopaaGreatDoorPart33
import Derived.OwnWalk

namespace Go.Proofs.YtlcaaacbookopaaGreatDoor

/-- a list as the document wants it -/
def OkL (ss : List Ser) : Prop := Vs ss ∧ ∀ s ∈ ss, chkL s.lbs = 0
theorem okS_tail {prev : Option (List Lab)} : ∀ {ss : List Ser}, okS prev ss = true → (∀ s ∈ ss, chkL s.lbs = 0 ∧ Rise s.pts ∧ s.pts ≠ []) ∧ SortS ss ∧ ∀ p, prev = some p → ∀ s ∈ ss, cmpLs p s.lbs < 0
  | [], _ => ⟨fun s h => (by cases h), List.Pairwise.nil, fun p _ s h => (by cases h)⟩
  | s :: r, h => by
    rw [okS_cons, Bool.and_eq_true, Bool.and_eq_true, Bool.and_eq_true, decide_eq_true_iff, risB_iff] at h
    obtain ⟨h1, h2, h3, h4⟩ := h
    obtain ⟨k1, k2, k3⟩ := okS_tail h4
    refine ⟨fun x hx => ?_, List.pairwise_cons.2 ⟨fun x hx => k3 _ rfl x hx, k2⟩, fun p hp x hx => ?_⟩
    · rcases List.mem_cons.1 hx with rfl | hx
      · exact ⟨h1, h2⟩
      · exact k1 x hx
    · subst hp
      have h5 : cmpLs p s.lbs < 0 := of_decide_eq_true h3
      rcases List.mem_cons.1 hx with rfl | hx
      · exact h5
      · exact cmpLs_ok.trans _ _ _ h5 (k3 _ rfl x hx)
theorem okS_of {prev : Option (List Lab)} : ∀ {ss : List Ser}, (∀ s ∈ ss, chkL s.lbs = 0 ∧ Rise s.pts ∧ s.pts ≠ []) → SortS ss → (∀ p, prev = some p → ∀ s ∈ ss, cmpLs p s.lbs < 0) → okS prev ss = true
  | [], _, _, _ => rfl
  | s :: r, h1, h2, h3 => by
    have h2 := List.pairwise_cons.1 h2
    obtain ⟨a, b, c⟩ := h1 s (by simp)
    rw [okS_cons, Bool.and_eq_true, Bool.and_eq_true, Bool.and_eq_true, decide_eq_true_iff, risB_iff]
    refine ⟨a, ⟨b, c⟩, ?_, okS_of (fun x hx => h1 x (by simp [hx])) h2.2 fun p hp x hx => ?_⟩
    · cases prev with
      | none => rfl
      | some p => exact decide_eq_true (h3 p rfl s (by simp))
    · injection hp with hp
      rw [← hp]
      exact h2.1 x hx
theorem okS_iff {ss : List Ser} : okS none ss = true ↔ OkL ss := by
  constructor
  · intro h
    obtain ⟨h1, h2, _⟩ := okS_tail h
    exact ⟨⟨h2, fun s hs => (h1 s hs).2.1, fun s hs => (h1 s hs).2.2⟩, fun s hs => (h1 s hs).1⟩
  · rintro ⟨⟨h1, h2, h3⟩, h4⟩
    exact okS_of (fun s hs => ⟨h4 s hs, h2 s hs, h3 s hs⟩) h1 fun p hp => by cases hp
theorem errS_ok {ss : List Ser} (h : OkL ss) : errS ss = 0 := by
  unfold errS
  rw [if_pos (okS_iff.2 h)]
/-- of the merge's labels each is of one of the lists -/
theorem Mrg.from {ls : List (List Ser)} {m : List Ser} (h : Mrg ls m) {s : Ser} (hs : s ∈ m) : ∃ a ∈ ls, ∃ s' ∈ a, s'.lbs = s.lbs := by
  obtain ⟨p, r, hp⟩ := List.exists_cons_of_ne_nil (h.vs.some s hs)
  have hl := (lookS_mem h.vs.sort).2 ⟨hs, rfl⟩
  have h1 : atV m s.lbs p.1 = some p.2 := by
    unfold atV
    rw [hl]
    exact (lookP_mem (h.vs.rise s hs)).2 (by rw [hp]; simp)
  rw [h.at_] at h1
  clear h hl
  induction ls with
  | nil => cases h1
  | cons a ls ih =>
    rw [maxL_cons] at h1
    cases h2 : atV a s.lbs p.1 with
    | none =>
      rw [h2] at h1
      obtain ⟨a', ha, x, hx, e⟩ := ih h1
      exact ⟨a', by simp [ha], x, hx, e⟩
    | some v =>
      unfold atV at h2
      cases h3 : lookS a s.lbs with
      | none => rw [h3] at h2; cases h2
      | some x =>
        unfold lookS at h3
        have h4 := List.find?_some h3
        exact ⟨a, by simp, x, List.mem_of_find?_eq_some h3, by simpa using h4⟩
theorem Mrg.ok {ls : List (List Ser)} {m : List Ser} (h : Mrg ls m) (hl : ∀ a ∈ ls, OkL a) : OkL m := ⟨h.vs, fun s hs => by
  obtain ⟨a, ha, x, hx, e⟩ := h.from hs
  rw [← e]
  exact (hl a ha).2 x hx⟩
end Go.Proofs.YtlcaaacbookopaaGreatDoor

namespace Go.Proofs.YtlcaaacbookopaaGreatDoor

section
variable {P : Program} {Q : Exit → Act → World → Prop} {tys : List (Nat × Nat)} {bs : List Nat}

variable {α : Type} {E : El α}
end
end Go.Proofs.YtlcaaacbookopaaGreatDoor

namespace Go.Proofs.YtlcaaacbookopaaGreatDoor
open Go.RowKit

/-- an element of what is merged so far: its labels came in, its points came in or are new -/
structure OutE (w W : World) (m : SerM) (s : Ser) : Prop where
  lb : RE elLb w m.la m.ln s.lbs
  lc : m.ln ≤ m.lc ∧ m.lc ≤ 9223372036854775807
  pt : (RE elPt w m.pa m.pn s.pts ∧ m.pn ≤ m.pc ∧ m.pc ≤ 9223372036854775807) ∨ OE elPt W w.heap.size 82 m.pa m.pn m.pc s.pts
theorem far_re {α : Type} {E : El α} {w W : World} {A : Option Addr} {n : Nat} {l : List α} (hs : 0 < E.sz) (h : RE E w A n l) (hf : Chg (fun k => w.heap.size ≤ k) w W) : RE E W A n l := h.far hf fun ad e h0 => by have := h.lt hs ad e h0; omega
theorem OutE.is {w W : World} {m : SerM} {s : Ser} (h : OutE w W m s) (hf : Chg (fun k => w.heap.size ≤ k) w W) : SrIs W m s := by
  rcases h.pt with ⟨h1, h2⟩ | h1
  · exact ⟨far_re (by decide) h.lb hf, far_re (by decide) h1 hf, h.lc, h2⟩
  · exact ⟨far_re (by decide) h.lb hf, h1.re (by decide), h.lc, h1.cap⟩
theorem OutE.of {w W : World} {m : SerM} {s : Ser} (h : SrIs w m s) : OutE w W m s := ⟨h.lb, h.lc, .inl ⟨h.pt, h.pc⟩⟩
structure OutR (w W : World) (A : Option Addr) (n c : Nat) (ms : List SerM) (ss : List Ser) : Prop where
  row : OE elSr W w.heap.size 85 A n c ms
  len : ms.length = ss.length
  el : ∀ (i : Nat) (m : SerM) (s : Ser), ms[i]? = some m → ss[i]? = some s → OutE w W m s
theorem OutR.rs {w W : World} {A : Option Addr} {n c : Nat} {ms : List SerM} {ss : List Ser} (h : OutR w W A n c ms ss) (hf : Chg (fun k => w.heap.size ≤ k) w W) : RS W A n ss := ⟨ms, h.row.re (by decide), h.len, fun i m s hm hs => (h.el i m s hm hs).is hf⟩
/-- between two rounds -/
def Inv (w : World) (ob : Nat) (ss : List Ser) (W : World) : Prop := ∃ A n c ms, Blk W ob 39 #[.slice A n c] ∧ OutR w W A n c ms ss ∧ Chg (fun k => w.heap.size ≤ k) w W
/-- what a round's body turns: the box of what is merged so far, and its row -/
def BodyS (base : Nat) (W : World) (k : Nat) : Prop := base ≤ k ∧ ∃ cs t fr, W.heap[k]? = some (.cells cs t fr) ∧ (t = 39 ∨ t = 85)
theorem flat_snoc_set (ms : List SerM) (m : SerM) (u : Value) : (elSr.flat (ms ++ [m])).set (ms.length * 2 + 1) u = elSr.flat ms ++ [.slice m.la m.ln m.lc, u] := by
  rw [El.flat_append, El.flat_one]
  have hl : (elSr.flat ms).length = ms.length * 2 := elSr.flat_length ms
  rw [List.set_append_right _ _ (by omega), hl, show ms.length * 2 + 1 - ms.length * 2 = 1 by omega]
  rfl
theorem OutE.chg {S : Nat → Prop} {w W W' : World} {m : SerM} {s : Ser} (h : OutE w W m s) (hc : Chg S W W') (hn : ∀ k cs fr, S k → W.heap[k]? ≠ some (.cells cs 82 fr)) : OutE w W' m s := ⟨h.lb, h.lc, h.pt.imp id fun h1 => h1.chg hc fun ad e hk => by
  obtain ⟨_, cs, fr, h4⟩ := Own.heapTy h1 ⟨ad, e, rfl⟩
  exact hn _ _ _ hk h4⟩
theorem ne_of_blk {w : World} {g : Nat} {t u : TypeId} {cs : Array Value} (h : Blk w g t cs) (hne : t ≠ u) : ∀ cs' fr, w.heap[g]? ≠ some (.cells cs' u fr) := fun cs' fr e => by
  unfold Blk at h
  rw [h] at e
  injection e with e
  injection e with _ e
  exact hne e
theorem ne_of_own {w : World} {base sz n c : Nat} {A : Option Addr} {t u : TypeId} {xs : List Value} (h : Own w base t sz A n c xs) (hne : t ≠ u) : ∀ k cs' fr, (∃ ad, A = some ad ∧ k = ad.block) → w.heap[k]? ≠ some (.cells cs' u fr) := fun k cs' fr hk e => by
  obtain ⟨_, cs, fr', h2⟩ := Own.heapTy h hk
  rw [h2] at e
  injection e with e
  injection e with _ e
  exact hne e
/-- one appended, and laid into the box -/
theorem OutR.app {w W Wa w2 : World} {A A2 : Option Addr} {n c c2 ob : Nat} {ms : List SerM} {ss : List Ser} {m : SerM} {s : Ser} (h : OutR w W A n c ms ss) (hb : Blk W ob 39 #[.slice A n c]) (hf : Chg (fun k => w.heap.size ≤ k) w W) (hob : w.heap.size ≤ ob) (hg : Grew W Wa) (hm : SrIs w m s)
    (ha : ApE elSr Wa w.heap.size 85 A (n + 1) c (ms ++ [m]) A2 c2 w2) :
    Blk w2 ob 39 #[.slice A n c] ∧ Inv w ob (ss ++ [s]) (w2.setCell ⟨ob, 0, none⟩ (.slice A2 (n + 1) c2)) ∧ Chg (BodyS w.heap.size W) W (w2.setCell ⟨ob, 0, none⟩ (.slice A2 (n + 1) c2)) := by
  have hra := h.row.grew hg
  have hba := hb.grew hg
  have hb2 : Blk w2 ob 39 #[.slice A n c] := hba.chg ha.chg fun ⟨ad, e1, e2⟩ => Own.ne_blk hra hba (by decide) ad e1 e2.symm
  have hch : Chg (fun k => k = ob) w2 (w2.setCell ⟨ob, 0, none⟩ (.slice A2 (n + 1) c2)) := Chg.one _ _ _ _
  have hb3 : Blk (w2.setCell ⟨ob, 0, none⟩ (.slice A2 (n + 1) c2)) ob 39 #[.slice A2 (n + 1) c2] := by simpa using hb2.set 0 (.slice A2 (n + 1) c2)
  have hC1 : Chg (BodyS w.heap.size W) W w2 := (Chg.of_grew hg).step ha.chg fun k hk hk2 => by
    obtain ⟨h1, cs, fr, h2⟩ := Own.heapTy hra hk2
    rw [hg.block k hk (fun e => e)] at h2
    exact ⟨h1, cs, _, fr, h2, .inr rfl⟩
  have hC : Chg (BodyS w.heap.size W) W (w2.setCell ⟨ob, 0, none⟩ (.slice A2 (n + 1) c2)) := hC1.step hch fun k _ e => by
    rw [e]
    exact ⟨hob, _, _, _, hb, .inl rfl⟩
  refine ⟨hb2, ⟨A2, n + 1, c2, ms ++ [m], hb3, ⟨ha.oe.chg hch fun ad e => Own.ne_blk ha.oe hb2 (by decide) ad e, by rw [List.length_append, List.length_append, h.len]; rfl, fun i m' s' hm' hs' => ?_⟩, hf.step hC fun k _ hk => hk.1⟩, hC⟩
  have old : ∀ m' s', OutE w W m' s' → OutE w (w2.setCell ⟨ob, 0, none⟩ (.slice A2 (n + 1) c2)) m' s' := fun m' s' h1 => ((h1.chg hg fun _ _ _ e => e.elim).chg ha.chg fun k cs fr hk => ne_of_own hra (by decide) k cs fr hk).chg hch fun k cs fr hk => by
    rw [hk]
    exact ne_of_blk hb2 (by decide) cs fr
  rcases snoc_get hm' with h1 | ⟨h1, rfl⟩
  · rcases snoc_get hs' with h2 | ⟨h2, rfl⟩
    · exact old _ _ (h.el i m' s' h1 h2)
    · have := (List.getElem?_eq_some_iff.1 h1).1
      have := h.len
      omega
  · rcases snoc_get hs' with h2 | ⟨h2, rfl⟩
    · have := (List.getElem?_eq_some_iff.1 h2).1
      have := h.len
      omega
    · exact OutE.of hm
/-- the last one's points turned -/
theorem OutR.turn {w W W2 : World} {g n c ob : Nat} {pc : Nat} {pa : Option Addr} {ms : List SerM} {ss : List Ser} {m : SerM} {s : Ser} {ps : List Ptn} (h : OutR w W (some ⟨g, 0, none⟩) n c (ms ++ [m]) (ss ++ [s])) (hb : Blk W ob 39 #[.slice (some ⟨g, 0, none⟩) n c]) (hf : Chg (fun k => w.heap.size ≤ k) w W) (hg : Grew W W2)
    (hp : OE elPt W2 w.heap.size 82 pa ps.length pc ps) :
    Inv w ob (ss ++ [⟨s.lbs, ps⟩]) (W2.setCell ⟨g, ms.length * 2 + 1, none⟩ (.slice pa ps.length pc)) ∧ Chg (BodyS w.heap.size W) W (W2.setCell ⟨g, ms.length * 2 + 1, none⟩ (.slice pa ps.length pc)) := by
  have hr2 := h.row.grew hg
  have hb2 := hb.grew hg
  have hch : Chg (fun k => k = g) W2 (W2.setCell ⟨g, ms.length * 2 + 1, none⟩ (.slice pa ps.length pc)) := Chg.one _ _ _ _
  obtain ⟨hg1, cs, fr, hg2⟩ := Own.heapTy h.row ⟨_, rfl, rfl⟩
  have hC : Chg (BodyS w.heap.size W) W (W2.setCell ⟨g, ms.length * 2 + 1, none⟩ (.slice pa ps.length pc)) := (Chg.of_grew hg).step hch fun k _ e => by
    rw [e]
    exact ⟨hg1, cs, _, fr, hg2, .inr rfl⟩
  have hrow : OE elSr (W2.setCell ⟨g, ms.length * 2 + 1, none⟩ (.slice pa ps.length pc)) w.heap.size 85 (some ⟨g, 0, none⟩) n c (ms ++ [⟨m.la, m.ln, m.lc, pa, ps.length, pc⟩]) := by
    have := Own.set hr2 (ms.length * 2 + 1) (.slice pa ps.length pc)
    rw [flat_snoc_set] at this
    unfold OE
    rw [El.flat_append, El.flat_one]
    exact this
  have hl : ms.length = ss.length := by have := h.len; simpa using this
  have hne : ∀ k cs' fr', k = g → W2.heap[k]? ≠ some (.cells cs' 82 fr') := fun k cs' fr' e => by
    rw [e]
    exact ne_of_own hr2 (by decide) g cs' fr' ⟨_, rfl, rfl⟩
  refine ⟨⟨_, n, c, _, hb2.chg hch (fun e => by have := Own.ne_blk hr2 hb2 (by decide) _ rfl; exact this e.symm), ⟨hrow, by simp [hl], fun i m' s' hm' hs' => ?_⟩, hf.step hC fun k _ hk => hk.1⟩, hC⟩
  have old : ∀ m' s', OutE w W m' s' → OutE w (W2.setCell ⟨g, ms.length * 2 + 1, none⟩ (.slice pa ps.length pc)) m' s' := fun m' s' h1 => (h1.chg hg fun _ _ _ e => e.elim).chg hch hne
  rcases snoc_get hm' with h1 | ⟨h1, rfl⟩
  · rcases snoc_get hs' with h2 | ⟨h2, rfl⟩
    · refine old _ _ (h.el i m' s' ?_ ?_)
      · rw [List.getElem?_append_left (List.getElem?_eq_some_iff.1 h1).1]
        exact h1
      · rw [List.getElem?_append_left (List.getElem?_eq_some_iff.1 h2).1]
        exact h2
    · have := (List.getElem?_eq_some_iff.1 h1).1
      omega
  · rcases snoc_get hs' with h2 | ⟨h2, rfl⟩
    · have := (List.getElem?_eq_some_iff.1 h2).1
      omega
    · have h3 := old _ _ (h.el i m s (by rw [h1]; simp) (by rw [h1, hl]; simp))
      exact ⟨h3.lb, h3.lc, .inr (hp.chg hch fun ad e e2 => by
        obtain ⟨_, cs, fr, h4⟩ := Own.heapTy hp ⟨ad, e, rfl⟩
        exact hne _ _ _ e2 h4)⟩
end Go.Proofs.YtlcaaacbookopaaGreatDoor

namespace Go.Proofs.YtlcaaacbookopaaGreatDoor
open Go.RowKit

/-- two new blocks -/
theorem boxes (w : World) (t : TypeId) (X Y : Array Value) : Blk ((w.alloc (.cells X t)).alloc (.cells Y t)).drew w.heap.size t X ∧ Blk ((w.alloc (.cells X t)).alloc (.cells Y t)).drew (w.heap.size + 1) t Y ∧ Grew w ((w.alloc (.cells X t)).alloc (.cells Y t)).drew := by
  have n1 : Blk (w.alloc (.cells X t)) w.heap.size t X := Blk.new w t X
  have n3 : Blk ((w.alloc (.cells X t)).alloc (.cells Y t)) (w.heap.size + 1) t Y := by
    have := Blk.new (w.alloc (.cells X t)) t Y
    rwa [World.size_alloc] at this
  exact ⟨(n1.alloc _).drewN 1, n3.drewN 1, (((Chg.refl _ w).alloc _).alloc _).drew⟩
theorem push_l {out r l : List Ptn} {x : Ptn} (h : out ++ x :: r = l) : (out ++ [x]) ++ r = l := by rw [← h]; simp

end Go.Proofs.YtlcaaacbookopaaGreatDoor

namespace Go.Proofs.YtlcaaacbookopaaGreatDoor
open Go.RowKit
attribute [local go_sem] Oper.semAt_some

/-- a list handed in -/
structure LsIn (w : World) (x : QLst) : Prop where
  rs : RS w x.a x.n x.ss
  cap : x.n ≤ x.c ∧ x.c ≤ 9223372036854775807
theorem LsIn.grew {w w' : World} {x : QLst} (h : LsIn w x) (hc : Grew w w') : LsIn w' x := ⟨h.rs.grew hc, h.cap⟩

end Go.Proofs.YtlcaaacbookopaaGreatDoor

namespace Go.Proofs.YtlcaaacbookopaaGreatDoor
open Go.RowKit

/-! ### Clip -/
end Go.Proofs.YtlcaaacbookopaaGreatDoor

namespace Go.Proofs.YtlcaaacbookopaaGreatDoor
open Go.RowKit

/-- a row of series that came in -/
structure PkR (w W : World) (A : Option Addr) (n c : Nat) (ms : List SerM) (ss : List Ser) : Prop where
  row : OE elSr W w.heap.size 85 A n c ms
  len : ms.length = ss.length
  el : ∀ (i : Nat) (m : SerM) (s : Ser), ms[i]? = some m → ss[i]? = some s → SrIs w m s
theorem PkR.grew {w W W' : World} {A : Option Addr} {n c : Nat} {ms : List SerM} {ss : List Ser} (h : PkR w W A n c ms ss) (hg : Grew W W') : PkR w W' A n c ms ss := ⟨h.row.grew hg, h.len, h.el⟩
theorem PkR.rs {w W : World} {A : Option Addr} {n c : Nat} {ms : List SerM} {ss : List Ser} (h : PkR w W A n c ms ss) (hg : Grew w W) : RS W A n ss := ⟨ms, h.row.re (by decide), h.len, fun i m s hm hs => (h.el i m s hm hs).grew hg⟩
theorem PkR.app {w W W' : World} {A A' : Option Addr} {n k c c' : Nat} {ms : List SerM} {ss : List Ser} {m : SerM} {s : Ser} (h : PkR w W A n c ms ss) (hm : SrIs w m s) (ha : ApE elSr W w.heap.size 85 A k c (ms ++ [m]) A' c' W') : PkR w W' A' k c' (ms ++ [m]) (ss ++ [s]) := by
  refine ⟨ha.oe, by rw [List.length_append, List.length_append, h.len]; rfl, fun i m' s' hm' hs' => ?_⟩
  rcases snoc_get hm' with h1 | ⟨h1, rfl⟩
  · rcases snoc_get hs' with h2 | ⟨h2, rfl⟩
    · exact h.el i m' s' h1 h2
    · have := (List.getElem?_eq_some_iff.1 h1).1
      have := h.len
      omega
  · rcases snoc_get hs' with h2 | ⟨h2, rfl⟩
    · have := (List.getElem?_eq_some_iff.1 h2).1
      have := h.len
      omega
    · exact hm

end Go.Proofs.YtlcaaacbookopaaGreatDoor

namespace Go.Proofs.YtlcaaacbookopaaGreatDoor
open Go.RowKit

end Go.Proofs.YtlcaaacbookopaaGreatDoor

namespace Go.Proofs.YtlcaaacbookopaaGreatDoor
open Go.RowKit

end Go.Proofs.YtlcaaacbookopaaGreatDoor

namespace Go.Proofs.YtlcaaacbookopaaGreatDoor

theorem Mrg.to {L L' : List (List Ser)} {m : List Ser} (h : Mrg L m) (he : ∀ K t, maxL L K t = maxL L' K t) : Mrg L' m := ⟨h.vs, fun K t => by rw [h.at_, he]⟩
/-! ### the trial -/
end Go.Proofs.YtlcaaacbookopaaGreatDoor

namespace Go.Proofs.YtlcaaacbookopaaGreatDoor
open Go.RowKit

/-- a row of its own size is a block known whole -/
theorem Own.blk {w : World} {base : Nat} {t : TypeId} {sz n g : Nat} {cs : List Value} (h : Own w base t sz (some ⟨g, 0, none⟩) n n cs) : Blk w g t cs.toArray := by
  rcases h.2 with ⟨e, _⟩ | ⟨g', cap, cur, e, hbg, hg, hnc, hcm, hcs, htake⟩
  · cases e
  · injection e with e1 e2 e3
    injection e1 with e1
    injection e1 with e1
    subst e1; subst e3
    have : cur.toList = cs := by rw [← htake, ← hcs]; exact (List.take_of_length_le (by simp)).symm
    unfold Blk
    rw [hg, ← this]
/-- a row of truth values, told by a function -/
def Bls (w : World) (g m : Nat) (f : Nat → Bool) : Prop := Blk w g 4 ((List.range m).map fun i => Value.bool (f i)).toArray
theorem Bls.cell {w : World} {g m : Nat} {f : Nat → Bool} (h : Bls w g m f) {i : Nat} (hi : i < m) : w.cell? ⟨g, i, none⟩ = some (.bool (f i)) := by
  rw [Blk.cell h]
  simp [hi]
theorem Bls.congr {w : World} {g m : Nat} {f f' : Nat → Bool} (h : Bls w g m f) (he : ∀ i, i < m → f i = f' i) : Bls w g m f' := by
  have : ((List.range m).map fun i => Value.bool (f i)) = (List.range m).map fun i => Value.bool (f' i) := List.map_congr_left fun i hi => by rw [he i (List.mem_range.1 hi)]
  unfold Bls at h ⊢
  rw [← this]
  exact h
theorem Bls.set {w : World} {g m : Nat} {f : Nat → Bool} (h : Bls w g m f) (i : Nat) (b : Bool) : Bls (w.setCell ⟨g, i, none⟩ (.bool b)) g m (fun j => if j = i then b else f j) := by
  have h1 := Blk.set h i (.bool b)
  have : (((List.range m).map fun i => Value.bool (f i)).toArray.setIfInBounds i (.bool b)) = ((List.range m).map fun j => Value.bool (if j = i then b else f j)).toArray := by
    apply Array.ext_getElem?
    intro j
    rw [Array.getElem?_setIfInBounds]
    simp only [List.size_toArray, List.length_map, List.length_range, List.getElem?_toArray, List.getElem?_map]
    by_cases hij : i = j
    · subst hij
      by_cases hi : i < m
      · simp [hi]
      · simp [hi]
    · rw [if_neg hij]
      by_cases hj : j < m
      · simp [hj, show ¬ j = i from fun e => hij e.symm]
      · simp [hj]
  rw [this] at h1
  exact h1
end Go.Proofs.YtlcaaacbookopaaGreatDoor

namespace Go.Proofs.YtlcaaacbookopaaGreatDoor
open Go.RowKit

/-- what is left to ask, from an alternative's beginning on, with no bar ahead of place i -/
def Asks (P S : List UInt8) (a i : Nat) : Prop := (i ≤ P.length ∧ a ≤ i ∧ likeB P S = (splitC 124 (P.drop a)).any (fun x => glob x S) ∧ ∀ j, a ≤ j → j < i → P[j]? ≠ some 124) ∨ (P.length < i ∧ likeB P S = false)
theorem Asks.piece {P S : List UInt8} {a i : Nat} (h : Asks P S a i) (hi : i ≤ P.length) (hb : i = P.length ∨ P[i]? = some 124) :
    (glob ((P.take i).drop a) S = true → likeB P S = true) ∧ (glob ((P.take i).drop a) S = false → Asks P S (i + 1) (i + 1)) := by
  rcases h with ⟨_, ha, he, hn⟩ | ⟨h, _⟩
  · have hfree : ∀ x ∈ (P.take i).drop a, x ≠ 124 := fun x hx => by
      obtain ⟨j, hj⟩ := List.mem_iff_getElem?.1 hx
      rw [List.getElem?_drop, List.getElem?_take] at hj
      split at hj
      · rename_i hlt
        rintro rfl
        exact hn (a + j) (by omega) (by omega) hj
      · cases hj
    rcases hb with rfl | hb
    · have hd : P.drop a = (P.take P.length).drop a := by rw [List.take_length]
      rw [hd, splitC_none hfree] at he
      simp only [List.any_cons, List.any_nil, Bool.or_false] at he
      exact ⟨fun hg => by rw [he, hg], fun hg => .inr ⟨by omega, by rw [he, hg]⟩⟩
    · obtain ⟨hlt, hc⟩ := List.getElem?_eq_some_iff.1 hb
      have hd : P.drop a = (P.take i).drop a ++ 124 :: P.drop (i + 1) := by
        conv => lhs; rw [← List.take_append_drop i P]
        rw [List.drop_append_of_le_length (by rw [List.length_take]; omega), List.drop_eq_getElem_cons hlt, hc]
      rw [hd, splitC_cut _ hfree] at he
      simp only [List.any_cons] at he
      exact ⟨fun hg => by rw [he, hg]; rfl, fun hg => .inl ⟨by omega, Nat.le_refl _, by rw [he, hg]; rfl, fun j h1 h2 => by omega⟩⟩
  · omega
theorem Asks.more {P S : List UInt8} {a i : Nat} (h : Asks P S a i) (hi : i < P.length) (hb : P[i]? ≠ some 124) : Asks P S a (i + 1) := by
  rcases h with ⟨_, ha, he, hn⟩ | ⟨h, _⟩
  · refine .inl ⟨by omega, by omega, he, fun j h1 h2 => ?_⟩
    rcases Nat.lt_or_ge j i with h3 | h3
    · exact hn j h1 h3
    · obtain rfl : j = i := by omega
      exact hb
  · omega

end Go.Proofs.YtlcaaacbookopaaGreatDoor

namespace Go.Proofs.YtlcaaacbookopaaGreatDoor
open Go.RowKit

end Go.Proofs.YtlcaaacbookopaaGreatDoor

namespace Go.Proofs.YtlcaaacbookopaaGreatDoor
open Go.RowKit

theorem NS.ls {w : World} {base : Nat} {A : Option Addr} {n c : Nat} {ss : List Ser} (h : NS w base A n c ss) : LsIn w ⟨A, n, c, ss⟩ := ⟨h.rs, h.cap⟩
end Go.Proofs.YtlcaaacbookopaaGreatDoor

namespace Go.Proofs.YtlcaaacbookopaaGreatDoor
open Go.RowKit

theorem infoLb : (Tryz.prog.info? 79).map (fun i => (i.zero, i.size, i.bytes)) = some (some (.agg #[.string ⟨#[]⟩, .string ⟨#[]⟩]), 2, 32) := by kernel_rfl
def NewLb (w : World) (n : Nat) (l : List (ByteArray × ByteArray)) (e : Ending) (w' : World) : Prop := ∃ A c, e = .returned (.slice A n c) ∧ OE elLb w' w.heap.size 79 A n c l ∧ Grew w w'
theorem head_of (a : Nat) : ∀ ad, some (⟨a, 0, none⟩ : Addr) = some ad → a ≤ ad.block := fun ad e => by
  injection e with e
  subst e
  exact Nat.le_refl _

set_option maxHeartbeats 400000 in
theorem copyLabels_any (A : Option Addr) (n c : Nat) (l : List (ByteArray × ByteArray)) (w : World) (h : RE elLb w A n l) (hn : n ≤ 4398046511104) :
    Calls Tryz.prog 52 #[.slice A n c] w (NewLb w n l) := by
  have hown : OE elLb (w.alloc (.cells #[] 79)) w.heap.size 79 (some ⟨w.heap.size, 0, none⟩) 0 0 [] := OE.made w w.heap.size 79 (Nat.le_refl _)
  have hr : RE elLb (w.alloc (.cells #[] 79)) A n l := h.grew ((Chg.refl _ w).alloc _)
  go_enter Tryz.func52, Tryz.ntmps52
  go_wp2_with (at_builtin; refine wpList_appE rfl _ _ 80 79 infoLb rfl Tryz.underlying80 rfl w.heap.size _ 0 0 [] rfl hown (by simp) A n c l rfl hr (by unfold maxLen; omega) (by omega) ?_; intro A' c' w' h1)
  go_ret
  simp only [Nat.zero_add, List.nil_append] at h1
  exact ⟨A', c', by simp, h1.oe, h1.grew ((Chg.refl _ w).alloc _) (head_of _)⟩
end Go.Proofs.YtlcaaacbookopaaGreatDoor

namespace Go.Proofs.YtlcaaacbookopaaGreatDoor
open Go.RowKit

theorem pair_ab {W w1 w2 : World} {m : SerM} {s : Ser} {A2 A4 : Option Addr} {c2 c4 : Nat} (h2 : OE elLb w1 W.heap.size 79 A2 m.ln c2 s.lbs) (h4 : OE elPt w2 w1.heap.size 82 A4 m.pn c4 s.pts) (g1 : Grew W w1) (g2 : Grew w1 w2) : NsE w2 W.heap.size ⟨A2, m.ln, c2, A4, m.pn, c4⟩ s :=
  ⟨h2.grew g2, Own.mono h4 g1.size⟩

set_option maxRecDepth 100000 in
set_option maxHeartbeats 4000000 in
theorem copySeries_any (A : Option Addr) (n c : Nat) (ss : List Ser) (w : World) (h : RS w A n ss) (hs : Small ss) :
    Calls Tryz.prog 19 #[.slice A n c] w (NewS w ss) := by
  have hln := h.len
  have hn : n ≤ 1073741824 := by rw [← hln]; exact hs.n
  replace hln := Lib.hid hln
  replace hs := Lib.hid hs
  go_enter Tryz.func19, Tryz.ntmps19
  go_wp2
  go_loopw [3, 4] (fun o i wr => ∃ (k : Nat) (B : Option Addr) (C : Nat), k ≤ n ∧ i = .int .i64 (k : Int) ∧ o = .slice B k C ∧ NS wr w.heap.size B k C (ss.take k) ∧ Grew w wr) (fun o i _ => n - (intOf i).toNat)
  case atStart => exact ⟨0, none, 0, by omega, rfl, rfl, NS.nil _ _, Chg.refl _ _⟩
  case round =>
    obtain ⟨k, B, C, hk, rfl, rfl, ho, hg⟩ := hrel
    by_cases hlt : k < n
    · obtain ⟨ad, m, s, rfl, hx, hsi, x0, x1⟩ := (h.grew hg).at_ hlt
      have hel := hs.out.el s (List.mem_of_getElem? hx)
      have hl1 : m.ln ≤ 1048576 := by rw [← hsi.lb.1]; exact hel.1
      have hp1 : m.pn ≤ 1099511627776 := by rw [← hsi.pt.1]; exact hel.2
      have htk := Lib.hid (take_snoc hx)
      have hcs : CellsIn [ad.block] wr := by
        have h1 := ex_cell x0
        rw [block_add] at h1
        exact cellsIn_cons h1 (qcellsIn_nil _)
      have hsame : Hid (∀ W1, Grew wr W1 → SameIn [ad.block] wr W1) := fun W1 h1 => qsameIn_of h1 hcs fun _ _ e => e
      have hne : ∀ ad', B = some ad' → ad'.block ≠ ad.block := fun ad' e => by
        have h1 := (ho.blk ad' e).1
        have h2 := h.at_ hlt
        obtain ⟨ad2, m2, s2, e2, _, _, z0, _⟩ := h2
        injection e2 with e2
        subst e2
        have h3 := World.block_lt_of_cell? w _ z0
        rw [block_add] at h3
        omega
      replace hne := Lib.hid hne
      have hsz := hg.size
      have hL := fun W1 (hW1 : Grew wr W1) => copyLabels_any m.la m.ln m.lc s.lbs W1 (hsi.lb.grew hW1) (by omega)
      have hP := fun W1 (hW1 : Grew wr W1) => copyPoints_any m.pa m.pn m.pc s.pts W1 (hsi.pt.grew hW1) (by omega)
      replace hL := Lib.hid hL
      replace hP := Lib.hid hP
      clear hx hel hsi
      go_wp2
      refine wp_region_textS [(3, 1)] [ad.block] (by kernel_rfl) (by kernel_rfl) hcs ?_
      simp only [wpU, tagOf, chk, List.nil_append, List.cons_append]
      intro K hK
      go_wp2_with fail
      refine OnlyN.normal (hK _ _ (fun _ => ⟨_, _, _, rfl, rfl, by simp [block_add]⟩) ?_)
      clear hK K
      intro K hK
      go_wp2_with fail
      refine (hL.out _ (Chg.refl _ wr).drew).mono ?_
      rintro e w1 ⟨A2, c2, rfl, h2, hg1⟩
      have hgg : Grew wr w1 := (Chg.refl _ wr).drew.trans hg1
      have x1 := hgg.cell x1 (fun e => e)
      go_wp2_with fail
      refine OnlyN.normal (hK _ _ (hsame.out _ hgg) ?_)
      clear hK K
      intro K hK
      go_wp2_with fail
      refine OnlyN.normal (hK _ _ (fun _ => ⟨_, _, _, rfl, rfl, by simp [block_add]⟩) ?_)
      clear hK K
      intro K hK
      go_wp2_with fail
      refine (hP.out _ hgg).mono ?_
      rintro e w2 ⟨A4, c4, rfl, h4, hg2⟩
      have hN := pair_ab h2 h4 hg1 hg2
      have g4 : Grew wr w2 := hgg.trans hg2
      have hsz4 := g4.size
      obtain ⟨ms, ho4⟩ := (ho.grew g4).op
      have hc4 := ho4.row.cap
      go_wp2_with fail
      refine OnlyN.normal (hK _ _ (hsame.out _ g4) ?_)
      clear hK K
      intro K hK
      go_wp2_with fail
      refine OnlyN.normal (hK _ _ (hsame.out _ (g4.alloc _)) ?_)
      clear hK K
      have hE5 : OE elSr (w2.alloc (.cells #[.slice A2 m.ln c2, .slice A4 m.pn c4] 85)) w.heap.size 85 B k C ms := ho4.row.grew ((Chg.refl _ w2).alloc _)
      have hsrc : RE elSr (w2.alloc (.cells #[.slice A2 m.ln c2, .slice A4 m.pn c4] 85)) (some ⟨w2.heap.size, 0, none⟩) 1 [⟨A2, m.ln, c2, A4, m.pn, c4⟩] := RE.newAt rfl rfl rfl
      intro K hK
      go_wp2_with (at_builtin; refine wpList_appE rfl _ _ 39 85 infoSer rfl Tryz.underlying39 rfl w.heap.size B k C ms rfl hE5 (by simp; omega) _ 1 1 [⟨A2, m.ln, c2, A4, m.pn, c4⟩] rfl hsrc (by unfold maxLen; omega) (by omega) ?_; intro B2 C2 w5 h5)
      have hNS := (ho4.grew ((Chg.refl _ w2).alloc (.cells #[.slice A2 m.ln c2, .slice A4 m.pn c4] 85))).app ((NsE.mono hN (by exact hsz)).grew ((Chg.refl _ w2).alloc _)) h5
      have hg5 : Grew w w5 := h5.grew ((hg.trans g4).alloc _) (fun ad e => (Own.blk_lt ho4.row ad e).1)
      refine OnlyN.normal (hK _ _ (qsameIn_of ((Chg.of_grew (g4.alloc _)).trans h5.chg) hcs (fun k' hk' ⟨ad', e5, e6⟩ => by
        simp only [List.mem_cons, List.not_mem_nil, or_false] at hk'
        rw [hk'] at e6
        exact hne.out ad' e5 e6.symm)) ?_)
      clear hK K
      go_wp2_with fail
      refine OnlyN.normal ?_
      rw [← htk.out] at hNS
      clear ho4 hE5 hsrc h5 h4 h2 hN g4 hgg hg1 hg2 ho
      go_wp2
      go_roundw
      case rel => exact ⟨k + 1, B2, C2, by omega, by go_num, rfl, hNS, hg5⟩
      case measure => simp [intOf] <;> omega
    · obtain rfl : k = n := by omega
      rw [List.take_of_length_le (by have := hln.out; omega)] at ho
      go_wp2
      go_ret
      have := hln.out
      subst this
      exact ⟨B, C, by simp, ho, hg⟩
end Go.Proofs.YtlcaaacbookopaaGreatDoor

namespace Go.Proofs.YtlcaaacbookopaaGreatDoor
open Go.RowKit

/-- a list of series that came in, of a size that memory bears -/
structure InS (w : World) (A : Option Addr) (n c : Nat) (ss : List Ser) : Prop where
  rs : RS w A n ss
  cap : n ≤ c ∧ c ≤ 9223372036854775807
  small : Small ss
  len : ss.length ≤ 4194304
  tot : tot ss ≤ 4194304
theorem InS.grew {w w' : World} {A : Option Addr} {n c : Nat} {ss : List Ser} (h : InS w A n c ss) (hg : Grew w w') : InS w' A n c ss := ⟨h.rs.grew hg, h.cap, h.small, h.len, h.tot⟩
end Go.Proofs.YtlcaaacbookopaaGreatDoor

namespace Go.Proofs.YtlcaaacbookopaaGreatDoor
open Go.RowKit

/-- a list that may be, in memory, of a size -/
structure InM (w : World) (A : Option Addr) (n c : Nat) (ss : List Ser) (N : Nat) : Prop where
  rs : RS w A n ss
  cap : n ≤ c ∧ c ≤ 9223372036854775807
  ok : OkL ss
  len : ss.length ≤ N
  tot : tot ss ≤ N
theorem InM.grew {w w' : World} {A : Option Addr} {n c N : Nat} {ss : List Ser} (h : InM w A n c ss N) (hg : Grew w w') : InM w' A n c ss N := ⟨h.rs.grew hg, h.cap, h.ok, h.len, h.tot⟩
theorem InM.ls {w : World} {A : Option Addr} {n c N : Nat} {ss : List Ser} (h : InM w A n c ss N) : LsIn w ⟨A, n, c, ss⟩ := ⟨h.rs, h.cap⟩
theorem InS.m {w : World} {A : Option Addr} {n c : Nat} {ss : List Ser} (h : InS w A n c ss) (hok : OkL ss) : InM w A n c ss 4194304 := ⟨h.rs, h.cap, hok, h.len, h.tot⟩
end Go.Proofs.YtlcaaacbookopaaGreatDoor

namespace Go.Proofs.YtlcaaacbookopaaGreatDoor

/-! ### clips and picks -/
end Go.Proofs.YtlcaaacbookopaaGreatDoor

namespace Go.Proofs.YtlcaaacbookopaaGreatDoor
open Go.RowKit

end Go.Proofs.YtlcaaacbookopaaGreatDoor

namespace Go.Proofs.YtlcaaacbookopaaGreatDoor
open Go.RowKit

/-- matchers that came in -/
structure InMa (w : World) (M : Option Addr) (n c : Nat) (mt : List Mat) : Prop where
  re : RE elMa w M n mt
  cap : n ≤ c ∧ c ≤ 9223372036854775807
  val : ∀ x ∈ mt, x.2.2.size ≤ 16777216
theorem InMa.grew {w w' : World} {M : Option Addr} {n c : Nat} {mt : List Mat} (h : InMa w M n c mt) (hg : Grew w w') : InMa w' M n c mt := ⟨h.re.grew hg, h.cap, h.val⟩
end Go.Proofs.YtlcaaacbookopaaGreatDoor
