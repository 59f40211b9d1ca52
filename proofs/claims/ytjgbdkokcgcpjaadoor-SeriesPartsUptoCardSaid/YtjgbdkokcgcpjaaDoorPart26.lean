/-
  Several texts in one:
  Lists of series merged: what a loop over the iterator keeps. Conditions: lengths that memory bears.
-/
import Derived.Test.YtjgbdkokcgcpjaaDoorPart21
import Derived.Test.YtjgbdkokcgcpjaaDoorPart23
import Derived.Test.YtjgbdkokcgcpjaaDoorPart25

namespace Go.Proofs.YtjgbdkokcgcpjaaDoor
open Go.RowKit

/-- a change that is none of ours -/
def Frn (base : Nat) (W : World) (S : Nat → Prop) : Prop := ∀ k, S k → base ≤ k ∧ ∀ cs t fr, W.heap[k]? = some (.cells cs t fr) → (t = 75 ∨ t = 78 ∨ t = 80)
theorem OE.frn {α : Type} {E : El α} {S : Nat → Prop} {W W' : World} {base b n c : Nat} {t : TypeId} {A : Option Addr} {l : List α} (h : OE E W b t A n c l) (hc : Chg S W W') (hf : Frn base W S) (h1 : t ≠ 75) (h2 : t ≠ 78) (h3 : t ≠ 80) : OE E W' b t A n c l :=
  h.chg hc fun ad e hk => by
    obtain ⟨_, cs, fr, h4⟩ := Own.heapTy h ⟨ad, e, rfl⟩
    rcases (hf _ hk).2 _ _ _ h4 with h5 | h5 | h5
    · exact h1 h5
    · exact h2 h5
    · exact h3 h5
theorem Blk.frn {S : Nat → Prop} {W W' : World} {base g : Nat} {t : TypeId} {cs : Array Value} (h : Blk W g t cs) (hc : Chg S W W') (hf : Frn base W S) (h1 : t ≠ 75) (h2 : t ≠ 78) (h3 : t ≠ 80) : Blk W' g t cs :=
  h.chg hc fun hk => by
    rcases (hf _ hk).2 _ _ _ h with h5 | h5 | h5
    · exact h1 h5
    · exact h2 h5
    · exact h3 h5
/-- an element of what is merged so far: its labels came in, its points came in or are new -/
structure OutE (w W : World) (m : SerM) (s : Ser) : Prop where
  lb : RE elLb w m.la m.ln s.lbs
  lc : m.ln ≤ m.lc ∧ m.lc ≤ 9223372036854775807
  pt : (RE elPt w m.pa m.pn s.pts ∧ m.pn ≤ m.pc ∧ m.pc ≤ 9223372036854775807) ∨ OE elPt W w.heap.size 49 m.pa m.pn m.pc s.pts
theorem far_re {α : Type} {E : El α} {w W : World} {A : Option Addr} {n : Nat} {l : List α} (hs : 0 < E.sz) (h : RE E w A n l) (hf : Chg (fun k => w.heap.size ≤ k) w W) : RE E W A n l := h.far hf fun ad e h0 => by have := h.lt hs ad e h0; omega
theorem OutE.is {w W : World} {m : SerM} {s : Ser} (h : OutE w W m s) (hf : Chg (fun k => w.heap.size ≤ k) w W) : SrIs W m s := by
  rcases h.pt with ⟨h1, h2⟩ | h1
  · exact ⟨far_re (by decide) h.lb hf, far_re (by decide) h1 hf, h.lc, h2⟩
  · exact ⟨far_re (by decide) h.lb hf, h1.re (by decide), h.lc, h1.cap⟩
theorem OutE.of {w W : World} {m : SerM} {s : Ser} (h : SrIs w m s) : OutE w W m s := ⟨h.lb, h.lc, .inl ⟨h.pt, h.pc⟩⟩
theorem OutE.frn {S : Nat → Prop} {w W W' : World} {m : SerM} {s : Ser} (h : OutE w W m s) (hc : Chg S W W') (hf : Frn w.heap.size W S) : OutE w W' m s := ⟨h.lb, h.lc, h.pt.imp id fun h1 => h1.frn hc hf (by decide) (by decide) (by decide)⟩
structure OutR (w W : World) (A : Option Addr) (n c : Nat) (ms : List SerM) (ss : List Ser) : Prop where
  row : OE elSr W w.heap.size 46 A n c ms
  len : ms.length = ss.length
  el : ∀ (i : Nat) (m : SerM) (s : Ser), ms[i]? = some m → ss[i]? = some s → OutE w W m s
theorem OutR.frn {S : Nat → Prop} {w W W' : World} {A : Option Addr} {n c : Nat} {ms : List SerM} {ss : List Ser} (h : OutR w W A n c ms ss) (hc : Chg S W W') (hf : Frn w.heap.size W S) : OutR w W' A n c ms ss :=
  ⟨h.row.frn hc hf (by decide) (by decide) (by decide), h.len, fun i m s hm hs => (h.el i m s hm hs).frn hc hf⟩
theorem OutR.rs {w W : World} {A : Option Addr} {n c : Nat} {ms : List SerM} {ss : List Ser} (h : OutR w W A n c ms ss) (hf : Chg (fun k => w.heap.size ≤ k) w W) : RS W A n ss := ⟨ms, h.row.re (by decide), h.len, fun i m s hm hs => (h.el i m s hm hs).is hf⟩
/-- between two rounds -/
def Inv (w : World) (ob : Nat) (ss : List Ser) (W : World) : Prop := ∃ A n c ms, Blk W ob 22 #[.slice A n c] ∧ OutR w W A n c ms ss ∧ Chg (fun k => w.heap.size ≤ k) w W
theorem Inv.frn {S : Nat → Prop} {w W W' : World} {ob : Nat} {ss : List Ser} (h : Inv w ob ss W) (hc : Chg S W W') (hf : Frn w.heap.size W S) : Inv w ob ss W' := by
  obtain ⟨A, n, c, ms, h1, h2, h3⟩ := h
  exact ⟨A, n, c, ms, h1.frn hc hf (by decide) (by decide) (by decide), h2.frn hc hf, h3.step hc fun k _ hk => (hf k hk).1⟩
theorem frn_row {base B : Nat} {W : World} {row : Option Nat} (hB : base ≤ B) (hr : ∀ r, row = some r → B ≤ r ∧ ∃ o : Obj, W.heap[r]? = some o ∧ o.isCells = false) : Frn base W (fun k => some k = row) := fun k hk => by
  obtain ⟨h1, o, h2, h3⟩ := hr k hk.symm
  refine ⟨by omega, fun cs t fr h4 => ?_⟩
  rw [h4] at h2
  injection h2 with h2
  rw [← h2] at h3
  cases h3
theorem frn_heap {base B : Nat} {W : World} (hB : base ≤ B) : Frn base W (HeapTy B W) := fun k ⟨h1, cs, t, fr, h2, h3⟩ => ⟨by omega, fun cs' t' fr' h4 => by
  rw [h4] at h2
  injection h2 with h2
  injection h2 with _ h2
  rw [h2]
  exact h3⟩
theorem frn_none (base : Nat) (W : World) : Frn base W (fun _ => False) := fun _ e => e.elim
/-- what a round's body turns: the box of what is merged so far, and its row -/
def BodyS (base : Nat) (W : World) (k : Nat) : Prop := base ≤ k ∧ ∃ cs t fr, W.heap[k]? = some (.cells cs t fr) ∧ (t = 22 ∨ t = 46)
theorem bodyS_trans {base : Nat} {a b c : World} (h : Chg (BodyS base a) a b) (h' : Chg (BodyS base b) b c) : Chg (BodyS base a) a c := h.step h' fun k hk ⟨hb, cs, t, fr, e, ht⟩ => by
  refine Classical.byContradiction fun hn => hn ?_
  rw [h.block k hk hn] at e
  exact ⟨hb, cs, t, fr, e, ht⟩
theorem bodyS_kp {base : Nat} {W W' : World} (h : Chg (BodyS base W) W W') : KpS base W W' := h.mono fun k _ ⟨h1, cs, t, fr, h2, h3⟩ => ⟨h1, fun ⟨_, cs', t', fr', h4, h5⟩ => by
  rw [h4] at h2
  injection h2 with h2
  injection h2 with _ h2
  subst h2
  rcases h5 with rfl | rfl | rfl <;> rcases h3 with h3 | h3 <;> exact absurd h3 (by decide)⟩
theorem bodyS_keeps {base B : Nat} {W W' : World} (h : Chg (BodyS base W) W W') : KeepsFrom B W W' := ⟨h.size, fun k o _ hk ho => (h.block k (Array.getElem?_eq_some_iff.1 hk).1 fun ⟨_, cs, t, fr, h2, _⟩ => by
  rw [h2] at hk
  injection hk with hk
  rw [← hk] at ho
  cases ho).trans hk⟩
theorem flat_snoc_set (ms : List SerM) (m : SerM) (u : Value) : (elSr.flat (ms ++ [m])).set (ms.length * 2 + 1) u = elSr.flat ms ++ [.slice m.la m.ln m.lc, u] := by
  rw [El.flat_append, El.flat_one]
  have hl : (elSr.flat ms).length = ms.length * 2 := elSr.flat_length ms
  rw [List.set_append_right _ _ (by omega), hl, show ms.length * 2 + 1 - ms.length * 2 = 1 by omega]
  rfl
theorem OutE.chg {S : Nat → Prop} {w W W' : World} {m : SerM} {s : Ser} (h : OutE w W m s) (hc : Chg S W W') (hn : ∀ k cs fr, S k → W.heap[k]? ≠ some (.cells cs 49 fr)) : OutE w W' m s := ⟨h.lb, h.lc, h.pt.imp id fun h1 => h1.chg hc fun ad e hk => by
  obtain ⟨_, cs, fr, h4⟩ := Own.heapTy h1 ⟨ad, e, rfl⟩
  exact hn _ _ _ hk h4⟩
theorem ne_of_blk {w : World} {g : Nat} {t u : TypeId} {cs : Array Value} (h : Blk w g t cs) (hne : t ≠ u) : ∀ cs' fr, w.heap[g]? ≠ some (.cells cs' u fr) := fun cs' fr e => by
  unfold Blk at h
  rw [h] at e
  injection e with e
  injection e with _ e
  exact hne e
theorem ne_of_own {w : World} {base sz n c : Nat} {A : Option Addr} {t u : TypeId} {xs : List Value} (h : Own w base t sz A n c xs) (hne : t ≠ u) : ∀ k cs' fr, (∃ ad, A = some ad ∧ k = ad.block) → w.heap[k]? ≠ some (.cells cs' u fr) := fun k cs' fr hk e => by
  obtain ⟨_, cs, fr', h2⟩ := Own.heapTy h hk
  rw [h2] at e
  injection e with e
  injection e with _ e
  exact hne e
/-- one appended, and laid into the box -/
theorem OutR.app {w W Wa w2 : World} {A A2 : Option Addr} {n c c2 ob : Nat} {ms : List SerM} {ss : List Ser} {m : SerM} {s : Ser} (h : OutR w W A n c ms ss) (hb : Blk W ob 22 #[.slice A n c]) (hf : Chg (fun k => w.heap.size ≤ k) w W) (hob : w.heap.size ≤ ob) (hg : Grew W Wa) (hm : SrIs w m s)
    (ha : ApE elSr Wa w.heap.size 46 A (n + 1) c (ms ++ [m]) A2 c2 w2) :
    Blk w2 ob 22 #[.slice A n c] ∧ Inv w ob (ss ++ [s]) (w2.setCell ⟨ob, 0, none⟩ (.slice A2 (n + 1) c2)) ∧ Chg (BodyS w.heap.size W) W (w2.setCell ⟨ob, 0, none⟩ (.slice A2 (n + 1) c2)) := by
  have hra := h.row.grew hg
  have hba := hb.grew hg
  have hb2 : Blk w2 ob 22 #[.slice A n c] := hba.chg ha.chg fun ⟨ad, e1, e2⟩ => Own.ne_blk hra hba (by decide) ad e1 e2.symm
  have hch : Chg (fun k => k = ob) w2 (w2.setCell ⟨ob, 0, none⟩ (.slice A2 (n + 1) c2)) := Chg.one _ _ _ _
  have hb3 : Blk (w2.setCell ⟨ob, 0, none⟩ (.slice A2 (n + 1) c2)) ob 22 #[.slice A2 (n + 1) c2] := by simpa using hb2.set 0 (.slice A2 (n + 1) c2)
  have hC1 : Chg (BodyS w.heap.size W) W w2 := (Chg.of_grew hg).step ha.chg fun k hk hk2 => by
    obtain ⟨h1, cs, fr, h2⟩ := Own.heapTy hra hk2
    rw [hg.block k hk (fun e => e)] at h2
    exact ⟨h1, cs, _, fr, h2, .inr rfl⟩
  have hC : Chg (BodyS w.heap.size W) W (w2.setCell ⟨ob, 0, none⟩ (.slice A2 (n + 1) c2)) := hC1.step hch fun k _ e => by
    rw [e]
    exact ⟨hob, _, _, _, hb, .inl rfl⟩
  refine ⟨hb2, ⟨A2, n + 1, c2, ms ++ [m], hb3, ⟨ha.oe.chg hch fun ad e => Own.ne_blk ha.oe hb2 (by decide) ad e, by rw [List.length_append, List.length_append, h.len]; rfl, fun i m' s' hm' hs' => ?_⟩, hf.step hC fun k _ hk => hk.1⟩, hC⟩
  have old : ∀ m' s', OutE w W m' s' → OutE w (w2.setCell ⟨ob, 0, none⟩ (.slice A2 (n + 1) c2)) m' s' := fun m' s' h1 => ((h1.chg hg fun _ _ _ e => e.elim).chg ha.chg fun k cs fr hk => ne_of_own hra (by decide) k cs fr hk).chg hch fun k cs fr hk => by
    rw [hk]
    exact ne_of_blk hb2 (by decide) cs fr
  rcases snoc_get hm' with h1 | ⟨h1, rfl⟩
  · rcases snoc_get hs' with h2 | ⟨h2, rfl⟩
    · exact old _ _ (h.el i m' s' h1 h2)
    · have := (List.getElem?_eq_some_iff.1 h1).1
      have := h.len
      omega
  · rcases snoc_get hs' with h2 | ⟨h2, rfl⟩
    · have := (List.getElem?_eq_some_iff.1 h2).1
      have := h.len
      omega
    · exact OutE.of hm
/-- the last one's points turned -/
theorem OutR.turn {w W W2 : World} {g n c ob : Nat} {pc : Nat} {pa : Option Addr} {ms : List SerM} {ss : List Ser} {m : SerM} {s : Ser} {ps : List Ptn} (h : OutR w W (some ⟨g, 0, none⟩) n c (ms ++ [m]) (ss ++ [s])) (hb : Blk W ob 22 #[.slice (some ⟨g, 0, none⟩) n c]) (hf : Chg (fun k => w.heap.size ≤ k) w W) (hg : Grew W W2)
    (hp : OE elPt W2 w.heap.size 49 pa ps.length pc ps) :
    Inv w ob (ss ++ [⟨s.lbs, ps⟩]) (W2.setCell ⟨g, ms.length * 2 + 1, none⟩ (.slice pa ps.length pc)) ∧ Chg (BodyS w.heap.size W) W (W2.setCell ⟨g, ms.length * 2 + 1, none⟩ (.slice pa ps.length pc)) := by
  have hr2 := h.row.grew hg
  have hb2 := hb.grew hg
  have hch : Chg (fun k => k = g) W2 (W2.setCell ⟨g, ms.length * 2 + 1, none⟩ (.slice pa ps.length pc)) := Chg.one _ _ _ _
  obtain ⟨hg1, cs, fr, hg2⟩ := Own.heapTy h.row ⟨_, rfl, rfl⟩
  have hC : Chg (BodyS w.heap.size W) W (W2.setCell ⟨g, ms.length * 2 + 1, none⟩ (.slice pa ps.length pc)) := (Chg.of_grew hg).step hch fun k _ e => by
    rw [e]
    exact ⟨hg1, cs, _, fr, hg2, .inr rfl⟩
  have hrow : OE elSr (W2.setCell ⟨g, ms.length * 2 + 1, none⟩ (.slice pa ps.length pc)) w.heap.size 46 (some ⟨g, 0, none⟩) n c (ms ++ [⟨m.la, m.ln, m.lc, pa, ps.length, pc⟩]) := by
    have := Own.set hr2 (ms.length * 2 + 1) (.slice pa ps.length pc)
    rw [flat_snoc_set] at this
    unfold OE
    rw [El.flat_append, El.flat_one]
    exact this
  have hl : ms.length = ss.length := by have := h.len; simpa using this
  have hne : ∀ k cs' fr', k = g → W2.heap[k]? ≠ some (.cells cs' 49 fr') := fun k cs' fr' e => by
    rw [e]
    exact ne_of_own hr2 (by decide) g cs' fr' ⟨_, rfl, rfl⟩
  refine ⟨⟨_, n, c, _, hb2.chg hch (fun e => by have := Own.ne_blk hr2 hb2 (by decide) _ rfl; exact this e.symm), ⟨hrow, by simp [hl], fun i m' s' hm' hs' => ?_⟩, hf.step hC fun k _ hk => hk.1⟩, hC⟩
  have old : ∀ m' s', OutE w W m' s' → OutE w (W2.setCell ⟨g, ms.length * 2 + 1, none⟩ (.slice pa ps.length pc)) m' s' := fun m' s' h1 => (h1.chg hg fun _ _ _ e => e.elim).chg hch hne
  rcases snoc_get hm' with h1 | ⟨h1, rfl⟩
  · rcases snoc_get hs' with h2 | ⟨h2, rfl⟩
    · refine old _ _ (h.el i m' s' ?_ ?_)
      · rw [List.getElem?_append_left (List.getElem?_eq_some_iff.1 h1).1]
        exact h1
      · rw [List.getElem?_append_left (List.getElem?_eq_some_iff.1 h2).1]
        exact h2
    · have := (List.getElem?_eq_some_iff.1 h1).1
      omega
  · rcases snoc_get hs' with h2 | ⟨h2, rfl⟩
    · have := (List.getElem?_eq_some_iff.1 h2).1
      omega
    · have h3 := old _ _ (h.el i m s (by rw [h1]; simp) (by rw [h1, hl]; simp))
      exact ⟨h3.lb, h3.lc, .inr (hp.chg hch fun ad e e2 => by
        obtain ⟨_, cs, fr, h4⟩ := Own.heapTy hp ⟨ad, e, rfl⟩
        exact hne _ _ _ e2 h4)⟩
end Go.Proofs.YtjgbdkokcgcpjaaDoor
