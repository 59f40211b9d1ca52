/-
  Several texts in one:
  A heap of cursors: Push, Fix and Pop of the library's heap. Conditions: lengths that memory bears.
  A range over a function whose iterator keeps state of its own in cells: what iterator and body owe each other, and the law of the loop. Conditions: none; no program in sight.
  Lists of series on the way to one, in plain words. Conditions: none; no program in sight.
-/
import Derived.Test.YtjgbdkokcgcpjaaDoorPart19
import Derived.Test.YtjgbdkokcgcpjaaDoorPart1
import Derived.RangeFuncWrites
import Derived.Test.YtjgbdkokcgcpjaaDoorPart3
import Derived.Test.YtjgbdkokcgcpjaaDoorPart17

namespace Go.Proofs.YtjgbdkokcgcpjaaDoor
open Go.RowKit

theorem Blk.tyne {w : World} {g k : Nat} {t u : TypeId} {cs ds : Array Value} (h : Blk w g t cs) (h' : Blk w k u ds) (hne : t ≠ u) : g ≠ k := by
  rintro rfl
  unfold Blk at h h'
  rw [h] at h'
  injection h' with h'
  injection h' with _ h'
  exact hne h'
/-- blocks of the list of cursors: its box and its row -/
def InH (hb : Nat) (A : Option Addr) (k : Nat) : Prop := k = hb ∨ ∃ ad, A = some ad ∧ k = ad.block

/-- blocks of heaps of cursors, by what they hold -/
def HeapTy (base : Nat) (w : World) (k : Nat) : Prop := base ≤ k ∧ ∃ cs t fr, w.heap[k]? = some (.cells cs t fr) ∧ (t = 75 ∨ t = 78 ∨ t = 80)
abbrev HCh (base : Nat) (w w' : World) : Prop := Chg (HeapTy base w) w w'
theorem HCh.trans {base : Nat} {a b c : World} (h : HCh base a b) (h' : HCh base b c) : HCh base a c := h.step h' fun k hk ⟨hb, cs, t, fr, e, ht⟩ => by
  refine Classical.byContradiction fun hn => hn ?_
  rw [h.block k hk hn] at e
  exact ⟨hb, cs, t, fr, e, ht⟩
theorem Own.heapTy {w : World} {base sz n c : Nat} {A : Option Addr} {t : TypeId} {cs : List Value} (h : Own w base t sz A n c cs) {k : Nat} (hk : ∃ ad, A = some ad ∧ k = ad.block) : base ≤ k ∧ ∃ cs fr, w.heap[k]? = some (.cells cs t fr) := by
  obtain ⟨ad, rfl, rfl⟩ := hk
  rcases h.2 with ⟨e, h3⟩ | ⟨g, cap, cur, e, hb, hg, _⟩
  · cases e
  · injection e with e1 e2 e3
    injection e1 with e1
    subst e1
    exact ⟨hb, _, _, hg⟩
theorem HpAt.inTy {w0 w : World} {base hb n c : Nat} {A : Option Addr} {l : List Cur} (h : HpAt w0 w base hb A n c l) {k : Nat} (hk : InH hb A k) : HeapTy base w k := by
  rcases hk with rfl | hk
  · exact ⟨h.blo, _, _, _, h.box, .inl rfl⟩
  · obtain ⟨h1, cs, fr, h2⟩ := Own.heapTy h.row hk
    exact ⟨h1, cs, _, fr, h2, .inr (.inl rfl)⟩
theorem Moved.hch {w0 w w' : World} {base hb n c : Nat} {A : Option Addr} {l l' : List Cur} (h : Moved w0 w base hb A n c l l' w') (h0 : HpAt w0 w base hb A n c l) : HCh base w w' := h.chg.mono fun _ _ hk => h0.inTy (.inr hk)

set_option maxRecDepth 100000 in
set_option maxHeartbeats 2000000 in
theorem hpush (w0 w : World) (base hb : Nat) (A : Option Addr) (n c : Nat) (l : List Cur) (x : Cur) (h : HpAt w0 w base hb A n c l) (hn : n < 1099511627776) (hH : IsH ltC l) (hv : Live n l) (hx : CuAt w0 w base x) (hxn : 0 < x.ln) :
    Calls Tryd.prog 51 #[.iface 77 (.pointer (some ⟨hb, 0, none⟩)), .iface 78 (.pointer (some ⟨x.g, 0, none⟩))] w fun e w' => e = .returned (.tuple #[]) ∧
      ∃ A' c' l', l'.Perm (x :: l) ∧ IsH ltC l' ∧ HpAt w0 w' base hb A' (n + 1) c' l' ∧ HCh base w w' := by
  have hll := h.row.len (by decide)
  have hu := hH.push x
  rw [hll] at hu
  have hv1 : Live (n + 1) (l ++ [x]) := fun i y hi hy => by
    rcases snoc_get hy with h1 | ⟨_, rfl⟩
    · exact hv i y (by have := (List.getElem?_eq_some_iff.1 h1).1; omega) h1
    · exact hxn
  have m1 := fun f => meth_push f ⟨hb, 0, none⟩ w
  go_enter Tryd.func51, Tryd.ntmps51
  go_wp2_with fail
  refine (push_cu A n c base hb l x w h.row (by omega) h.box h.hi).mono ?_
  rintro e w1 ⟨rfl, A1, c1, hb1, hr1, hc1⟩
  have hcu : ∀ y ∈ l ++ [x], CuAt w0 w1 base y := fun y hy => by
    have hy0 : CuAt w0 w base y := by
      rcases List.mem_append.1 hy with hy | hy
      · exact h.cu y hy
      · obtain rfl : y = x := by simpa using hy
        exact hx
    exact hy0.chg hc1 (by
      rintro (e | ⟨ad, e1, e2⟩)
      · exact Blk.tyne hy0.blk h.box (by decide) e
      · exact Own.ne_blk h.row hy0.blk (by decide) ad e1 e2.symm)
  have h1 : HpAt w0 w1 base hb A1 (n + 1) c1 (l ++ [x]) := ⟨hb1, hr1, hcu, h.far.step hc1 (fun k _ hk => by
    have hlo := h.lo
    rcases hk with e | ⟨ad, e1, e2⟩
    · rw [e]; have := h.blo; omega
    · rw [e2]; have := (Own.blk_lt h.row ad e1).1; omega), h.lo, Nat.le_trans h.hi hc1.size, h.blo⟩
  have b0 := hb1.cell 0
  have m2 := fun f => meth_len f ⟨hb, 0, none⟩ _ w1 b0
  clear hcu hb1 hr1
  go_wp2_with fail
  refine (len_cu A1 (n + 1) c1 w1).mono ?_
  rintro e w2 ⟨rfl, rfl⟩
  have q1 : ((n + 1 : Nat) : Int) - 1 = (n : Int) := by omega
  go_wp2_with fail
  refine (up_cu w0 w1 base hb A1 (n + 1) c1 n (l ++ [x]) h1 (by omega) (by omega) hv1 hu).mono ?_
  rintro e w3 ⟨rfl, l', hH', hM⟩
  have hc3 : HCh base w w3 := HCh.trans (hc1.mono fun k _ hk => h.inTy hk) (hM.hch h1)
  go_wp2
  go_end0
  exact ⟨by simp, A1, c1, l', hM.perm.trans (List.perm_append_comm), hH', hM.at_, hc3⟩

theorem Ord.ish {l : List Cur} (h : Ord l l.length) : IsH ltC l := IsH.of h
theorem isH_up {l : List Cur} (h : IsH ltC l) : UpH ltC l 0 := ⟨fun i x y hi _ hx hy => h i x y hi hx hy, fun i x y h0 => by omega⟩
set_option maxRecDepth 100000 in
set_option maxHeartbeats 2000000 in
theorem hfix (w0 w : World) (base hb : Nat) (A : Option Addr) (n c : Nat) (l : List Cur) (h : HpAt w0 w base hb A n c l) (hn : n ≤ 1099511627776) (hn0 : 0 < n) (hv : Live n l) (hu : DnH ltC l n 0) :
    Calls Tryd.prog 53 #[.iface 77 (.pointer (some ⟨hb, 0, none⟩)), .int .i64 0] w fun e w' => e = .returned (.tuple #[]) ∧
      ∃ l', IsH ltC l' ∧ Moved w0 w base hb A n c l l' w' := by
  have b0 := h.box.cell 0
  have m2 := fun f => meth_len f ⟨hb, 0, none⟩ _ w b0
  go_enter Tryd.func53, Tryd.ntmps53
  go_wp2_with fail
  refine (len_cu A n c w).mono ?_
  rintro e w2 ⟨rfl, rfl⟩
  go_wp2_with fail
  refine (down_cu w0 w base hb A n c n l h hn (Nat.le_refl _) hn0 hv hu).mono ?_
  rintro e w1 ⟨⟨b, rfl⟩, l1, hO, _, hM⟩
  have hl1 := hM.at_.row.len (by decide)
  have hH1 : IsH ltC l1 := Ord.ish (by rw [hl1]; exact hO)
  have hv1 : Hid (Live n l1) := fun i x hi hx => by
    have hx2 := hM.perm.subset (List.mem_of_getElem? hx)
    obtain ⟨i2, hi2, hx2⟩ := List.getElem_of_mem hx2
    exact hv i2 x (by rw [← h.row.len (by decide)]; exact hi2) (List.getElem?_eq_some_iff.2 ⟨hi2, hx2⟩)
  clear hO b0 m2
  replace hl1 := Lib.hid hl1
  cases b
  · go_wp2_with fail
    refine (up_cu w0 w1 base hb A n c 0 l1 hM.at_ hn hn0 hv1.out (isH_up hH1)).mono ?_
    rintro e w3 ⟨rfl, l', hH', hM'⟩
    go_wp2
    go_end0
    exact ⟨by simp, l', hH', hM'.perm.trans hM.perm, hM'.at_, hM.chg.trans hM'.chg⟩
  · go_wp2
    go_end0
    exact ⟨by simp, l1, hH1, hM⟩

set_option maxRecDepth 100000 in
set_option maxHeartbeats 2000000 in
theorem hpop (w0 w : World) (base hb : Nat) (A : Option Addr) (m c : Nat) (l : List Cur) (x : Cur) (h : HpAt w0 w base hb A (m + 1) c l) (hn : m < 1099511627776) (hx : l[0]? = some x) (hv : ∀ i y, 0 < i → l[i]? = some y → 0 < y.ln) (hH : IsH ltC l) :
    Calls Tryd.prog 52 #[.iface 77 (.pointer (some ⟨hb, 0, none⟩))] w fun e w' => (∃ v, e = .returned v) ∧
      ∃ l', IsH ltC l' ∧ (x :: l').Perm l ∧ HpAt w0 w' base hb A m c l' ∧ HCh base w w' := by
  have b0 := h.box.cell 0
  have hll := h.row.len (by decide)
  have m1 := fun f => meth_len f ⟨hb, 0, none⟩ _ w b0
  have m2 := fun f => meth_swap f ⟨hb, 0, none⟩ _ w b0
  obtain ⟨y, hy⟩ : ∃ y, l[m]? = some y := ⟨l[m]'(by omega), List.getElem?_eq_getElem _⟩
  have hD := hH.pop hx (by rw [hll]; exact hy)
  rw [hll] at hD
  simp only [Nat.add_sub_cancel] at hD
  have q1 : ((m + 1 : Nat) : Int) - 1 = (m : Int) := by omega
  have hv1 : Live m (swapL l 0 m) := fun i z hi hz => by
    rw [swapL_get hx hy, if_neg (by omega)] at hz
    split at hz
    · injection hz with hz
      rw [← hz]
      exact hv m y (by omega) hy
    · exact hv i z (by omega) hz
  have HX := Lib.hid hx
  have HY := Lib.hid hy
  replace hll := Lib.hid hll
  clear hx hy hH
  go_enter Tryd.func52, Tryd.ntmps52
  go_wp2_with fail
  refine (len_cu A (m + 1) c w).mono ?_
  rintro e w2 ⟨rfl, rfl⟩
  go_wp2_with fail
  refine (swap_cu A (m + 1) c base 78 l 0 m x y w h.row (by omega) HX.out HY.out).mono ?_
  rintro e w1 ⟨rfl, hr1, hg1⟩
  have h1 := h.swap HX.out HY.out hg1 hr1
  clear m1 m2 b0 hr1
  go_wp2_with fail
  refine (down_cu w0 w1 base hb A (m + 1) c m _ h1 (by omega) (by omega) (by omega) hv1 hD).mono ?_
  rintro e w2 ⟨⟨b, rfl⟩, l2, hO, hF, hM⟩
  have m3 := fun f => meth_pop f ⟨hb, 0, none⟩ w2
  have hl2 := hM.at_.row.len (by decide)
  have hlast : l2[m]? = some x := by
    rw [hF m (Nat.le_refl _), swapL_get HX.out HY.out, if_pos rfl]
  have hsp : l2 = l2.take m ++ [x] := by
    have := List.take_append_drop m l2
    obtain ⟨h5, h6⟩ := List.getElem?_eq_some_iff.1 hlast
    rw [List.drop_eq_getElem_cons h5, h6, List.drop_of_length_le (by omega)] at this
    exact this.symm
  have hr2 := hM.at_.row
  rw [hsp] at hr2
  replace hlast := Lib.hid hlast
  replace hsp := Lib.hid hsp
  replace hl2 := Lib.hid hl2
  go_wp2_with fail
  refine (pop_cu A m c base hb (l2.take m) x w2 hr2 (by omega) hM.at_.box).mono ?_
  rintro e w3 ⟨⟨v, rfl⟩, hb3, hr3, hc3⟩
  have hcu : ∀ z ∈ l2.take m, CuAt w0 w3 base z := fun z hz => by
    have hz0 := hM.at_.cu z (List.mem_of_mem_take hz)
    exact hz0.chg hc3 (fun e => Blk.tyne hz0.blk hM.at_.box (by decide) e)
  have h3 : HpAt w0 w3 base hb A m c (l2.take m) := ⟨hb3, hr3, hcu, hM.at_.far.step hc3 (fun k _ hk => by have := h.lo; have := h.blo; omega), h.lo, Nat.le_trans hM.at_.hi hc3.size, h.blo⟩
  have hch : HCh base w w3 := HCh.trans (HCh.trans (hg1.mono fun _ _ hk => h.inTy (.inr hk)) (hM.hch h1)) (hc3.mono fun k _ hk => hM.at_.inTy (.inl hk))
  have hpm : (x :: l2.take m).Perm l := by
    have h5 := hM.perm.trans (swapL_perm HX.out HY.out)
    rw [hsp.out] at h5
    exact List.perm_append_comm.symm.trans h5
  have hH3 : IsH ltC (l2.take m) := IsH.take hO
  clear hcu hM hF hO hr2
  go_wp2
  go_ret
  exact ⟨⟨_, rfl⟩, l2.take m, hH3, hpm, h3, hch⟩
end Go.Proofs.YtjgbdkokcgcpjaaDoor

namespace Go.Proofs.YtjgbdkokcgcpjaaDoor
open Go.RowKit

section
variable {F : Fence} {n : Nat} {P : Program}

/-- An iterator's word: its own steps are 'Ab'; a round goes on, and does 'Kp'; S tells what has come at the end, Adm what may come. -/
def SeqM {α : Type} (F : Fence) (n : Nat) (P : Program) (g : Nat) (lb : Array Value) (encs : α → Array Value) (Ab : Nat → World → World → Prop) (Kp : World → World → Prop) (Adm S : List α → Prop) (w : World) : Prop :=
  ∀ (l : Nat) (J : List α → World → Prop) (W : World), Below w.heap.size w W → (∀ s A B, J s A → Ab W.heap.size A B → J s B) →
    (∀ pre x W1, J pre W1 → Adm (pre ++ [x]) → YieldAt F (n - 1) P l (encs x) W1 fun e W' => e = .returned (.bool true) ∧ J (pre ++ [x]) W' ∧ Kp W1 W') →
    J [] W →
    CallsIn F n P g (#[.func (.yield l) #[] #[]] ++ lb) W fun e W' => (∃ v, e = .returned v) ∧ ∃ xs, S xs ∧ J xs W'

/-- how a round's body is left: it goes on -/
def postM {α : Type} (B : Nat) (Kp : World → World → Prop) (I : List α → World → Prop) (xs : List α) (W : World) : Exit → Act → World → Prop
  | .normal, _, W' => KeepsFrom B W W' ∧ Kp W W' ∧ I xs W'
  | _, _, _ => False

theorem wpIn_rangeFuncM {α : Type} {g : Operand} {ps : Array Tmp} {assign body : Code} {Q : Exit → Act → World → Prop} {a : Act} {w : World}
    (hro : F.round = none) (h1 : 1 ≤ n) {gf : Nat} {lb : Array Value} (hg : a.eval g = .func (.func gf) #[] lb) (hFg : F.fn gf) (eg : ∀ args w, (callFunc gf args).run P w = .ok (.enter gf args) w)
    {encs : α → Array Value} {Ab : Nat → World → World → Prop} {Kp : World → World → Prop} {Adm S : List α → Prop} {w0 : World} (hseq : SeqM F (n - 1) P gf lb encs Ab Kp Adm S w0)
    (hAb : ∀ (B : Nat) (W W' : World) (k : Nat) (o : Obj), Ab B W W' → W.heap[k]? = some o → o.isCells = false → W'.heap[k]? = some o)
    (hKt : ∀ {A B C : World}, Kp A B → Kp B C → Kp A C) (hKb : ∀ (W : World) (l : Nat) (o o' : Obj), w.heap.size ≤ l → W.heap[l]? = some o → o.isCells = false → Kp W (W.putObj l o')) (hb0 : Below w0.heap.size w0 w) (hps : ∀ x, (encs x).size = ps.size)
    (I : List α → World → Prop) (hI : OwnFrom w.heap.size I) (hIa : ∀ s B A C, w.heap.size ≤ B → I s A → Ab B A C → I s C) (h0 : I [] w)
    (Ax : List α → α → Act → World → Prop) (hAx : ∀ pre x a', OwnFrom w.heap.size (fun (_ : Unit) W => Ax pre x a' W))
    (hassign : ∀ (l : Nat) (pre : List α) (x : α) (W : World) (K : Act → World → Prop), I pre W → Adm (pre ++ [x]) → (∀ a' W', KeepsFrom w.heap.size W W' → Kp W W' → Ax pre x a' W' → K a' W') →
      assign.wpIn (F.inRound l) (n - 1 - 1) P (Exit.then K (fun _ _ _ => False)) { tmps := (ps.zip (encs x)).foldl (fun t (p, v) => t.setIfInBounds p v) a.tmps, defers := [] } W)
    (hbody : ∀ (l : Nat) (pre : List α) (x : α) (a' : Act) (W : World), Ax pre x a' W → Adm (pre ++ [x]) → body.wpIn (F.inRound l) (n - 1 - 1) P (postM w.heap.size Kp I (pre ++ [x]) W) a' W)
    (hdone : ∀ (D : Nat) (xs : List α) (W : World), w.heap.size ≤ D → S xs → I xs W → W.heap[D]? = some (.deferred (some [])) → Q .normal { a with defers := { target := .collected D, args := #[] } :: a.defers } W) :
    (Code.rangeFunc g ps assign body).wpIn F n P Q a w := by
  refine wpIn_rangeFunc ?_
  intro fn hfn
  rw [hro]
  obtain ⟨rec, hrec⟩ : ∃ rec : LoopState → Option Code → Loop, rec = fun st pe => { state := st, pending := pe, fn, tmps := a.tmps, params := ps, assign, body, defers := w.heap.size } := ⟨_, rfl⟩
  obtain ⟨W1, hW1⟩ : ∃ W1, (w.alloc (.deferred (some []))).alloc (.loop (rec .ready none)) = W1 := ⟨_, rfl⟩
  have hL1 : W1.heap[w.heap.size + 1]? = some (.loop (rec .ready none)) := by
    rw [← hW1]; have := World.alloc_heap_new (w.alloc (.deferred (some []))) (.loop (rec .ready none)); rwa [World.size_alloc] at this
  have hK1 : W1.heap[w.heap.size]? = some (.deferred (some [])) := by
    rw [← hW1]; exact (Below.heap_alloc _ _ _ (by simp)).trans (World.alloc_heap_new w _)
  have hI1 : I [] W1 := by rw [← hW1]; exact hI.alloc _ (hI.alloc _ h0)
  have hb1 : Below w0.heap.size w0 W1 := by
    rw [← hW1]; exact hb0.trans ((((Below.refl _ w).alloc (Nat.le_refl _) _).alloc (by simp) _).mono hb0.size)
  have hs1 : w.heap.size ≤ W1.heap.size := by rw [← hW1, World.size_alloc, World.size_alloc]; omega
  refine ⟨w.heap.size + 1, [{ target := .collected w.heap.size, args := #[] }], W1, { target := .fn (.func gf) lb, args := #[.func (.yield (w.heap.size + 1)) #[] #[]] }, W1, gf,
    #[.func (.yield (w.heap.size + 1)) #[] #[]] ++ lb, W1, ?_, ?_, ?_, ?_, fun _ => h1, ?_⟩
  · rw [← hW1, hrec]; exact run_enterLoop_outer _ _ _ _ _
  · simp only [resolve, hg]
    simp [go_sem]
  · intro f' hf'; simp [Target.leads] at hf'; subst hf'; exact hFg
  · simp [invoke, go_sem, eg]
  · refine (hseq (w.heap.size + 1)
      (fun pre W => I pre W ∧ W.heap[w.heap.size + 1]? = some (.loop (rec .ready none)) ∧ W.heap[w.heap.size]? = some (.deferred (some [])))
      W1 hb1
      (fun s A B hs hab => ⟨hIa s _ A B hs1 hs.1 hab, hAb _ A B _ _ hab hs.2.1 rfl, hAb _ A B _ _ hab hs.2.2 rfl⟩)
      ?_ ⟨hI1, hL1, hK1⟩).mono ?_
    · rintro pre x W ⟨hi, hl, hk⟩ hadm
      have hy := run_yield (P := P) (args := encs x) hl (by rw [hrec]; exact hps x)
      rw [hrec] at hy
      refine ⟨fn, _, assign, body, hy, roundIn_of_wpIn hfn (hassign _ pre x W _ hi hadm fun a' Wa hka hkp hax => ?_)⟩
      have hla := hka.same _ _ (by omega) hl rfl
      have hka2 := hka.same _ _ (Nat.le_refl _) hk rfl
      have hlt : w.heap.size + 1 < Wa.heap.size := (Array.getElem?_eq_some_iff.1 hla).1
      refine ⟨_, run_beginRound hla (by rw [hrec]), ?_⟩
      have hl2 : (Wa.putObj (w.heap.size + 1) (.loop { rec .ready none with state := .busy })).heap[w.heap.size + 1]? = some (.loop { rec .ready none with state := .busy }) := World.putObj_heap_same hlt
      have hk2 : (Wa.putObj (w.heap.size + 1) (.loop { rec .ready none with state := .busy })).heap[w.heap.size]? = some (.deferred (some [])) := (World.putObj_heap_other (by omega)).trans hka2
      have hw2 : Kp Wa (Wa.putObj (w.heap.size + 1) (.loop { rec .ready none with state := .busy })) := hKb _ _ _ _ (by omega) hla rfl
      refine wpIn_mono (hbody _ pre x _ _ ((hAx pre x a').putObj (s := ()) _ hax (by omega) hla rfl) hadm) ?_
      rintro e a3 W3 hp
      cases e with
      | normal =>
        obtain ⟨hk3, hkp3, hi3⟩ := hp
        have hl3 := hk3.same _ _ (by omega) hl2 rfl
        have hr : (Instr.endRound (w.heap.size + 1) none).run P W3 = .ok (.bool true) (W3.putObj (w.heap.size + 1) (.loop (rec .ready none))) := by
          have := run_endRound (P := P) none hl3
          rw [hrec] at this ⊢
          exact this
        have hl4 : (W3.putObj (w.heap.size + 1) (.loop (rec .ready none))).heap[w.heap.size + 1]? = some (.loop (rec .ready none)) := World.putObj_heap_same (Array.getElem?_eq_some_iff.1 hl3).1
        have hk4 : (W3.putObj (w.heap.size + 1) (.loop (rec .ready none))).heap[w.heap.size]? = some (.deferred (some [])) := (World.putObj_heap_other (by omega)).trans (hk3.same _ _ (Nat.le_refl _) hk2 rfl)
        exact ⟨_, _, hr, rfl, ⟨hI.putObj _ hi3 (by omega) hl3 rfl, hl4, hk4⟩, hKt (hKt hkp (hKt hw2 hkp3)) (hKb _ _ _ _ (by omega) hl3 rfl)⟩
      | ret => exact hp.elim
      | exit id => exact hp.elim
      | goto t => exact hp.elim
      | panic ch => exact hp.elim
      | outgrown => exact hp.elim
    · rintro e W2 ⟨⟨v, rfl⟩, xs, hS, hi, hl, hk⟩
      exact ⟨none, _, by have := run_endLoop (P := P) hl (by rw [hrec]; simp); rw [hrec] at this; exact this, hdone _ xs _ (Nat.le_refl _) hS (hI.putObj _ hi (by omega) hl rfl) ((World.putObj_heap_other (by omega)).trans hk)⟩
end
end Go.Proofs.YtjgbdkokcgcpjaaDoor

namespace Go.Proofs.YtjgbdkokcgcpjaaDoor

def fullL (ls : List (List Ser)) : List (List Ser) := ls.filter fun a => !a.isEmpty
theorem fullL_cons (a : List Ser) (ls : List (List Ser)) : fullL (a :: ls) = if a = [] then fullL ls else a :: fullL ls := by
  unfold fullL
  cases a <;> simp
theorem maxL_full (ls : List (List Ser)) (L : List Lab) (t : Int) : maxL (fullL ls) L t = maxL ls L t := by
  induction ls with
  | nil => rfl
  | cons a ls ih =>
    rw [fullL_cons]
    split
    · rename_i h
      rw [maxL_cons, h, atV_nil, ih]
      rfl
    · rw [maxL_cons, maxL_cons, ih]
theorem mem_full {ls : List (List Ser)} {a : List Ser} (h : a ∈ fullL ls) : a ∈ ls ∧ a ≠ [] := by
  unfold fullL at h
  rw [List.mem_filter] at h
  refine ⟨h.1, ?_⟩
  rintro rfl
  simp at h
theorem flat_full (ls : List (List Ser)) : (fullL ls).flatten = ls.flatten := by
  induction ls with
  | nil => rfl
  | cons a ls ih =>
    rw [fullL_cons]
    split
    · rename_i h
      rw [ih, h]
      rfl
    · rw [List.flatten_cons, List.flatten_cons, ih]
theorem MOn.start {ls : List (List Ser)} (hv : ∀ a ∈ ls, Vs a) : MOn ls [] (fullL ls) :=
  ⟨Vs.nil, fun h hh => hv h (mem_full hh).1, fun h hh => (mem_full hh).2, fun s r _ o ho => (by cases ho), fun L t => by rw [atV_nil, maxL_full]; rfl⟩
theorem MOn.perm {ls : List (List Ser)} {out : List Ser} {hs hs' : List (List Ser)} (h : MOn ls out hs) (hp : hs'.Perm hs) : MOn ls out hs' :=
  ⟨h.vs, fun x hx => h.hv x (hp.subset hx), fun x hx => h.hn x (hp.subset hx), fun s r hx => h.upto s r (hp.subset hx), fun L t => by rw [maxL_perm hp, h.at_]⟩
/-- what has been told so far, as one list -/
def addAll (xs : List Ser) : List Ser := xs.foldl addS []
theorem addAll_snoc (xs : List Ser) (s : Ser) : addAll (xs ++ [s]) = addS (addAll xs) s := by
  unfold addAll
  rw [List.foldl_append]
  rfl
theorem cmpLs_nil (L : List Lab) : ¬ cmpLs L [] < 0 := by
  cases L <;> simp [cmpLs, cmpL]
end Go.Proofs.YtjgbdkokcgcpjaaDoor
