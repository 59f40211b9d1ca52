/-
  Several texts in one:
  A heap in a list: what moving up and moving down keep. Conditions: none; no program in sight.
  A heap of cursors in memory: what the methods of a list of cursors answer. Conditions: lengths that memory bears.
  Lists of labels and of series compared. Conditions: lengths that memory bears.
  A series' last point; a sample's fate. Conditions: sets that may be.
-/
import Derived.Test.YtailooldnelecaaGreatDoorPart1
import Derived.Test.YtailooldnelecaaGreatDoorPart13
import Derived.Test.YtailooldnelecaaGreatDoorPart14
import Derived.Test.YtailooldnelecaaGreatDoorPart8
import Derived.RegionTactic
import Derived.ChangeAlike
import Derived.Test.YtailooldnelecaaGreatDoorPart12

namespace Go.Proofs.YtailooldnelecaaGreatDoor

section
variable {α : Type} (lt : α → α → Bool)
/-- 'not behind': total, and one step after the other -/
structure Wk : Prop where
  irr : ∀ a, lt a a = false
  tr : ∀ a b c, lt b a = false → lt c b = false → lt c a = false
  tot : ∀ a b, lt a b = true → lt b a = false

def swapL (l : List α) (i j : Nat) : List α := match l[i]?, l[j]? with
  | some x, some y => (l.set i y).set j x
  | _, _ => l
theorem swapL_some {l : List α} {i j : Nat} {x y : α} (hi : l[i]? = some x) (hj : l[j]? = some y) : swapL l i j = (l.set i y).set j x := by
  unfold swapL
  rw [hi, hj]
theorem swapL_length (l : List α) (i j : Nat) : (swapL l i j).length = l.length := by
  unfold swapL
  split <;> simp
theorem swapL_get {l : List α} {i j : Nat} {x y : α} (hi : l[i]? = some x) (hj : l[j]? = some y) (k : Nat) : (swapL l i j)[k]? = if k = j then some x else if k = i then some y else l[k]? := by
  have h1 := (List.getElem?_eq_some_iff.1 hi).1
  have h2 := (List.getElem?_eq_some_iff.1 hj).1
  rw [swapL_some hi hj, List.getElem?_set, List.getElem?_set]
  by_cases hkj : k = j
  · subst hkj
    simp [h2]
  · rw [if_neg (fun e => hkj e.symm), if_neg hkj]
    by_cases hki : k = i
    · subst hki
      simp [h1]
    · rw [if_neg (fun e => hki e.symm), if_neg hki]
theorem set_perm : ∀ (l : List α) (i : Nat) (x a : α), l[i]? = some x → (x :: l.set i a).Perm (a :: l)
  | [], i, x, a, h => by simp at h
  | b :: r, 0, x, a, h => by
    simp at h
    subst h
    exact List.Perm.swap _ _ _
  | b :: r, i + 1, x, a, h => by
    simp at h
    exact (List.Perm.swap _ _ _).trans (((set_perm r i x a h).cons b).trans (List.Perm.swap _ _ _))
theorem swapL_perm {l : List α} {i j : Nat} {x y : α} (hi : l[i]? = some x) (hj : l[j]? = some y) : (swapL l i j).Perm l := by
  rw [swapL_some hi hj]
  have h1 := set_perm l i x y hi
  have h2 : (l.set i y)[j]? = some y := by
    rw [List.getElem?_set]
    split
    · rename_i e
      rw [if_pos (List.getElem?_eq_some_iff.1 hi).1]
    · exact hj
  have h3 := set_perm (l.set i y) j y x h2
  exact List.Perm.cons_inv (h3.trans h1)

/-- the heap, all of it -/
def IsH (l : List α) : Prop := ∀ i x y, 0 < i → l[i]? = some x → l[(i - 1) / 2]? = some y → lt x y = false
theorem IsH.head {l : List α} {lt : α → α → Bool} (hw : Wk lt) (h : IsH lt l) {x : α} (h0 : l[0]? = some x) : ∀ (i : Nat) (y : α), l[i]? = some y → lt y x = false := by
  intro i
  induction i using Nat.strongRecOn with
  | ind i ih =>
    intro y hy
    rcases Nat.eq_zero_or_pos i with rfl | hi
    · rw [h0] at hy
      injection hy with hy
      rw [hy]
      exact hw.irr _
    · have hil := (List.getElem?_eq_some_iff.1 hy).1
      have hp : (i - 1) / 2 < i := by omega
      obtain ⟨z, hz⟩ : ∃ z, l[(i - 1) / 2]? = some z := ⟨l[(i - 1) / 2]'(by omega), List.getElem?_eq_getElem _⟩
      exact hw.tr _ _ _ (ih _ hp z hz) (h i y z hi hy hz)
/-- .. but at j towards its parent -/
structure UpH (l : List α) (j : Nat) : Prop where
  rest : ∀ i x y, 0 < i → i ≠ j → l[i]? = some x → l[(i - 1) / 2]? = some y → lt x y = false
  over : ∀ i x y, 0 < j → 0 < i → (i - 1) / 2 = j → l[i]? = some x → l[(j - 1) / 2]? = some y → lt x y = false
/-- .. but at i towards its children; of the first n -/
structure DnH (l : List α) (n i : Nat) : Prop where
  rest : ∀ k x y, 0 < k → k < n → (k - 1) / 2 ≠ i → l[k]? = some x → l[(k - 1) / 2]? = some y → lt x y = false
  over : ∀ k x y, 0 < i → 0 < k → k < n → (k - 1) / 2 = i → l[k]? = some x → l[(i - 1) / 2]? = some y → lt x y = false
variable {lt : α → α → Bool}
theorem UpH.done {l : List α} {j : Nat} (h : UpH lt l j) (hj : j = 0 ∨ ∃ x y, l[j]? = some x ∧ l[(j - 1) / 2]? = some y ∧ lt x y = false) : IsH lt l := by
  intro i x y hi hx hy
  by_cases hij : i = j
  · subst hij
    rcases hj with rfl | ⟨x', y', h1, h2, h3⟩
    · omega
    · rw [h1] at hx
      rw [h2] at hy
      injection hx with hx
      injection hy with hy
      rw [← hx, ← hy]
      exact h3
  · exact h.rest i x y hi hij hx hy
theorem UpH.step {l : List α} {j : Nat} (hw : Wk lt) (h : UpH lt l j) (hj : 0 < j) {x y : α} (hx : l[j]? = some x) (hy : l[(j - 1) / 2]? = some y) (hlt : lt x y = true) : UpH lt (swapL l ((j - 1) / 2) j) ((j - 1) / 2) := by
  have hg := swapL_get hy hx
  have hne : (j - 1) / 2 ≠ j := by omega
  refine ⟨fun i a b hi hij ha hb => ?_, fun i a b hj0 hi hij ha hb => ?_⟩
  · rw [hg] at ha hb
    rw [if_neg hij] at ha
    by_cases h1 : i = j
    · subst h1
      rw [if_pos rfl] at ha
      rw [if_neg hne, if_pos rfl] at hb
      injection ha with ha
      injection hb with hb
      rw [← ha, ← hb]
      exact hw.tot _ _ hlt
    · rw [if_neg h1] at ha
      by_cases h2 : (i - 1) / 2 = j
      · rw [if_pos h2] at hb
        injection hb with hb
        rw [← hb]
        exact h.over i a y hj hi h2 ha hy
      · rw [if_neg h2] at hb
        by_cases h3 : (i - 1) / 2 = (j - 1) / 2
        · rw [if_pos h3] at hb
          injection hb with hb
          rw [← hb]
          exact hw.tr _ _ _ (hw.tot _ _ hlt) (h.rest i a y hi h1 ha (h3 ▸ hy))
        · rw [if_neg h3] at hb
          exact h.rest i a b hi h1 ha hb
  · rw [hg] at ha hb
    have hpp : ((j - 1) / 2 - 1) / 2 ≠ (j - 1) / 2 := by omega
    have hpj : ((j - 1) / 2 - 1) / 2 ≠ j := by omega
    rw [if_neg hpj, if_neg hpp] at hb
    have hyb := h.rest ((j - 1) / 2) y b hj0 (by omega) hy hb
    by_cases h1 : i = j
    · subst h1
      rw [if_pos rfl] at ha
      injection ha with ha
      rw [← ha]
      exact hyb
    · rw [if_neg h1, if_neg (by omega)] at ha
      exact hw.tr _ _ _ hyb (h.rest i a y hi h1 ha (hij ▸ hy))
/-- the children of i -/
theorem half_iff {k i : Nat} (hk : 0 < k) : (k - 1) / 2 = i ↔ k = 2 * i + 1 ∨ k = 2 * i + 2 := by omega
theorem DnH.done {l : List α} {n i : Nat} (h : DnH lt l n i) (hj : ∀ k x y, (k = 2 * i + 1 ∨ k = 2 * i + 2) → k < n → l[k]? = some x → l[i]? = some y → lt x y = false) : ∀ k x y, 0 < k → k < n → l[k]? = some x → l[(k - 1) / 2]? = some y → lt x y = false := by
  intro k x y hk hkn hx hy
  by_cases h1 : (k - 1) / 2 = i
  · exact hj k x y ((half_iff hk).1 h1) hkn hx (h1 ▸ hy)
  · exact h.rest k x y hk hkn h1 hx hy
/-- the lesser child of i, j, is less than i: they change places -/
theorem DnH.step {l : List α} {n i j : Nat} (hw : Wk lt) (h : DnH lt l n i) (hj : j = 2 * i + 1 ∨ j = 2 * i + 2) (hjn : j < n) {x y : α} (hy : l[i]? = some y) (hx : l[j]? = some x) (hlt : lt x y = true) (hmin : ∀ k z, (k = 2 * i + 1 ∨ k = 2 * i + 2) → k < n → l[k]? = some z → lt z x = false) : DnH lt (swapL l i j) n j := by
  have hg := swapL_get hy hx
  have hji : (j - 1) / 2 = i := (half_iff (by omega)).2 hj
  refine ⟨fun k a b hk hkn hkj ha hb => ?_, fun k a b hj0 hk hkn hkj ha hb => ?_⟩
  · rw [hg] at ha hb
    rw [if_neg hkj] at hb
    by_cases h1 : k = j
    · subst h1
      rw [if_pos rfl] at ha
      rw [if_pos hji] at hb
      injection ha with ha
      injection hb with hb
      rw [← ha, ← hb]
      exact hw.tot _ _ hlt
    · rw [if_neg h1] at ha
      by_cases h2 : k = i
      · subst h2
        rw [if_pos rfl] at ha
        injection ha with ha
        rw [if_neg (by omega)] at hb
        rw [← ha]
        exact h.over j x b hk (by omega) hjn hji hx hb
      · rw [if_neg h2] at ha
        by_cases h3 : (k - 1) / 2 = i
        · rw [if_pos h3] at hb
          injection hb with hb
          rw [← hb]
          exact hmin k a ((half_iff hk).1 h3) hkn ha
        · rw [if_neg h3] at hb
          exact h.rest k a b hk hkn h3 ha hb
  · rw [hg] at ha hb
    have hkj' : k ≠ j := by omega
    rw [if_neg hkj', if_neg (by omega)] at ha
    rw [hji, if_neg (by omega), if_pos rfl] at hb
    injection hb with hb
    rw [← hb]
    exact h.rest k a x hk hkn (by omega) ha (hkj ▸ hx)
/-- a new one at the end -/
theorem IsH.push {l : List α} (h : IsH lt l) (x : α) : UpH lt (l ++ [x]) l.length := by
  refine ⟨fun i a b hi hij ha hb => ?_, fun i a b hj hi hij ha hb => ?_⟩
  · have hil := (List.getElem?_eq_some_iff.1 ha).1
    simp only [List.length_append, List.length_cons, List.length_nil] at hil
    rw [List.getElem?_append_left (by omega)] at ha hb
    exact h i a b hi ha hb
  · have hil := (List.getElem?_eq_some_iff.1 ha).1
    simp only [List.length_append, List.length_cons, List.length_nil] at hil
    omega
/-- the head turned -/
theorem IsH.turn {l : List α} (h : IsH lt l) (x : α) : DnH lt (l.set 0 x) l.length 0 := by
  refine ⟨fun k a b hk hkn hk0 ha hb => ?_, fun k a b h0 => by omega⟩
  rw [List.getElem?_set, if_neg (by omega)] at ha hb
  exact h k a b hk ha hb
/-- the last one goes to the head -/
theorem IsH.pop {l : List α} (h : IsH lt l) {x y : α} (hx : l[0]? = some x) (hy : l[l.length - 1]? = some y) : DnH lt (swapL l 0 (l.length - 1)) (l.length - 1) 0 := by
  have hg := swapL_get hx hy
  refine ⟨fun k a b hk hkn hk0 ha hb => ?_, fun k a b h0 => by omega⟩
  rw [hg] at ha hb
  rw [if_neg (by omega), if_neg (by omega)] at ha
  rw [if_neg (by omega), if_neg hk0] at hb
  exact h k a b hk ha hb
theorem IsH.of {l : List α} (h : ∀ k x y, 0 < k → k < l.length → l[k]? = some x → l[(k - 1) / 2]? = some y → lt x y = false) : IsH lt l := fun k x y hk hx hy => h k x y hk (List.getElem?_eq_some_iff.1 hx).1 hx hy
theorem IsH.take {l : List α} {n : Nat} (h : ∀ k x y, 0 < k → k < n → l[k]? = some x → l[(k - 1) / 2]? = some y → lt x y = false) : IsH lt (l.take n) := by
  intro k x y hk hx hy
  rw [List.getElem?_take] at hx hy
  split at hx
  · rename_i hkn
    rw [if_pos (by omega)] at hy
    exact h k x y hk hkn hx hy
  · cases hx
end
end Go.Proofs.YtailooldnelecaaGreatDoor

namespace Go.Proofs.YtailooldnelecaaGreatDoor
open Go.RowKit

theorem cellsIn_nil (W : World) : CellsIn [] W := fun k hk => by cases hk
theorem cellsIn_cons {k : Nat} {bs : List Nat} {W : World} (h : ∃ cs t fr, W.heap[k]? = some (.cells cs t fr)) (h' : CellsIn bs W) : CellsIn (k :: bs) W := fun i hi => by
  rcases List.mem_cons.1 hi with rfl | hi
  · exact h
  · exact h' i hi
theorem Blk.ex {w : World} {g : Nat} {t : TypeId} {cs : Array Value} (h : Blk w g t cs) : ∃ cs t fr, w.heap[g]? = some (.cells cs t fr) := ⟨_, _, _, h⟩
theorem ex_cell {w : World} {ad : Addr} {u : Value} (h : w.cell? ad = some u) : ∃ cs t fr, w.heap[ad.block]? = some (.cells cs t fr) := cellsIn_cell h _ (by simp)
theorem sameIn_of {S : Nat → Prop} {bs : List Nat} {W w : World} (hc : Chg S W w) (h : CellsIn bs W) (hn : ∀ k ∈ bs, ¬ S k) : SameIn bs W w := fun k hk => by
  obtain ⟨cs, t, fr, h1⟩ := h k hk
  exact hc.block k (Array.getElem?_eq_some_iff.1 h1).1 (hn k hk)
theorem RS.at0 {w : World} {A : Option Addr} {n : Nat} {ss : List Ser} (h : RS w A n ss) (hn : 0 < n) :
    ∃ ad m s, A = some ad ∧ ss[0]? = some s ∧ SrIs w m s ∧ w.cell? ad = some (.slice m.la m.ln m.lc) ∧ w.cell? ⟨ad.block, ad.off + 1, none⟩ = some (.slice m.pa m.pn m.pc) := by
  obtain ⟨ad, m, s, e, hs, hi, h1, h2⟩ := h.at_ hn
  have e0 : ad.add (0 * 2) = ad := rfl
  rw [e0] at h1 h2
  exact ⟨ad, m, s, e, hs, hi, h1, h2⟩
theorem RS.tl {w : World} {ad : Addr} {n c : Nat} {ss : List Ser} (h : RS w (some ad) n ss) (hn : 0 < n) (hc : n ≤ c) :
    RS w (if c = 1 then some ad else some { block := ad.block, off := ad.off + 2 }) (n - 1) (ss.drop 1) := by
  obtain ⟨ms, h1, h2, h3⟩ := h
  refine ⟨ms.drop 1, h1.tl (by decide) hn hc, by rw [List.length_drop, List.length_drop, h2], fun j m s hm hs => ?_⟩
  rw [List.getElem?_drop] at hm hs
  exact h3 _ m s hm hs

/-- a cursor: where it lies, and what it has left -/
structure Cur where
  g : Nat
  la : Option Addr
  ln : Nat
  lc : Nat
  ss : List Ser
def elCu : El Cur := ⟨fun x => [.pointer (some ⟨x.g, 0, none⟩)], 1, fun _ => rfl, by
  intro x u hu
  simp only [List.mem_cons, List.not_mem_nil, or_false] at hu
  rcases hu with rfl
  rfl⟩
def hdL (ss : List Ser) : List Lab := match ss with
  | s :: _ => s.lbs
  | [] => []
def ltC (x y : Cur) : Bool := decide (cmpLs (hdL x.ss) (hdL y.ss) < 0)
theorem wkC : Wk ltC where
  irr a := decide_eq_false (cmpLs_ok.irrefl _)
  tr a b c h1 h2 := by
    unfold ltC at *
    rw [decide_eq_false_iff_not] at *
    intro h3
    rcases cmpLs_ok.tri (hdL b.ss) (hdL c.ss) with h | h | h
    · have := cmpLs_ok.trans _ _ _ h h3
      exact h1 this
    · rw [← h] at h3
      exact h1 h3
    · exact h2 h
  tot a b h := by
    unfold ltC at *
    rw [decide_eq_true_iff] at h
    rw [decide_eq_false_iff_not]
    intro h2
    exact cmpLs_ok.irrefl _ (cmpLs_ok.trans _ _ _ h h2)
theorem OE.cu {w : World} {base n c : Nat} {t : TypeId} {A : Option Addr} {l : List Cur} (h : OE elCu w base t A n c l) {i : Nat} {x : Cur} (hx : l[i]? = some x) :
    ∃ g, A = some ⟨g, 0, none⟩ ∧ base ≤ g ∧ w.cell? ⟨g, i, none⟩ = some (.pointer (some ⟨x.g, 0, none⟩)) ∧ w.frozen? ⟨g, i, none⟩ = false ∧ i < n := by
  have hl := h.len (by decide)
  have hi := (List.getElem?_eq_some_iff.1 hx).1
  obtain ⟨g, e, hb, _, hc, hf, _⟩ := Own.at_ h (by omega)
  refine ⟨g, e, hb, ?_, hf i, by omega⟩
  rw [hc i (by show i < n * 1; omega)]
  have := elCu.flat_get l (k := i) (j := 0) hx (by decide)
  rw [show i * elCu.sz + 0 = i by show i * 1 + 0 = i; omega] at this
  rw [this]
  rfl

end Go.Proofs.YtailooldnelecaaGreatDoor

namespace Go.Proofs.YtailooldnelecaaGreatDoor
open Go.RowKit

/-- are two alike? -/
noncomputable def eqB {α : Type} (a b : α) : Bool := @decide (a = b) (Classical.propDecidable _)
theorem eqB_true {α : Type} {a b : α} (h : a = b) : eqB a b = true := by unfold eqB; exact @decide_eq_true _ (Classical.propDecidable _) h
theorem eqB_false {α : Type} {a b : α} (h : a ≠ b) : eqB a b = false := by unfold eqB; exact @decide_eq_false _ (Classical.propDecidable _) h
theorem eqB_iff {α : Type} {a b : α} : eqB a b = true ↔ a = b := by
  constructor
  · intro h
    refine Classical.byContradiction fun hn => ?_
    rw [eqB_false hn] at h
    cases h
  · exact eqB_true

theorem toL_inj {a b : ByteArray} (h : a.toList = b.toList) : a = b := by
  rw [ByteArray.toList_eq, ByteArray.toList_eq] at h
  exact data_inj h
set_option maxHeartbeats 2000000 in
theorem sameLabels_any (A B : Option Addr) (n m c d : Nat) (l r : List Lab) (w : World) (ha : RE elLb w A n l) (hb : RE elLb w B m r) (hn : n ≤ 9223372036854775807) (hm : m ≤ 9223372036854775807) :
    Calls Tryz.prog 26 #[.slice A n c, .slice B m d] w fun e w' => e = .returned (.bool (eqB l r)) ∧ Grew w w' := by
  by_cases hnm : n = m
  · subst hnm
    go_enter Tryz.func26, Tryz.ntmps26
    go_wp2
    go_loopw [5] (fun i wr => ∃ k : Nat, k ≤ n ∧ i = .int .i64 k ∧ l.take k = r.take k ∧ Grew w wr) (fun i _ => n - (intOf i).toNat)
    case atStart => exact ⟨0, Nat.zero_le _, rfl, rfl, Chg.refl _ _⟩
    case round =>
      obtain ⟨k, hk, rfl, ht, hg⟩ := hrel
      by_cases hlt : k < n
      · obtain ⟨ad, x, rfl, hx, hcx1, hcx2⟩ := (ha.grew hg).lb hlt
        obtain ⟨bd, y, rfl, hy, hcy1, hcy2⟩ := (hb.grew hg).lb hlt
        by_cases hxy : x = y
        · subst hxy
          have hst := Lib.hid (take_step ht hx hy)
          clear ht hx hy
          go_wp2
          refine wp_region_text [(3, 1)] (by kernel_rfl) (by kernel_rfl) ?_
          simp only [instr, chk, look, Nat.reduceBEq, Bool.false_eq_true, if_true, if_false, Nat.reduceEqDiff, List.nil_append]
          go_wp2
          refine OnlyN.normal ?_
          go_wp2
          go_roundw
          case rel => exact ⟨k + 1, by omega, by go_num, hst.out, hg.drew⟩
          case measure => simp [intOf]; omega
        · have hne := Lib.hid (ne_at hx hy hxy)
          have hd : ¬ x.1.toList = y.1.toList ∨ (x.1.toList = y.1.toList ∧ ¬ x.2.toList = y.2.toList) := by
            by_cases h1 : x.1 = y.1
            · exact .inr ⟨by rw [h1], fun h2 => hxy (Prod.ext h1 (toL_inj h2))⟩
            · exact .inl fun h2 => h1 (toL_inj h2)
          clear ht hx hy hxy
          rcases hd with h1 | ⟨h1, h2⟩
          all_goals
            go_wp2
            refine wp_region_text [(3, 1)] (by kernel_rfl) (by kernel_rfl) ?_
            simp only [instr, chk, look, Nat.reduceBEq, Bool.false_eq_true, if_true, if_false, Nat.reduceEqDiff, List.nil_append]
            go_wp2
            refine OnlyN.normal ?_
            go_wp2
            go_ret
            exact ⟨by rw [eqB_false hne.out]; simp, hg.drew⟩
      · have hkn : k = n := by omega
        subst hkn
        have h1 : l.take k = l := List.take_of_length_le (by rw [ha.1]; omega)
        have h2 : r.take k = r := List.take_of_length_le (by rw [hb.1]; omega)
        rw [h1, h2] at ht
        have ht := Lib.hid ht
        go_wp2
        go_ret
        exact ⟨by rw [eqB_true ht.out]; simp, hg⟩
  · have hlr : Hid (l ≠ r) := by
      show l ≠ r
      have h1 := ha.1
      have h2 := hb.1
      rintro rfl
      omega
    go_enter Tryz.func26, Tryz.ntmps26
    go_wp2
    go_ret
    exact ⟨by rw [eqB_false hlr.out]; simp, Chg.refl _ _⟩

theorem RS.rows {w : World} {A : Option Addr} {n : Nat} {ss : List Ser} (h : RS w A n ss) {k : Nat} (hk : k < n) :
    ∃ ad m s, A = some ad ∧ ss[k]? = some s ∧ SrIs w m s ∧ w.cell? (ad.add (k * 2)) = some (.slice m.la m.ln m.lc) ∧ w.cell? ⟨(ad.add (k * 2)).block, (ad.add (k * 2)).off + 1, none⟩ = some (.slice m.pa m.pn m.pc) := h.at_ hk

set_option maxRecDepth 100000 in
set_option maxHeartbeats 4000000 in
theorem sameS_any (A B : Option Addr) (n m c d : Nat) (l r : List Ser) (w : World) (ha : RS w A n l) (hb : RS w B m r) (hn : n ≤ 9223372036854775807) (hm : m ≤ 9223372036854775807) :
    Calls Tryz.prog 7 #[.slice A n c, .slice B m d] w fun e w' => e = .returned (.bool (eqB l r)) ∧ Grew w w' := by
  by_cases hnm : n = m
  · subst hnm
    go_enter Tryz.func7, Tryz.ntmps7
    go_wp2
    go_loopw [5] (fun i wr => ∃ k : Nat, k ≤ n ∧ i = .int .i64 k ∧ l.take k = r.take k ∧ Grew w wr) (fun i _ => n - (intOf i).toNat)
    case atStart => exact ⟨0, Nat.zero_le _, rfl, rfl, Chg.refl _ _⟩
    case round =>
      obtain ⟨k, hk, rfl, ht, hg⟩ := hrel
      by_cases hlt : k < n
      · obtain ⟨ad, mx, x, rfl, hx, hxi, x0, x1⟩ := (ha.grew hg).at_ hlt
        obtain ⟨bd, my, y, rfl, hy, hyi, y0, y1⟩ := (hb.grew hg).at_ hlt
        have hL := fun W1 (hW1 : Grew wr W1) => sameLabels_any mx.la my.la mx.ln my.ln mx.lc my.lc x.lbs y.lbs W1 (hxi.lb.grew hW1) (hyi.lb.grew hW1) (by have := hxi.lc; omega) (by have := hyi.lc; omega)
        have hcs : CellsIn [ad.block, bd.block] wr := by
          have h1 := ex_cell x0
          have h2 := ex_cell y0
          rw [block_add] at h1 h2
          exact cellsIn_cons h1 (cellsIn_cons h2 (cellsIn_nil _))
        have hsame : Hid (∀ W1, Grew wr W1 → SameIn [ad.block, bd.block] wr W1) := fun W1 h1 => sameIn_of h1 hcs fun _ _ e => e
        by_cases hxy : x.lbs = y.lbs
        · have hP := fun W1 (hW1 : Grew wr W1) => samePoints_any mx.pa my.pa mx.pn my.pn mx.pc my.pc x.pts y.pts W1 (hxi.pt.grew hW1) (hyi.pt.grew hW1) (by have := hxi.pc; omega) (by have := hyi.pc; omega)
          rw [eqB_true hxy] at hL
          replace hL := Lib.hid hL
          by_cases hpq : x.pts = y.pts
          · have hst := Lib.hid (take_step ht hx (by rw [hy]; congr 1; cases x; cases y; simp only at hxy hpq; rw [hxy, hpq]))
            rw [decide_eq_true hpq] at hP
            replace hP := Lib.hid hP
            clear ht hx hy hxy hpq hxi hyi
            go_wp2
            refine wp_region_textS [(3, 1)] [ad.block, bd.block] (by kernel_rfl) (by kernel_rfl) hcs ?_
            simp only [wpU, tagOf, chk, List.nil_append, List.cons_append]
            intro K hK
            go_wp2_with fail
            refine OnlyN.normal (hK _ _ (fun _ => ⟨_, _, _, rfl, rfl, by simp [block_add]⟩) ?_)
            clear hK K
            intro K hK
            go_wp2_with fail
            refine OnlyN.normal (hK _ _ (fun _ => ⟨_, _, _, rfl, rfl, by simp [block_add]⟩) ?_)
            clear hK K
            intro K hK
            go_wp2_with fail
            refine (hL.out _ (Chg.refl _ wr).drew).mono ?_
            rintro e w1 ⟨rfl, hg1⟩
            have hgg : Grew wr w1 := (Chg.refl _ wr).drew.trans hg1
            go_wp2_with fail
            refine OnlyN.normal (hK _ _ (hsame.out _ hgg) ?_)
            clear hK K
            have x1 := hgg.cell x1 (fun e => e)
            have y1 := hgg.cell y1 (fun e => e)
            intro K hK
            go_wp2_with fail
            refine OnlyN.normal (hK _ _ (fun _ => ⟨_, _, _, rfl, rfl, by simp [block_add]⟩) ?_)
            clear hK K
            intro K hK
            go_wp2_with fail
            refine OnlyN.normal (hK _ _ (fun _ => ⟨_, _, _, rfl, rfl, by simp [block_add]⟩) ?_)
            clear hK K
            intro K hK
            go_wp2_with fail
            refine (hP.out _ hgg).mono ?_
            rintro e w2 ⟨rfl, q, rfl⟩
            have hgg2 : Grew wr (w1.drewN q) := hgg.drewN q
            go_wp2_with fail
            refine OnlyN.normal (hK _ _ (hsame.out _ hgg2) ?_)
            clear hK K
            go_wp2_with fail
            refine OnlyN.normal ?_
            have hg0 := hg.trans hgg2
            clear hgg hg1 hgg2 hsame hcs
            go_wp2
            go_roundw
            case rel => exact ⟨k + 1, by omega, by go_num, hst.out, hg0⟩
            case measure => simp [intOf] <;> omega
          · have hne := Lib.hid (ne_at hx hy (fun e => hpq (by rw [e])))
            rw [decide_eq_false hpq] at hP
            replace hP := Lib.hid hP
            clear ht hx hy hxy hpq hxi hyi
            go_wp2
            refine wp_region_textS [(3, 1)] [ad.block, bd.block] (by kernel_rfl) (by kernel_rfl) hcs ?_
            simp only [wpU, tagOf, chk, List.nil_append, List.cons_append]
            intro K hK
            go_wp2_with fail
            refine OnlyN.normal (hK _ _ (fun _ => ⟨_, _, _, rfl, rfl, by simp [block_add]⟩) ?_)
            clear hK K
            intro K hK
            go_wp2_with fail
            refine OnlyN.normal (hK _ _ (fun _ => ⟨_, _, _, rfl, rfl, by simp [block_add]⟩) ?_)
            clear hK K
            intro K hK
            go_wp2_with fail
            refine (hL.out _ (Chg.refl _ wr).drew).mono ?_
            rintro e w1 ⟨rfl, hg1⟩
            have hgg : Grew wr w1 := (Chg.refl _ wr).drew.trans hg1
            go_wp2_with fail
            refine OnlyN.normal (hK _ _ (hsame.out _ hgg) ?_)
            clear hK K
            have x1 := hgg.cell x1 (fun e => e)
            have y1 := hgg.cell y1 (fun e => e)
            intro K hK
            go_wp2_with fail
            refine OnlyN.normal (hK _ _ (fun _ => ⟨_, _, _, rfl, rfl, by simp [block_add]⟩) ?_)
            clear hK K
            intro K hK
            go_wp2_with fail
            refine OnlyN.normal (hK _ _ (fun _ => ⟨_, _, _, rfl, rfl, by simp [block_add]⟩) ?_)
            clear hK K
            intro K hK
            go_wp2_with fail
            refine (hP.out _ hgg).mono ?_
            rintro e w2 ⟨rfl, q, rfl⟩
            have hgg2 : Grew wr (w1.drewN q) := hgg.drewN q
            go_wp2_with fail
            refine OnlyN.normal (hK _ _ (hsame.out _ hgg2) ?_)
            clear hK K
            go_wp2_with fail
            refine OnlyN.normal ?_
            have hg0 := hg.trans hgg2
            clear hgg hg1 hgg2 hsame hcs
            go_wp2
            go_ret
            exact ⟨by rw [eqB_false hne.out]; simp, hg0⟩
        · have hne := Lib.hid (ne_at hx hy (fun e => hxy (by rw [e])))
          rw [eqB_false hxy] at hL
          replace hL := Lib.hid hL
          clear ht hx hy hxy hxi hyi
          go_wp2
          refine wp_region_textS [(3, 1)] [ad.block, bd.block] (by kernel_rfl) (by kernel_rfl) hcs ?_
          simp only [wpU, tagOf, chk, List.nil_append, List.cons_append]
          intro K hK
          go_wp2_with fail
          refine OnlyN.normal (hK _ _ (fun _ => ⟨_, _, _, rfl, rfl, by simp [block_add]⟩) ?_)
          clear hK K
          intro K hK
          go_wp2_with fail
          refine OnlyN.normal (hK _ _ (fun _ => ⟨_, _, _, rfl, rfl, by simp [block_add]⟩) ?_)
          clear hK K
          intro K hK
          go_wp2_with fail
          refine (hL.out _ (Chg.refl _ wr).drew).mono ?_
          rintro e w1 ⟨rfl, hg1⟩
          have hgg : Grew wr w1 := (Chg.refl _ wr).drew.trans hg1
          go_wp2_with fail
          refine OnlyN.normal (hK _ _ (hsame.out _ hgg) ?_)
          clear hK K
          intro K hK
          go_wp2_with fail
          refine OnlyN.normal (hK _ _ (fun hw => by cases (show false = true from hw)) ?_)
          clear hK K
          intro K hK
          go_wp2_with fail
          refine OnlyN.normal (hK _ _ (fun hw => by cases (show false = true from hw)) ?_)
          clear hK K
          intro K hK
          go_wp2_with fail
          refine OnlyN.normal (hK _ _ (hsame.out _ hgg) ?_)
          clear hK K
          go_wp2_with fail
          refine OnlyN.normal ?_
          go_wp2
          go_ret
          exact ⟨by rw [eqB_false hne.out]; simp, hg.trans hgg⟩
      · have hkn : k = n := by omega
        subst hkn
        have h1 : l.take k = l := List.take_of_length_le (by rw [ha.len]; omega)
        have h2 : r.take k = r := List.take_of_length_le (by rw [hb.len]; omega)
        rw [h1, h2] at ht
        have ht := Lib.hid ht
        go_wp2
        go_ret
        exact ⟨by rw [eqB_true ht.out]; simp, hg⟩
  · have hlr : Hid (l ≠ r) := by
      show l ≠ r
      have h1 := ha.len
      have h2 := hb.len
      rintro rfl
      omega
    go_enter Tryz.func7, Tryz.ntmps7
    go_wp2
    go_ret
    exact ⟨by rw [eqB_false hlr.out]; simp, Chg.refl _ _⟩
end Go.Proofs.YtailooldnelecaaGreatDoor

namespace Go.Proofs.YtailooldnelecaaGreatDoor
open Go.RowKit

set_option maxRecDepth 100000 in
set_option maxHeartbeats 1000000 in
theorem last_any (g : Nat) (la pa : Option Addr) (ln lc pn pc : Nat) (ps : List Ptn) (q : Ptn) (w : World) (hb : Blk w g 67 #[.slice la ln lc, .slice pa pn pc]) (hp : RE elPt w pa pn ps) (hn : 0 < pn) (hc : pn ≤ 9223372036854775807) (hq : ps[pn - 1]? = some q) :
    Calls Tryz.prog 35 #[.pointer (some ⟨g, 0, none⟩)] w fun e w' => e = .returned (.agg #[.int .i64 q.1, .int .u64 (q.2 : Int)]) ∧ Grew w w' := by
  obtain ⟨W, hW⟩ : ∃ W, W = w.alloc (.cells #[.int .i64 0, .int .u64 0] 69) := ⟨_, rfl⟩
  have hgW : Grew w W := by rw [hW]; exact (Chg.refl _ w).alloc _
  have hbz : Blk W w.heap.size 69 #[.int .i64 0, .int .u64 0] := by rw [hW]; exact Blk.new w _ _
  obtain ⟨ad, q', rfl, hq', p0, p1⟩ := (hp.grew hgW).pt (show pn - 1 < pn by omega)
  obtain rfl : q = q' := by
    rw [hq] at hq'
    injection hq'
  have hbW := hb.grew hgW
  have x1 := hbW.cell 1
  have hg0 := hb.lt
  have hadl : ad.block < w.heap.size := by
    have := hp.lt (by decide) ad rfl hn
    exact this
  have z0 : W.cell? ⟨w.heap.size, 0, none⟩ = some (.int .i64 0) := by rw [hbz.cell]; rfl
  have z1 : W.cell? ⟨w.heap.size, 1, none⟩ = some (.int .u64 0) := by rw [hbz.cell]; rfl
  have f0 := hbz.frozen 0
  have f1 := hbz.frozen 1
  have hcA := ex_cell p0
  rw [block_add] at hcA
  have hcs : CellsIn [g, ad.block] W := cellsIn_cons hbW.ex (cellsIn_cons hcA (cellsIn_nil _))
  have hch : Chg (fun x => x = w.heap.size) W ((W.setCell ⟨w.heap.size, 0, none⟩ (.int .i64 q.1)).setCell ⟨w.heap.size, 1, none⟩ (.int .u64 (q.2 : Int))) := (Chg.one _ _ _ _).setCell (p := ⟨w.heap.size, 1, none⟩) (.inr rfl) _
  have hb5 : Blk ((W.setCell ⟨w.heap.size, 0, none⟩ (.int .i64 q.1)).setCell ⟨w.heap.size, 1, none⟩ (.int .u64 (q.2 : Int))) w.heap.size 69 #[.int .i64 q.1, .int .u64 (q.2 : Int)] := by simpa using (hbz.set 0 (.int .i64 q.1)).set 1 (.int .u64 (q.2 : Int))
  have r0 := hb5.cell 0
  have r1 := hb5.cell 1
  have hg5 : Grew w ((W.setCell ⟨w.heap.size, 0, none⟩ (.int .i64 q.1)).setCell ⟨w.heap.size, 1, none⟩ (.int .u64 (q.2 : Int))) := (hgW.setCell (p := ⟨w.heap.size, 0, none⟩) (.inl (Nat.le_refl _)) _).setCell (p := ⟨w.heap.size, 1, none⟩) (.inl (Nat.le_refl _)) _
  have hsame := sameIn_of hch hcs (fun k hk e => by
    simp only [List.mem_cons, List.not_mem_nil, or_false] at hk
    omega)
  clear hq hq' hp hb hcA hch hb5 hbz
  go_enter Tryz.func35, Tryz.ntmps35
  go_wp2_with fail
  rw [← hW]
  clear hW
  refine wp_region_textS [(3, 1)] [g, ad.block] (by kernel_rfl) (by kernel_rfl) hcs ?_
  simp only [wpU, tagOf, chk, look, Nat.reduceBEq, if_true, if_false, Nat.reduceEqDiff, List.nil_append, List.cons_append]
  intro K hK
  go_wp2_with fail
  refine OnlyN.normal (hK _ _ (fun _ => ⟨_, _, _, rfl, rfl, by simp⟩) ?_)
  clear hK K
  intro K hK
  go_wp2_with fail
  refine OnlyN.normal (hK _ _ (fun _ => ⟨_, _, _, rfl, rfl, by simp⟩) ?_)
  clear hK K
  intro K hK
  go_wp2_with fail
  refine OnlyN.normal (hK _ _ (fun _ => ⟨_, _, _, rfl, rfl, by simp [block_add]⟩) ?_)
  clear hK K
  intro K hK
  go_wp2_with fail
  refine OnlyN.normal (hK _ _ hsame ?_)
  clear hK K
  go_wp2_with fail
  refine OnlyN.normal ?_
  generalize (W.setCell ⟨w.heap.size, 0, none⟩ (.int .i64 q.1)).setCell ⟨w.heap.size, 1, none⟩ (.int .u64 (q.2 : Int)) = w5 at *
  clear z0 z1 f0 f1
  go_wp2
  exact bodyPost_ret (v := .agg #[.int .i64 q.1, .int .u64 (q.2 : Int)]) (by simp [results, Tryz.results35, go_sem, r0, r1]) rfl ⟨rfl, hg5.drew⟩
end Go.Proofs.YtailooldnelecaaGreatDoor
