/-
  Several texts in one:
  Rows of series in new memory: what they hold, what they abide, how they are appended to. Conditions: none.
  A heap in a list: what moving up and moving down keep. Conditions: none; no program in sight.
  A heap of cursors in memory: what the methods of a list of cursors answer. Conditions: lengths that memory bears.
-/
import Derived.Test.YtailooldnelecaaDoorPart18
import Derived.Test.YtailooldnelecaaDoorPart19
import Derived.Test.YtailooldnelecaaDoorPart1
import Derived.Test.YtailooldnelecaaDoorPart12
import Derived.RegionTactic
import Derived.ChangeAlike

namespace Go.Proofs.YtailooldnelecaaDoor
open Go.RowKit

theorem infoLab : (Tryd.prog.info? 53).map (fun i => (i.zero, i.size, i.bytes)) = some (some (.agg #[.string ⟨#[]⟩, .string ⟨#[]⟩]), 2, 32) := by kernel_rfl
/-- a series whose labels and points lie in rows from base on -/
structure NsE (w : World) (base : Nat) (m : SerM) (s : Ser) : Prop where
  lb : OE elLb w base 53 m.la m.ln m.lc s.lbs
  pt : OE elPt w base 39 m.pa m.pn m.pc s.pts
theorem NsE.is {w : World} {base : Nat} {m : SerM} {s : Ser} (h : NsE w base m s) : SrIs w m s := ⟨h.lb.re (by decide), h.pt.re (by decide), h.lb.cap, h.pt.cap⟩
theorem NsE.grew {w w' : World} {base : Nat} {m : SerM} {s : Ser} (h : NsE w base m s) (hc : Grew w w') : NsE w' base m s := ⟨h.lb.grew hc, h.pt.grew hc⟩
theorem NsE.drewN {w : World} {base : Nat} {m : SerM} {s : Ser} (h : NsE w base m s) (k : Nat) : NsE (w.drewN k) base m s := ⟨h.lb, h.pt⟩
/-- rows of unlike types lie in unlike blocks -/
theorem OE.ne {α β : Type} {E : El α} {F : El β} {w : World} {b b' : Nat} {t u : TypeId} {A B : Option Addr} {n c m d : Nat} {l : List α} {r : List β} (h : OE E w b t A n c l) (h' : OE F w b' u B m d r) (hne : t ≠ u) : ∀ ad bd, A = some ad → B = some bd → ad.block ≠ bd.block := by
  rintro ad bd rfl rfl
  rcases h'.2 with ⟨e, _⟩ | ⟨g, cap, cur, e, _, hg, _⟩
  · cases e
  · injection e with e1 e2 e3
    injection e1 with e1
    subst e1
    exact Own.ne_blk h hg hne ad rfl
/-- .. so a row abides what turns the other's block -/
theorem OE.apart {α β : Type} {E : El α} {F : El β} {w w' : World} {b b' : Nat} {t u : TypeId} {A B : Option Addr} {n c m d : Nat} {l : List α} {r : List β} (h : OE E w b t A n c l) (h' : OE F w b' u B m d r) (hne : t ≠ u) (hc : Chg (fun k => ∃ ad, B = some ad ∧ k = ad.block) w w') : OE E w' b t A n c l :=
  h.chg hc fun ad e ⟨bd, e', hk⟩ => h.ne h' hne ad bd e e' hk
theorem NsE.apart {β : Type} {F : El β} {w w' : World} {base b' : Nat} {u : TypeId} {B : Option Addr} {k d : Nat} {r : List β} {m : SerM} {s : Ser} (h : NsE w base m s) (h' : OE F w b' u B k d r) (h1 : 53 ≠ u) (h2 : 39 ≠ u) (hc : Chg (fun k => ∃ ad, B = some ad ∧ k = ad.block) w w') : NsE w' base m s :=
  ⟨h.lb.apart h' h1 hc, h.pt.apart h' h2 hc⟩
/-- a row of such series -/
def NS (w : World) (base : Nat) (A : Option Addr) (n c : Nat) (ss : List Ser) : Prop := ∃ ms : List SerM, OE elSr w base 37 A n c ms ∧ ms.length = ss.length ∧ ∀ (i : Nat) (m : SerM) (s : Ser), ms[i]? = some m → ss[i]? = some s → NsE w base m s
theorem NS.rs {w : World} {base : Nat} {A : Option Addr} {n c : Nat} {ss : List Ser} (h : NS w base A n c ss) : RS w A n ss := by
  obtain ⟨ms, h1, h2, h3⟩ := h
  exact ⟨ms, h1.re (by decide), h2, fun i m s hm hs => (h3 i m s hm hs).is⟩
theorem NS.len {w : World} {base : Nat} {A : Option Addr} {n c : Nat} {ss : List Ser} (h : NS w base A n c ss) : ss.length = n := h.rs.len
theorem NS.cap {w : World} {base : Nat} {A : Option Addr} {n c : Nat} {ss : List Ser} (h : NS w base A n c ss) : n ≤ c ∧ c ≤ 9223372036854775807 := by
  obtain ⟨ms, h1, _⟩ := h
  exact h1.cap
theorem NS.grew {w w' : World} {base : Nat} {A : Option Addr} {n c : Nat} {ss : List Ser} (h : NS w base A n c ss) (hc : Grew w w') : NS w' base A n c ss := by
  obtain ⟨ms, h1, h2, h3⟩ := h
  exact ⟨ms, h1.grew hc, h2, fun i m s hm hs => (h3 i m s hm hs).grew hc⟩
theorem NS.chg {S : Nat → Prop} {w w' : World} {base : Nat} {A : Option Addr} {n c : Nat} {ss : List Ser} (h : NS w base A n c ss) (hc : Chg S w w') (hn : ∀ k, base ≤ k → ¬ S k) : NS w' base A n c ss := by
  obtain ⟨ms, h1, h2, h3⟩ := h
  exact ⟨ms, h1.chg hc (fun ad e => hn _ (Own.blk_lt h1 ad e).1), h2, fun i m s hm hs => ⟨(h3 i m s hm hs).lb.chg hc (fun ad e => hn _ (Own.blk_lt (h3 i m s hm hs).lb ad e).1), (h3 i m s hm hs).pt.chg hc (fun ad e => hn _ (Own.blk_lt (h3 i m s hm hs).pt ad e).1)⟩⟩
theorem NS.drewN {w : World} {base : Nat} {A : Option Addr} {n c : Nat} {ss : List Ser} (h : NS w base A n c ss) (k : Nat) : NS (w.drewN k) base A n c ss := by
  obtain ⟨ms, h1, h2, h3⟩ := h
  exact ⟨ms, h1.drewN k, h2, fun i m s hm hs => (h3 i m s hm hs).drewN k⟩
theorem NS.mono {w : World} {base base' : Nat} {A : Option Addr} {n c : Nat} {ss : List Ser} (h : NS w base A n c ss) (hb : base' ≤ base) : NS w base' A n c ss := by
  obtain ⟨ms, h1, h2, h3⟩ := h
  exact ⟨ms, Own.mono h1 hb, h2, fun i m s hm hs => ⟨Own.mono (h3 i m s hm hs).lb hb, Own.mono (h3 i m s hm hs).pt hb⟩⟩
theorem NS.nil (w : World) (base : Nat) : NS w base none 0 0 [] := ⟨[], OE.nil _ _ _, rfl, fun i m s hm => by simp at hm⟩
theorem NS.blk {w : World} {base : Nat} {A : Option Addr} {n c : Nat} {ss : List Ser} (h : NS w base A n c ss) : ∀ ad, A = some ad → base ≤ ad.block ∧ ad.block < w.heap.size := by
  obtain ⟨ms, h1, _⟩ := h
  exact Own.blk_lt h1
/-- one more appended: the row as it stands open for the append -/
structure NSo (w : World) (base : Nat) (A : Option Addr) (n c : Nat) (ms : List SerM) (ss : List Ser) : Prop where
  row : OE elSr w base 37 A n c ms
  len : ms.length = ss.length
  el : ∀ (i : Nat) (m : SerM) (s : Ser), ms[i]? = some m → ss[i]? = some s → NsE w base m s
theorem NS.op {w : World} {base : Nat} {A : Option Addr} {n c : Nat} {ss : List Ser} (h : NS w base A n c ss) : ∃ ms, NSo w base A n c ms ss := by
  obtain ⟨ms, h1, h2, h3⟩ := h
  exact ⟨ms, h1, h2, h3⟩
theorem NSo.ns {w : World} {base : Nat} {A : Option Addr} {n c : Nat} {ms : List SerM} {ss : List Ser} (h : NSo w base A n c ms ss) : NS w base A n c ss := ⟨ms, h.row, h.len, h.el⟩
theorem NSo.grew {w w' : World} {base : Nat} {A : Option Addr} {n c : Nat} {ms : List SerM} {ss : List Ser} (h : NSo w base A n c ms ss) (hc : Grew w w') : NSo w' base A n c ms ss :=
  ⟨h.row.grew hc, h.len, fun i m s hm hs => (h.el i m s hm hs).grew hc⟩
theorem snoc_get {α : Type} {l : List α} {x y : α} {i : Nat} (h : (l ++ [x])[i]? = some y) : l[i]? = some y ∨ (i = l.length ∧ y = x) := by
  by_cases hi : i < l.length
  · rw [List.getElem?_append_left hi] at h
    exact .inl h
  · rw [List.getElem?_append_right (by omega)] at h
    have hi2 : i - l.length = 0 := by
      have := (List.getElem?_eq_some_iff.1 h).1
      simp at this
      omega
    rw [hi2] at h
    simp at h
    exact .inr ⟨by omega, h.symm⟩
theorem NSo.app {w w' : World} {base : Nat} {A A' : Option Addr} {n k c c' : Nat} {ms : List SerM} {ss : List Ser} {m : SerM} {s : Ser} (h : NSo w base A n c ms ss) (hm : NsE w base m s) (ha : ApE elSr w base 37 A k c (ms ++ [m]) A' c' w') : NS w' base A' k c' (ss ++ [s]) := by
  refine ⟨ms ++ [m], ha.oe, by rw [List.length_append, List.length_append, h.len]; rfl, fun i m' s' hm' hs' => ?_⟩
  rcases snoc_get hm' with h1 | ⟨h1, rfl⟩
  · rcases snoc_get hs' with h2 | ⟨h2, rfl⟩
    · exact (h.el i m' s' h1 h2).apart h.row (by decide) (by decide) ha.chg
    · have := (List.getElem?_eq_some_iff.1 h1).1
      have := h.len
      omega
  · rcases snoc_get hs' with h2 | ⟨h2, rfl⟩
    · have := (List.getElem?_eq_some_iff.1 h2).1
      have := h.len
      omega
    · exact hm.apart h.row (by decide) (by decide) ha.chg
end Go.Proofs.YtailooldnelecaaDoor

namespace Go.Proofs.YtailooldnelecaaDoor

section
variable {α : Type} (lt : α → α → Bool)
/-- 'not behind': total, and one step after the other -/
structure Wk : Prop where
  irr : ∀ a, lt a a = false
  tr : ∀ a b c, lt b a = false → lt c b = false → lt c a = false
  tot : ∀ a b, lt a b = true → lt b a = false

def swapL (l : List α) (i j : Nat) : List α := match l[i]?, l[j]? with
  | some x, some y => (l.set i y).set j x
  | _, _ => l
theorem swapL_some {l : List α} {i j : Nat} {x y : α} (hi : l[i]? = some x) (hj : l[j]? = some y) : swapL l i j = (l.set i y).set j x := by
  unfold swapL
  rw [hi, hj]
theorem swapL_length (l : List α) (i j : Nat) : (swapL l i j).length = l.length := by
  unfold swapL
  split <;> simp
theorem swapL_get {l : List α} {i j : Nat} {x y : α} (hi : l[i]? = some x) (hj : l[j]? = some y) (k : Nat) : (swapL l i j)[k]? = if k = j then some x else if k = i then some y else l[k]? := by
  have h1 := (List.getElem?_eq_some_iff.1 hi).1
  have h2 := (List.getElem?_eq_some_iff.1 hj).1
  rw [swapL_some hi hj, List.getElem?_set, List.getElem?_set]
  by_cases hkj : k = j
  · subst hkj
    simp [h2]
  · rw [if_neg (fun e => hkj e.symm), if_neg hkj]
    by_cases hki : k = i
    · subst hki
      simp [h1]
    · rw [if_neg (fun e => hki e.symm), if_neg hki]
theorem set_perm : ∀ (l : List α) (i : Nat) (x a : α), l[i]? = some x → (x :: l.set i a).Perm (a :: l)
  | [], i, x, a, h => by simp at h
  | b :: r, 0, x, a, h => by
    simp at h
    subst h
    exact List.Perm.swap _ _ _
  | b :: r, i + 1, x, a, h => by
    simp at h
    exact (List.Perm.swap _ _ _).trans (((set_perm r i x a h).cons b).trans (List.Perm.swap _ _ _))
theorem swapL_perm {l : List α} {i j : Nat} {x y : α} (hi : l[i]? = some x) (hj : l[j]? = some y) : (swapL l i j).Perm l := by
  rw [swapL_some hi hj]
  have h1 := set_perm l i x y hi
  have h2 : (l.set i y)[j]? = some y := by
    rw [List.getElem?_set]
    split
    · rename_i e
      rw [if_pos (List.getElem?_eq_some_iff.1 hi).1]
    · exact hj
  have h3 := set_perm (l.set i y) j y x h2
  exact List.Perm.cons_inv (h3.trans h1)

/-- the heap, all of it -/
def IsH (l : List α) : Prop := ∀ i x y, 0 < i → l[i]? = some x → l[(i - 1) / 2]? = some y → lt x y = false
theorem IsH.head {l : List α} {lt : α → α → Bool} (hw : Wk lt) (h : IsH lt l) {x : α} (h0 : l[0]? = some x) : ∀ (i : Nat) (y : α), l[i]? = some y → lt y x = false := by
  intro i
  induction i using Nat.strongRecOn with
  | ind i ih =>
    intro y hy
    rcases Nat.eq_zero_or_pos i with rfl | hi
    · rw [h0] at hy
      injection hy with hy
      rw [hy]
      exact hw.irr _
    · have hil := (List.getElem?_eq_some_iff.1 hy).1
      have hp : (i - 1) / 2 < i := by omega
      obtain ⟨z, hz⟩ : ∃ z, l[(i - 1) / 2]? = some z := ⟨l[(i - 1) / 2]'(by omega), List.getElem?_eq_getElem _⟩
      exact hw.tr _ _ _ (ih _ hp z hz) (h i y z hi hy hz)
/-- .. but at j towards its parent -/
structure UpH (l : List α) (j : Nat) : Prop where
  rest : ∀ i x y, 0 < i → i ≠ j → l[i]? = some x → l[(i - 1) / 2]? = some y → lt x y = false
  over : ∀ i x y, 0 < j → 0 < i → (i - 1) / 2 = j → l[i]? = some x → l[(j - 1) / 2]? = some y → lt x y = false
/-- .. but at i towards its children; of the first n -/
structure DnH (l : List α) (n i : Nat) : Prop where
  rest : ∀ k x y, 0 < k → k < n → (k - 1) / 2 ≠ i → l[k]? = some x → l[(k - 1) / 2]? = some y → lt x y = false
  over : ∀ k x y, 0 < i → 0 < k → k < n → (k - 1) / 2 = i → l[k]? = some x → l[(i - 1) / 2]? = some y → lt x y = false
variable {lt : α → α → Bool}
theorem UpH.done {l : List α} {j : Nat} (h : UpH lt l j) (hj : j = 0 ∨ ∃ x y, l[j]? = some x ∧ l[(j - 1) / 2]? = some y ∧ lt x y = false) : IsH lt l := by
  intro i x y hi hx hy
  by_cases hij : i = j
  · subst hij
    rcases hj with rfl | ⟨x', y', h1, h2, h3⟩
    · omega
    · rw [h1] at hx
      rw [h2] at hy
      injection hx with hx
      injection hy with hy
      rw [← hx, ← hy]
      exact h3
  · exact h.rest i x y hi hij hx hy
theorem UpH.step {l : List α} {j : Nat} (hw : Wk lt) (h : UpH lt l j) (hj : 0 < j) {x y : α} (hx : l[j]? = some x) (hy : l[(j - 1) / 2]? = some y) (hlt : lt x y = true) : UpH lt (swapL l ((j - 1) / 2) j) ((j - 1) / 2) := by
  have hg := swapL_get hy hx
  have hne : (j - 1) / 2 ≠ j := by omega
  refine ⟨fun i a b hi hij ha hb => ?_, fun i a b hj0 hi hij ha hb => ?_⟩
  · rw [hg] at ha hb
    rw [if_neg hij] at ha
    by_cases h1 : i = j
    · subst h1
      rw [if_pos rfl] at ha
      rw [if_neg hne, if_pos rfl] at hb
      injection ha with ha
      injection hb with hb
      rw [← ha, ← hb]
      exact hw.tot _ _ hlt
    · rw [if_neg h1] at ha
      by_cases h2 : (i - 1) / 2 = j
      · rw [if_pos h2] at hb
        injection hb with hb
        rw [← hb]
        exact h.over i a y hj hi h2 ha hy
      · rw [if_neg h2] at hb
        by_cases h3 : (i - 1) / 2 = (j - 1) / 2
        · rw [if_pos h3] at hb
          injection hb with hb
          rw [← hb]
          exact hw.tr _ _ _ (hw.tot _ _ hlt) (h.rest i a y hi h1 ha (h3 ▸ hy))
        · rw [if_neg h3] at hb
          exact h.rest i a b hi h1 ha hb
  · rw [hg] at ha hb
    have hpp : ((j - 1) / 2 - 1) / 2 ≠ (j - 1) / 2 := by omega
    have hpj : ((j - 1) / 2 - 1) / 2 ≠ j := by omega
    rw [if_neg hpj, if_neg hpp] at hb
    have hyb := h.rest ((j - 1) / 2) y b hj0 (by omega) hy hb
    by_cases h1 : i = j
    · subst h1
      rw [if_pos rfl] at ha
      injection ha with ha
      rw [← ha]
      exact hyb
    · rw [if_neg h1, if_neg (by omega)] at ha
      exact hw.tr _ _ _ hyb (h.rest i a y hi h1 ha (hij ▸ hy))
/-- the children of i -/
theorem half_iff {k i : Nat} (hk : 0 < k) : (k - 1) / 2 = i ↔ k = 2 * i + 1 ∨ k = 2 * i + 2 := by omega
theorem DnH.done {l : List α} {n i : Nat} (h : DnH lt l n i) (hj : ∀ k x y, (k = 2 * i + 1 ∨ k = 2 * i + 2) → k < n → l[k]? = some x → l[i]? = some y → lt x y = false) : ∀ k x y, 0 < k → k < n → l[k]? = some x → l[(k - 1) / 2]? = some y → lt x y = false := by
  intro k x y hk hkn hx hy
  by_cases h1 : (k - 1) / 2 = i
  · exact hj k x y ((half_iff hk).1 h1) hkn hx (h1 ▸ hy)
  · exact h.rest k x y hk hkn h1 hx hy
/-- the lesser child of i, j, is less than i: they change places -/
theorem DnH.step {l : List α} {n i j : Nat} (hw : Wk lt) (h : DnH lt l n i) (hj : j = 2 * i + 1 ∨ j = 2 * i + 2) (hjn : j < n) {x y : α} (hy : l[i]? = some y) (hx : l[j]? = some x) (hlt : lt x y = true) (hmin : ∀ k z, (k = 2 * i + 1 ∨ k = 2 * i + 2) → k < n → l[k]? = some z → lt z x = false) : DnH lt (swapL l i j) n j := by
  have hg := swapL_get hy hx
  have hji : (j - 1) / 2 = i := (half_iff (by omega)).2 hj
  refine ⟨fun k a b hk hkn hkj ha hb => ?_, fun k a b hj0 hk hkn hkj ha hb => ?_⟩
  · rw [hg] at ha hb
    rw [if_neg hkj] at hb
    by_cases h1 : k = j
    · subst h1
      rw [if_pos rfl] at ha
      rw [if_pos hji] at hb
      injection ha with ha
      injection hb with hb
      rw [← ha, ← hb]
      exact hw.tot _ _ hlt
    · rw [if_neg h1] at ha
      by_cases h2 : k = i
      · subst h2
        rw [if_pos rfl] at ha
        injection ha with ha
        rw [if_neg (by omega)] at hb
        rw [← ha]
        exact h.over j x b hk (by omega) hjn hji hx hb
      · rw [if_neg h2] at ha
        by_cases h3 : (k - 1) / 2 = i
        · rw [if_pos h3] at hb
          injection hb with hb
          rw [← hb]
          exact hmin k a ((half_iff hk).1 h3) hkn ha
        · rw [if_neg h3] at hb
          exact h.rest k a b hk hkn h3 ha hb
  · rw [hg] at ha hb
    have hkj' : k ≠ j := by omega
    rw [if_neg hkj', if_neg (by omega)] at ha
    rw [hji, if_neg (by omega), if_pos rfl] at hb
    injection hb with hb
    rw [← hb]
    exact h.rest k a x hk hkn (by omega) ha (hkj ▸ hx)
/-- a new one at the end -/
theorem IsH.push {l : List α} (h : IsH lt l) (x : α) : UpH lt (l ++ [x]) l.length := by
  refine ⟨fun i a b hi hij ha hb => ?_, fun i a b hj hi hij ha hb => ?_⟩
  · have hil := (List.getElem?_eq_some_iff.1 ha).1
    simp only [List.length_append, List.length_cons, List.length_nil] at hil
    rw [List.getElem?_append_left (by omega)] at ha hb
    exact h i a b hi ha hb
  · have hil := (List.getElem?_eq_some_iff.1 ha).1
    simp only [List.length_append, List.length_cons, List.length_nil] at hil
    omega
/-- the head turned -/
theorem IsH.turn {l : List α} (h : IsH lt l) (x : α) : DnH lt (l.set 0 x) l.length 0 := by
  refine ⟨fun k a b hk hkn hk0 ha hb => ?_, fun k a b h0 => by omega⟩
  rw [List.getElem?_set, if_neg (by omega)] at ha hb
  exact h k a b hk ha hb
/-- the last one goes to the head -/
theorem IsH.pop {l : List α} (h : IsH lt l) {x y : α} (hx : l[0]? = some x) (hy : l[l.length - 1]? = some y) : DnH lt (swapL l 0 (l.length - 1)) (l.length - 1) 0 := by
  have hg := swapL_get hx hy
  refine ⟨fun k a b hk hkn hk0 ha hb => ?_, fun k a b h0 => by omega⟩
  rw [hg] at ha hb
  rw [if_neg (by omega), if_neg (by omega)] at ha
  rw [if_neg (by omega), if_neg hk0] at hb
  exact h k a b hk ha hb
theorem IsH.of {l : List α} (h : ∀ k x y, 0 < k → k < l.length → l[k]? = some x → l[(k - 1) / 2]? = some y → lt x y = false) : IsH lt l := fun k x y hk hx hy => h k x y hk (List.getElem?_eq_some_iff.1 hx).1 hx hy
theorem IsH.take {l : List α} {n : Nat} (h : ∀ k x y, 0 < k → k < n → l[k]? = some x → l[(k - 1) / 2]? = some y → lt x y = false) : IsH lt (l.take n) := by
  intro k x y hk hx hy
  rw [List.getElem?_take] at hx hy
  split at hx
  · rename_i hkn
    rw [if_pos (by omega)] at hy
    exact h k x y hk hkn hx hy
  · cases hx
end
end Go.Proofs.YtailooldnelecaaDoor

namespace Go.Proofs.YtailooldnelecaaDoor
open Go.RowKit

theorem cellsIn_nil (W : World) : CellsIn [] W := fun k hk => by cases hk
theorem cellsIn_cons {k : Nat} {bs : List Nat} {W : World} (h : ∃ cs t fr, W.heap[k]? = some (.cells cs t fr)) (h' : CellsIn bs W) : CellsIn (k :: bs) W := fun i hi => by
  rcases List.mem_cons.1 hi with rfl | hi
  · exact h
  · exact h' i hi
theorem Blk.ex {w : World} {g : Nat} {t : TypeId} {cs : Array Value} (h : Blk w g t cs) : ∃ cs t fr, w.heap[g]? = some (.cells cs t fr) := ⟨_, _, _, h⟩
theorem ex_cell {w : World} {ad : Addr} {u : Value} (h : w.cell? ad = some u) : ∃ cs t fr, w.heap[ad.block]? = some (.cells cs t fr) := cellsIn_cell h _ (by simp)
theorem sameIn_of {S : Nat → Prop} {bs : List Nat} {W w : World} (hc : Chg S W w) (h : CellsIn bs W) (hn : ∀ k ∈ bs, ¬ S k) : SameIn bs W w := fun k hk => by
  obtain ⟨cs, t, fr, h1⟩ := h k hk
  exact hc.block k (Array.getElem?_eq_some_iff.1 h1).1 (hn k hk)
theorem RS.at0 {w : World} {A : Option Addr} {n : Nat} {ss : List Ser} (h : RS w A n ss) (hn : 0 < n) :
    ∃ ad m s, A = some ad ∧ ss[0]? = some s ∧ SrIs w m s ∧ w.cell? ad = some (.slice m.la m.ln m.lc) ∧ w.cell? ⟨ad.block, ad.off + 1, none⟩ = some (.slice m.pa m.pn m.pc) := by
  obtain ⟨ad, m, s, e, hs, hi, h1, h2⟩ := h.at_ hn
  have e0 : ad.add (0 * 2) = ad := rfl
  rw [e0] at h1 h2
  exact ⟨ad, m, s, e, hs, hi, h1, h2⟩
theorem RS.tl {w : World} {ad : Addr} {n c : Nat} {ss : List Ser} (h : RS w (some ad) n ss) (hn : 0 < n) (hc : n ≤ c) :
    RS w (if c = 1 then some ad else some { block := ad.block, off := ad.off + 2 }) (n - 1) (ss.drop 1) := by
  obtain ⟨ms, h1, h2, h3⟩ := h
  refine ⟨ms.drop 1, h1.tl (by decide) hn hc, by rw [List.length_drop, List.length_drop, h2], fun j m s hm hs => ?_⟩
  rw [List.getElem?_drop] at hm hs
  exact h3 _ m s hm hs

/-- a cursor: where it lies, and what it has left -/
structure Cur where
  g : Nat
  la : Option Addr
  ln : Nat
  lc : Nat
  ss : List Ser
def elCu : El Cur := ⟨fun x => [.pointer (some ⟨x.g, 0, none⟩)], 1, fun _ => rfl, by
  intro x u hu
  simp only [List.mem_cons, List.not_mem_nil, or_false] at hu
  rcases hu with rfl
  rfl⟩
def hdL (ss : List Ser) : List Lab := match ss with
  | s :: _ => s.lbs
  | [] => []
def ltC (x y : Cur) : Bool := decide (cmpLs (hdL x.ss) (hdL y.ss) < 0)
theorem wkC : Wk ltC where
  irr a := decide_eq_false (cmpLs_ok.irrefl _)
  tr a b c h1 h2 := by
    unfold ltC at *
    rw [decide_eq_false_iff_not] at *
    intro h3
    rcases cmpLs_ok.tri (hdL b.ss) (hdL c.ss) with h | h | h
    · have := cmpLs_ok.trans _ _ _ h h3
      exact h1 this
    · rw [← h] at h3
      exact h1 h3
    · exact h2 h
  tot a b h := by
    unfold ltC at *
    rw [decide_eq_true_iff] at h
    rw [decide_eq_false_iff_not]
    intro h2
    exact cmpLs_ok.irrefl _ (cmpLs_ok.trans _ _ _ h h2)
theorem OE.cu {w : World} {base n c : Nat} {t : TypeId} {A : Option Addr} {l : List Cur} (h : OE elCu w base t A n c l) {i : Nat} {x : Cur} (hx : l[i]? = some x) :
    ∃ g, A = some ⟨g, 0, none⟩ ∧ base ≤ g ∧ w.cell? ⟨g, i, none⟩ = some (.pointer (some ⟨x.g, 0, none⟩)) ∧ w.frozen? ⟨g, i, none⟩ = false ∧ i < n := by
  have hl := h.len (by decide)
  have hi := (List.getElem?_eq_some_iff.1 hx).1
  obtain ⟨g, e, hb, _, hc, hf, _⟩ := Own.at_ h (by omega)
  refine ⟨g, e, hb, ?_, hf i, by omega⟩
  rw [hc i (by show i < n * 1; omega)]
  have := elCu.flat_get l (k := i) (j := 0) hx (by decide)
  rw [show i * elCu.sz + 0 = i by show i * 1 + 0 = i; omega] at this
  rw [this]
  rfl

end Go.Proofs.YtailooldnelecaaDoor
