/-
  Several texts in one:
  A heap of cursors: moving up over the library's heap. Conditions: lengths that memory bears.
  A heap of cursors: moving down over the library's heap. Conditions: lengths that memory bears.
-/
import Derived.Test.YtjgbdkokcgcpjaaDoorPart18

namespace Go.Proofs.YtjgbdkokcgcpjaaDoor
open Go.RowKit

theorem HpAt.chg {S : Nat → Prop} {w0 w w' : World} {base hb n c : Nat} {A : Option Addr} {l l' : List Cur} (h : HpAt w0 w base hb A n c l) (hc : Chg S w w') (h1 : ¬ S hb) (h2 : ∀ x ∈ l, ¬ S x.g) (h3 : ∀ k, S k → base ≤ k)
    (hrow : OE elCu w' base 78 A n c l') (hp : ∀ x ∈ l', x ∈ l) : HpAt w0 w' base hb A n c l' :=
  ⟨h.box.chg hc h1, hrow, fun x hx => (h.cu x (hp x hx)).chg hc (h2 x (hp x hx)), h.far.step hc fun k _ hk => Nat.le_trans h.lo (h3 k hk), h.lo, Nat.le_trans h.hi hc.size, h.blo⟩
theorem HpAt.grew {w0 w w' : World} {base hb n c : Nat} {A : Option Addr} {l : List Cur} (h : HpAt w0 w base hb A n c l) (hc : Grew w w') : HpAt w0 w' base hb A n c l :=
  h.chg hc (fun e => e) (fun _ _ e => e) (fun _ e => e.elim) (h.row.grew hc) fun _ hx => hx
theorem HpAt.swap {w0 w w' : World} {base hb n c i j : Nat} {A : Option Addr} {l : List Cur} {x y : Cur} (h : HpAt w0 w base hb A n c l) (hi : l[i]? = some x) (hj : l[j]? = some y) (hc : Chg (fun k => ∃ ad, A = some ad ∧ k = ad.block) w w')
    (hrow : OE elCu w' base 78 A n c (swapL l i j)) : HpAt w0 w' base hb A n c (swapL l i j) :=
  h.chg hc (fun ⟨ad, e1, e2⟩ => Own.ne_blk h.row h.box (by decide) ad e1 e2.symm) (fun x hx ⟨ad, e1, e2⟩ => Own.ne_blk h.row (h.cu x hx).blk (by decide) ad e1 e2.symm) (fun k ⟨ad, e1, e2⟩ => by rw [e2]; exact (Own.blk_lt h.row ad e1).1) hrow fun x hx => (swapL_perm hi hj).subset hx
/-- none of the first m is spent -/
def Live (m : Nat) (l : List Cur) : Prop := ∀ i x, i < m → l[i]? = some x → 0 < x.ln
theorem Live.swap {m i j : Nat} {l : List Cur} (h : Live m l) (hi : i < m) (hj : j < m) : Live m (swapL l i j) := by
  intro k x hk hx
  unfold swapL at hx
  split at hx
  · rename_i y z hy hz
    rw [List.getElem?_set] at hx
    split at hx
    · split at hx
      · injection hx with hx
        rw [← hx]
        exact h i y hi hy
      · cases hx
    · rw [List.getElem?_set] at hx
      split at hx
      · split at hx
        · injection hx with hx
          rw [← hx]
          exact h j z hj hz
        · cases hx
      · exact h k x hk hx
  · exact h k x hk hx
theorem HpAt.less {w0 w w' : World} {base hb n c i j : Nat} {A : Option Addr} {l : List Cur} {x y : Cur} (h : HpAt w0 w base hb A n c l) (hn : n ≤ 1099511627776) (hi : l[i]? = some x) (hj : l[j]? = some y) (hxn : 0 < x.ln) (hyn : 0 < y.ln) (hc : Grew w w') :
    Calls Tryd.prog 118 #[.slice A n c, .int .i64 (i : Int), .int .i64 (j : Int)] w' fun e w2 => e = .returned (.bool (ltC x y)) ∧ Grew w' w2 :=
  less_cu A n c base base 78 l i j x y w0 w' (h.row.grew hc) (by omega) hi hj ((h.cu x (List.mem_of_getElem? hi)).grew hc) ((h.cu y (List.mem_of_getElem? hj)).grew hc) hxn hyn (h.grew hc).far

/-- what moving leaves -/
structure Moved (w0 w : World) (base hb : Nat) (A : Option Addr) (n c : Nat) (l l' : List Cur) (w' : World) : Prop where
  perm : l'.Perm l
  at_ : HpAt w0 w' base hb A n c l'
  chg : Chg (fun k => ∃ ad, A = some ad ∧ k = ad.block) w w'
theorem Moved.swap {w0 w w1 w' : World} {base hb n c i j : Nat} {A : Option Addr} {l l1 : List Cur} {x y : Cur} (h : Moved w0 w base hb A n c l l1 w1) (hi : l1[i]? = some x) (hj : l1[j]? = some y) (hc : Chg (fun k => ∃ ad, A = some ad ∧ k = ad.block) w1 w')
    (hrow : OE elCu w' base 78 A n c (swapL l1 i j)) : Moved w0 w base hb A n c l (swapL l1 i j) w' := ⟨(swapL_perm hi hj).trans h.perm, h.at_.swap hi hj hc hrow, h.chg.trans hc⟩
theorem Moved.grew {w0 w w1 w' : World} {base hb n c : Nat} {A : Option Addr} {l l1 : List Cur} (h : Moved w0 w base hb A n c l l1 w1) (hc : Grew w1 w') : Moved w0 w base hb A n c l l1 w' := ⟨h.perm, h.at_.grew hc, h.chg.grow hc⟩

set_option maxRecDepth 100000 in
set_option maxHeartbeats 2000000 in
theorem up_cu (w0 w : World) (base hb : Nat) (A : Option Addr) (n c j : Nat) (l : List Cur) (h : HpAt w0 w base hb A n c l) (hn : n ≤ 1099511627776) (hj : j < n) (hv : Live n l) (hu : UpH ltC l j) :
    Calls Tryd.prog 69 #[.iface 77 (.pointer (some ⟨hb, 0, none⟩)), .int .i64 (j : Int)] w fun e w' => e = .returned (.tuple #[]) ∧ ∃ l', IsH ltC l' ∧ Moved w0 w base hb A n c l l' w' := by
  have hM : Moved w0 w base hb A n c l l w := ⟨List.Perm.refl _, h, Chg.refl _ _⟩
  clear h
  go_enter Tryd.func69, Tryd.ntmps69
  go_wp2
  go_loopw [1] (fun jv wr => ∃ (k : Nat) (l1 : List Cur), jv = .int .i64 (k : Int) ∧ k < n ∧ Live n l1 ∧ UpH ltC l1 k ∧ Moved w0 w base hb A n c l l1 wr) (fun jv _ => (intOf jv).toNat)
  case atStart => exact ⟨j, l, rfl, hj, hv, hu, hM⟩
  case round =>
    clear hM hu hj hv
    obtain ⟨k, l1, rfl, hk, hv, hu, hM⟩ := hrel
    have b0 := hM.at_.box.cell 0
    have hll := hM.at_.row.len (by decide)
    replace hll := Lib.hid hll
    by_cases hk0 : k = 0
    · subst hk0
      have hd := hu.done (.inl rfl)
      go_wp2
      go_end0
      exact ⟨by simp, l1, hd, hM⟩
    · obtain ⟨p, hp⟩ : ∃ p, p = (k - 1) / 2 := ⟨_, rfl⟩
      have hq : ((k : Int) - 1) / 2 = (p : Int) := by omega
      have e1 : ((p : Int) == (k : Int)) = false := by simp; omega
      obtain ⟨x, hx⟩ : ∃ x, l1[k]? = some x := ⟨l1[k]'(by rw [hll.out]; omega), List.getElem?_eq_getElem _⟩
      obtain ⟨y, hy⟩ : ∃ y, l1[p]? = some y := ⟨l1[p]'(by rw [hll.out]; omega), List.getElem?_eq_getElem _⟩
      have m1 := fun f w' (hw : Grew wr w') => meth_less f ⟨hb, 0, none⟩ (.slice A n c) w' (hw.cell b0 fun e => e)
      have m2 := fun f w' (hw : Grew wr w') => meth_swap f ⟨hb, 0, none⟩ (.slice A n c) w' (hw.cell b0 fun e => e)
      have m1' := fun f => m1 f wr (Chg.refl _ _)
      replace m1 := Lib.hid m1
      replace m2 := Lib.hid m2
      have hL := hM.at_.less hn hx hy (hv _ _ hk hx) (hv _ _ (by omega) hy) (Chg.refl _ wr)
      have Hp := Lib.hid hp
      have Hx := Lib.hid hx
      have Hy := Lib.hid hy
      clear hp hx hy
      cases hlt : ltC x y
      · rw [hlt] at hL
        have hd := hu.done (.inr ⟨x, y, Hx.out, by rw [← Hp.out]; exact Hy.out, hlt⟩)
        replace hlt := Lib.hid hlt
        go_wp2_with fail
        refine hL.mono ?_
        rintro e w1 ⟨rfl, hg1⟩
        go_wp2
        go_end0
        exact ⟨by simp, l1, hd, hM.grew hg1⟩
      · rw [hlt] at hL
        have hvs := hv.swap (i := p) (j := k) (by have := Hp.out; omega) hk
        have hd := hu.step wkC (by omega) Hx.out (by rw [← Hp.out]; exact Hy.out) hlt
        rw [← Hp.out] at hd
        replace hlt := Lib.hid hlt
        go_wp2_with fail
        refine hL.mono ?_
        rintro e w1 ⟨rfl, hg1⟩
        have hM1 := hM.grew hg1
        have m2' := fun f => m2.out f w1 hg1
        go_wp2_with fail
        refine (swap_cu A n c base 78 l1 p k y x w1 hM1.at_.row (by omega) Hy.out Hx.out).mono ?_
        rintro e w2 ⟨rfl, hr2, hg2⟩
        have hM2 := hM1.swap Hy.out Hx.out hg2 hr2
        go_wp2
        go_roundw
        case rel => exact ⟨p, _, rfl, by have := Hp.out; omega, hvs, hd, hM2⟩
        case measure => have := Hp.out; simp [intOf] <;> omega
end Go.Proofs.YtjgbdkokcgcpjaaDoor

namespace Go.Proofs.YtjgbdkokcgcpjaaDoor
open Go.RowKit

/-- in order among the first m -/
def Ord (l : List Cur) (m : Nat) : Prop := ∀ k x y, 0 < k → k < m → l[k]? = some x → l[(k - 1) / 2]? = some y → ltC x y = false
theorem swapL_far {α : Type} {l : List α} {i j m : Nat} (hi : i < m) (hj : j < m) : ∀ q, m ≤ q → (swapL l i j)[q]? = l[q]? := by
  intro q hq
  unfold swapL
  split
  · rw [List.getElem?_set, if_neg (by omega), List.getElem?_set, if_neg (by omega)]
  · rfl

def FarS (m : Nat) (l l' : List Cur) : Prop := ∀ q, m ≤ q → l'[q]? = l[q]?
theorem ltmin {l1 : List Cur} {m k p : Nat} {x y : Cur} (hu : DnH ltC l1 m k) (hy : l1[k]? = some y) (hmin : ∀ q z, (q = 2 * k + 1 ∨ q = 2 * k + 2) → q < m → l1[q]? = some z → ltC z x = false) (hlt : ltC x y = false) (_ : l1[p]? = some x) : Ord l1 m :=
  hu.done (fun q z y' hq hqm hz hy' => by
    have h1 := hmin q z hq hqm hz
    rw [hy] at hy'
    injection hy' with hy'
    rw [← hy']
    exact wkC.tr _ _ _ hlt h1)

set_option maxRecDepth 100000 in
set_option maxHeartbeats 4000000 in
theorem down_cu (w0 w : World) (base hb : Nat) (A : Option Addr) (n c m : Nat) (l : List Cur) (h : HpAt w0 w base hb A n c l) (hn : n ≤ 1099511627776) (hm : m ≤ n) (hn0 : 0 < n) (hv : Live m l) (hu : DnH ltC l m 0) :
    Calls Tryd.prog 70 #[.iface 77 (.pointer (some ⟨hb, 0, none⟩)), .int .i64 0, .int .i64 (m : Int)] w fun e w' => (∃ b, e = .returned (.bool b)) ∧ ∃ l', Ord l' m ∧ FarS m l l' ∧ Moved w0 w base hb A n c l l' w' := by
  have hM : Moved w0 w base hb A n c l l w := ⟨List.Perm.refl _, h, Chg.refl _ _⟩
  clear h
  have hf : FarS m l l := fun _ _ => rfl
  go_enter Tryd.func70, Tryd.ntmps70
  go_wp2
  go_loopw [7] (fun jv wr => ∃ (k : Nat) (l1 : List Cur), jv = .int .i64 (k : Int) ∧ k < n ∧ Live m l1 ∧ DnH ltC l1 m k ∧ FarS m l l1 ∧ Moved w0 w base hb A n c l l1 wr) (fun jv _ => n - (intOf jv).toNat)
  case atStart => exact ⟨0, l, rfl, hn0, hv, hu, hf, hM⟩
  case round =>
    clear hM hu hf hv
    obtain ⟨k, l1, rfl, hk, hv, hu, hf, hM⟩ := hrel
    have b0 := hM.at_.box.cell 0
    have hll := hM.at_.row.len (by decide)
    replace hll := Lib.hid hll
    obtain ⟨p1, hp1⟩ : ∃ p1, p1 = 2 * k + 1 := ⟨_, rfl⟩
    have q1 : 2 * (k : Int) + 1 = (p1 : Int) := by omega
    by_cases hA : p1 < m
    · obtain ⟨y, hy⟩ : ∃ y, l1[k]? = some y := ⟨l1[k]'(by rw [hll.out]; omega), List.getElem?_eq_getElem _⟩
      obtain ⟨x1, hx1⟩ : ∃ x, l1[p1]? = some x := ⟨l1[p1]'(by rw [hll.out]; omega), List.getElem?_eq_getElem _⟩
      have m1 := fun f w' (hw : Grew wr w') => meth_less f ⟨hb, 0, none⟩ (.slice A n c) w' (hw.cell b0 fun e => e)
      have m2 := fun f w' (hw : Grew wr w') => meth_swap f ⟨hb, 0, none⟩ (.slice A n c) w' (hw.cell b0 fun e => e)
      have m1' := fun f => m1 f wr (Chg.refl _ _)
      replace m1 := Lib.hid m1
      replace m2 := Lib.hid m2
      have Hp1 := Lib.hid hp1
      have Hy := Lib.hid hy
      have Hx1 := Lib.hid hx1
      clear hp1 hy hx1
      have e1 : decide (m ≤ p1) = false := by simpa using hA
      have e2 : decide ((p1 : Int) < 0) = false := by simp
      by_cases hB : p1 + 1 < m
      · obtain ⟨p2, hp2⟩ : ∃ p2, p2 = p1 + 1 := ⟨_, rfl⟩
        have q2 : (p1 : Int) + 1 = (p2 : Int) := by omega
        obtain ⟨x2, hx2⟩ : ∃ x, l1[p2]? = some x := ⟨l1[p2]'(by rw [hll.out]; omega), List.getElem?_eq_getElem _⟩
        have hp2m : p2 < m := by omega
        have Hp2 := Lib.hid hp2
        have Hx2 := Lib.hid hx2
        clear hp2 hx2
        have e3 : decide (p2 < m) = true := decide_eq_true hp2m
        have hL0 := hM.at_.less hn Hx2.out Hx1.out (hv _ _ hp2m Hx2.out) (hv _ _ hA Hx1.out) (Chg.refl _ wr)
        cases hb12 : ltC x2 x1
        · rw [hb12] at hL0
          have hmin : Hid (∀ q z, (q = 2 * k + 1 ∨ q = 2 * k + 2) → q < m → l1[q]? = some z → ltC z x1 = false) := fun q z hq hqm hz => by
            have := Hp1.out
            have := Hp2.out
            by_cases hqq : q = p1
            · subst hqq
              rw [Hx1.out] at hz
              injection hz with hz
              rw [hz]
              exact wkC.irr _
            · obtain rfl : q = p2 := by omega
              rw [Hx2.out] at hz
              injection hz with hz
              rw [← hz]
              exact hb12
          cases hlt : ltC x1 y
          · have hd := Lib.hid (ltmin hu Hy.out hmin.out hlt Hx1.out)
            go_wp2_with fail
            refine hL0.mono ?_
            rintro e w1 ⟨rfl, hg1⟩
            have hM1 := hM.grew hg1
            have hL := hM.at_.less hn Hx1.out Hy.out (hv _ _ hA Hx1.out) (hv _ _ (by have := Hp1.out; omega) Hy.out) hg1
            rw [hlt] at hL
            have m1'' := fun f => m1.out f w1 hg1
            go_wp2_with fail
            refine hL.mono ?_
            rintro e w2 ⟨rfl, hg2⟩
            go_wp2
            go_ret
            exact ⟨⟨_, rfl⟩, l1, hd.out, hf, hM1.grew hg2⟩
          · have hd := hu.step wkC (.inl Hp1.out) hA Hy.out Hx1.out hlt hmin.out
            have hvs := hv.swap (i := k) (j := p1) (by have := Hp1.out; omega) (by omega)
            have hfs : FarS m l (swapL l1 k p1) := fun q hq => (swapL_far (by have := Hp1.out; omega) hA q hq).trans (hf q hq)
            go_wp2_with fail
            refine hL0.mono ?_
            rintro e w1 ⟨rfl, hg1⟩
            have hM1 := hM.grew hg1
            have hL := hM.at_.less hn Hx1.out Hy.out (hv _ _ hA Hx1.out) (hv _ _ (by have := Hp1.out; omega) Hy.out) hg1
            rw [hlt] at hL
            have m1'' := fun f => m1.out f w1 hg1
            go_wp2_with fail
            refine hL.mono ?_
            rintro e w2 ⟨rfl, hg2⟩
            have hM2 := hM1.grew hg2
            have m2' := fun f => m2.out f w2 (hg1.trans hg2)
            go_wp2_with fail
            refine (swap_cu A n c base 78 l1 k p1 y x1 w2 hM2.at_.row (by omega) Hy.out Hx1.out).mono ?_
            rintro e w3 ⟨rfl, hr3, hg3⟩
            have hM3 := hM2.swap Hy.out Hx1.out hg3 hr3
            go_wp2
            go_roundw
            case rel => exact ⟨p1, _, rfl, by omega, hvs, hd, hfs, hM3⟩
            case measure => have := Hp1.out; simp [intOf] <;> omega
        · rw [hb12] at hL0
          have hmin : Hid (∀ q z, (q = 2 * k + 1 ∨ q = 2 * k + 2) → q < m → l1[q]? = some z → ltC z x2 = false) := fun q z hq hqm hz => by
            have := Hp1.out
            have := Hp2.out
            by_cases hqq : q = p1
            · subst hqq
              rw [Hx1.out] at hz
              injection hz with hz
              rw [← hz]
              exact wkC.tot _ _ hb12
            · obtain rfl : q = p2 := by omega
              rw [Hx2.out] at hz
              injection hz with hz
              rw [hz]
              exact wkC.irr _
          cases hlt : ltC x2 y
          · have hd := Lib.hid (ltmin hu Hy.out hmin.out hlt Hx2.out)
            go_wp2_with fail
            refine hL0.mono ?_
            rintro e w1 ⟨rfl, hg1⟩
            have hM1 := hM.grew hg1
            have hL := hM.at_.less hn Hx2.out Hy.out (hv _ _ hp2m Hx2.out) (hv _ _ (by have := Hp1.out; omega) Hy.out) hg1
            rw [hlt] at hL
            have m1'' := fun f => m1.out f w1 hg1
            go_wp2_with fail
            refine hL.mono ?_
            rintro e w2 ⟨rfl, hg2⟩
            go_wp2
            go_ret
            exact ⟨⟨_, rfl⟩, l1, hd.out, hf, hM1.grew hg2⟩
          · have hd := hu.step wkC (.inr (by have := Hp1.out; have := Hp2.out; omega)) hp2m Hy.out Hx2.out hlt hmin.out
            have hvs := hv.swap (i := k) (j := p2) (by have := Hp1.out; omega) (by omega)
            have hfs : FarS m l (swapL l1 k p2) := fun q hq => (swapL_far (by have := Hp1.out; omega) hp2m q hq).trans (hf q hq)
            go_wp2_with fail
            refine hL0.mono ?_
            rintro e w1 ⟨rfl, hg1⟩
            have hM1 := hM.grew hg1
            have hL := hM.at_.less hn Hx2.out Hy.out (hv _ _ hp2m Hx2.out) (hv _ _ (by have := Hp1.out; omega) Hy.out) hg1
            rw [hlt] at hL
            have m1'' := fun f => m1.out f w1 hg1
            go_wp2_with fail
            refine hL.mono ?_
            rintro e w2 ⟨rfl, hg2⟩
            have hM2 := hM1.grew hg2
            have m2' := fun f => m2.out f w2 (hg1.trans hg2)
            go_wp2_with fail
            refine (swap_cu A n c base 78 l1 k p2 y x2 w2 hM2.at_.row (by omega) Hy.out Hx2.out).mono ?_
            rintro e w3 ⟨rfl, hr3, hg3⟩
            have hM3 := hM2.swap Hy.out Hx2.out hg3 hr3
            go_wp2
            go_roundw
            case rel => exact ⟨p2, _, rfl, by omega, hvs, hd, hfs, hM3⟩
            case measure => have := Hp1.out; have := Hp2.out; simp [intOf] <;> omega
      · have e3 : decide ((p1 : Int) + 1 < (m : Int)) = false := by simp; omega
        have hmin : Hid (∀ q z, (q = 2 * k + 1 ∨ q = 2 * k + 2) → q < m → l1[q]? = some z → ltC z x1 = false) := fun q z hq hqm hz => by
          have := Hp1.out
          obtain rfl : q = p1 := by omega
          rw [Hx1.out] at hz
          injection hz with hz
          rw [hz]
          exact wkC.irr _
        have hL := hM.at_.less hn Hx1.out Hy.out (hv _ _ hA Hx1.out) (hv _ _ (by have := Hp1.out; omega) Hy.out) (Chg.refl _ wr)
        cases hlt : ltC x1 y
        · rw [hlt] at hL
          have hd := Lib.hid (ltmin hu Hy.out hmin.out hlt Hx1.out)
          go_wp2_with fail
          refine hL.mono ?_
          rintro e w1 ⟨rfl, hg1⟩
          go_wp2
          go_ret
          exact ⟨⟨_, rfl⟩, l1, hd.out, hf, hM.grew hg1⟩
        · rw [hlt] at hL
          have hd := hu.step wkC (.inl Hp1.out) hA Hy.out Hx1.out hlt hmin.out
          have hvs := hv.swap (i := k) (j := p1) (by have := Hp1.out; omega) (by omega)
          have hfs : FarS m l (swapL l1 k p1) := fun q hq => (swapL_far (by have := Hp1.out; omega) hA q hq).trans (hf q hq)
          go_wp2_with fail
          refine hL.mono ?_
          rintro e w1 ⟨rfl, hg1⟩
          have hM1 := hM.grew hg1
          have m2' := fun f => m2.out f w1 hg1
          go_wp2_with fail
          refine (swap_cu A n c base 78 l1 k p1 y x1 w1 hM1.at_.row (by omega) Hy.out Hx1.out).mono ?_
          rintro e w2 ⟨rfl, hr2, hg2⟩
          have hM2 := hM1.swap Hy.out Hx1.out hg2 hr2
          go_wp2
          go_roundw
          case rel => exact ⟨p1, _, rfl, by omega, hvs, hd, hfs, hM2⟩
          case measure => have := Hp1.out; simp [intOf] <;> omega
    · have hd := hu.done (fun q z y' hq hqm hz hy' => by omega)
      have e1 : decide (m ≤ p1) = true := by simp; omega
      replace hd := Lib.hid hd
      replace hp1 := Lib.hid hp1
      go_wp2
      go_ret
      exact ⟨⟨_, rfl⟩, l1, hd.out, hf, hM⟩
end Go.Proofs.YtjgbdkokcgcpjaaDoor
