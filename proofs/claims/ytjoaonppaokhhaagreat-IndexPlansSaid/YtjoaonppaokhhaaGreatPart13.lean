/-
  Several texts in one:
  The statements' own copies of indexes and of rows of IDs. Conditions: lengths that memory bears.
  (index.find) walked: a binary search by a function. Conditions: IDs that rise.
  A row of numbers as an array, two of its places swapped; (cmp.Less) of numbers. Conditions: lengths that a slice has.
-/
import Derived.Test.YtjoaonppaokhhaaGreatPart12
import Derived.Test.YtjoaonppaokhhaaGreatPart2
import Derived.Sort.AssemblyPlain

namespace Go.Proofs.YtjoaonppaokhhaaGreat
open Go.RowKit

set_option maxRecDepth 100000 in
set_option maxHeartbeats 4000000 in
theorem copyIds_any (A : Option Addr) (n c : Nat) (l : List Nat) (w : World) (h : RE elU w A n l) (hn : n ≤ 17592186043904) :
    Calls Tryz.prog 38 #[.slice A n c] w fun e w' => ∃ B C, e = .returned (.slice B n C) ∧ OE elU w' w.heap.size 22 B n C l ∧ Grew w w' := by
  have oL : OE elU (w.alloc (.cells #[] 22)) w.heap.size 22 (some ⟨w.heap.size, 0, none⟩) 0 0 [] := OE.made w w.heap.size 22 (Nat.le_refl _)
  have rL := h.grew ((Chg.refl _ w).alloc (.cells #[] 22))
  go_enter Tryz.func38, Tryz.ntmps38
  go_wp2_with (at_builtin; go_loud (refine wpList_appE rfl _ _ 26 22 infoU64 rfl Tryz.underlying26 rfl w.heap.size (some ⟨w.heap.size, 0, none⟩) 0 0 [] rfl oL (by simp) A n c l rfl rL (by unfold maxLen; omega) (by omega) ?_); intro A2 c2 w2 h2)
  go_ret
  exact ⟨A2, c2, rfl, h2.at00, h2.grew ((Chg.refl _ w).alloc _) (head_le0 (Nat.le_refl _))⟩

set_option maxRecDepth 100000 in
set_option maxHeartbeats 4000000 in
theorem copyIndex_any (v : Nat) (fl : Int) (A : Option Addr) (n c : Nat) (es : List Ent) (w : World) (h : RX w A n es) (hf : Fit es) :
    Calls Tryz.prog 8 #[.agg #[.int .u64 (v : Int), .int .i64 fl, .slice A n c]] w fun e w' => ∃ B C, e = .returned (.agg #[.int .u64 (v : Int), .int .i64 fl, .slice B n C]) ∧ NX w' w.heap.size B n C es ∧ Grew w w' := by
  have hln : es.length = n := h.len
  have hn : n ≤ 1599289640354 := by rw [← hln]; exact hf.n
  replace hln := Lib.hid hln
  replace hf := Lib.hid hf
  go_enter Tryz.func8, Tryz.ntmps8
  go_wp2
  go_loopw [4] (fun i wr => ∃ (k : Nat) (B : Option Addr) (C : Nat), k ≤ n ∧ i = .int .i64 (k : Int) ∧ Blk wr w.heap.size 25 #[.int .u64 (v : Int), .int .i64 fl, .slice A n c] ∧ Blk wr (w.heap.size + 2) 25 #[.int .u64 (v : Int), .int .i64 fl, .slice B k C] ∧
    (∃ x y z, Blk wr (w.heap.size + 1) 25 #[x, y, z]) ∧ NX wr w.heap.size B k C (es.take k) ∧ Grew w wr) (fun i _ => n - (intOf i).toNat)
  case atStart =>
    obtain ⟨w1, hw1⟩ : ∃ w1, w1 = w.alloc (.cells #[.int .u64 (v : Int), .int .i64 fl, .slice A n c] 25) := ⟨_, rfl⟩
    have s1 : w1.heap.size = w.heap.size + 1 := by rw [hw1]; simp
    have k0 : Blk w1 w.heap.size 25 #[.int .u64 (v : Int), .int .i64 fl, .slice A n c] := by rw [hw1]; exact Blk.new _ _ _
    obtain ⟨w2, hw2⟩ : ∃ w2, w2 = w1.alloc (.cells #[.int .u64 0, .int .i64 0, .slice none 0 0] 25) := ⟨_, rfl⟩
    have s2 : w2.heap.size = w.heap.size + 2 := by rw [hw2]; simp [s1]
    have k1 : Blk w2 (w.heap.size + 1) 25 #[.int .u64 0, .int .i64 0, .slice none 0 0] := by rw [hw2, ← s1]; exact Blk.new _ _ _
    have k00 : Blk w2 w.heap.size 25 #[.int .u64 (v : Int), .int .i64 fl, .slice A n c] := by rw [hw2]; exact k0.alloc _
    have g2 : Grew w w2 := by rw [hw2, hw1]; exact ((Chg.refl _ w).alloc _).alloc _
    have k2 := Blk.new w2 25 #[.int .u64 (v : Int), .int .i64 fl, .slice none 0 0]
    rw [s2] at k2
    rw [← hw1, ← hw2]
    exact ⟨0, none, 0, by omega, rfl, k00.alloc _, k2, ⟨_, _, _, k1.alloc _⟩, NX.nil _ _, g2.alloc _⟩
  case round =>
    obtain ⟨k, B, C, hk, rfl, hbi, hbo, ⟨r0, r1, r2, hbr⟩, ho, hg⟩ := hrel
    have i2 := hbi.cell 2
    simp only [List.getElem?_toArray, List.getElem?_cons_succ, List.getElem?_cons_zero] at i2
    by_cases hlt : k < n
    · obtain ⟨ad, m, rfl, hx, hm, x0, x1, x2, x3, x4, x5, x6, x7, x8⟩ := (h.grew hg).at_ hlt
      obtain ⟨W, hW⟩ : ∃ W, W = wr.alloc (.cells #[.int .u64 (m.e.m.id : Int), .int .i64 m.e.m.lo, .int .i64 m.e.m.hi, .int .i64 m.e.m.lv, .slice m.A m.n m.c, .int .i64 m.e.m.sr, .int .i64 m.e.m.pt, .bool m.e.mkd, .int .i64 m.e.tm] 51) := ⟨_, rfl⟩
      have hgW : Grew wr W := by rw [hW]; exact (Chg.refl _ wr).alloc _
      have hbW : Blk W wr.heap.size 51 #[.int .u64 (m.e.m.id : Int), .int .i64 m.e.m.lo, .int .i64 m.e.m.hi, .int .i64 m.e.m.lv, .slice m.A m.n m.c, .int .i64 m.e.m.sr, .int .i64 m.e.m.pt, .bool m.e.mkd, .int .i64 m.e.tm] := by rw [hW]; exact Blk.new wr _ _
      have hgg : Grew w W := hg.trans hgW
      have hsz := hg.size
      have hns : m.n ≤ 17592186043904 := by rw [← hm.row.1]; exact hf.out.el m.e (List.mem_of_getElem? hx)
      have hI := copyIds_any m.A m.n m.c m.e.m.src W (hm.row.grew hgW) hns
      obtain ⟨ms, hms, hmt⟩ := ho.op
      have hCc := hms.row.cap
      have htk := fun A2 c2 => map_snoc (f := EnM.e) (x := ⟨m.e, A2, m.n, c2⟩) hmt hx
      replace htk := Lib.hid htk
      have hne : ∀ ad', B = some ad' → ad'.block ≠ wr.heap.size := fun ad' e => by have := (Own.blk_lt hms.row ad' e).2; omega
      have hlo := hbo.lt
      have hlr := hbr.lt
      have hli := hbi.lt
      clear hx hmt ho
      go_wp2_with fail
      rw [← hW]
      refine hI.mono ?_
      rintro e w2 ⟨A2, c2, rfl, h2, g2⟩
      obtain ⟨b2, hA⟩ := copy_a hg hgW g2 hsz hbW hbo hbr hms hne (Own.mono h2 (by rw [hW]; simp; omega)) ⟨by omega, by omega⟩
      have hbi6 := (hbi.grew (hgW.trans g2)).far (p := ⟨wr.heap.size, 4, none⟩) (by show w.heap.size ≠ wr.heap.size; omega) (.slice A2 m.n c2)
      clear x0 x1 x2 x3 x4 x5 x6 x7 x8 hI hW
      have q4 := b2.cell 4
      have qf := b2.frozen 4
      have e0 := hA.bx.cell 0
      have e1 := hA.bx.cell 1
      have e2 := hA.bx.cell 2
      have e3 := hA.bx.cell 3
      have e4 := hA.bx.cell 4
      have e5 := hA.bx.cell 5
      have e6 := hA.bx.cell 6
      have e7 := hA.bx.cell 7
      have e8 := hA.bx.cell 8
      have e9 := hA.bo.cell 2
      simp only [List.getElem?_toArray, List.getElem?_cons_succ, List.getElem?_cons_zero] at q4 e0 e1 e2 e3 e4 e5 e6 e7 e8 e9
      go_wp2_with (at_builtin; have hsrc : RE elEn ((w2.setCell ⟨wr.heap.size, 4, none⟩ (.slice A2 m.n c2)).alloc (.cells #[.int .u64 (m.e.m.id : Int), .int .i64 m.e.m.lo, .int .i64 m.e.m.hi, .int .i64 m.e.m.lv, .slice A2 m.n c2, .int .i64 m.e.m.sr, .int .i64 m.e.m.pt, .bool m.e.mkd, .int .i64 m.e.tm] 51)) (some ⟨w2.heap.size, 0, none⟩) 1 [⟨m.e, A2, m.n, c2⟩] := RE.newAt (by simp) rfl rfl; have hro := hA.ho.row.grew ((Chg.refl _ _).alloc (.cells #[.int .u64 (m.e.m.id : Int), .int .i64 m.e.m.lo, .int .i64 m.e.m.hi, .int .i64 m.e.m.lv, .slice A2 m.n c2, .int .i64 m.e.m.sr, .int .i64 m.e.m.pt, .bool m.e.mkd, .int .i64 m.e.tm] 51)); have hgs := hA.hg.size; go_loud (refine wpList_appE rfl _ _ 23 51 infoEn rfl Tryz.underlying23 rfl w.heap.size B k C ms rfl hro (by simp at hgs ⊢; omega) _ 1 1 [⟨m.e, A2, m.n, c2⟩] rfl hsrc (by unfold maxLen; omega) (by omega) ?_); intro B2 C2 w5 h5; obtain ⟨b5, b6, b7, b8, b9⟩ := copy_b hA (htk.out A2 c2) (by omega) (by omega) h5; have hbi7 := (h5.ne_blk hro (hbi6.alloc _) (by decide)).far (p := ⟨w.heap.size + 2, 2, none⟩) (by show w.heap.size ≠ w.heap.size + 2; omega) (.slice B2 (k + 1) C2); have u2 := b5.cell 2; have uf := b5.frozen 2; simp only [List.getElem?_toArray, List.getElem?_cons_succ, List.getElem?_cons_zero] at u2)
      go_roundw
      case rel => exact ⟨k + 1, B2, C2, by omega, by go_num, hbi7, b6, b7, b8, b9⟩
      case measure => simp [intOf]; omega
    · obtain rfl : k = n := by omega
      rw [List.take_of_length_le (by have := hln.out; omega)] at ho
      have b0 := hbo.cell 0
      have b1 := hbo.cell 1
      have b2 := hbo.cell 2
      have r0 := hbr.cell 0
      have r1 := hbr.cell 1
      have r2 := hbr.cell 2
      have f0 := hbr.frozen 0
      have f1 := hbr.frozen 1
      have f2 := hbr.frozen 2
      go_wp2
      refine bodyPost_ret (v := .agg #[.int .u64 (v : Int), .int .i64 fl, .slice B k C]) ?_ rfl ⟨B, C, rfl, ho.far3 hbr (by decide) (by decide) _ _ _, hg.far3 (by omega) _ _ _⟩
      have q := hbr.put3 (.int .u64 (v : Int)) (.int .i64 fl) (.slice B k C)
      have q0 := q.cell 0
      have q1 := q.cell 1
      have q2 := q.cell 2
      simp [results, Tryz.results8, go_sem, q0, q1, q2]
end Go.Proofs.YtjoaonppaokhhaaGreat

namespace Go.Proofs.YtjoaonppaokhhaaGreat
open Go.RowKit

theorem posI_of : ∀ {es : List Ent} {i x : Nat}, i ≤ es.length → (∀ t e, t < i → es[t]? = some e → e.m.id < x) → (∀ t e, i ≤ t → es[t]? = some e → x ≤ e.m.id) → posI es x = i
  | [], i, x, hi, _, _ => by
    have : i = 0 := by simpa using hi
    subst this
    rfl
  | a :: r, 0, x, _, _, h2 => by
    unfold posI
    rw [List.countP_eq_zero]
    intro e he
    obtain ⟨t, ht⟩ := List.mem_iff_getElem?.1 he
    have := h2 t e (Nat.zero_le _) ht
    simp only [decide_eq_true_eq]
    omega
  | a :: r, i + 1, x, hi, h1, h2 => by
    have ha := h1 0 a (Nat.succ_pos _) rfl
    have ih := posI_of (es := r) (i := i) (x := x) (by simpa using hi) (fun t e ht he => h1 (t + 1) e (by omega) (by simpa using he)) (fun t e ht he => h2 (t + 1) e (by omega) (by simpa using he))
    unfold posI at ih ⊢
    rw [List.countP_cons_of_pos (by simpa using ha), ih]
/-- how two numbers compare -/
def cmpN (a b : Nat) : Int := if a < b then -1 else if b < a then 1 else 0
theorem cmpN_lt {a b : Nat} (h : a < b) : cmpN a b = -1 := by unfold cmpN; rw [if_pos h]
theorem cmpN_gt {a b : Nat} (h : b < a) : cmpN a b = 1 := by unfold cmpN; rw [if_neg (by omega), if_pos h]
theorem cmpN_eq (a : Nat) : cmpN a a = 0 := by unfold cmpN; rw [if_neg (by omega), if_neg (by omega)]

set_option maxRecDepth 100000 in
set_option maxHeartbeats 4000000 in
theorem isNaNU_any (a : Nat) (w : World) : Calls Tryz.prog 105 #[.int .u64 (a : Int)] w fun e w' => e = .returned (.bool false) ∧ w' = w := by
  go_enter Tryz.func105, Tryz.ntmps105
  go_wp2
  go_ret
  exact ⟨by simp, rfl⟩
set_option maxRecDepth 100000 in
set_option maxHeartbeats 4000000 in
theorem compareU_any (a b : Nat) (w : World) : Calls Tryz.prog 78 #[.int .u64 (a : Int), .int .u64 (b : Int)] w fun e w' => e = .returned (.int .i64 (cmpN a b)) ∧ w' = w := by
  have hA := fun w => isNaNU_any a w
  have hB := fun w => isNaNU_any b w
  rcases Nat.lt_trichotomy a b with h | rfl | h
  · rw [cmpN_lt h]
    go_enter Tryz.func78, Tryz.ntmps78
    go_wp2_with fail
    refine (hA _).mono ?_
    rintro e w1 ⟨rfl, rfl⟩
    go_wp2_with fail
    refine (hB _).mono ?_
    rintro e w1 ⟨rfl, rfl⟩
    go_wp2
    go_ret
    exact ⟨rfl, rfl⟩
  · rw [cmpN_eq]
    go_enter Tryz.func78, Tryz.ntmps78
    go_wp2_with fail
    refine (hA _).mono ?_
    rintro e w1 ⟨rfl, rfl⟩
    go_wp2_with fail
    refine (hB _).mono ?_
    rintro e w1 ⟨rfl, rfl⟩
    go_wp2
    go_ret
    exact ⟨rfl, rfl⟩
  · rw [cmpN_gt h]
    go_enter Tryz.func78, Tryz.ntmps78
    go_wp2_with fail
    refine (hA _).mono ?_
    rintro e w1 ⟨rfl, rfl⟩
    go_wp2_with fail
    refine (hB _).mono ?_
    rintro e w1 ⟨rfl, rfl⟩
    go_wp2
    go_ret
    exact ⟨rfl, rfl⟩
set_option maxRecDepth 100000 in
set_option maxHeartbeats 4000000 in
theorem find1_any (m : EnM) (x : Nat) (w : World) :
    Calls Tryz.prog 83 #[.agg #[.int .u64 (m.e.m.id : Int), .int .i64 m.e.m.lo, .int .i64 m.e.m.hi, .int .i64 m.e.m.lv, .slice m.A m.n m.c, .int .i64 m.e.m.sr, .int .i64 m.e.m.pt, .bool m.e.mkd, .int .i64 m.e.tm], .int .u64 (x : Int)] w
      fun e w' => e = .returned (.int .i64 (cmpN m.e.m.id x)) ∧ Grew w w' := by
  have hC := fun w => compareU_any m.e.m.id x w
  generalize cmpN m.e.m.id x = z at *
  go_enter Tryz.func83, Tryz.ntmps83
  go_wp2_with fail
  refine (hC _).mono ?_
  rintro e w1 ⟨rfl, rfl⟩
  go_wp2
  go_ret
  exact ⟨rfl, (Chg.refl _ _).alloc _⟩

/-- what stands at a place, against an ID -/
structure Bnd (es : List Ent) (x lo hi : Nat) : Prop where
  lt : ∀ t e, t < lo → es[t]? = some e → e.m.id < x
  ge : ∀ t e, hi ≤ t → es[t]? = some e → x ≤ e.m.id
theorem Srt.le {es : List Ent} (h : Srt es) {i j : Nat} {a b : Ent} (hij : i ≤ j) (ha : es[i]? = some a) (hb : es[j]? = some b) : a.m.id ≤ b.m.id := by
  rcases Nat.lt_or_ge i j with h1 | h1
  · unfold Srt at h
    rw [List.pairwise_iff_getElem] at h
    obtain ⟨hi, rfl⟩ := List.getElem?_eq_some_iff.1 ha
    obtain ⟨hj, rfl⟩ := List.getElem?_eq_some_iff.1 hb
    exact Nat.le_of_lt (h i j hi hj h1)
  · obtain rfl : i = j := by omega
    rw [ha] at hb
    injection hb with hb
    subst hb
    exact Nat.le_refl _

set_option maxRecDepth 100000 in
set_option maxHeartbeats 4000000 in
theorem search_any (A : Option Addr) (n c : Nat) (es : List Ent) (x : Nat) (w : World) (h : RX w A n es) (hs : Srt es) (hn : n ≤ 1599289640354) :
    Calls Tryz.prog 82 #[.slice A n c, .int .u64 (x : Int), .func (.func 83) #[] #[]] w
      fun e w' => e = .returned (.tuple #[.int .i64 (posI es x : Int), .bool (foundI es x)]) ∧ Grew w w' := by
  have hln : es.length = n := h.len
  replace hln := Lib.hid hln
  replace hs := Lib.hid hs
  have hb0 : Hid (Bnd es x 0 n) := Lib.hid ⟨fun t e ht => by omega, fun t e ht he => by
    have := (List.getElem?_eq_some_iff.1 he).1
    have := hln.out
    omega⟩
  obtain ⟨z1, hz1⟩ : ∃ z1, posI es x = z1 := ⟨_, rfl⟩
  obtain ⟨z2, hz2⟩ : ∃ z2, foundI es x = z2 := ⟨_, rfl⟩
  rw [hz1, hz2]
  replace hz1 := Lib.hid hz1
  replace hz2 := Lib.hid hz2
  go_enter Tryz.func82, Tryz.ntmps82
  go_wp2
  go_loopw [9, 10] (fun i j wr => ∃ lo hi : Nat, i = .int .i64 (lo : Int) ∧ j = .int .i64 (hi : Int) ∧ lo ≤ hi ∧ hi ≤ n ∧ Hid (Bnd es x lo hi) ∧ Grew w wr) (fun i j _ => (intOf j).toNat - (intOf i).toNat)
  case atStart => exact ⟨0, n, rfl, rfl, by omega, by omega, hb0, Chg.refl _ _⟩
  case round =>
    obtain ⟨lo, hi, rfl, rfl, hlh, hin, hb, hg⟩ := hrel
    by_cases hlt : lo < hi
    · obtain ⟨ad, m, rfl, hx, hm, x0, x1, x2, x3, x4, x5, x6, x7, x8⟩ := (h.grew hg).at_ (k := (lo + hi) / 2) (by omega)
      have hC := fun w => find1_any m x w
      by_cases hlx : m.e.m.id < x
      · have hb2 : Hid (Bnd es x ((lo + hi) / 2 + 1) hi) := Lib.hid ⟨fun t e ht he => Nat.lt_of_le_of_lt (hs.out.le (by omega) he hx) hlx, hb.out.ge⟩
        rw [cmpN_lt hlx] at hC
        clear hlx hx hb
        go_wp2_with fail
        refine (hC _).mono ?_
        rintro e w1 ⟨rfl, hg1⟩
        clear hC x0 x1 x2 x3 x4 x5 x6 x7 x8
        go_wp2
        go_roundw
        case rel => exact ⟨(lo + hi) / 2 + 1, hi, by go_num, rfl, by omega, hin, hb2, hg.trans hg1⟩
        case measure => simp [intOf]; omega
      · have hb2 : Hid (Bnd es x lo ((lo + hi) / 2)) := Lib.hid ⟨hb.out.lt, fun t e ht he => Nat.le_trans (Nat.not_lt.1 hlx) (hs.out.le (by omega) hx he)⟩
        have hz : 0 ≤ cmpN m.e.m.id x := by unfold cmpN; rw [if_neg hlx]; split <;> omega
        generalize cmpN m.e.m.id x = z at *
        clear hlx hx hb
        go_wp2_with fail
        refine (hC _).mono ?_
        rintro e w1 ⟨rfl, hg1⟩
        clear hC x0 x1 x2 x3 x4 x5 x6 x7 x8
        go_wp2
        go_roundw
        case rel => exact ⟨lo, (lo + hi) / 2, rfl, by go_num, by omega, by omega, hb2, hg.trans hg1⟩
        case measure => simp [intOf]; omega
    · obtain rfl : lo = hi := by omega
      have hp : posI es x = lo := posI_of (by have := hln.out; omega) hb.out.lt hb.out.ge
      have hq := hz2.out
      unfold foundI at hq
      rw [hp] at hq
      have hz3 := hz1.out
      rw [hp] at hz3
      clear hz1
      subst hz3
      by_cases hl : lo < n
      · obtain ⟨ad, m, rfl, hx, hm, x0, x1, x2, x3, x4, x5, x6, x7, x8⟩ := (h.grew hg).at_ (k := lo) (by omega)
        have hC := fun w => find1_any m x w
        rw [hx] at hq
        simp only at hq
        by_cases he : m.e.m.id = x
        · rw [decide_eq_true he] at hq
          rw [he, cmpN_eq] at hC
          replace hq := Lib.hid hq
          rw [he] at x0
          clear he hx hb hp
          go_wp2_with fail
          refine (hC _).mono ?_
          rintro e w1 ⟨rfl, hg1⟩
          clear hC x0 x1 x2 x3 x4 x5 x6 x7 x8
          go_wp2
          go_ret2
          exact ⟨by rw [← hq.out]; rfl, hg.trans hg1⟩
        · rw [decide_eq_false he] at hq
          have hz : cmpN m.e.m.id x ≠ 0 := by
            unfold cmpN
            split
            · omega
            · rw [if_pos (by omega)]; omega
          replace hq := Lib.hid hq
          generalize cmpN m.e.m.id x = z at *
          clear he hx hb hp
          go_wp2_with fail
          refine (hC _).mono ?_
          rintro e w1 ⟨rfl, hg1⟩
          clear hC x0 x1 x2 x3 x4 x5 x6 x7 x8
          go_wp2
          go_ret2
          exact ⟨by rw [← hq.out]; simp [hz], hg.trans hg1⟩
      · rw [List.getElem?_eq_none (by have := hln.out; omega)] at hq
        simp only at hq
        replace hq := Lib.hid hq
        clear hb hp
        go_wp2
        go_ret2
        exact ⟨by rw [← hq.out]; rfl, hg⟩

set_option maxRecDepth 100000 in
set_option maxHeartbeats 4000000 in
theorem find_any (v : Nat) (fl : Int) (A : Option Addr) (n c : Nat) (es : List Ent) (x : Nat) (w : World) (h : RX w A n es) (hs : Srt es) (hn : n ≤ 1599289640354) :
    Calls Tryz.prog 41 #[.agg #[.int .u64 (v : Int), .int .i64 fl, .slice A n c], .int .u64 (x : Int)] w
      fun e w' => e = .returned (.tuple #[.int .i64 (posI es x : Int), .bool (foundI es x)]) ∧ Grew w w' := by
  have hg0 : Grew w (w.alloc (.cells #[.int .u64 (v : Int), .int .i64 fl, .slice A n c] 25)) := (Chg.refl _ w).alloc _
  have hS := search_any A n c es x _ (h.grew hg0) hs hn
  generalize posI es x = z1 at *
  generalize foundI es x = z2 at *
  go_enter Tryz.func41, Tryz.ntmps41
  go_wp2_with fail
  refine hS.mono ?_
  rintro e w1 ⟨rfl, hg1⟩
  clear hS
  go_wp2
  go_ret2
  exact ⟨rfl, hg0.trans hg1⟩
end Go.Proofs.YtjoaonppaokhhaaGreat

namespace Go.Proofs.YtjoaonppaokhhaaGreat
open Go.RowKit

def ltU (x y : Nat) : Bool := decide (x < y)
theorem swoU : Go.Sort.SWO ltU := ⟨fun x => by simp [ltU], fun x y z => by simp only [ltU, decide_eq_true_eq]; omega, fun x y z => by simp only [ltU, decide_eq_false_iff_not]; omega⟩
theorem flatU (l : List Nat) : elU.flat l = l.map fun (x : Nat) => Value.int .u64 (x : Int) := by
  induction l with
  | nil => rfl
  | cons x l ih => rw [El.flat_cons, ih]; rfl
/-- a row of numbers, as an array -/
def UA (w : World) (base : Nat) (t : TypeId) (g n c : Nat) (d : Array Nat) : Prop := OE elU w base t (some ⟨g, 0, none⟩) n c d.toList
theorem UA.size {w : World} {base g n c : Nat} {t : TypeId} {d : Array Nat} (h : UA w base t g n c d) : d.size = n := by
  have := OE.len (by decide) h
  simpa using this
theorem UA.cell {w : World} {base g n c : Nat} {t : TypeId} {d : Array Nat} (h : UA w base t g n c d) {k : Nat} (hk : k < n) : w.cell? ⟨g, k, none⟩ = some (.int .u64 ((d[k]! : Nat) : Int)) := by
  have hs := h.size
  obtain ⟨g', e, _, _, hc, _, _⟩ := Own.at_ h (by omega)
  injection e with e
  injection e with e
  subst e
  have hd : d[k]! = d[k]'(by omega) := getElem!_pos d k (by omega)
  have hx : d.toList[k]? = some (d[k]!) := by rw [Array.getElem?_toList, hd, Array.getElem?_eq_getElem (by omega)]
  rw [hc k (by show k < n * 1; omega)]
  have := elU.flat_get d.toList (k := k) (j := 0) hx (by decide)
  rw [show k * elU.sz + 0 = k by show k * 1 + 0 = k; omega] at this
  rw [this]
  rfl
theorem UA.free {w : World} {base g n c : Nat} {t : TypeId} {d : Array Nat} (h : UA w base t g n c d) (hn : 0 < n) (k : Nat) : w.frozen? ⟨g, k, none⟩ = false := by
  obtain ⟨g', e, _, _, _, hf, _⟩ := Own.at_ h hn
  injection e with e
  injection e with e
  subst e
  exact hf k
theorem OE.setU {w : World} {base n c g i : Nat} {t : TypeId} {l : List Nat} (h : OE elU w base t (some ⟨g, 0, none⟩) n c l) (x : Nat) : OE elU (w.setCell ⟨g, i, none⟩ (.int .u64 (x : Int))) base t (some ⟨g, 0, none⟩) n c (l.set i x) := by
  have := Own.set h i (.int .u64 (x : Int))
  unfold OE
  rw [flatU, List.map_set, ← flatU]
  exact this
theorem UA.swp {w : World} {base g n c : Nat} {t : TypeId} {d : Array Nat} (h : UA w base t g n c d) (i j : Nat) : UA ((w.setCell ⟨g, i, none⟩ (.int .u64 ((d[j]! : Nat) : Int))).setCell ⟨g, j, none⟩ (.int .u64 ((d[i]! : Nat) : Int))) base t g n c (Go.Sort.swp d i j) := by
  unfold UA Go.Sort.swp
  rw [Array.toList_setIfInBounds, Array.toList_setIfInBounds]
  exact (OE.setU h _).setU _
theorem UA.swp2 {w : World} {base g n c : Nat} {t : TypeId} {d : Array Nat} (h : UA w base t g n c d) (i j : Nat) : UA ((w.setCell ⟨g, j, none⟩ (.int .u64 ((d[i]! : Nat) : Int))).setCell ⟨g, i, none⟩ (.int .u64 ((d[j]! : Nat) : Int))) base t g n c (Go.Sort.swp d i j) := by
  by_cases e : i = j
  · subst e
    exact h.swp i i
  · have h2 := h.swp j i
    have : Go.Sort.swp d j i = Go.Sort.swp d i j := by
      unfold Go.Sort.swp
      apply Array.toList_inj.1
      rw [Array.toList_setIfInBounds, Array.toList_setIfInBounds, Array.toList_setIfInBounds, Array.toList_setIfInBounds]
      exact List.set_comm _ _ (Ne.symm e)
    rw [this] at h2
    exact h2
/-- the row's cells as a family, at an offset that is a name for 0 -/
theorem UA.fam {w : World} {base g n c o : Nat} {t : TypeId} {d : Array Nat} (h : UA w base t g n c d) (ho : o = 0) : ∀ k, k < n → w.cell? ⟨g, o + k, none⟩ = some (.int .u64 ((d[k]! : Nat) : Int)) := fun k hk => by
  subst ho
  rw [Nat.zero_add]
  exact h.cell hk
theorem UA.fre {w : World} {base g n c o : Nat} {t : TypeId} {d : Array Nat} (h : UA w base t g n c d) : ∀ k, k < n → w.frozen? ⟨g, o + k, none⟩ = false := fun k hk => h.free (by omega) (o + k)
theorem UA.swpo {w : World} {base g n c o : Nat} {t : TypeId} {d : Array Nat} (h : UA w base t g n c d) (ho : o = 0) (i j x y : Nat) (hx : d[i]! = x) (hy : d[j]! = y) : UA ((w.setCell ⟨g, o + i, none⟩ (.int .u64 (y : Int))).setCell ⟨g, o + j, none⟩ (.int .u64 (x : Int))) base t g n c (Go.Sort.swp d i j) := by
  subst ho
  subst hx
  subst hy
  rw [Nat.zero_add, Nat.zero_add]
  exact h.swp i j
theorem UA.swpo2 {w : World} {base g n c o : Nat} {t : TypeId} {d : Array Nat} (h : UA w base t g n c d) (ho : o = 0) (i j x y : Nat) (hx : d[i]! = x) (hy : d[j]! = y) : UA ((w.setCell ⟨g, o + j, none⟩ (.int .u64 (x : Int))).setCell ⟨g, o + i, none⟩ (.int .u64 (y : Int))) base t g n c (Go.Sort.swp d i j) := by
  subst ho
  subst hx
  subst hy
  rw [Nat.zero_add, Nat.zero_add]
  exact h.swp2 i j
theorem UA.drew {w : World} {base g n c : Nat} {t : TypeId} {d : Array Nat} (h : UA w base t g n c d) : UA w.drew base t g n c d := h
theorem Chg.swap {w0 w : World} {g : Nat} (h : Chg (fun k => k = g) w0 w) (i j : Nat) (u v : Value) : Chg (fun k => k = g) w0 ((w.setCell ⟨g, i, none⟩ u).setCell ⟨g, j, none⟩ v) := (h.setCell (.inr rfl) u).setCell (.inr rfl) v

set_option maxRecDepth 100000 in
set_option maxHeartbeats 4000000 in
theorem lessU_any (a b : Nat) (w : World) : Calls Tryz.prog 151 #[.int .u64 (a : Int), .int .u64 (b : Int)] w fun e w' => e = .returned (.bool (ltU a b)) ∧ w' = w := by
  have hA := fun w => isNaNU_any a w
  have hB := fun w => isNaNU_any b w
  by_cases h : a < b
  · have hr : ltU a b = true := by simp [ltU, h]
    have hn : (a : Int) < (b : Int) := by omega
    rw [hr]
    go_enter Tryz.func151, Tryz.ntmps151
    go_wp2_with fail
    refine (hA _).mono ?_
    rintro e w1 ⟨rfl, rfl⟩
    go_wp2
    go_ret
    exact ⟨by simp [], rfl⟩
  · have hr : ltU a b = false := by simp [ltU, h]
    have hn : ¬ (a : Int) < (b : Int) := by omega
    rw [hr]
    go_enter Tryz.func151, Tryz.ntmps151
    go_wp2_with fail
    refine (hA _).mono ?_
    rintro e w1 ⟨rfl, rfl⟩
    go_wp2
    go_ret
    exact ⟨by simp [], rfl⟩

section
open Go.Sort
theorem insI_go {lt : Nat → Nat → Bool} {a j : Nat} {d : Array Nat} (hj : a < j + 1) (hl : lt d[j + 1]! d[j]! = true) : insInner lt a (j + 1) d = insInner lt a j (swp d (j + 1) j) := by
  rw [insInner, hl, decide_eq_true (by omega : j + 1 > a)]
  rfl
theorem insI_stop {lt : Nat → Nat → Bool} {a j : Nat} {d : Array Nat} (h : j ≤ a) : insInner lt a j d = d := by
  cases j with
  | zero => rw [insInner]
  | succ j =>
    rw [insInner, decide_eq_false (by omega : ¬ j + 1 > a)]
    rfl
theorem insI_no {lt : Nat → Nat → Bool} {a j : Nat} {d : Array Nat} (hl : lt d[j + 1]! d[j]! = false) : insInner lt a (j + 1) d = d := by
  rw [insInner, hl, Bool.and_false]
  rfl
theorem insO_go {lt : Nat → Nat → Bool} {a b i : Nat} {d : Array Nat} (h : i < b) : insOuter lt a b i d = insOuter lt a b (i + 1) (insInner lt a i d) := by rw [insOuter, if_pos h]
theorem insO_stop {lt : Nat → Nat → Bool} {a b i : Nat} {d : Array Nat} (h : ¬ i < b) : insOuter lt a b i d = d := by rw [insOuter, if_neg h]
end

end Go.Proofs.YtjoaonppaokhhaaGreat
