/-
  Several texts in one:
  (index.find) walked: a binary search by a function. Conditions: IDs that rise.
-/
import Derived.Test.YtjoaonppaokhhaaGreatPart14

namespace Go.Proofs.YtjoaonppaokhhaaGreat
open Go.RowKit

theorem posI_of : ∀ {es : List Ent} {i x : Nat}, i ≤ es.length → (∀ t e, t < i → es[t]? = some e → e.m.id < x) → (∀ t e, i ≤ t → es[t]? = some e → x ≤ e.m.id) → posI es x = i
  | [], i, x, hi, _, _ => by
    have : i = 0 := by simpa using hi
    subst this
    rfl
  | a :: r, 0, x, _, _, h2 => by
    unfold posI
    rw [List.countP_eq_zero]
    intro e he
    obtain ⟨t, ht⟩ := List.mem_iff_getElem?.1 he
    have := h2 t e (Nat.zero_le _) ht
    simp only [decide_eq_true_eq]
    omega
  | a :: r, i + 1, x, hi, h1, h2 => by
    have ha := h1 0 a (Nat.succ_pos _) rfl
    have ih := posI_of (es := r) (i := i) (x := x) (by simpa using hi) (fun t e ht he => h1 (t + 1) e (by omega) (by simpa using he)) (fun t e ht he => h2 (t + 1) e (by omega) (by simpa using he))
    unfold posI at ih ⊢
    rw [List.countP_cons_of_pos (by simpa using ha), ih]
/-- how two numbers compare -/
def cmpN (a b : Nat) : Int := if a < b then -1 else if b < a then 1 else 0
theorem cmpN_lt {a b : Nat} (h : a < b) : cmpN a b = -1 := by unfold cmpN; rw [if_pos h]
theorem cmpN_gt {a b : Nat} (h : b < a) : cmpN a b = 1 := by unfold cmpN; rw [if_neg (by omega), if_pos h]
theorem cmpN_eq (a : Nat) : cmpN a a = 0 := by unfold cmpN; rw [if_neg (by omega), if_neg (by omega)]

set_option maxRecDepth 100000 in
set_option maxHeartbeats 4000000 in
theorem isNaNU_any (a : Nat) (w : World) : Calls Tryz.prog 105 #[.int .u64 (a : Int)] w fun e w' => e = .returned (.bool false) ∧ w' = w := by
  go_enter Tryz.func105, Tryz.ntmps105
  go_wp2
  go_ret
  exact ⟨by simp, rfl⟩
set_option maxRecDepth 100000 in
set_option maxHeartbeats 4000000 in
theorem compareU_any (a b : Nat) (w : World) : Calls Tryz.prog 78 #[.int .u64 (a : Int), .int .u64 (b : Int)] w fun e w' => e = .returned (.int .i64 (cmpN a b)) ∧ w' = w := by
  have hA := fun w => isNaNU_any a w
  have hB := fun w => isNaNU_any b w
  rcases Nat.lt_trichotomy a b with h | rfl | h
  · rw [cmpN_lt h]
    go_enter Tryz.func78, Tryz.ntmps78
    go_wp2_with fail
    refine (hA _).mono ?_
    rintro e w1 ⟨rfl, rfl⟩
    go_wp2_with fail
    refine (hB _).mono ?_
    rintro e w1 ⟨rfl, rfl⟩
    go_wp2
    go_ret
    exact ⟨rfl, rfl⟩
  · rw [cmpN_eq]
    go_enter Tryz.func78, Tryz.ntmps78
    go_wp2_with fail
    refine (hA _).mono ?_
    rintro e w1 ⟨rfl, rfl⟩
    go_wp2_with fail
    refine (hB _).mono ?_
    rintro e w1 ⟨rfl, rfl⟩
    go_wp2
    go_ret
    exact ⟨rfl, rfl⟩
  · rw [cmpN_gt h]
    go_enter Tryz.func78, Tryz.ntmps78
    go_wp2_with fail
    refine (hA _).mono ?_
    rintro e w1 ⟨rfl, rfl⟩
    go_wp2_with fail
    refine (hB _).mono ?_
    rintro e w1 ⟨rfl, rfl⟩
    go_wp2
    go_ret
    exact ⟨rfl, rfl⟩
set_option maxRecDepth 100000 in
set_option maxHeartbeats 4000000 in
theorem find1_any (m : EnM) (x : Nat) (w : World) :
    Calls Tryz.prog 83 #[.agg #[.int .u64 (m.e.m.id : Int), .int .i64 m.e.m.lo, .int .i64 m.e.m.hi, .int .i64 m.e.m.lv, .slice m.A m.n m.c, .int .i64 m.e.m.sr, .int .i64 m.e.m.pt, .bool m.e.mkd, .int .i64 m.e.tm], .int .u64 (x : Int)] w
      fun e w' => e = .returned (.int .i64 (cmpN m.e.m.id x)) ∧ Grew w w' := by
  have hC := fun w => compareU_any m.e.m.id x w
  generalize cmpN m.e.m.id x = z at *
  go_enter Tryz.func83, Tryz.ntmps83
  go_wp2_with fail
  refine (hC _).mono ?_
  rintro e w1 ⟨rfl, rfl⟩
  go_wp2
  go_ret
  exact ⟨rfl, (Chg.refl _ _).alloc _⟩

/-- what stands at a place, against an ID -/
structure Bnd (es : List Ent) (x lo hi : Nat) : Prop where
  lt : ∀ t e, t < lo → es[t]? = some e → e.m.id < x
  ge : ∀ t e, hi ≤ t → es[t]? = some e → x ≤ e.m.id
theorem Srt.le {es : List Ent} (h : Srt es) {i j : Nat} {a b : Ent} (hij : i ≤ j) (ha : es[i]? = some a) (hb : es[j]? = some b) : a.m.id ≤ b.m.id := by
  rcases Nat.lt_or_ge i j with h1 | h1
  · unfold Srt at h
    rw [List.pairwise_iff_getElem] at h
    obtain ⟨hi, rfl⟩ := List.getElem?_eq_some_iff.1 ha
    obtain ⟨hj, rfl⟩ := List.getElem?_eq_some_iff.1 hb
    exact Nat.le_of_lt (h i j hi hj h1)
  · obtain rfl : i = j := by omega
    rw [ha] at hb
    injection hb with hb
    subst hb
    exact Nat.le_refl _

set_option maxRecDepth 100000 in
set_option maxHeartbeats 4000000 in
theorem search_any (A : Option Addr) (n c : Nat) (es : List Ent) (x : Nat) (w : World) (h : RX w A n es) (hs : Srt es) (hn : n ≤ 1599289640354) :
    Calls Tryz.prog 82 #[.slice A n c, .int .u64 (x : Int), .func (.func 83) #[] #[]] w
      fun e w' => e = .returned (.tuple #[.int .i64 (posI es x : Int), .bool (foundI es x)]) ∧ Grew w w' := by
  have hln : es.length = n := h.len
  replace hln := Lib.hid hln
  replace hs := Lib.hid hs
  have hb0 : Hid (Bnd es x 0 n) := Lib.hid ⟨fun t e ht => by omega, fun t e ht he => by
    have := (List.getElem?_eq_some_iff.1 he).1
    have := hln.out
    omega⟩
  obtain ⟨z1, hz1⟩ : ∃ z1, posI es x = z1 := ⟨_, rfl⟩
  obtain ⟨z2, hz2⟩ : ∃ z2, foundI es x = z2 := ⟨_, rfl⟩
  rw [hz1, hz2]
  replace hz1 := Lib.hid hz1
  replace hz2 := Lib.hid hz2
  go_enter Tryz.func82, Tryz.ntmps82
  go_wp2
  go_loopw [9, 10] (fun i j wr => ∃ lo hi : Nat, i = .int .i64 (lo : Int) ∧ j = .int .i64 (hi : Int) ∧ lo ≤ hi ∧ hi ≤ n ∧ Hid (Bnd es x lo hi) ∧ Grew w wr) (fun i j _ => (intOf j).toNat - (intOf i).toNat)
  case atStart => exact ⟨0, n, rfl, rfl, by omega, by omega, hb0, Chg.refl _ _⟩
  case round =>
    obtain ⟨lo, hi, rfl, rfl, hlh, hin, hb, hg⟩ := hrel
    by_cases hlt : lo < hi
    · obtain ⟨ad, m, rfl, hx, hm, x0, x1, x2, x3, x4, x5, x6, x7, x8⟩ := (h.grew hg).at_ (k := (lo + hi) / 2) (by omega)
      have hC := fun w => find1_any m x w
      by_cases hlx : m.e.m.id < x
      · have hb2 : Hid (Bnd es x ((lo + hi) / 2 + 1) hi) := Lib.hid ⟨fun t e ht he => Nat.lt_of_le_of_lt (hs.out.le (by omega) he hx) hlx, hb.out.ge⟩
        rw [cmpN_lt hlx] at hC
        clear hlx hx hb
        go_wp2_with fail
        refine (hC _).mono ?_
        rintro e w1 ⟨rfl, hg1⟩
        clear hC x0 x1 x2 x3 x4 x5 x6 x7 x8
        go_wp2
        go_roundw
        case rel => exact ⟨(lo + hi) / 2 + 1, hi, by go_num, rfl, by omega, hin, hb2, hg.trans hg1⟩
        case measure => simp [intOf]; omega
      · have hb2 : Hid (Bnd es x lo ((lo + hi) / 2)) := Lib.hid ⟨hb.out.lt, fun t e ht he => Nat.le_trans (Nat.not_lt.1 hlx) (hs.out.le (by omega) hx he)⟩
        have hz : 0 ≤ cmpN m.e.m.id x := by unfold cmpN; rw [if_neg hlx]; split <;> omega
        generalize cmpN m.e.m.id x = z at *
        clear hlx hx hb
        go_wp2_with fail
        refine (hC _).mono ?_
        rintro e w1 ⟨rfl, hg1⟩
        clear hC x0 x1 x2 x3 x4 x5 x6 x7 x8
        go_wp2
        go_roundw
        case rel => exact ⟨lo, (lo + hi) / 2, rfl, by go_num, by omega, by omega, hb2, hg.trans hg1⟩
        case measure => simp [intOf]; omega
    · obtain rfl : lo = hi := by omega
      have hp : posI es x = lo := posI_of (by have := hln.out; omega) hb.out.lt hb.out.ge
      have hq := hz2.out
      unfold foundI at hq
      rw [hp] at hq
      have hz3 := hz1.out
      rw [hp] at hz3
      clear hz1
      subst hz3
      by_cases hl : lo < n
      · obtain ⟨ad, m, rfl, hx, hm, x0, x1, x2, x3, x4, x5, x6, x7, x8⟩ := (h.grew hg).at_ (k := lo) (by omega)
        have hC := fun w => find1_any m x w
        rw [hx] at hq
        simp only at hq
        by_cases he : m.e.m.id = x
        · rw [decide_eq_true he] at hq
          rw [he, cmpN_eq] at hC
          replace hq := Lib.hid hq
          rw [he] at x0
          clear he hx hb hp
          go_wp2_with fail
          refine (hC _).mono ?_
          rintro e w1 ⟨rfl, hg1⟩
          clear hC x0 x1 x2 x3 x4 x5 x6 x7 x8
          go_wp2
          go_ret2
          exact ⟨by rw [← hq.out]; rfl, hg.trans hg1⟩
        · rw [decide_eq_false he] at hq
          have hz : cmpN m.e.m.id x ≠ 0 := by
            unfold cmpN
            split
            · omega
            · rw [if_pos (by omega)]; omega
          replace hq := Lib.hid hq
          generalize cmpN m.e.m.id x = z at *
          clear he hx hb hp
          go_wp2_with fail
          refine (hC _).mono ?_
          rintro e w1 ⟨rfl, hg1⟩
          clear hC x0 x1 x2 x3 x4 x5 x6 x7 x8
          go_wp2
          go_ret2
          exact ⟨by rw [← hq.out]; simp [hz], hg.trans hg1⟩
      · rw [List.getElem?_eq_none (by have := hln.out; omega)] at hq
        simp only at hq
        replace hq := Lib.hid hq
        clear hb hp
        go_wp2
        go_ret2
        exact ⟨by rw [← hq.out]; rfl, hg⟩

set_option maxRecDepth 100000 in
set_option maxHeartbeats 4000000 in
theorem find_any (v : Nat) (fl : Int) (A : Option Addr) (n c : Nat) (es : List Ent) (x : Nat) (w : World) (h : RX w A n es) (hs : Srt es) (hn : n ≤ 1599289640354) :
    Calls Tryz.prog 41 #[.agg #[.int .u64 (v : Int), .int .i64 fl, .slice A n c], .int .u64 (x : Int)] w
      fun e w' => e = .returned (.tuple #[.int .i64 (posI es x : Int), .bool (foundI es x)]) ∧ Grew w w' := by
  have hg0 : Grew w (w.alloc (.cells #[.int .u64 (v : Int), .int .i64 fl, .slice A n c] 25)) := (Chg.refl _ w).alloc _
  have hS := search_any A n c es x _ (h.grew hg0) hs hn
  generalize posI es x = z1 at *
  generalize foundI es x = z2 at *
  go_enter Tryz.func41, Tryz.ntmps41
  go_wp2_with fail
  refine hS.mono ?_
  rintro e w1 ⟨rfl, hg1⟩
  clear hS
  go_wp2
  go_ret2
  exact ⟨rfl, hg0.trans hg1⟩
end Go.Proofs.YtjoaonppaokhhaaGreat
