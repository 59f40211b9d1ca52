/-
  Several texts in one:
  (slices.order2Ordered), (slices.medianOrdered), (slices.medianAdjacentOrdered) of numbers. Conditions: lengths that a slice has; the count in a block of its own.
  (slices.choosePivotOrdered) of numbers. Conditions: lengths that a slice has; eight numbers and more.
-/
import Derived.Test.YtjoaonppaokhhaaGreatPart14
import Derived.CellFam

namespace Go.Proofs.YtjoaonppaokhhaaGreat
open Go.RowKit

theorem UA.far {S : Nat → Prop} {w w' : World} {base g n c : Nat} {t : TypeId} {d : Array Nat} (h : UA w base t g n c d) (hc : Chg S w w') (hn : ¬ S g) : UA w' base t g n c d := OE.chg h hc fun ad e => by
  injection e with e
  subst e
  exact hn
theorem order2_lt (d : Array Nat) {a b n : Nat} (sw : Nat) (ha : a < n) (hb : b < n) : (Go.Sort.order2 ltU d a b sw).1 < n ∧ (Go.Sort.order2 ltU d a b sw).2.1 < n ∧ (Go.Sort.order2 ltU d a b sw).2.2 ≤ sw + 1 := by
  unfold Go.Sort.order2
  split
  · exact ⟨hb, ha, Nat.le_refl _⟩
  · exact ⟨ha, hb, Nat.le_succ _⟩

set_option maxRecDepth 100000 in
set_option maxHeartbeats 4000000 in
theorem uorder2_any (base g o n c a b s sw : Nat) (t : TypeId) (d : Array Nat) (w : World) (ho : o = 0) (h : UA w base t g n c d) (ha : a < n) (hb : b < n) (_hn : n < 4611686018427387904) (hs : Blk w s 3 #[.int .i64 (sw : Int)]) (hsw : sw ≤ 1000) :
    Calls Tryz.prog 163 #[.slice (some ⟨g, o, none⟩) n c, .int .i64 (a : Int), .int .i64 (b : Int), .pointer (some ⟨s, 0, none⟩)] w fun e w' => e = .returned (.tuple #[.int .i64 ((Go.Sort.order2 ltU d a b sw).1 : Int), .int .i64 ((Go.Sort.order2 ltU d a b sw).2.1 : Int)]) ∧ Blk w' s 3 #[.int .i64 ((Go.Sort.order2 ltU d a b sw).2.2 : Int)] ∧ Chg (fun k => k = s) w w' := by
  obtain ⟨x, hx⟩ : ∃ x, d[a]! = x := ⟨_, rfl⟩
  obtain ⟨y, hy⟩ : ∃ y, d[b]! = y := ⟨_, rfl⟩
  have hc1 := h.fam ho a ha
  have hc0 := h.fam ho b hb
  rw [hx] at hc1
  rw [hy] at hc0
  replace ho := Lib.hid ho
  have s0 : w.cell? ⟨s, 0, none⟩ = some (.int .i64 (sw : Int)) := hs.cell 0
  have s0d : w.drew.cell? ⟨s, 0, none⟩ = some (.int .i64 (sw : Int)) := s0
  have f0 := hs.frozen 0
  have f0d : w.drew.frozen? ⟨s, 0, none⟩ = false := f0
  have bW : Blk (w.setCell ⟨s, 0, none⟩ (.int .i64 ((sw : Int) + 1))).drew s 3 #[.int .i64 ((sw + 1 : Nat) : Int)] := by
    have := Blk.set hs 0 (.int .i64 ((sw : Int) + 1))
    simp at this
    exact this
  have cW : Chg (fun k => k = s) w (w.setCell ⟨s, 0, none⟩ (.int .i64 ((sw : Int) + 1))).drew := ((Chg.refl (fun k => k = s) w).setCell (p := ⟨s, 0, none⟩) (.inr rfl) _).drew
  by_cases hl : ltU y x = true
  · have hr : Go.Sort.order2 ltU d a b sw = (b, a, sw + 1) := by unfold Go.Sort.order2; rw [hx, hy, if_pos hl]
    rw [hr]
    have hL := fun w => lessU_any y x w
    simp only [hl] at hL
    replace hs := Lib.hid hs
    replace bW := Lib.hid bW
    replace cW := Lib.hid cW
    clear hr hl hx hy h
    go_enter Tryz.func163, Tryz.ntmps163
    go_wp2_with fail
    refine wp_region_text [(22, 1)] (by kernel_rfl) (by kernel_rfl) ?_
    simp only [instr, chk, List.nil_append]
    go_wp2_with fail
    refine (hL _).mono ?_
    rintro e w1 ⟨rfl, rfl⟩
    go_wp2_with fail
    refine OnlyN.normal ?_
    go_wp2
    go_ret2
    exact ⟨rfl, bW.out, cW.out⟩
  · have hr : Go.Sort.order2 ltU d a b sw = (a, b, sw) := by unfold Go.Sort.order2; rw [hx, hy, if_neg hl]
    rw [hr]
    have hL := fun w => lessU_any y x w
    have hl2 : ltU y x = false := by simpa using hl
    simp only [hl2] at hL
    replace hs := Lib.hid hs
    clear hr hl hl2 hx hy h bW cW
    go_enter Tryz.func163, Tryz.ntmps163
    go_wp2_with fail
    refine wp_region_text [(22, 1)] (by kernel_rfl) (by kernel_rfl) ?_
    simp only [instr, chk, List.nil_append]
    go_wp2_with fail
    refine (hL _).mono ?_
    rintro e w1 ⟨rfl, rfl⟩
    go_wp2_with fail
    refine OnlyN.normal ?_
    go_wp2
    go_ret2
    exact ⟨rfl, hs.out, (Chg.refl _ w).drew⟩

theorem median_of {d : Array Nat} {a b k sw x1 y1 s1 x2 y2 s2 x3 y3 s3 : Nat} (h1 : Go.Sort.order2 ltU d a b sw = (x1, y1, s1)) (h2 : Go.Sort.order2 ltU d y1 k s1 = (x2, y2, s2)) (h3 : Go.Sort.order2 ltU d x1 x2 s2 = (x3, y3, s3)) :
    Go.Sort.median ltU d a b k sw = (y3, s3) := by
  unfold Go.Sort.median
  rw [h1]
  simp only
  rw [h2]
  simp only
  rw [h3]

set_option maxRecDepth 100000 in
set_option maxHeartbeats 4000000 in
theorem umedian_any (base g o n c a b k s sw : Nat) (t : TypeId) (d : Array Nat) (w : World) (ho : o = 0) (h : UA w base t g n c d) (hgs : g ≠ s) (ha : a < n) (hb : b < n) (hk : k < n) (hn : n < 4611686018427387904) (hs : Blk w s 3 #[.int .i64 (sw : Int)]) (hsw : sw ≤ 900) :
    Calls Tryz.prog 161 #[.slice (some ⟨g, o, none⟩) n c, .int .i64 (a : Int), .int .i64 (b : Int), .int .i64 (k : Int), .pointer (some ⟨s, 0, none⟩)] w fun e w' => e = .returned (.int .i64 ((Go.Sort.median ltU d a b k sw).1 : Int)) ∧ Blk w' s 3 #[.int .i64 ((Go.Sort.median ltU d a b k sw).2 : Int)] ∧ Chg (fun k => k = s) w w' ∧
      (Go.Sort.median ltU d a b k sw).1 < n ∧ (Go.Sort.median ltU d a b k sw).2 ≤ sw + 3 := by
  have l1 := order2_lt d sw ha hb
  have hO1 := uorder2_any base g o n c a b s sw t d w ho h ha hb hn hs (by omega)
  obtain ⟨⟨x1, y1, s1⟩, hr1⟩ : ∃ r, Go.Sort.order2 ltU d a b sw = r := ⟨_, rfl⟩
  rw [hr1] at l1 hO1
  simp only at l1 hO1
  have l2 := order2_lt d s1 l1.2.1 hk
  have hO2 := fun W h hs => uorder2_any base g o n c y1 k s s1 t d W ho h l1.2.1 hk hn hs (by omega)
  obtain ⟨⟨x2, y2, s2⟩, hr2⟩ : ∃ r, Go.Sort.order2 ltU d y1 k s1 = r := ⟨_, rfl⟩
  rw [hr2] at l2 hO2
  simp only at l2 hO2
  have l3 := order2_lt d s2 l1.1 l2.1
  have hO3 := fun W h hs => uorder2_any base g o n c x1 x2 s s2 t d W ho h l1.1 l2.1 hn hs (by omega)
  obtain ⟨⟨x3, y3, s3⟩, hr3⟩ : ∃ r, Go.Sort.order2 ltU d x1 x2 s2 = r := ⟨_, rfl⟩
  rw [hr3] at l3 hO3
  simp only at l3 hO3
  rw [median_of hr1 hr2 hr3]
  clear hr1 hr2 hr3
  have hfar : Hid (∀ W, Chg (fun k => k = s) w W → UA W base t g n c d) := fun W hc => h.far hc hgs
  replace l1 := Lib.hid l1
  replace l2 := Lib.hid l2
  replace l3 := Lib.hid l3
  replace hO2 := Lib.hid hO2
  replace hO3 := Lib.hid hO3
  clear h
  replace ho := Lib.hid ho
  go_enter Tryz.func161, Tryz.ntmps161
  go_wp2_with fail
  refine hO1.mono ?_
  rintro e w1 ⟨rfl, b1, c1⟩
  have hO2b := hO2.out w1 (hfar.out _ c1) b1
  replace b1 := Lib.hid b1
  clear hO1
  go_wp2_with fail
  refine hO2b.mono ?_
  rintro e w2 ⟨rfl, b2, c2⟩
  replace c2 := c1.trans c2
  have hO3b := hO3.out w2 (hfar.out _ c2) b2
  replace b2 := Lib.hid b2
  clear hO2b
  go_wp2_with fail
  refine hO3b.mono ?_
  rintro e w3 ⟨rfl, b3, c3⟩
  replace c3 := c2.trans c3
  clear hO3b
  have hle : s3 ≤ sw + 3 := by
    have := l1.out.2.2
    have := l2.out.2.2
    have := l3.out.2.2
    omega
  replace b3 := Lib.hid b3
  go_wp2
  go_ret
  exact ⟨rfl, b3.out, c3, l3.out.2.1, hle⟩

set_option maxRecDepth 100000 in
set_option maxHeartbeats 4000000 in
theorem umedAdj_any (base g o n c a s sw : Nat) (t : TypeId) (d : Array Nat) (w : World) (ho : o = 0) (h : UA w base t g n c d) (hgs : g ≠ s) (ha1 : 1 ≤ a) (ha : a + 1 < n) (hn : n < 4611686018427387904) (hs : Blk w s 3 #[.int .i64 (sw : Int)]) (hsw : sw ≤ 900) :
    Calls Tryz.prog 160 #[.slice (some ⟨g, o, none⟩) n c, .int .i64 (a : Int), .pointer (some ⟨s, 0, none⟩)] w fun e w' => e = .returned (.int .i64 ((Go.Sort.medianAdjacent ltU d a sw).1 : Int)) ∧ Blk w' s 3 #[.int .i64 ((Go.Sort.medianAdjacent ltU d a sw).2 : Int)] ∧ Chg (fun k => k = s) w w' ∧
      (Go.Sort.medianAdjacent ltU d a sw).1 < n ∧ (Go.Sort.medianAdjacent ltU d a sw).2 ≤ sw + 3 := by
  unfold Go.Sort.medianAdjacent
  have hM := umedian_any base g o n c (a - 1) a (a + 1) s sw t d w ho h hgs (by omega) (by omega) ha hn hs hsw
  generalize Go.Sort.median ltU d (a - 1) a (a + 1) sw = r at *
  obtain ⟨x, y⟩ := r
  simp only at hM ⊢
  have e1 : ((a - 1 : Nat) : Int) = (a : Int) - 1 := by omega
  have e2 : ((a + 1 : Nat) : Int) = (a : Int) + 1 := by omega
  rw [e1, e2] at hM
  clear e1 e2 h hs
  replace ho := Lib.hid ho
  go_enter Tryz.func160, Tryz.ntmps160
  go_wp2_with fail
  refine hM.mono ?_
  rintro e w1 ⟨rfl, b1, c1, l1, l2⟩
  replace b1 := Lib.hid b1
  go_wp2
  go_ret
  exact ⟨rfl, b1.out, c1, l1, l2⟩
end Go.Proofs.YtjoaonppaokhhaaGreat

namespace Go.Proofs.YtjoaonppaokhhaaGreat
open Go.RowKit

/-- a hint's number -/
def hintZ : Go.Sort.Hint → Int
  | .unknown => 0
  | .increasing => 1
  | .decreasing => 2

def hintOf (s : Nat) : Go.Sort.Hint := if s = 0 then .increasing else if s = 12 then .decreasing else .unknown
theorem cp_big {d : Array Nat} {a b i j k i1 s1 j1 s2 k1 s3 m s4 : Nat} (h50 : 50 ≤ b - a) (hi : i = a + (b - a) / 4 * 1) (hj : j = a + (b - a) / 4 * 2) (hk : k = a + (b - a) / 4 * 3)
    (h1 : Go.Sort.medianAdjacent ltU d i 0 = (i1, s1)) (h2 : Go.Sort.medianAdjacent ltU d j s1 = (j1, s2)) (h3 : Go.Sort.medianAdjacent ltU d k s2 = (k1, s3)) (h4 : Go.Sort.median ltU d i1 j1 k1 s3 = (m, s4)) :
    Go.Sort.choosePivot ltU d a b = (m, hintOf s4) := by
  subst hi hj hk
  unfold Go.Sort.choosePivot
  simp only [if_pos (by omega : b - a ≥ 8), if_pos (show b - a ≥ 50 from h50)]
  rw [h1]
  simp only
  rw [h2]
  simp only
  rw [h3]
  simp only
  rw [h4]
  rfl
theorem cp_small {d : Array Nat} {a b i j k m s4 : Nat} (h8 : 8 ≤ b - a) (h50 : ¬ 50 ≤ b - a) (hi : i = a + (b - a) / 4 * 1) (hj : j = a + (b - a) / 4 * 2) (hk : k = a + (b - a) / 4 * 3)
    (h4 : Go.Sort.median ltU d i j k 0 = (m, s4)) :
    Go.Sort.choosePivot ltU d a b = (m, hintOf s4) := by
  subst hi hj hk
  unfold Go.Sort.choosePivot
  simp only [if_pos (show b - a ≥ 8 from h8), if_neg (show ¬ b - a ≥ 50 from h50)]
  rw [h4]
  rfl

set_option maxRecDepth 100000 in
set_option maxHeartbeats 8000000 in
theorem uchoose_any (base g o n c a b : Nat) (t : TypeId) (d : Array Nat) (w : World) (ho : o = 0) (h : UA w base t g n c d) (h8 : a + 8 ≤ b) (hb : b ≤ n) (hn : n < 4611686018427387904) :
    Calls Tryz.prog 148 #[.slice (some ⟨g, o, none⟩) n c, .int .i64 (a : Int), .int .i64 (b : Int)] w fun x w' => x = .returned (.tuple #[.int .i64 ((Go.Sort.choosePivot ltU d a b).1 : Int), .int .i64 (hintZ (Go.Sort.choosePivot ltU d a b).2)]) ∧ Grew w w' := by
  have h8z : (8 : Int) ≤ (b : Int) - (a : Int) := by omega
  obtain ⟨i, hi⟩ : ∃ i, i = a + (b - a) / 4 * 1 := ⟨_, rfl⟩
  obtain ⟨j, hj⟩ : ∃ j, j = a + (b - a) / 4 * 2 := ⟨_, rfl⟩
  obtain ⟨k, hk⟩ : ∃ k, k = a + (b - a) / 4 * 3 := ⟨_, rfl⟩
  have eI : (a : Int) + ((b : Int) - (a : Int)) / 4 = (i : Int) := by omega
  have eJ : (a : Int) + ((b : Int) - (a : Int)) / 4 * 2 = (j : Int) := by omega
  have eK : (a : Int) + ((b : Int) - (a : Int)) / 4 * 3 = (k : Int) := by omega
  have li : 1 ≤ i ∧ i + 1 < n ∧ 1 ≤ j ∧ j + 1 < n ∧ 1 ≤ k ∧ k + 1 < n := by omega
  replace eI := Lib.hid eI
  replace eJ := Lib.hid eJ
  replace eK := Lib.hid eK
  have hgl : g < w.heap.size := by
    obtain ⟨g', e, _, _, hc, _, hl⟩ := Own.at_ h (by omega)
    injection e with e
    injection e with e
    subst e
    exact (Own.blk_lt h _ rfl).2
  have hgs : g ≠ w.heap.size := by omega
  have g0 : Grew w (w.alloc (.cells #[.int .i64 0] 3)) := (Chg.refl _ w).alloc _
  have b0 : Blk (w.alloc (.cells #[.int .i64 0] 3)) w.heap.size 3 #[.int .i64 ((0 : Nat) : Int)] := Blk.new _ _ _
  have u0 : UA (w.alloc (.cells #[.int .i64 0] 3)) base t g n c d := OE.grew h g0
  obtain ⟨W, hW⟩ : ∃ W, W = w.alloc (.cells #[.int .i64 0] 3) := ⟨_, rfl⟩
  rw [← hW] at g0 b0 u0
  have hfar : Hid (∀ W1, Chg (fun k => k = w.heap.size) W W1 → UA W1 base t g n c d) := fun W1 hc => u0.far hc hgs
  have hgr : Hid (∀ W1, Chg (fun k => k = w.heap.size) W W1 → Grew w W1) := fun W1 hc => g0.step hc fun k hk e => by omega
  by_cases h50 : 50 ≤ b - a
  · have h50z : (50 : Int) ≤ (b : Int) - (a : Int) := by omega
    have hA1 := umedAdj_any base g o n c i w.heap.size 0 t d W ho u0 hgs li.1 li.2.1 hn b0 (by omega)
    obtain ⟨⟨i1, s1⟩, h1⟩ : ∃ r, Go.Sort.medianAdjacent ltU d i 0 = r := ⟨_, rfl⟩
    rw [h1] at hA1
    have hA2 := fun W1 u0 b0 hs => umedAdj_any base g o n c j w.heap.size s1 t d W1 ho u0 hgs li.2.2.1 li.2.2.2.1 hn b0 hs
    obtain ⟨⟨j1, s2⟩, h2⟩ : ∃ r, Go.Sort.medianAdjacent ltU d j s1 = r := ⟨_, rfl⟩
    rw [h2] at hA2
    have hA3 := fun W1 u0 b0 hs => umedAdj_any base g o n c k w.heap.size s2 t d W1 ho u0 hgs li.2.2.2.2.1 li.2.2.2.2.2 hn b0 hs
    obtain ⟨⟨k1, s3⟩, h3⟩ : ∃ r, Go.Sort.medianAdjacent ltU d k s2 = r := ⟨_, rfl⟩
    rw [h3] at hA3
    have hA4 := fun W1 u0 b0 l1 l2 l3 hs => umedian_any base g o n c i1 j1 k1 w.heap.size s3 t d W1 ho u0 hgs l1 l2 l3 hn b0 hs
    obtain ⟨⟨m, sw⟩, h4⟩ : ∃ r, Go.Sort.median ltU d i1 j1 k1 s3 = r := ⟨_, rfl⟩
    rw [h4] at hA4
    rw [cp_big h50 hi hj hk h1 h2 h3 h4]
    simp only at hA1 hA2 hA3 hA4 ⊢
    replace hA2 := Lib.hid hA2
    replace hA3 := Lib.hid hA3
    replace hA4 := Lib.hid hA4
    replace hgs := Lib.hid hgs
    clear h1 h2 h3 h4 hi hj hk h50 h
    replace b0 := Lib.hid b0
    replace ho := Lib.hid ho
    go_enter Tryz.func148, Tryz.ntmps148
    go_wp2_with fail
    rw [← hW]
    simp only [eI.out, eJ.out, eK.out]
    clear hW
    refine hA1.mono ?_
    rintro x w1 ⟨rfl, b1, c1, l1, q1⟩
    have hB2 := hA2.out w1 (hfar.out _ c1) b1 (by omega)
    replace b1 := Lib.hid b1
    clear hA1
    go_wp2_with fail
    refine hB2.mono ?_
    rintro x w2 ⟨rfl, b2, c2, l2, q2⟩
    replace c2 := c1.trans c2
    have hB3 := hA3.out w2 (hfar.out _ c2) b2 (by omega)
    replace b2 := Lib.hid b2
    clear hB2
    go_wp2_with fail
    refine hB3.mono ?_
    rintro x w3 ⟨rfl, b3, c3, l3, q3⟩
    replace c3 := c2.trans c3
    have hB4 := hA4.out w3 (hfar.out _ c3) b3 l1 l2 l3 (by omega)
    replace b3 := Lib.hid b3
    clear hB3
    go_wp2_with fail
    refine hB4.mono ?_
    rintro x w4 ⟨rfl, b4, c4, l4, q4⟩
    replace c4 := c3.trans c4
    have g9 := hgr.out _ c4
    have k0 : w4.cell? ⟨w.heap.size, 0, none⟩ = some (.int .i64 (sw : Int)) := b4.cell 0
    replace b4 := Lib.hid b4
    clear hB4
    by_cases e0 : sw = 0
    · have z0 : ((sw : Int) == 0) = true := by simp [e0]
      have z1 : (sw : Int) = 0 := by omega
      have hh : hintZ (hintOf sw) = 1 := by rw [e0]; rfl
      replace hh := Lib.hid hh
      clear e0
      go_wp2
      go_ret2
      exact ⟨by rw [hh.out]; rfl, g9⟩
    · by_cases e1 : sw = 12
      · have z0 : ((sw : Int) == 0) = false := by simp [e0]
        have z1 : (sw : Int) = 12 := by omega
        have hh : hintZ (hintOf sw) = 2 := by rw [e1]; rfl
        replace hh := Lib.hid hh
        clear e0
        go_wp2
        go_ret2
        exact ⟨by rw [hh.out]; rfl, g9⟩
      · have z0 : ¬ ((sw : Int) = 0) := by omega
        have z1 : ¬ ((sw : Int) = 12) := by omega
        have hh : hintZ (hintOf sw) = 0 := by unfold hintOf; rw [if_neg e0, if_neg e1]; rfl
        replace hh := Lib.hid hh
        clear e0 e1
        go_wp2
        go_ret2
        exact ⟨by rw [hh.out]; rfl, g9⟩

  · have h50z : ¬ ((50 : Int) ≤ (b : Int) - (a : Int)) := by omega
    have hA4 := umedian_any base g o n c i j k w.heap.size 0 t d W ho u0 hgs (by omega) (by omega) (by omega) hn b0 (by omega)
    obtain ⟨⟨m, sw⟩, h4⟩ : ∃ r, Go.Sort.median ltU d i j k 0 = r := ⟨_, rfl⟩
    rw [h4] at hA4
    rw [cp_small (by omega) h50 hi hj hk h4]
    simp only at hA4 ⊢
    replace hgs := Lib.hid hgs
    clear h4 hi hj hk h50 h
    replace b0 := Lib.hid b0
    replace ho := Lib.hid ho
    go_enter Tryz.func148, Tryz.ntmps148
    go_wp2_with fail
    rw [← hW]
    simp only [eI.out, eJ.out, eK.out]
    clear hW
    refine hA4.mono ?_
    rintro x w4 ⟨rfl, b4, c4, l4, q4⟩
    have g9 := hgr.out _ c4
    have k0 : w4.cell? ⟨w.heap.size, 0, none⟩ = some (.int .i64 (sw : Int)) := b4.cell 0
    replace b4 := Lib.hid b4
    clear hA4
    by_cases e0 : sw = 0
    · have z0 : ((sw : Int) == 0) = true := by simp [e0]
      have z1 : (sw : Int) = 0 := by omega
      have hh : hintZ (hintOf sw) = 1 := by rw [e0]; rfl
      replace hh := Lib.hid hh
      clear e0
      go_wp2
      go_ret2
      exact ⟨by rw [hh.out]; rfl, g9⟩
    · by_cases e1 : sw = 12
      · have z0 : ((sw : Int) == 0) = false := by simp [e0]
        have z1 : (sw : Int) = 12 := by omega
        have hh : hintZ (hintOf sw) = 2 := by rw [e1]; rfl
        replace hh := Lib.hid hh
        clear e0
        go_wp2
        go_ret2
        exact ⟨by rw [hh.out]; rfl, g9⟩
      · have z0 : ¬ ((sw : Int) = 0) := by omega
        have z1 : ¬ ((sw : Int) = 12) := by omega
        have hh : hintZ (hintOf sw) = 0 := by unfold hintOf; rw [if_neg e0, if_neg e1]; rfl
        replace hh := Lib.hid hh
        clear e0 e1
        go_wp2
        go_ret2
        exact ⟨by rw [hh.out]; rfl, g9⟩

end Go.Proofs.YtjoaonppaokhhaaGreat
