/-
  What every program of match answers, call by call (awake); the law MatchLikes, walked. Conditions: texts that memory bears.
-/
import Derived.Test.YtgmmcbdcabbmiaaDoorGe
import Derived.Test.YtgmmcbdcabbmiaaDoorGf
namespace Go.Proofs.YtgmmcbdcabbmiaaDoor
open Go.RowKit

set_option maxRecDepth 100000 in
set_option maxHeartbeats 1000000 in
theorem check_nine (ad : Addr) (nm v : ByteArray) (w : World) (h : RE elMa w (some ad) 1 [(9, nm, v)]) :
    Calls Tryd.prog 17 #[.slice (some ad) 1 1] w fun e w' => e = .returned (.int .i64 40) ∧ Grew w w' := by
  obtain ⟨ad', x, e, hx, c0, c1, c2⟩ := h.ma (k := 0) (by decide)
  injection e with e
  subst e
  obtain rfl := Option.some.inj hx
  have e0 : ad.add (0 * 3) = ad := rfl
  rw [e0] at c0 c1 c2
  dsimp only at c0 c1 c2
  clear h hx e0
  have hg : Grew w (w.alloc (.cells #[.int .i64 9, .string nm, .string v] 28)) := (Chg.refl _ w).alloc _
  go_enter Tryd.func17, Tryd.ntmps17
  go_wp2
  refine wp_loop_rounds 1 ?_
  rw [rounds_succ]
  go_wp2_with fail
  refine (kind_no 9 _ (.inr (by decide))).mono ?_
  rintro e w1 ⟨rfl, rfl⟩
  go_wp2
  go_ret
  exact ⟨by simp, hg⟩

set_option maxRecDepth 100000 in
set_option maxHeartbeats 2000000 in
theorem awake_any (w : World) (hm : MaxL w) : Calls Tryd.prog 8 #[] w fun e w' => e = .returned (.bool true) ∧ Grew w w' := by
  have L1 : likeB (lst ⟨#[97, 42, 99, 124, 100]⟩) (lst ⟨#[97, 98, 99]⟩) = true := by decide +kernel
  have L2 : likeB (lst ⟨#[97]⟩) (lst ⟨#[97, 98]⟩) = false := by decide +kernel
  have S1 : saysB [(2, ⟨#[97]⟩, ⟨#[120]⟩)] [] = true := by decide +kernel
  have S2 : saysB [(1, ⟨#[97]⟩, ⟨#[120]⟩)] [] = false := by decide +kernel
  have M1 := mLike_any ⟨#[97, 42, 99, 124, 100]⟩ ⟨#[97, 98, 99]⟩ w (by decide) (by decide) hm
  rw [L1] at M1
  have M2 : Hid (∀ w', Grew w w' → Calls Tryd.prog 6 #[.string ⟨#[97]⟩, .string ⟨#[97, 98]⟩] w' fun e w2 => e = .returned (.bool false) ∧ Grew w' w2) := fun w' hg => by
    have := mLike_any ⟨#[97]⟩ ⟨#[97, 98]⟩ w' (by decide) (by decide) (hm.grew hg)
    rwa [L2] at this
  have M3 : Hid (∀ w' g, Grew w w' → RE elMa w' (some ⟨g, 0, none⟩) 1 [(2, ⟨#[97]⟩, ⟨#[120]⟩)] → Calls Tryd.prog 9 #[.slice (some ⟨g, 0, none⟩) 1 1, .slice none 0 0] w' fun e w2 => e = .returned (.bool true) ∧ Grew w' w2) := fun w' g hg h => by
    have := says_any (some ⟨g, 0, none⟩) 1 1 [(2, ⟨#[97]⟩, ⟨#[120]⟩)] none 0 0 [] w' h (RE.nil _ _) (by decide) (by decide) (fun x hx => by simp at hx; subst hx; decide) (fun x hx => by cases hx) (hm.grew hg)
    rwa [S1] at this
  have M4 : Hid (∀ w' g, Grew w w' → RE elMa w' (some ⟨g, 0, none⟩) 1 [(1, ⟨#[97]⟩, ⟨#[120]⟩)] → Calls Tryd.prog 9 #[.slice (some ⟨g, 0, none⟩) 1 1, .slice none 0 0] w' fun e w2 => e = .returned (.bool false) ∧ Grew w' w2) := fun w' g hg h => by
    have := says_any (some ⟨g, 0, none⟩) 1 1 [(1, ⟨#[97]⟩, ⟨#[120]⟩)] none 0 0 [] w' h (RE.nil _ _) (by decide) (by decide) (fun x hx => by simp at hx; subst hx; decide) (fun x hx => by cases hx) (hm.grew hg)
    rwa [S2] at this
  clear L1 L2 S1 S2 hm
  go_enter Tryd.func8, Tryd.ntmps8
  go_wp2_with fail
  refine M1.mono ?_
  rintro e w1 ⟨rfl, hg1⟩
  go_wp2_with fail
  refine (M2.out _ (by exact hg1)).mono ?_
  rintro e w2 ⟨rfl, hg2⟩
  have hg02 := hg1.trans hg2
  go_wp2_with fail
  refine (check_nine _ _ _ _ (by exact RE.newAt rfl rfl rfl)).mono ?_
  rintro e w3 ⟨rfl, hg3⟩
  have hg03 : Grew w w3 := (hg02.alloc _).trans hg3
  clear hg1 hg2 hg3 hg02
  go_wp2_with fail
  refine (M3.out _ _ (by exact hg03.alloc _) (by exact RE.newAt rfl rfl rfl)).mono ?_
  rintro e w4 ⟨rfl, hg4⟩
  have hg04 : Grew w w4 := (hg03.alloc _).trans hg4
  clear hg03 hg4
  go_wp2_with fail
  refine (M4.out _ _ (by exact hg04.alloc _) (by exact RE.newAt rfl rfl rfl)).mono ?_
  rintro e w5 ⟨rfl, hg5⟩
  have hg05 : Grew w w5 := (hg04.alloc _).trans hg5
  clear hg04 hg5
  go_wp2
  go_ret
  exact ⟨by simp, hg05⟩

set_option maxRecDepth 100000 in
set_option maxHeartbeats 1000000 in
theorem walk_matchLikes (p s : ByteArray) (w : World) (hp : p.size ≤ 16777216) (hs : s.size ≤ 16777216) (hm : MaxL w) :
    Calls Tryd.prog 3 #[.string p, .string s] w fun e w' => e = .returned (.bool true) ∧ Grew w w' := by
  go_enter Tryd.func3, Tryd.ntmps3
  go_wp2_with fail
  refine (mLike_any p s _ hp hs hm).mono ?_
  rintro e w1 ⟨rfl, hg1⟩
  go_wp2_with fail
  refine (rLike_any p s _ hp hs).mono ?_
  rintro e w2 ⟨rfl, hg2⟩
  have hg02 := hg1.trans hg2
  go_wp2_with fail
  refine (awake_any _ (hm.grew hg02)).mono ?_
  rintro e w3 ⟨rfl, hg3⟩
  go_wp2
  go_ret
  exact ⟨by simp, hg02.trans hg3⟩
end Go.Proofs.YtgmmcbdcabbmiaaDoor
