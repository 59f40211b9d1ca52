/-
  Package chunk: the reader's take, time and value: what each call does, told by lists of bits. Conditions: lengths that memory bears.
-/
import Derived.Test.YtlilnibinligkaaTk
import Derived.Test.YtlilnibinligkaaKb
import Derived.Deep.RegionHeld3
namespace Go.Proofs.Ytlilnibinligkaa
open Go.RowKit

/-- a reader of the bits of some bytes: its place, and whether they ended too early -/
def RdrIs (w : World) (g : Nat) (A : Option Addr) (m c : Nat) (l : List UInt8) (s : St) : Prop :=
  Blk w g 69 #[.slice A m c, .int .i64 ((8 * m : Nat) : Int), .int .i64 (s.1 : Int), .bool s.2] ∧ s.1 ≤ 8 * m ∧ RB w A m l ∧ (∀ ad, A = some ad → 0 < m → ad.block ≠ g) ∧ m ≤ 140737488355328
theorem RdrIs.grew {w w' : World} {g : Nat} {A : Option Addr} {m c : Nat} {l : List UInt8} {s : St} (h : RdrIs w g A m c l s) (hg : Grew w w') : RdrIs w' g A m c l s :=
  ⟨h.1.grew hg, h.2.1, h.2.2.1.grew hg, h.2.2.2⟩
theorem RdrIs.drewN {w : World} {g : Nat} {A : Option Addr} {m c : Nat} {l : List UInt8} {s : St} (h : RdrIs w g A m c l s) (k : Nat) : RdrIs (w.drewN k) g A m c l s := h
theorem RdrIs.bad {w : World} {g : Nat} {A : Option Addr} {m c : Nat} {l : List UInt8} {s : St} (h : RdrIs w g A m c l s) : w.cell? ⟨g, 3, none⟩ = some (.bool s.2) ∧ w.frozen? ⟨g, 3, none⟩ = false :=
  ⟨by rw [h.1.cell]; rfl, h.1.frozen 3⟩
theorem RdrIs.setBad {w : World} {g : Nat} {A : Option Addr} {m c : Nat} {l : List UInt8} {s : St} (h : RdrIs w g A m c l s) (b : Bool) : RdrIs (w.setCell ⟨g, 3, none⟩ (.bool b)) g A m c l (s.1, b) :=
  ⟨by have := h.1.set 3 (.bool b); simpa using this, h.2.1, h.2.2.1.setFar (p := ⟨g, 3, none⟩) h.2.2.2.1 _, h.2.2.2⟩
theorem RdrIs.far {w : World} {g : Nat} {A : Option Addr} {m c : Nat} {l : List UInt8} {s : St} (h : RdrIs w g A m c l s) {S : Nat → Prop} {w' : World} (hc : Chg S w w') (hg : ¬ S g) (hA : ∀ ad, A = some ad → 0 < m → ¬ S ad.block) : RdrIs w' g A m c l s :=
  ⟨h.1.chg hc hg, h.2.1, h.2.2.1.far hc hA, h.2.2.2⟩

def RtkPost (w : World) (g : Nat) (A : Option Addr) (m c : Nat) (l : List UInt8) (r : Nat × St) (e : Ending) (w' : World) : Prop :=
  e = .returned (.int .u64 (r.1 : Int)) ∧ RdrIs w' g A m c l r.2 ∧ Chg (fun x => x = g) w w'

set_option maxRecDepth 100000 in
set_option maxHeartbeats 1000000 in
theorem rtake_any (g : Nat) (A : Option Addr) (m c : Nat) (l : List UInt8) (s : St) (k : Nat) (kz : Int) (w : World) (h : RdrIs w g A m c l s) (hkz : kz = (k : Int)) (hk : k ≤ 64) :
    Calls Try.prog 36 #[.pointer (some ⟨g, 0, none⟩), .int .i64 kz] w (RtkPost w g A m c l (tk (bitsOf l (8 * m)) k s)) := by
  subst hkz
  obtain ⟨a, bad⟩ := s
  obtain ⟨hb, ha, hr, hA, hm⟩ := h
  have hlen : (bitsOf l (8 * m)).length = 8 * m := by simp [bitsOf]
  have htl := tk_len (bitsOf l (8 * m)) k (a, false) (by rw [hlen]; exact ha)
  rw [hlen] at htl
  have htk : tk (bitsOf l (8 * m)) k (a, bad) = ((tk (bitsOf l (8 * m)) k (a, false)).1, (tk (bitsOf l (8 * m)) k (a, false)).2.1, bad || (tk (bitsOf l (8 * m)) k (a, false)).2.2) := by
    unfold tk
    split <;> simp
  have hT : ∀ w, Blk w g 69 #[.slice A m c, .int .i64 ((8 * m : Nat) : Int), .int .i64 (a : Int), .bool bad] → RB w A m l → Calls Try.prog 43 #[.pointer (some ⟨g, 0, none⟩), .int .i64 (k : Int)] w
      (TkPost w g 69 #[.slice A m c, .int .i64 ((8 * m : Nat) : Int), .int .i64 (a : Int), .bool bad] (bitsOf l (8 * m)) a k) := fun w hb hr => take_at g _ _ A m c l a k w hb rfl rfl rfl hr hA hk hm ha
  unfold RtkPost
  rw [htk]
  unfold TkPost at hT
  generalize tk (bitsOf l (8 * m)) k (a, false) = r at *
  obtain ⟨v, a', o⟩ := r
  have HT := Lib.hid hT
  clear hT htk hlen
  go_enter Try.func36, Try.ntmps36
  go_wp2_with fail
  refine (HT.out _ hb hr).mono ?_
  rintro e w1 ⟨rfl, hb1, hc1⟩
  have hb1' : Blk w1 g 69 #[.slice A m c, .int .i64 ((8 * m : Nat) : Int), .int .i64 (a' : Int), .bool bad] := by simpa using hb1
  have hr1 : RdrIs w1 g A m c l (a', bad) := ⟨hb1', htl, hr.far hc1 hA, hA, hm⟩
  obtain ⟨f1, f2⟩ := hr1.bad
  cases bad
  all_goals
    cases o
    all_goals
      go_wp2
      go_ret
      exact ⟨by simp, hr1.setBad _, hc1.setCell (p := ⟨g, 3, none⟩) (.inr rfl) _⟩

theorem sx_7 (v : Nat) (hv : v < 2 ^ 7) : wrap64 ((v : Int) * 144115188075855872) / 144115188075855872 = sx v 7 := by
  unfold sx wrap64
  split <;> omega
theorem sx_9 (v : Nat) (hv : v < 2 ^ 9) : wrap64 ((v : Int) * 36028797018963968) / 36028797018963968 = sx v 9 := by
  unfold sx wrap64
  split <;> omega
theorem sx_12 (v : Nat) (hv : v < 2 ^ 12) : wrap64 ((v : Int) * 4503599627370496) / 4503599627370496 = sx v 12 := by
  unfold sx wrap64
  split <;> omega
theorem sx_64 (v : Nat) (hv : v < 2 ^ 64) : wrap64 (v : Int) = sx v 64 := by
  unfold sx wrap64
  split <;> omega

def RtmPost (w : World) (g : Nat) (A : Option Addr) (m c : Nat) (l : List UInt8) (r : Int × St) (e : Ending) (w' : World) : Prop :=
  e = .returned (.int .i64 r.1) ∧ RdrIs w' g A m c l r.2 ∧ Chg (fun x => x = g) w w'

theorem pN_le (bs : List Bool) : ∀ (f n : Nat) (s : St), (pN bs f n s).1 ≤ n + f
  | 0, n, s => Nat.le_refl _
  | f + 1, n, s => by
    unfold pN
    split
    · have := pN_le bs f (n + 1) (tk bs 1 s).2
      omega
    · simp only; omega

set_option maxRecDepth 100000 in
set_option maxHeartbeats 2000000 in
theorem rtime_any (g : Nat) (A : Option Addr) (m c : Nat) (l : List UInt8) (s : St) (w : World) (h : RdrIs w g A m c l s) :
    Calls Try.prog 37 #[.pointer (some ⟨g, 0, none⟩)] w (RtmPost w g A m c l (pTime (bitsOf l (8 * m)) s)) := by
  have hT : ∀ (w : World) (s : St) (k : Nat) (kz : Int), RdrIs w g A m c l s → kz = (k : Int) → k ≤ 64 → Calls Try.prog 36 #[.pointer (some ⟨g, 0, none⟩), .int .i64 kz] w (RtkPost w g A m c l (tk (bitsOf l (8 * m)) k s)) := fun w s k kz h hk hk2 => rtake_any g A m c l s k kz w h hk hk2
  generalize bitsOf l (8 * m) = bs at *
  have HT := Lib.hid hT
  clear hT
  go_enter Try.func37, Try.ntmps37
  go_wp2
  go_loopw [3] (fun n wr => ∃ (j : Nat) (s' : St), j ≤ 4 ∧ n = .int .i64 j ∧ RdrIs wr g A m c l s' ∧ Hid (pN bs (4 - j) j s' = pN bs 4 0 s) ∧ Chg (fun x => x = g) w wr) (fun n _ => 4 - (intOf n).toNat)
  case atStart => exact ⟨0, s, by omega, rfl, h, rfl, Chg.refl _ _⟩
  case round =>
    clear h
    obtain ⟨j, s', hj, rfl, hr, hN, hchg⟩ := hrel
    by_cases hj4 : j < 4
    · have hN' : Hid ((if (tk bs 1 s').1 = 1 ∧ (tk bs 1 s').2.2 = false then pN bs (4 - (j + 1)) (j + 1) (tk bs 1 s').2 else (j, (tk bs 1 s').2)) = pN bs 4 0 s) := by
        have := hN.out
        rw [show 4 - j = (4 - (j + 1)) + 1 by omega] at this
        exact this
      have hT1 := HT.out wr s' 1 1 hr rfl (by omega)
      clear hN hr
      unfold RtkPost at hT1
      generalize tk bs 1 s' = r at *
      obtain ⟨v, a', bad⟩ := r
      have HT1 := Lib.hid hT1
      clear hT1
      go_wp2_with fail
      refine HT1.out.mono ?_
      rintro e w1 ⟨rfl, hr1, hc1⟩
      have hchg1 := hchg.trans hc1
      obtain ⟨f1, f2⟩ := hr1.bad
      dsimp only at f1 hN'
      clear hchg hc1
      by_cases hv1 : v = 1 ∧ bad = false
      · obtain ⟨rfl, rfl⟩ := hv1
        rw [if_pos ⟨rfl, rfl⟩] at hN'
        go_wp2
        go_roundw
        case rel => exact ⟨j + 1, _, by omega, by go_num, hr1, hN', hchg1⟩
        case measure => simp [intOf]; omega
      · have hend : ((v : Int) == 1) = false ∨ (((v : Int) == 1) = true ∧ bad = true) := by
          by_cases h1 : v = 1
          · right
            exact ⟨by simp [h1], by cases bad; exact (hv1 ⟨h1, rfl⟩).elim; rfl⟩
          · left; simp; omega
        rw [if_neg hv1] at hN'
        clear hv1
        have hP : Hid (pTime bs s = if j = 0 then (0, (a', bad)) else (sx (tk bs (wid j) (a', bad)).1 (wid j), (tk bs (wid j) (a', bad)).2)) := by
          show _ = _
          unfold pTime
          rw [← hN'.out]
        have hsz := hchg1.size
        clear hN'
        have hj' : j = 0 ∨ j = 1 ∨ j = 2 ∨ j = 3 := by omega
        rcases hend with h1 | ⟨h1, h2⟩
        all_goals
          rcases hj' with rfl | rfl | rfl | rfl
          · rw [if_pos rfl] at hP
            go_wp2
            go_ret
            exact ⟨by rw [hP.out]; simp, by rw [hP.out]; exact hr1.grew ((Chg.refl _ w1).alloc _), hchg1.alloc _⟩
          · rw [if_neg (by decide)] at hP
            have HP : Hid (pTime bs s = (sx (tk bs 7 (a', bad)).1 7, (tk bs 7 (a', bad)).2)) := hP
            clear hP
            go_wp2_with fail
            refine (HT.out _ _ 7 _ (hr1.grew ((Chg.refl _ w1).alloc _)) rfl (by omega)).mono ?_
            rintro e w2 ⟨rfl, hr2, hc2⟩
            have hlt := tk_lt bs 7 (a', bad)
            generalize tk bs 7 (a', bad) = r2 at *
            go_wp2
            go_ret
            refine ⟨?_, by rw [HP.out]; exact hr2, (hchg1.alloc _).trans hc2⟩
            rw [HP.out, ← sx_7 _ hlt]
            simp
          · rw [if_neg (by decide)] at hP
            have HP : Hid (pTime bs s = (sx (tk bs 9 (a', bad)).1 9, (tk bs 9 (a', bad)).2)) := hP
            clear hP
            go_wp2_with fail
            refine (HT.out _ _ 9 _ (hr1.grew ((Chg.refl _ w1).alloc _)) rfl (by omega)).mono ?_
            rintro e w2 ⟨rfl, hr2, hc2⟩
            have hlt := tk_lt bs 9 (a', bad)
            generalize tk bs 9 (a', bad) = r2 at *
            go_wp2
            go_ret
            refine ⟨?_, by rw [HP.out]; exact hr2, (hchg1.alloc _).trans hc2⟩
            rw [HP.out, ← sx_9 _ hlt]
            simp
          · rw [if_neg (by decide)] at hP
            have HP : Hid (pTime bs s = (sx (tk bs 12 (a', bad)).1 12, (tk bs 12 (a', bad)).2)) := hP
            clear hP
            go_wp2_with fail
            refine (HT.out _ _ 12 _ (hr1.grew ((Chg.refl _ w1).alloc _)) rfl (by omega)).mono ?_
            rintro e w2 ⟨rfl, hr2, hc2⟩
            have hlt := tk_lt bs 12 (a', bad)
            generalize tk bs 12 (a', bad) = r2 at *
            go_wp2
            go_ret
            refine ⟨?_, by rw [HP.out]; exact hr2, (hchg1.alloc _).trans hc2⟩
            rw [HP.out, ← sx_12 _ hlt]
            simp
    · obtain rfl : j = 4 := by omega
      obtain ⟨a', bad⟩ := s'
      have hP : Hid (pTime bs s = (sx (tk bs 64 (a', bad)).1 64, (tk bs 64 (a', bad)).2)) := by
        show _ = _
        unfold pTime
        rw [← hN.out]
        rfl
      have hsz := hchg.size
      clear hN
      go_wp2_with fail
      refine (HT.out _ _ 64 _ (hr.grew ((Chg.refl _ wr).alloc _)) rfl (by omega)).mono ?_
      rintro e w2 ⟨rfl, hr2, hc2⟩
      have hlt := tk_lt bs 64 (a', bad)
      generalize tk bs 64 (a', bad) = r2 at *
      go_wp2
      go_ret
      refine ⟨?_, by rw [hP.out]; exact hr2, (hchg.alloc _).trans hc2⟩
      rw [hP.out, ← sx_64 _ hlt]
      simp
end Go.Proofs.Ytlilnibinligkaa
