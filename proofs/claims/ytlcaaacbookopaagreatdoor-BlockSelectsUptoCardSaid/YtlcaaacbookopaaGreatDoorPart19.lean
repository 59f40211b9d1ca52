/-
  Several texts in one:
  Package chunk: the reader's take, time and value: what each call does, told by lists of bits. Conditions: lengths that memory bears.
  Package chunk: the reader's value: what the call does, told by lists of bits. Conditions: lengths that memory bears.
-/
import Derived.Test.YtlcaaacbookopaaGreatDoorPart18
import Derived.Test.YtlcaaacbookopaaGreatDoorPart17
import Derived.Deep.RegionHeld3
import Derived.Test.YtlcaaacbookopaaGreatDoorPart6

namespace Go.Proofs.YtlcaaacbookopaaGreatDoor
open Go.RowKit

/-- a reader of the bits of some bytes: its place, and whether they ended too early -/
def RdrIs (w : World) (g : Nat) (A : Option Addr) (m c : Nat) (l : List UInt8) (s : St) : Prop :=
  Blk w g 162 #[.slice A m c, .int .i64 ((8 * m : Nat) : Int), .int .i64 (s.1 : Int), .bool s.2] ∧ s.1 ≤ 8 * m ∧ RB w A m l ∧ (∀ ad, A = some ad → 0 < m → ad.block ≠ g) ∧ m ≤ 140737488355328
theorem RdrIs.grew {w w' : World} {g : Nat} {A : Option Addr} {m c : Nat} {l : List UInt8} {s : St} (h : RdrIs w g A m c l s) (hg : Grew w w') : RdrIs w' g A m c l s :=
  ⟨h.1.grew hg, h.2.1, h.2.2.1.grew hg, h.2.2.2⟩
theorem RdrIs.drewN {w : World} {g : Nat} {A : Option Addr} {m c : Nat} {l : List UInt8} {s : St} (h : RdrIs w g A m c l s) (k : Nat) : RdrIs (w.drewN k) g A m c l s := h
theorem RdrIs.bad {w : World} {g : Nat} {A : Option Addr} {m c : Nat} {l : List UInt8} {s : St} (h : RdrIs w g A m c l s) : w.cell? ⟨g, 3, none⟩ = some (.bool s.2) ∧ w.frozen? ⟨g, 3, none⟩ = false :=
  ⟨by rw [h.1.cell]; rfl, h.1.frozen 3⟩
theorem RdrIs.setBad {w : World} {g : Nat} {A : Option Addr} {m c : Nat} {l : List UInt8} {s : St} (h : RdrIs w g A m c l s) (b : Bool) : RdrIs (w.setCell ⟨g, 3, none⟩ (.bool b)) g A m c l (s.1, b) :=
  ⟨by have := h.1.set 3 (.bool b); simpa using this, h.2.1, h.2.2.1.setFar (p := ⟨g, 3, none⟩) h.2.2.2.1 _, h.2.2.2⟩
theorem RdrIs.far {w : World} {g : Nat} {A : Option Addr} {m c : Nat} {l : List UInt8} {s : St} (h : RdrIs w g A m c l s) {S : Nat → Prop} {w' : World} (hc : Chg S w w') (hg : ¬ S g) (hA : ∀ ad, A = some ad → 0 < m → ¬ S ad.block) : RdrIs w' g A m c l s :=
  ⟨h.1.chg hc hg, h.2.1, h.2.2.1.far hc hA, h.2.2.2⟩

def RtkPost (w : World) (g : Nat) (A : Option Addr) (m c : Nat) (l : List UInt8) (r : Nat × St) (e : Ending) (w' : World) : Prop :=
  e = .returned (.int .u64 (r.1 : Int)) ∧ RdrIs w' g A m c l r.2 ∧ Chg (fun x => x = g) w w'

set_option maxRecDepth 100000 in
set_option maxHeartbeats 1000000 in
theorem rtake_any (g : Nat) (A : Option Addr) (m c : Nat) (l : List UInt8) (s : St) (k : Nat) (kz : Int) (w : World) (h : RdrIs w g A m c l s) (hkz : kz = (k : Int)) (hk : k ≤ 64) :
    Calls Tryz.prog 106 #[.pointer (some ⟨g, 0, none⟩), .int .i64 kz] w (RtkPost w g A m c l (tk (bitsOf l (8 * m)) k s)) := by
  subst hkz
  obtain ⟨a, bad⟩ := s
  obtain ⟨hb, ha, hr, hA, hm⟩ := h
  have hlen : (bitsOf l (8 * m)).length = 8 * m := by simp [bitsOf]
  have htl := tk_len (bitsOf l (8 * m)) k (a, false) (by rw [hlen]; exact ha)
  rw [hlen] at htl
  have htk : tk (bitsOf l (8 * m)) k (a, bad) = ((tk (bitsOf l (8 * m)) k (a, false)).1, (tk (bitsOf l (8 * m)) k (a, false)).2.1, bad || (tk (bitsOf l (8 * m)) k (a, false)).2.2) := by
    unfold tk
    split <;> simp
  have hT : ∀ w, Blk w g 162 #[.slice A m c, .int .i64 ((8 * m : Nat) : Int), .int .i64 (a : Int), .bool bad] → RB w A m l → Calls Tryz.prog 129 #[.pointer (some ⟨g, 0, none⟩), .int .i64 (k : Int)] w
      (TkPost w g 162 #[.slice A m c, .int .i64 ((8 * m : Nat) : Int), .int .i64 (a : Int), .bool bad] (bitsOf l (8 * m)) a k) := fun w hb hr => take_at g _ _ A m c l a k w hb rfl rfl rfl hr hA hk hm ha
  unfold RtkPost
  rw [htk]
  unfold TkPost at hT
  generalize tk (bitsOf l (8 * m)) k (a, false) = r at *
  obtain ⟨v, a', o⟩ := r
  have HT := Lib.hid hT
  clear hT htk hlen
  go_enter Tryz.func106, Tryz.ntmps106
  go_wp2_with fail
  refine (HT.out _ hb hr).mono ?_
  rintro e w1 ⟨rfl, hb1, hc1⟩
  have hb1' : Blk w1 g 162 #[.slice A m c, .int .i64 ((8 * m : Nat) : Int), .int .i64 (a' : Int), .bool bad] := by simpa using hb1
  have hr1 : RdrIs w1 g A m c l (a', bad) := ⟨hb1', htl, hr.far hc1 hA, hA, hm⟩
  obtain ⟨f1, f2⟩ := hr1.bad
  cases bad
  all_goals
    cases o
    all_goals
      go_wp2
      go_ret
      exact ⟨by simp, hr1.setBad _, hc1.setCell (p := ⟨g, 3, none⟩) (.inr rfl) _⟩

theorem sx_7 (v : Nat) (hv : v < 2 ^ 7) : wrap64 ((v : Int) * 144115188075855872) / 144115188075855872 = sx v 7 := by
  unfold sx wrap64
  split <;> omega
theorem sx_9 (v : Nat) (hv : v < 2 ^ 9) : wrap64 ((v : Int) * 36028797018963968) / 36028797018963968 = sx v 9 := by
  unfold sx wrap64
  split <;> omega
theorem sx_12 (v : Nat) (hv : v < 2 ^ 12) : wrap64 ((v : Int) * 4503599627370496) / 4503599627370496 = sx v 12 := by
  unfold sx wrap64
  split <;> omega
theorem sx_64 (v : Nat) (hv : v < 2 ^ 64) : wrap64 (v : Int) = sx v 64 := by
  unfold sx wrap64
  split <;> omega

def RtmPost (w : World) (g : Nat) (A : Option Addr) (m c : Nat) (l : List UInt8) (r : Int × St) (e : Ending) (w' : World) : Prop :=
  e = .returned (.int .i64 r.1) ∧ RdrIs w' g A m c l r.2 ∧ Chg (fun x => x = g) w w'

set_option maxRecDepth 100000 in
set_option maxHeartbeats 2000000 in
theorem rtime_any (g : Nat) (A : Option Addr) (m c : Nat) (l : List UInt8) (s : St) (w : World) (h : RdrIs w g A m c l s) :
    Calls Tryz.prog 107 #[.pointer (some ⟨g, 0, none⟩)] w (RtmPost w g A m c l (pTime (bitsOf l (8 * m)) s)) := by
  have hT : ∀ (w : World) (s : St) (k : Nat) (kz : Int), RdrIs w g A m c l s → kz = (k : Int) → k ≤ 64 → Calls Tryz.prog 106 #[.pointer (some ⟨g, 0, none⟩), .int .i64 kz] w (RtkPost w g A m c l (tk (bitsOf l (8 * m)) k s)) := fun w s k kz h hk hk2 => rtake_any g A m c l s k kz w h hk hk2
  generalize bitsOf l (8 * m) = bs at *
  have HT := Lib.hid hT
  clear hT
  go_enter Tryz.func107, Tryz.ntmps107
  go_wp2
  go_loopw [3] (fun n wr => ∃ (j : Nat) (s' : St), j ≤ 4 ∧ n = .int .i64 j ∧ RdrIs wr g A m c l s' ∧ Hid (pN bs (4 - j) j s' = pN bs 4 0 s) ∧ Chg (fun x => x = g) w wr) (fun n _ => 4 - (intOf n).toNat)
  case atStart => exact ⟨0, s, by omega, rfl, h, rfl, Chg.refl _ _⟩
  case round =>
    clear h
    obtain ⟨j, s', hj, rfl, hr, hN, hchg⟩ := hrel
    by_cases hj4 : j < 4
    · have hN' : Hid ((if (tk bs 1 s').1 = 1 ∧ (tk bs 1 s').2.2 = false then pN bs (4 - (j + 1)) (j + 1) (tk bs 1 s').2 else (j, (tk bs 1 s').2)) = pN bs 4 0 s) := by
        have := hN.out
        rw [show 4 - j = (4 - (j + 1)) + 1 by omega] at this
        exact this
      have hT1 := HT.out wr s' 1 1 hr rfl (by omega)
      clear hN hr
      unfold RtkPost at hT1
      generalize tk bs 1 s' = r at *
      obtain ⟨v, a', bad⟩ := r
      have HT1 := Lib.hid hT1
      clear hT1
      go_wp2_with fail
      refine HT1.out.mono ?_
      rintro e w1 ⟨rfl, hr1, hc1⟩
      have hchg1 := hchg.trans hc1
      obtain ⟨f1, f2⟩ := hr1.bad
      dsimp only at f1 hN'
      clear hchg hc1
      by_cases hv1 : v = 1 ∧ bad = false
      · obtain ⟨rfl, rfl⟩ := hv1
        rw [if_pos ⟨rfl, rfl⟩] at hN'
        go_wp2
        go_roundw
        case rel => exact ⟨j + 1, _, by omega, by go_num, hr1, hN', hchg1⟩
        case measure => simp [intOf]; omega
      · have hend : ((v : Int) == 1) = false ∨ (((v : Int) == 1) = true ∧ bad = true) := by
          by_cases h1 : v = 1
          · right
            exact ⟨by simp [h1], by cases bad; exact (hv1 ⟨h1, rfl⟩).elim; rfl⟩
          · left; simp; omega
        rw [if_neg hv1] at hN'
        clear hv1
        have hP : Hid (pTime bs s = if j = 0 then (0, (a', bad)) else (sx (tk bs (wid j) (a', bad)).1 (wid j), (tk bs (wid j) (a', bad)).2)) := by
          show _ = _
          unfold pTime
          rw [← hN'.out]
        have hsz := hchg1.size
        clear hN'
        have hj' : j = 0 ∨ j = 1 ∨ j = 2 ∨ j = 3 := by omega
        rcases hend with h1 | ⟨h1, h2⟩
        all_goals
          rcases hj' with rfl | rfl | rfl | rfl
          · rw [if_pos rfl] at hP
            go_wp2
            go_ret
            exact ⟨by rw [hP.out]; simp, by rw [hP.out]; exact hr1.grew ((Chg.refl _ w1).alloc _), hchg1.alloc _⟩
          · rw [if_neg (by decide)] at hP
            have HP : Hid (pTime bs s = (sx (tk bs 7 (a', bad)).1 7, (tk bs 7 (a', bad)).2)) := hP
            clear hP
            go_wp2_with fail
            refine (HT.out _ _ 7 _ (hr1.grew ((Chg.refl _ w1).alloc _)) rfl (by omega)).mono ?_
            rintro e w2 ⟨rfl, hr2, hc2⟩
            have hlt := tk_lt bs 7 (a', bad)
            generalize tk bs 7 (a', bad) = r2 at *
            go_wp2
            go_ret
            refine ⟨?_, by rw [HP.out]; exact hr2, (hchg1.alloc _).trans hc2⟩
            rw [HP.out, ← sx_7 _ hlt]
            simp
          · rw [if_neg (by decide)] at hP
            have HP : Hid (pTime bs s = (sx (tk bs 9 (a', bad)).1 9, (tk bs 9 (a', bad)).2)) := hP
            clear hP
            go_wp2_with fail
            refine (HT.out _ _ 9 _ (hr1.grew ((Chg.refl _ w1).alloc _)) rfl (by omega)).mono ?_
            rintro e w2 ⟨rfl, hr2, hc2⟩
            have hlt := tk_lt bs 9 (a', bad)
            generalize tk bs 9 (a', bad) = r2 at *
            go_wp2
            go_ret
            refine ⟨?_, by rw [HP.out]; exact hr2, (hchg1.alloc _).trans hc2⟩
            rw [HP.out, ← sx_9 _ hlt]
            simp
          · rw [if_neg (by decide)] at hP
            have HP : Hid (pTime bs s = (sx (tk bs 12 (a', bad)).1 12, (tk bs 12 (a', bad)).2)) := hP
            clear hP
            go_wp2_with fail
            refine (HT.out _ _ 12 _ (hr1.grew ((Chg.refl _ w1).alloc _)) rfl (by omega)).mono ?_
            rintro e w2 ⟨rfl, hr2, hc2⟩
            have hlt := tk_lt bs 12 (a', bad)
            generalize tk bs 12 (a', bad) = r2 at *
            go_wp2
            go_ret
            refine ⟨?_, by rw [HP.out]; exact hr2, (hchg1.alloc _).trans hc2⟩
            rw [HP.out, ← sx_12 _ hlt]
            simp
    · obtain rfl : j = 4 := by omega
      obtain ⟨a', bad⟩ := s'
      have hP : Hid (pTime bs s = (sx (tk bs 64 (a', bad)).1 64, (tk bs 64 (a', bad)).2)) := by
        show _ = _
        unfold pTime
        rw [← hN.out]
        rfl
      have hsz := hchg.size
      clear hN
      go_wp2_with fail
      refine (HT.out _ _ 64 _ (hr.grew ((Chg.refl _ wr).alloc _)) rfl (by omega)).mono ?_
      rintro e w2 ⟨rfl, hr2, hc2⟩
      have hlt := tk_lt bs 64 (a', bad)
      generalize tk bs 64 (a', bad) = r2 at *
      go_wp2
      go_ret
      refine ⟨?_, by rw [hP.out]; exact hr2, (hchg.alloc _).trans hc2⟩
      rw [hP.out, ← sx_64 _ hlt]
      simp
end Go.Proofs.YtlcaaacbookopaaGreatDoor

namespace Go.Proofs.YtlcaaacbookopaaGreatDoor
open Go.RowKit

def RvlPost (w : World) (g : Nat) (A : Option Addr) (m c : Nat) (l : List UInt8) (r : Nat × Win × St) (e : Ending) (w' : World) : Prop :=
  e = .returned (.tuple #[.int .u64 (r.1 : Int), winV r.2.1]) ∧ RdrIs w' g A m c l r.2.2 ∧ Chg (fun x => x = g) w w'

theorem tk_5 (bs : List Bool) (s : St) : (tk bs 5 s).1 < 32 := tk_lt bs 5 s
theorem tk_6 (bs : List Bool) (s : St) : (tk bs 6 s).1 < 64 := tk_lt bs 6 s
theorem tk_1 (bs : List Bool) (s : St) : (tk bs 1 s).1 < 2 := tk_lt bs 1 s
theorem pVal_lt {bs : List Bool} {w : Win} {s : St} (hw : WinOk w) : (pVal bs w s).1 < 18446744073709551616 := by
  unfold pVal
  split
  · rename_i h
    have h1 := hw h
    have h2 := tk_lt bs (64 - w.1 - w.2.1) s
    have h3 : (tk bs (64 - w.1 - w.2.1) s).1 * 2 ^ w.2.1 < 2 ^ (64 - w.1 - w.2.1) * 2 ^ w.2.1 := Nat.mul_lt_mul_of_pos_right h2 (Nat.two_pow_pos _)
    rw [← Nat.pow_add] at h3
    have h4 : 2 ^ (64 - w.1 - w.2.1 + w.2.1) ≤ 2 ^ 64 := Nat.pow_le_pow_right (by omega) (by omega)
    simp only
    omega
  · simp

/-- a store into the cells of a block of the call's own leaves the reader -/
theorem RdrIs.own {w : World} {g h : Nat} {A : Option Addr} {m c : Nat} {l : List UInt8} {s : St} (hr : RdrIs w g A m c l s) (hg : g ≠ h) (hA : ∀ ad, A = some ad → 0 < m → ad.block ≠ h) (i : Nat) (u : Value) : RdrIs (w.setCell ⟨h, i, none⟩ u) g A m c l s :=
  ⟨hr.1.far hg u, hr.2.1, hr.2.2.1.setFar (p := ⟨h, i, none⟩) hA u, hr.2.2.2⟩
theorem RdrIs.kat3 {w : World} {g h : Nat} {A : Option Addr} {m c : Nat} {l : List UInt8} {s : St} (hr : RdrIs w g A m c l s) (hg : g ≠ h) (hA : ∀ ad, A = some ad → 0 < m → ad.block ≠ h) (a b d : Value) :
    RdrIs (((w.setCell ⟨h, 0, none⟩ a).setCell ⟨h, 1, none⟩ b).setCell ⟨h, 2, none⟩ d) g A m c l s := ((hr.own hg hA 0 a).own hg hA 1 b).own hg hA 2 d
theorem Blk.kat3 {w : World} {h : Nat} {t : TypeId} {a b c a' b' c' : Value} (hb : Blk w h t #[a, b, c]) : Blk (((w.setCell ⟨h, 0, none⟩ a').setCell ⟨h, 1, none⟩ b').setCell ⟨h, 2, none⟩ c') h t #[a', b', c'] := by
  have := ((hb.set 0 a').set 1 b').set 2 c'
  simpa using this
theorem Blk.at3far {w : World} {h k : Nat} {t : TypeId} {cs : Array Value} (hb : Blk w k t cs) (hk : k ≠ h) (a b c : Value) : Blk (((w.setCell ⟨h, 0, none⟩ a).setCell ⟨h, 1, none⟩ b).setCell ⟨h, 2, none⟩ c) k t cs :=
  ((hb.far (p := ⟨h, 0, none⟩) hk a).far (p := ⟨h, 1, none⟩) hk b).far (p := ⟨h, 2, none⟩) hk c
theorem ksameIn_one {k : Nat} {W w : World} {t : TypeId} {cs : Array Value} (h1 : Blk W k t cs) (h2 : Blk w k t cs) : SameIn [k] W w := fun i hi => by
  simp only [List.mem_cons, List.not_mem_nil, or_false] at hi
  subst hi
  exact Eq.trans h2 (Eq.symm h1)
theorem kcellsIn_one {k : Nat} {W : World} {t : TypeId} {cs : Array Value} (h : Blk W k t cs) : CellsIn [k] W := fun i hi => by
  simp only [List.mem_cons, List.not_mem_nil, or_false] at hi
  subst hi
  exact ⟨_, _, _, h⟩
/-- a number shifted to its place -/
theorem kshl_fits {v a b : Nat} (hv : v < 2 ^ (64 - a - b)) (hab : a + b ≤ 63) : IntKind.u64.wrap ((v : Int) * 2 ^ b) = ((v * 2 ^ b : Nat) : Int) := by
  have h3 : v * 2 ^ b < 2 ^ (64 - a - b) * 2 ^ b := Nat.mul_lt_mul_of_pos_right hv (Nat.two_pow_pos _)
  rw [← Nat.pow_add] at h3
  have h4 : 2 ^ (64 - a - b + b) ≤ 2 ^ 64 := Nat.pow_le_pow_right (by omega) (by omega)
  rw [IntKind.wrap_u64, ← show ((v * 2 ^ b : Nat) : Int) = (v : Int) * 2 ^ b by simp]
  omega
theorem Chg.kat3 {S : Nat → Prop} {w w1 : World} {h : Nat} (hc : Chg S w w1) (hh : w.heap.size ≤ h) (a b c : Value) : Chg S w (((w1.setCell ⟨h, 0, none⟩ a).setCell ⟨h, 1, none⟩ b).setCell ⟨h, 2, none⟩ c) :=
  Chg.setCell (Chg.setCell (Chg.setCell hc (p := ⟨h, 0, none⟩) (.inl hh) _) (p := ⟨h, 1, none⟩) (.inl hh) _) (p := ⟨h, 2, none⟩) (.inl hh) _

set_option maxRecDepth 100000 in
set_option maxHeartbeats 4000000 in
theorem rvalue_any (g : Nat) (A : Option Addr) (m c : Nat) (l : List UInt8) (s : St) (wa wb : Nat) (wh : Bool) (w : World) (h : RdrIs w g A m c l s) (hwo : WinOk (wa, wb, wh)) :
    Calls Tryz.prog 108 #[.pointer (some ⟨g, 0, none⟩), .agg #[.int .i64 (wa : Int), .int .i64 (wb : Int), .bool wh]] w (RvlPost w g A m c l (pValue (bitsOf l (8 * m)) (wa, wb, wh) s)) := by
  have hT : ∀ (w : World) (s : St) (k : Nat) (kz : Int), RdrIs w g A m c l s → kz = (k : Int) → k ≤ 64 → Calls Tryz.prog 106 #[.pointer (some ⟨g, 0, none⟩), .int .i64 kz] w (RtkPost w g A m c l (tk (bitsOf l (8 * m)) k s)) := fun w s k kz h hk hk2 => rtake_any g A m c l s k kz w h hk hk2
  generalize bitsOf l (8 * m) = bs at *
  have HT := Lib.hid hT
  clear hT
  have hg := h.1.lt
  have hA : ∀ (B : Nat), w.heap.size ≤ B → ∀ ad, A = some ad → 0 < m → ad.block ≠ B := fun B hB ad e h0 => by have := h.2.2.1.lt ad e h0; omega
  have hA3 := hA w.heap.size (Nat.le_refl _)
  have hA5 := hA (w.heap.size + 1) (by omega)
  have hr0 := (h.grew ((Chg.refl _ w).alloc (.cells #[.int .i64 (wa : Int), .int .i64 (wb : Int), .bool wh] 124))).grew ((Chg.refl _ _).alloc (.cells #[.int .i64 0, .int .i64 0, .bool false] 124))
  have hc0 : Chg (fun x => x = g) w ((w.alloc (.cells #[.int .i64 (wa : Int), .int .i64 (wb : Int), .bool wh] 124)).alloc (.cells #[.int .i64 0, .int .i64 0, .bool false] 124)) := ((Chg.refl _ w).alloc _).alloc _
  have b3 : Blk ((w.alloc (.cells #[.int .i64 (wa : Int), .int .i64 (wb : Int), .bool wh] 124)).alloc (.cells #[.int .i64 0, .int .i64 0, .bool false] 124)) w.heap.size 124 #[.int .i64 (wa : Int), .int .i64 (wb : Int), .bool wh] := (Blk.new w _ _).alloc _
  have b5 : Blk ((w.alloc (.cells #[.int .i64 (wa : Int), .int .i64 (wb : Int), .bool wh] 124)).alloc (.cells #[.int .i64 0, .int .i64 0, .bool false] 124)) (w.heap.size + 1) 124 #[.int .i64 0, .int .i64 0, .bool false] := by
    have := Blk.new (w.alloc (.cells #[.int .i64 (wa : Int), .int .i64 (wb : Int), .bool wh] 124)) 124 #[.int .i64 0, .int .i64 0, .bool false]
    simpa using this
  have hd : ∀ b, ¬ w.heap.size + b = g := fun b => by omega
  have hd3 := hd 0
  have hd5 := hd 1
  rw [Nat.add_zero] at hd3
  have e1 := tk_1 bs s
  have T1 := Lib.hid (HT.out _ s 1 1 hr0 rfl (by omega))
  unfold RtkPost at T1
  by_cases h1 : (tk bs 1 s).1 = 0
  · have hv : pValue bs (wa, wb, wh) s = (0, (wa, wb, wh), (tk bs 1 s).2) := by unfold pValue; rw [if_pos h1]
    have HV := Lib.hid hv
    clear hv hd hA hr0
    generalize tk bs 1 s = r at *
    obtain ⟨v, s1⟩ := r
    obtain rfl : v = 0 := h1
    clear e1
    go_enter Tryz.func108, Tryz.ntmps108
    go_wp2_with fail
    refine T1.out.mono ?_
    rintro e w1 ⟨rfl, hr1, hc1⟩
    have b31 := b3.chg hc1 hd3
    have b51 := b5.chg hc1 hd5
    have hc01 := hc0.trans hc1
    obtain ⟨f1, f2, f3⟩ := b31.three
    obtain ⟨k1, k2, k3⟩ := b51.three
    have z0 := b51.frozen 0
    have z1 := b51.frozen 1
    have z2 := b51.frozen 2
    clear hc0 hc1 b3 b5
    go_wp2_with fail
    refine wp_region_text [] (by kernel_rfl) (by kernel_rfl) ?_
    simp only [instr, chk, List.nil_append]
    go_wp2_with fail
    refine OnlyN.normal ?_
    go_wp2
    have q := Blk.kat3 (a' := .int .i64 (wa : Int)) (b' := .int .i64 (wb : Int)) (c' := .bool wh) b51
    obtain ⟨q1, q2, q3⟩ := q.three
    refine bodyPost_ret (v := .tuple #[.int .u64 0, winV (wa, wb, wh)]) ?_ rfl ⟨by rw [HV.out]; rfl, by rw [HV.out]; exact hr1.kat3 (Ne.symm hd5) hA5 _ _ _, (hc01.kat3 (by omega) _ _ _).drew⟩
    simp [results, Tryz.results108, go_sem, q1, q2, q3, winV]
  · have hv1 : (tk bs 1 s).1 = 1 := by omega
    have hv : pValue bs (wa, wb, wh) s = if (tk bs 1 (tk bs 1 s).2).1 = 1 then
      (if 64 < (tk bs 5 (tk bs 1 (tk bs 1 s).2).2).1 + ((tk bs 6 (tk bs 5 (tk bs 1 (tk bs 1 s).2).2).2).1 + 1) then (0, (wa, wb, wh), ((tk bs 6 (tk bs 5 (tk bs 1 (tk bs 1 s).2).2).2).2.1, true))
       else pVal bs ((tk bs 5 (tk bs 1 (tk bs 1 s).2).2).1, 64 - (tk bs 5 (tk bs 1 (tk bs 1 s).2).2).1 - ((tk bs 6 (tk bs 5 (tk bs 1 (tk bs 1 s).2).2).2).1 + 1), true) (tk bs 6 (tk bs 5 (tk bs 1 (tk bs 1 s).2).2).2).2)
      else pVal bs (wa, wb, wh) (tk bs 1 (tk bs 1 s).2).2 := by unfold pValue; rw [if_neg h1]
    generalize tk bs 1 s = r at *
    obtain ⟨v, s1⟩ := r
    dsimp only at hv h1 hv1
    subst hv1
    clear h1 e1 hd hA hr0
    have T2 : Hid (∀ w, RdrIs w g A m c l s1 → Calls Tryz.prog 106 #[.pointer (some ⟨g, 0, none⟩), .int .i64 1] w (RtkPost w g A m c l (tk bs 1 s1))) := fun w h => HT.out w s1 1 1 h rfl (by omega)
    have e2 := tk_1 bs s1
    by_cases h2 : (tk bs 1 s1).1 = 1
    · rw [if_pos h2] at hv
      have h5 := tk_5 bs (tk bs 1 s1).2
      generalize tk bs 1 s1 = r at *
      obtain ⟨v, s2⟩ := r
      dsimp only at hv h2 h5
      subst h2
      clear e2
      unfold RtkPost at T2
      have T3 : Hid (∀ w, RdrIs w g A m c l s2 → Calls Tryz.prog 106 #[.pointer (some ⟨g, 0, none⟩), .int .i64 5] w (RtkPost w g A m c l (tk bs 5 s2))) := fun w h => HT.out w s2 5 5 h rfl (by omega)
      generalize tk bs 5 s2 = r at *
      obtain ⟨a5, s3⟩ := r
      dsimp only at hv h5
      unfold RtkPost at T3
      have h6 := tk_6 bs s3
      have T4 : Hid (∀ w, RdrIs w g A m c l s3 → Calls Tryz.prog 106 #[.pointer (some ⟨g, 0, none⟩), .int .i64 6] w (RtkPost w g A m c l (tk bs 6 s3))) := fun w h => HT.out w s3 6 6 h rfl (by omega)
      generalize tk bs 6 s3 = r at *
      obtain ⟨n6, s4⟩ := r
      dsimp only at hv h6
      unfold RtkPost at T4
      by_cases hbig : 64 < a5 + (n6 + 1)
      · rw [if_pos hbig] at hv
        have HV := Lib.hid hv
        clear hv
        go_enter Tryz.func108, Tryz.ntmps108
        go_wp2_with fail
        refine T1.out.mono ?_
        rintro e w1 ⟨rfl, hr1, hc1⟩
        go_wp2_with fail
        refine (T2.out _ hr1).mono ?_
        rintro e w2 ⟨rfl, hr2, hc2⟩
        go_wp2_with fail
        refine (T3.out _ hr2).mono ?_
        rintro e w3 ⟨rfl, hr3, hc3⟩
        go_wp2_with fail
        refine (T4.out _ hr3).mono ?_
        rintro e w4 ⟨rfl, hr4, hc4⟩
        have hc04 := (((hc0.trans hc1).trans hc2).trans hc3).trans hc4
        have b34 := (((b3.chg hc1 hd3).chg hc2 hd3).chg hc3 hd3).chg hc4 hd3
        have b54 := (((b5.chg hc1 hd5).chg hc2 hd5).chg hc3 hd5).chg hc4 hd5
        clear hc0 hc1 hc2 hc3 hc4 b3 b5 hr1 hr2 hr3
        obtain ⟨f1, f2, f3⟩ := b34.three
        obtain ⟨k1, k2, k3⟩ := b54.three
        have y0 := b34.frozen 0
        have y1 := b34.frozen 1
        have y2 := b34.frozen 2
        have z0 := b54.frozen 0
        have z1 := b54.frozen 1
        have z2 := b54.frozen 2
        obtain ⟨p1, p2⟩ := hr4.bad
        go_wp2_with fail
        refine wp_region_text [] (by kernel_rfl) (by kernel_rfl) ?_
        simp only [instr, chk, List.nil_append]
        go_wp2_with fail
        refine OnlyN.normal ?_
        go_wp2
        have hrb := hr4.setBad true
        have b3b := b34.far (p := ⟨g, 3, none⟩) hd3 (.bool true)
        have b5b := b54.far (p := ⟨g, 3, none⟩) hd5 (.bool true)
        have hcb : Chg (fun x => x = g) w (w4.setCell ⟨g, 3, none⟩ (.bool true)) := hc04.setCell (p := ⟨g, 3, none⟩) (.inr rfl) _
        have q := Blk.kat3 (a' := .int .i64 (wa : Int)) (b' := .int .i64 (wb : Int)) (c' := .bool wh) b5b
        obtain ⟨q1, q2, q3⟩ := q.three
        refine bodyPost_ret (v := .tuple #[.int .u64 0, winV (wa, wb, wh)]) ?_ rfl ⟨by rw [HV.out]; rfl, by rw [HV.out]; exact hrb.kat3 (Ne.symm hd5) hA5 _ _ _, (hcb.kat3 (by omega) _ _ _).drew⟩
        simp [results, Tryz.results108, go_sem, q1, q2, q3, winV]
      · rw [if_neg hbig] at hv
        have hb6 : a5 + (64 - a5 - (n6 + 1)) ≤ 63 := by omega
        have T5 : Hid (∀ w, RdrIs w g A m c l s4 → Calls Tryz.prog 106 #[.pointer (some ⟨g, 0, none⟩), .int .i64 (64 - (a5 : Int) - (64 - (a5 : Int) - ((n6 : Int) + 1)))] w (RtkPost w g A m c l (tk bs (64 - a5 - (64 - a5 - (n6 + 1))) s4))) := fun w h => HT.out w s4 (64 - a5 - (64 - a5 - (n6 + 1))) _ h (by omega) (by omega)
        have hv : pValue bs (wa, wb, wh) s = ((tk bs (64 - a5 - (64 - a5 - (n6 + 1))) s4).1 * 2 ^ (64 - a5 - (n6 + 1)), (a5, 64 - a5 - (n6 + 1), true), (tk bs (64 - a5 - (64 - a5 - (n6 + 1))) s4).2) := by rw [hv]; rfl
        have hsh := kshl_fits (tk_lt bs (64 - a5 - (64 - a5 - (n6 + 1))) s4) hb6
        unfold RtkPost at T5
        generalize tk bs (64 - a5 - (64 - a5 - (n6 + 1))) s4 = r at *
        obtain ⟨v5, s5⟩ := r
        dsimp only at hsh
        have hyz : ((64 - a5 - (n6 + 1) : Nat) : Int) = 64 - (a5 : Int) - ((n6 : Int) + 1) := by omega
        have HV := Lib.hid hv
        have HS := Lib.hid hsh
        have HY := Lib.hid hyz
        clear hv hsh hyz
        go_enter Tryz.func108, Tryz.ntmps108
        go_wp2_with fail
        refine T1.out.mono ?_
        rintro e w1 ⟨rfl, hr1, hc1⟩
        go_wp2_with fail
        refine (T2.out _ hr1).mono ?_
        rintro e w2 ⟨rfl, hr2, hc2⟩
        go_wp2_with fail
        refine (T3.out _ hr2).mono ?_
        rintro e w3 ⟨rfl, hr3, hc3⟩
        go_wp2_with fail
        refine (T4.out _ hr3).mono ?_
        rintro e w4 ⟨rfl, hr4, hc4⟩
        have hc04 := (((hc0.trans hc1).trans hc2).trans hc3).trans hc4
        have b34 := (((b3.chg hc1 hd3).chg hc2 hd3).chg hc3 hd3).chg hc4 hd3
        have b54 := (((b5.chg hc1 hd5).chg hc2 hd5).chg hc3 hd5).chg hc4 hd5
        clear hc0 hc1 hc2 hc3 hc4 b3 b5 hr1 hr2 hr3
        obtain ⟨f1, f2, f3⟩ := b34.three
        obtain ⟨k1, k2, k3⟩ := b54.three
        have y0 := b34.frozen 0
        have y1 := b34.frozen 1
        have y2 := b34.frozen 2
        have z0 := b54.frozen 0
        have z1 := b54.frozen 1
        have z2 := b54.frozen 2
        obtain ⟨p1, p2⟩ := hr4.bad
        go_wp2_with fail
        have b3w := Blk.kat3 (a' := (.int .i64 (a5 : Int))) (b' := (.int .i64 (64 - (a5 : Int) - ((n6 : Int) + 1)))) (c' := .bool true) b34
        have b5w := b54.at3far (h := w.heap.size) (by omega) (.int .i64 (a5 : Int)) (.int .i64 (64 - (a5 : Int) - ((n6 : Int) + 1))) (.bool true)
        have hrw := hr4.kat3 (h := w.heap.size) (Ne.symm hd3) hA3 (.int .i64 (a5 : Int)) (.int .i64 (64 - (a5 : Int) - ((n6 : Int) + 1))) (.bool true)
        have hcw := hc04.kat3 (h := w.heap.size) (Nat.le_refl _) (.int .i64 (a5 : Int)) (.int .i64 (64 - (a5 : Int) - ((n6 : Int) + 1))) (.bool true)
        clear f1 f2 f3 k1 k2 k3 z0 z1 z2 y0 y1 y2 p1 p2 b34 b54 hr4 hc04
        generalize (((w4.setCell ⟨w.heap.size, 0, none⟩ (.int .i64 (a5 : Int))).setCell ⟨w.heap.size, 1, none⟩ (.int .i64 (64 - (a5 : Int) - ((n6 : Int) + 1)))).setCell ⟨w.heap.size, 2, none⟩ (.bool true)) = W at *
        obtain ⟨f1, f2, f3⟩ := b3w.three
        obtain ⟨k1, k2, k3⟩ := b5w.three
        have z0 := b5w.frozen 0
        have z1 := b5w.frozen 1
        have z2 := b5w.frozen 2
        refine wp_region_textS [(3, 1), (22, 1)] [w.heap.size] (by kernel_rfl) (by kernel_rfl) (kcellsIn_one b3w) ?_
        simp only [wpU, tagOf, chk, look, Nat.reduceBEq, Bool.false_eq_true, if_true, if_false, Nat.reduceEqDiff, List.cons_append, List.nil_append]
        intro K hK
        go_wp2_with fail
        refine OnlyN.normal (hK _ _ (fun _ => ⟨_, _, _, rfl, rfl, by simp⟩) ?_)
        clear hK K
        intro K hK
        go_wp2_with fail
        refine OnlyN.normal (hK _ _ (fun _ => ⟨_, _, _, rfl, rfl, by simp⟩) ?_)
        clear hK K
        intro K hK
        go_wp2_with fail
        refine (T5.out _ (by exact hrw)).mono ?_
        rintro e w9 ⟨rfl, hr9, hc9⟩
        have b39 := Blk.chg (g := w.heap.size) (t := 124) (by exact b3w) hc9 hd3
        have b59 := Blk.chg (g := w.heap.size + 1) (t := 124) (by exact b5w) hc9 hd5
        have hc09 := Chg.trans hcw.drew hc9
        clear f1 f2 f3 k1 k2 k3 z0 z1 z2 hc9
        obtain ⟨f1, f2, f3⟩ := b39.three
        obtain ⟨k1, k2, k3⟩ := b59.three
        have z0 := b59.frozen 0
        have z1 := b59.frozen 1
        have z2 := b59.frozen 2
        go_wp2_with fail
        refine OnlyN.normal (hK _ _ (ksameIn_one b3w b39) ?_)
        clear hK K
        intro K hK
        go_wp2_with fail
        refine OnlyN.normal (hK _ _ (fun _ => ⟨_, _, _, rfl, rfl, by simp⟩) ?_)
        clear hK K
        intro K hK
        go_wp2_with fail
        refine OnlyN.normal (hK _ _ (fun _ => ⟨_, _, _, rfl, rfl, by simp⟩) ?_)
        clear hK K
        intro K hK
        go_wp2_with fail
        refine OnlyN.normal (hK _ _ (ksameIn_one b3w (b39.at3far (by omega) _ _ _)) ?_)
        clear hK K
        go_wp2_with fail
        refine OnlyN.normal ?_
        go_wp2
        have q := Blk.kat3 (a' := (.int .i64 (a5 : Int))) (b' := (.int .i64 (64 - (a5 : Int) - ((n6 : Int) + 1)))) (c' := .bool true) b59
        obtain ⟨q1, q2, q3⟩ := q.three
        refine bodyPost_ret (v := .tuple #[.int .u64 ((v5 * 2 ^ (64 - a5 - (n6 + 1)) : Nat) : Int), winV (a5, 64 - a5 - (n6 + 1), true)]) ?_ rfl ⟨by rw [HV.out], by rw [HV.out]; exact hr9.kat3 (Ne.symm hd5) hA5 _ _ _, hc09.kat3 (by omega) _ _ _⟩
        have hs := HS.out
        have hy := HY.out
        simp [results, Tryz.results108, go_sem, q1, q2, q3, winV, hs, hy]
    · rw [if_neg h2] at hv
      have hv2 : (tk bs 1 s1).1 = 0 := by omega
      generalize tk bs 1 s1 = r at *
      obtain ⟨v, s2⟩ := r
      dsimp only at hv h2 hv2
      subst hv2
      have HV := Lib.hid hv
      clear h2 e2 hv
      unfold RtkPost at T2
      cases wh
      · have HV2 : Hid (pValue bs (wa, wb, false) s = (0, (wa, wb, false), (s2.1, true))) := by
          show _ = _
          rw [HV.out]
          rfl
        go_enter Tryz.func108, Tryz.ntmps108
        go_wp2_with fail
        refine T1.out.mono ?_
        rintro e w1 ⟨rfl, hr1, hc1⟩
        go_wp2_with fail
        refine (T2.out _ hr1).mono ?_
        rintro e w2 ⟨rfl, hr2, hc2⟩
        have hc02 := (hc0.trans hc1).trans hc2
        have b32 := (b3.chg hc1 hd3).chg hc2 hd3
        have b52 := (b5.chg hc1 hd5).chg hc2 hd5
        clear hc0 hc1 hc2 b3 b5 hr1
        obtain ⟨f1, f2, f3⟩ := b32.three
        obtain ⟨k1, k2, k3⟩ := b52.three
        have z0 := b52.frozen 0
        have z1 := b52.frozen 1
        have z2 := b52.frozen 2
        obtain ⟨p1, p2⟩ := hr2.bad
        go_wp2_with fail
        refine wp_region_text [] (by kernel_rfl) (by kernel_rfl) ?_
        simp only [instr, chk, List.nil_append]
        go_wp2_with fail
        refine OnlyN.normal ?_
        go_wp2
        have hrb := hr2.setBad true
        have b5b := b52.far (p := ⟨g, 3, none⟩) hd5 (.bool true)
        have hcb : Chg (fun x => x = g) w (w2.setCell ⟨g, 3, none⟩ (.bool true)) := hc02.setCell (p := ⟨g, 3, none⟩) (.inr rfl) _
        have q := Blk.kat3 (a' := .int .i64 (wa : Int)) (b' := .int .i64 (wb : Int)) (c' := .bool false) b5b
        obtain ⟨q1, q2, q3⟩ := q.three
        refine bodyPost_ret (v := .tuple #[.int .u64 0, winV (wa, wb, false)]) ?_ rfl ⟨by rw [HV2.out]; rfl, by rw [HV2.out]; exact hrb.kat3 (Ne.symm hd5) hA5 _ _ _, (hcb.kat3 (by omega) _ _ _).drew⟩
        simp [results, Tryz.results108, go_sem, q1, q2, q3, winV]
      · have hwk := hwo rfl
        have hwk2 : wa ≤ 31 ∧ wa + wb ≤ 63 := hwk
        have T3 : Hid (∀ w, RdrIs w g A m c l s2 → Calls Tryz.prog 106 #[.pointer (some ⟨g, 0, none⟩), .int .i64 (64 - (wa : Int) - (wb : Int))] w (RtkPost w g A m c l (tk bs (64 - wa - wb) s2))) := fun w h => HT.out w s2 (64 - wa - wb) _ h (by omega) (by omega)
        have hv : pValue bs (wa, wb, true) s = ((tk bs (64 - wa - wb) s2).1 * 2 ^ wb, (wa, wb, true), (tk bs (64 - wa - wb) s2).2) := by rw [HV.out]; rfl
        have hsh := kshl_fits (tk_lt bs (64 - wa - wb) s2) hwk2.2
        unfold RtkPost at T3
        clear HV hwk
        generalize tk bs (64 - wa - wb) s2 = r at *
        obtain ⟨v3, s3⟩ := r
        dsimp only at hsh
        have HV := Lib.hid hv
        have HS := Lib.hid hsh
        clear hv hsh
        go_enter Tryz.func108, Tryz.ntmps108
        go_wp2_with fail
        refine T1.out.mono ?_
        rintro e w1 ⟨rfl, hr1, hc1⟩
        go_wp2_with fail
        refine (T2.out _ hr1).mono ?_
        rintro e w2 ⟨rfl, hr2, hc2⟩
        have hc02 := (hc0.trans hc1).trans hc2
        have b32 := (b3.chg hc1 hd3).chg hc2 hd3
        have b52 := (b5.chg hc1 hd5).chg hc2 hd5
        clear hc0 hc1 hc2 b3 b5 hr1
        obtain ⟨f1, f2, f3⟩ := b32.three
        obtain ⟨k1, k2, k3⟩ := b52.three
        have z0 := b52.frozen 0
        have z1 := b52.frozen 1
        have z2 := b52.frozen 2
        obtain ⟨p1, p2⟩ := hr2.bad
        go_wp2_with fail
        refine wp_region_textS [(3, 1), (22, 1)] [w.heap.size] (by kernel_rfl) (by kernel_rfl) (kcellsIn_one b32) ?_
        simp only [wpU, tagOf, chk, look, Nat.reduceBEq, Bool.false_eq_true, if_true, if_false, Nat.reduceEqDiff, List.cons_append, List.nil_append]
        intro K hK
        go_wp2_with fail
        refine OnlyN.normal (hK _ _ (fun _ => ⟨_, _, _, rfl, rfl, by simp⟩) ?_)
        clear hK K
        intro K hK
        go_wp2_with fail
        refine OnlyN.normal (hK _ _ (fun _ => ⟨_, _, _, rfl, rfl, by simp⟩) ?_)
        clear hK K
        intro K hK
        go_wp2_with fail
        refine (T3.out _ (by exact hr2)).mono ?_
        rintro e w9 ⟨rfl, hr9, hc9⟩
        have b39 := Blk.chg (g := w.heap.size) (t := 124) (by exact b32) hc9 hd3
        have b59 := Blk.chg (g := w.heap.size + 1) (t := 124) (by exact b52) hc9 hd5
        have hc09 := Chg.trans hc02.drew hc9
        clear f1 f2 f3 k1 k2 k3 z0 z1 z2 hc9
        obtain ⟨f1, f2, f3⟩ := b39.three
        obtain ⟨k1, k2, k3⟩ := b59.three
        have z0 := b59.frozen 0
        have z1 := b59.frozen 1
        have z2 := b59.frozen 2
        go_wp2_with fail
        refine OnlyN.normal (hK _ _ (ksameIn_one b32 b39) ?_)
        clear hK K
        intro K hK
        go_wp2_with fail
        refine OnlyN.normal (hK _ _ (fun _ => ⟨_, _, _, rfl, rfl, by simp⟩) ?_)
        clear hK K
        intro K hK
        go_wp2_with fail
        refine OnlyN.normal (hK _ _ (fun _ => ⟨_, _, _, rfl, rfl, by simp⟩) ?_)
        clear hK K
        intro K hK
        go_wp2_with fail
        refine OnlyN.normal (hK _ _ (ksameIn_one b32 (b39.at3far (by omega) _ _ _)) ?_)
        clear hK K
        go_wp2_with fail
        refine OnlyN.normal ?_
        go_wp2
        have q := Blk.kat3 (a' := .int .i64 (wa : Int)) (b' := .int .i64 (wb : Int)) (c' := .bool true) b59
        obtain ⟨q1, q2, q3⟩ := q.three
        refine bodyPost_ret (v := .tuple #[.int .u64 ((v3 * 2 ^ wb : Nat) : Int), winV (wa, wb, true)]) ?_ rfl ⟨by rw [HV.out], by rw [HV.out]; exact hr9.kat3 (Ne.symm hd5) hA5 _ _ _, hc09.kat3 (by omega) _ _ _⟩
        have hs := HS.out
        simp [results, Tryz.results108, go_sem, q1, q2, q3, winV, hs]
end Go.Proofs.YtlcaaacbookopaaGreatDoor
