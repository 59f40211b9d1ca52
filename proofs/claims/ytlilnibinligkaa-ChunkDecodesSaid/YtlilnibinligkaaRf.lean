/-
  The reference of chunk: its reader: Read of bits, get, signed, zero. Conditions: lengths that memory bears.
-/
import Derived.Test.YtlilnibinligkaaBh
import Derived.Test.YtlilnibinligkaaKj
namespace Go.Proofs.Ytlilnibinligkaa
open Go.RowKit

set_option maxRecDepth 100000 in
set_option maxHeartbeats 2000000 in
theorem rread_any (A : Option Addr) (m c : Nat) (l : List UInt8) (n : Int) (a k : Nat) (w : World) (h : RB w A m l) (hm : m ≤ 140737488355328) (hn : n = 8 * (m : Int)) (hk : k ≤ 64) (ha : a + k ≤ 8 * m) :
    Calls Try.prog 41 #[.slice A m c, .int .i64 n, .int .i64 (a : Int), .int .i64 (k : Int)] w fun e w' => e = .returned (.tuple #[.int .u64 (val (((bitsOf l (8 * m)).drop a).take k) : Int), .bool true]) ∧ w = w' := by
  have hW : ∀ w, RB w A m l → Calls Try.prog 44 #[.slice A m c, .int .i64 n] w fun e w' => e = .returned (.bool true) ∧ w = w' := fun w h => by
    have h1 := refWhole_any A m c l n w h hm (by omega)
    have h2 : wholeB l n = true := by
      rw [wholeB_iff]
      have := h.1
      subst hn
      refine ⟨by omega, by omega, fun i h1 h2 => by omega⟩
    rw [h2] at h1
    exact h1.mono fun e w' ⟨h1, h2⟩ => ⟨h1, h2.symm⟩
  have HW := Lib.hid hW
  obtain ⟨N, hN⟩ : ∃ N, N = 8 * m := ⟨_, rfl⟩
  have hN2 : N ≤ 8 * m := by omega
  have hN3 : 8 * m ≤ N := by omega
  have hNn : (N : Int) = n := by omega
  rw [← hN] at ha ⊢
  subst hNn
  clear hn hN hW
  have d1 : decide ((k : Int) < 0) = false := by simp
  have d2 : decide ((64 : Int) < (k : Int)) = false := by simp; omega
  have d3 : decide ((a : Int) < 0) = false := by simp
  have d4 : decide ((N : Int) - k < (a : Int)) = false := by simp; omega
  go_enter Try.func41, Try.ntmps41
  go_wp2_with fail
  refine (HW.out _ h).mono ?_
  rintro e w1 ⟨rfl, rfl⟩
  go_wp2
  go_loop [10, 11] (fun v i => ∃ j v0 : Nat, j ≤ k ∧ i = .int .i64 ((a + j : Nat) : Int) ∧ v = .int .u64 (v0 : Int) ∧ Hid (v0 = val (((bitsOf l N).drop a).take j)) ∧ v0 < 2 ^ j) (fun _ i => a + k - (intOf i).toNat)
  case atStart => exact ⟨0, 0, by omega, rfl, rfl, by show _ = _; simp, by simp⟩
  case round =>
    obtain ⟨j, v0, hj, rfl, rfl, Hv, hv⟩ := hrel
    by_cases hjk : j < k
    · obtain ⟨ad, x, rfl, hx, hc⟩ := h.at_ (k := (a + j) / 8) (by omega)
      have hjm : ((a + j : Nat) : Int) / 8 < m := by omega
      have hv2 : v0 < 9223372036854775808 := by
        have : 2 ^ j ≤ 2 ^ 63 := Nat.pow_le_pow_right (by omega) (by omega)
        omega
      have hbv : x.toNat / 2 ^ (7 - (a + j) % 8) % 2 = (bit l (a + j)).toNat := by
        rw [getD_or, List.getD_eq_getElem?_getD, hx]
        rfl
      have hw := take_walk v0 x.toNat (7 - (a + j) % 8) hv2 x.toNat_lt
      rw [hbv] at hw
      rw [show IntKind.u64.wrap ((v0 : Int) * 2) = (v0 : Int) * 2 from by simp only [IntKind.wrap_u64]; omega] at hw
      have Hw := Lib.hid hw
      have hlt : (a : Int) + j < (a : Int) + k := by omega
      clear hw hbv hx
      go_wp2
      go_round
      case rel =>
        refine ⟨j + 1, 2 * v0 + (bit l (a + j)).toNat, by omega, by go_num, by exact congrArg _ Hw.out, ?_, ?_⟩
        · show _ = _
          rw [take_bitsOf_succ _ _ _ _ (by omega), ← Hv.out]
        · rw [Nat.pow_succ]
          cases bit l (a + j) <;> simp <;> omega
      case measure => simp [intOf]; omega
    · obtain rfl : j = k := by omega
      go_wp2
      go_ret2
      exact ⟨by rw [← Hv.out]; simp, rfl⟩

/-- the reference's reader of the bits of some bytes: its place, and whether it is wrong -/
def HdIs (w : World) (g : Nat) (A : Option Addr) (m c : Nat) (l : List UInt8) (s : St) : Prop :=
  Blk w g 62 #[.slice A m c, .int .i64 (s.1 : Int), .bool s.2] ∧ s.1 ≤ 8 * m ∧ RB w A m l ∧ (∀ ad, A = some ad → 0 < m → ad.block ≠ g) ∧ m ≤ 140737488355328
theorem HdIs.grew {w w' : World} {g : Nat} {A : Option Addr} {m c : Nat} {l : List UInt8} {s : St} (h : HdIs w g A m c l s) (hg : Grew w w') : HdIs w' g A m c l s :=
  ⟨h.1.grew hg, h.2.1, h.2.2.1.grew hg, h.2.2.2⟩
theorem HdIs.drewN {w : World} {g : Nat} {A : Option Addr} {m c : Nat} {l : List UInt8} {s : St} (h : HdIs w g A m c l s) (k : Nat) : HdIs (w.drewN k) g A m c l s := h
theorem HdIs.bad {w : World} {g : Nat} {A : Option Addr} {m c : Nat} {l : List UInt8} {s : St} (h : HdIs w g A m c l s) : w.cell? ⟨g, 2, none⟩ = some (.bool s.2) ∧ w.frozen? ⟨g, 2, none⟩ = false :=
  ⟨by rw [h.1.cell]; rfl, h.1.frozen 2⟩
theorem HdIs.setBad {w : World} {g : Nat} {A : Option Addr} {m c : Nat} {l : List UInt8} {s : St} (h : HdIs w g A m c l s) (b : Bool) : HdIs (w.setCell ⟨g, 2, none⟩ (.bool b)) g A m c l (s.1, b) :=
  ⟨by have := h.1.set 2 (.bool b); simpa using this, h.2.1, h.2.2.1.setFar (p := ⟨g, 2, none⟩) h.2.2.2.1 _, h.2.2.2⟩
theorem HdIs.far {w : World} {g : Nat} {A : Option Addr} {m c : Nat} {l : List UInt8} {s : St} (h : HdIs w g A m c l s) {S : Nat → Prop} {w' : World} (hc : Chg S w w') (hg : ¬ S g) (hA : ∀ ad, A = some ad → 0 < m → ¬ S ad.block) : HdIs w' g A m c l s :=
  ⟨h.1.chg hc hg, h.2.1, h.2.2.1.far hc hA, h.2.2.2⟩

def HgPost (w : World) (g : Nat) (A : Option Addr) (m c : Nat) (l : List UInt8) (r : Nat × St) (e : Ending) (w' : World) : Prop :=
  e = .returned (.int .u64 (r.1 : Int)) ∧ HdIs w' g A m c l r.2 ∧ Chg (fun x => x = g) w w'

set_option maxRecDepth 100000 in
set_option maxHeartbeats 1000000 in
theorem hget_any (g : Nat) (A : Option Addr) (m c : Nat) (l : List UInt8) (s : St) (k : Nat) (kz : Int) (w : World) (h : HdIs w g A m c l s) (hkz : kz = (k : Int)) (hk : k ≤ 64) :
    Calls Try.prog 34 #[.pointer (some ⟨g, 0, none⟩), .int .i64 kz] w (HgPost w g A m c l (tk (bitsOf l (8 * m)) k s)) := by
  subst hkz
  obtain ⟨a, bad⟩ := s
  obtain ⟨hb, ha, hr, hA, hm⟩ := h
  dsimp only at ha hb
  have hlen : (bitsOf l (8 * m)).length = 8 * m := by simp [bitsOf]
  have hc0 : w.cell? ⟨g, 0, none⟩ = some (.slice A m c) := by rw [hb.cell]; rfl
  have hc1 : w.cell? ⟨g, 1, none⟩ = some (.int .i64 (a : Int)) := by rw [hb.cell]; rfl
  have hf1 := hb.frozen 1
  have hf2 := hb.frozen 2
  have z1 : IntKind.i64.wrap ((a : Int) + k) = (a : Int) + k := IntWalk.i64_in _ (by omega)
  have z2 : IntKind.i64.wrap (8 * (m : Int)) = 8 * (m : Int) := IntWalk.i64_in _ (by omega)
  by_cases hle : a + k ≤ 8 * m
  · have htk : tk (bitsOf l (8 * m)) k (a, bad) = (val (((bitsOf l (8 * m)).drop a).take k), a + k, bad) := by unfold tk; rw [if_pos (by rw [hlen]; exact hle)]
    rw [htk]
    have hR : ∀ (w : World) (n : Int), n = 8 * (m : Int) → RB w A m l → Calls Try.prog 41 #[.slice A m c, .int .i64 n, .int .i64 (a : Int), .int .i64 (k : Int)] w fun e w' => e = .returned (.tuple #[.int .u64 (val (((bitsOf l (8 * m)).drop a).take k) : Int), .bool true]) ∧ w = w' := fun w n hn h => rread_any A m c l n a k w h hm hn hk hle
    have hd : decide (8 * (m : Int) < (a : Int) + k) = false := by simp; omega
    generalize val (((bitsOf l (8 * m)).drop a).take k) = v at *
    have HR := Lib.hid hR
    clear hR htk hlen
    go_enter Try.func34, Try.ntmps34
    go_wp2
    go_quiet (fail)
    go_wp2
    have hb1 := hb.drewN nq
    have hr1 := hr.drewN nq
    have hg1 : Chg (fun x => x = g) w (w.drewN nq) := (Chg.refl _ w).drewN nq
    clear hc0 hc1 hf1 hf2
    generalize w.drewN nq = w1 at hb1 hr1 hg1 ⊢
    clear nq
    have hc0 : w1.cell? ⟨g, 0, none⟩ = some (.slice A m c) := by rw [hb1.cell]; rfl
    have hc1 : w1.cell? ⟨g, 1, none⟩ = some (.int .i64 (a : Int)) := by rw [hb1.cell]; rfl
    have hf1 := hb1.frozen 1
    go_quiet ((go_at_call 41; exact Calls.quiet_of_same ((HR.out _ _ rfl (by exact hr1)).mono fun e w' ⟨h1, h2⟩ => ⟨h1, h2.symm⟩)))
    go_wp2
    go_ret
    refine ⟨by simp, ⟨?_, by simp; omega, ?_, hA, hm⟩, ?_⟩
    · have := (hb1.drewN nq).set 1 (.int .i64 ((a : Int) + k))
      simpa using this
    · exact RB.setFar (hr1.drewN nq) (p := ⟨g, 1, none⟩) hA _
    · exact (hg1.drewN nq).setCell (p := ⟨g, 1, none⟩) (.inr rfl) _
  · have htk : tk (bitsOf l (8 * m)) k (a, bad) = (0, a, true) := by unfold tk; rw [if_neg (by rw [hlen]; exact hle)]
    rw [htk]
    have hd : decide (8 * (m : Int) < (a : Int) + k) = true := by simp; omega
    clear htk hlen
    go_enter Try.func34, Try.ntmps34
    go_wp2
    go_quiet (fail)
    have hc2 : w.cell? ⟨g, 2, none⟩ = some (.bool bad) := by rw [hb.cell]; rfl
    go_wp2
    go_ret
    refine ⟨by simp, ⟨?_, ha, ?_, hA, hm⟩, ?_⟩
    · have := (hb.drewN nq).set 2 (.bool true)
      simpa using this
    · exact RB.setFar (hr.drewN nq) (p := ⟨g, 2, none⟩) hA _
    · exact ((Chg.refl (fun x => x = g) w).drewN nq).setCell (p := ⟨g, 2, none⟩) (.inr rfl) _

def HsPost (w : World) (g : Nat) (A : Option Addr) (m c : Nat) (l : List UInt8) (r : Int × St) (e : Ending) (w' : World) : Prop :=
  e = .returned (.int .i64 r.1) ∧ HdIs w' g A m c l r.2 ∧ Chg (fun x => x = g) w w'

set_option maxRecDepth 100000 in
set_option maxHeartbeats 1000000 in
theorem hsigned_any (g : Nat) (A : Option Addr) (m c : Nat) (l : List UInt8) (s : St) (k : Nat) (kz : Int) (w : World) (h : HdIs w g A m c l s) (hkz : kz = (k : Int)) (hk : k = 7 ∨ k = 9 ∨ k = 12 ∨ k = 64) :
    Calls Try.prog 42 #[.pointer (some ⟨g, 0, none⟩), .int .i64 kz] w (HsPost w g A m c l (rSig (bitsOf l (8 * m)) k s)) := by
  subst hkz
  have hlt := tk_lt (bitsOf l (8 * m)) k s
  have hG := hget_any g A m c l s k k w h rfl (by omega)
  unfold rSig
  unfold HgPost at hG
  generalize tk (bitsOf l (8 * m)) k s = r at *
  obtain ⟨v, s'⟩ := r
  dsimp only at hG hlt ⊢
  rcases hk with rfl | rfl | rfl | rfl
  · have h1 := sx_7 v hlt
    have H1 := Lib.hid h1
    have hv : v < 128 := hlt
    clear hlt h1 h
    go_enter Try.func42, Try.ntmps42
    go_wp2_with fail
    refine hG.mono ?_
    rintro e w1 ⟨rfl, hr1, hc1⟩
    go_wp2
    go_ret
    exact ⟨by rw [← H1.out]; simp, hr1, hc1⟩
  · have h1 := sx_9 v hlt
    have H1 := Lib.hid h1
    have hv : v < 512 := hlt
    clear hlt h1 h
    go_enter Try.func42, Try.ntmps42
    go_wp2_with fail
    refine hG.mono ?_
    rintro e w1 ⟨rfl, hr1, hc1⟩
    go_wp2
    go_ret
    exact ⟨by rw [← H1.out]; simp, hr1, hc1⟩
  · have h1 := sx_12 v hlt
    have H1 := Lib.hid h1
    have hv : v < 4096 := hlt
    clear hlt h1 h
    go_enter Try.func42, Try.ntmps42
    go_wp2_with fail
    refine hG.mono ?_
    rintro e w1 ⟨rfl, hr1, hc1⟩
    go_wp2
    go_ret
    exact ⟨by rw [← H1.out]; simp, hr1, hc1⟩
  · have h1 := sx_64 v hlt
    have H1 := Lib.hid h1
    have hv : v < 18446744073709551616 := hlt
    clear hlt h1 h
    go_enter Try.func42, Try.ntmps42
    go_wp2_with fail
    refine hG.mono ?_
    rintro e w1 ⟨rfl, hr1, hc1⟩
    go_wp2
    go_ret
    exact ⟨by rw [← H1.out]; simp, hr1, hc1⟩

theorem rZ_drop (j : Nat) (hj : j < 3) : ∃ wj : Nat, [7, 9, 12].drop j = wj :: [7, 9, 12].drop (j + 1) ∧ (wj = 7 ∨ wj = 9 ∨ wj = 12 ∨ wj = 64) ∧ #[Value.int .i64 7, .int .i64 9, .int .i64 12][j]? = some (.int .i64 (wj : Int)) := by
  match j, hj with
  | 0, _ => exact ⟨7, rfl, by omega, rfl⟩
  | 1, _ => exact ⟨9, rfl, by omega, rfl⟩
  | 2, _ => exact ⟨12, rfl, by omega, rfl⟩

set_option maxRecDepth 100000 in
set_option maxHeartbeats 2000000 in
theorem hzero_any (g : Nat) (A : Option Addr) (m c : Nat) (l : List UInt8) (s : St) (w : World) (h : HdIs w g A m c l s) :
    Calls Try.prog 35 #[.pointer (some ⟨g, 0, none⟩)] w fun e w' => e = .returned (.int .i64 (rZero (bitsOf l (8 * m)) s).1) ∧ HdIs w' g A m c l (rZero (bitsOf l (8 * m)) s).2 ∧ Chg (fun x => x = g) w w' := by
  have hG : ∀ (w : World) (s : St) (k : Nat) (kz : Int), HdIs w g A m c l s → kz = (k : Int) → k ≤ 64 → Calls Try.prog 34 #[.pointer (some ⟨g, 0, none⟩), .int .i64 kz] w (HgPost w g A m c l (tk (bitsOf l (8 * m)) k s)) := fun w s k kz h hk hk2 => hget_any g A m c l s k kz w h hk hk2
  have hS : ∀ (w : World) (s : St) (k : Nat) (kz : Int), HdIs w g A m c l s → kz = (k : Int) → (k = 7 ∨ k = 9 ∨ k = 12 ∨ k = 64) → Calls Try.prog 42 #[.pointer (some ⟨g, 0, none⟩), .int .i64 kz] w (HsPost w g A m c l (rSig (bitsOf l (8 * m)) k s)) := fun w s k kz h hk hk2 => hsigned_any g A m c l s k kz w h hk hk2
  generalize bitsOf l (8 * m) = bs at *
  have HS := Lib.hid hS
  have hG1 := hG w s 1 1 h rfl (by omega)
  have HG := Lib.hid hG
  have hlt := h.1.lt
  clear hG hS h
  unfold rZero
  unfold HgPost at hG1
  generalize tk bs 1 s = r at *
  obtain ⟨v, s'⟩ := r
  dsimp only at hG1 ⊢
  by_cases hv : v = 0
  · subst hv
    rw [if_pos rfl]
    have HG1 := Lib.hid hG1
    clear hG1
    go_enter Try.func35, Try.ntmps35
    go_wp2_with fail
    refine HG1.out.mono ?_
    rintro e w1 ⟨rfl, hr1, hc1⟩
    go_wp2
    go_ret
    exact ⟨by simp, hr1, hc1⟩
  · rw [if_neg hv]
    have hv0 : ((v : Int) == 0) = false := by simp; omega
    have HG1 := Lib.hid hG1
    obtain ⟨r, hr⟩ : ∃ r, r = rZ bs [7, 9, 12] s' := ⟨_, rfl⟩
    rw [← hr]
    have Hr := Lib.hid hr
    clear hG1 hv hr
    go_enter Try.func35, Try.ntmps35
    go_wp2_with fail
    refine HG1.out.mono ?_
    rintro e w1 ⟨rfl, hr1, hc1⟩
    have hs1 := hc1.size
    have hbw : Blk (w1.alloc (.cells #[.int .i64 7, .int .i64 9, .int .i64 12] 3)) w1.heap.size 3 #[.int .i64 7, .int .i64 9, .int .i64 12] := Blk.new w1 _ _
    have hr2 := hr1.grew ((Chg.refl _ w1).alloc (.cells #[.int .i64 7, .int .i64 9, .int .i64 12] 3))
    have hc2 := hc1.alloc (.cells #[.int .i64 7, .int .i64 9, .int .i64 12] 3)
    have hne : ¬ w1.heap.size = g := by have := hr1.1.lt; omega
    clear hr1 hc1 HG1
    go_wp2
    generalize w1.heap.size = q at *
    go_loopw [4] (fun i wr => ∃ (j : Nat) (s2 : St), j ≤ 3 ∧ i = .int .i64 j ∧ HdIs wr g A m c l s2 ∧ Hid (r = rZ bs ([7, 9, 12].drop j) s2) ∧ Blk wr q 3 #[.int .i64 7, .int .i64 9, .int .i64 12] ∧ Chg (fun x => x = g) w wr) (fun i _ => 3 - (intOf i).toNat)
    case atStart => exact ⟨0, s', by omega, rfl, hr2, Hr.out, hbw, hc2⟩
    case round =>
      clear hr2 Hr hbw hc2
      obtain ⟨j, s2, hj, rfl, hd, Hj, hb, hc⟩ := hrel
      by_cases hj3 : j < 3
      · obtain ⟨wj, hw1, hw2, hw3⟩ := rZ_drop j hj3
        have hcell : wr.cell? ⟨q, j, none⟩ = some (.int .i64 (wj : Int)) := by rw [hb.cell]; exact hw3
        have hj2 := Hj.out
        rw [hw1, rZ] at hj2
        have hG1 := HG.out wr s2 1 1 hd rfl (by omega)
        unfold HgPost at hG1
        generalize tk bs 1 s2 = t at *
        obtain ⟨v2, s3⟩ := t
        dsimp only at hG1 hj2
        have HG1 := Lib.hid hG1
        clear hG1 hw1 Hj hd
        by_cases hv2 : v2 = 0
        · subst hv2
          rw [if_pos rfl] at hj2
          have Hj2 := Lib.hid hj2
          clear hj2
          go_wp2_with fail
          refine HG1.out.mono ?_
          rintro e w3 ⟨rfl, hr3, hc3⟩
          have hcell3 := hc3.cell hcell (by simpa using hne)
          go_wp2_with fail
          refine (HS.out _ _ wj _ hr3 rfl hw2).mono ?_
          rintro e w4 ⟨rfl, hr4, hc4⟩
          go_wp2
          go_ret
          exact ⟨by rw [Hj2.out]; simp, by rw [Hj2.out]; exact hr4, (hc.trans hc3).trans hc4⟩
        · rw [if_neg hv2] at hj2
          have Hj2 := Lib.hid hj2
          have hv20 : ((v2 : Int) == 0) = false := by simp; omega
          clear hj2 hv2 hw2
          go_wp2_with fail
          refine HG1.out.mono ?_
          rintro e w3 ⟨rfl, hr3, hc3⟩
          go_wp2
          go_roundw
          case rel => exact ⟨j + 1, s3, by omega, by go_num, hr3, Hj2.out, hb.chg hc3 (by simpa using hne), hc.trans hc3⟩
          case measure => simp [intOf]; omega
      · obtain rfl : j = 3 := by omega
        go_wp2_with fail
        refine (HS.out _ _ 64 _ hd rfl (by omega)).mono ?_
        rintro e w4 ⟨rfl, hr4, hc4⟩
        have hj2 : r = rSig bs 64 s2 := Hj.out
        have Hj2 := Lib.hid hj2
        clear hj2 Hj
        go_wp2
        go_ret
        exact ⟨by rw [Hj2.out]; simp, by rw [Hj2.out]; exact hr4, hc.trans hc4⟩
end Go.Proofs.Ytlilnibinligkaa
