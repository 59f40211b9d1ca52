/-
  Several texts in one:
  (*slices.xorshift).Next, slices.nextPowerOfTwo, (slices.breakPatternsOrdered) of numbers. Conditions: lengths that a slice has.
-/
import Derived.Test.YtjoaonppaokhhaaGreatPart17
import Derived.Test.YtjoaonppaokhhaaGreatShelf
import Derived.Laws.Bits64
import Derived.Laws.Bits64b

namespace Go.Proofs.YtjoaonppaokhhaaGreat
open Go.RowKit

theorem xor_some (a : Nat) (b : Int) (ha : a < 18446744073709551616) (h0 : 0 ≤ b) (h1 : b < 18446744073709551616) : ∃ v : Nat, v < 18446744073709551616 ∧ bits .xor .u64 (a : Int) b = (v : Int) := by
  obtain ⟨c, rfl⟩ : ∃ c : Nat, b = (c : Int) := ⟨b.toNat, by omega⟩
  exact ⟨a ^^^ c, Nat.xor_lt_two_pow (n := 64) ha (by omega), bits_xor_u64_nat a c ha (by omega)⟩
theorem wrap_u64_lt (x : Int) : 0 ≤ IntKind.u64.wrap x ∧ IntKind.u64.wrap x < 18446744073709551616 := by
  simp only [IntKind.wrap_u64]
  omega

set_option maxRecDepth 100000 in
set_option maxHeartbeats 8000000 in
theorem unext_any (s v : Nat) (w : World) (hs : Blk w s 169 #[.int .u64 (v : Int)]) (hv : v < 18446744073709551616) :
    Calls Tryz.prog 156 #[.pointer (some ⟨s, 0, none⟩)] w fun x w' => ∃ v' : Nat, v' < 18446744073709551616 ∧ x = .returned (.int .u64 (v' : Int)) ∧ Blk w' s 169 #[.int .u64 (v' : Int)] ∧ Chg (fun k => k = s) w w' := by
  have hB : Hid (∀ (W : World) (x y : Nat), Blk W s 169 #[.int .u64 (x : Int)] → Chg (fun k => k = s) w W → Blk (W.setCell ⟨s, 0, none⟩ (.int .u64 (y : Int))).drew s 169 #[.int .u64 (y : Int)] ∧ Chg (fun k => k = s) w (W.setCell ⟨s, 0, none⟩ (.int .u64 (y : Int))).drew) := fun W x y h1 h2 => by
    refine ⟨?_, (h2.setCell (p := ⟨s, 0, none⟩) (.inr rfl) _).drew⟩
    have := Blk.set h1 0 (.int .u64 (y : Int))
    simp at this
    exact this
  have s0 : w.cell? ⟨s, 0, none⟩ = some (.int .u64 (v : Int)) := hs.cell 0
  have f0 := hs.frozen 0
  obtain ⟨v1, l1, e1⟩ := xor_some v (IntKind.u64.wrap ((v : Int) * 8192)) hv (wrap_u64_lt _).1 (wrap_u64_lt _).2
  obtain ⟨v2, l2, e2⟩ := xor_some v1 ((v1 : Int) / 128) l1 (by omega) (by omega)
  obtain ⟨v3, l3, e3⟩ := xor_some v2 (IntKind.u64.wrap ((v2 : Int) * 131072)) l2 (wrap_u64_lt _).1 (wrap_u64_lt _).2
  replace e1 := Lib.hid e1
  replace e2 := Lib.hid e2
  replace e3 := Lib.hid e3
  go_enter Tryz.func156, Tryz.ntmps156
  go_wp2_with fail
  go_region
  go_wp2_with fail
  rw [e1.out]
  obtain ⟨b1, c1⟩ := hB.out w v v1 hs (Chg.refl _ _)
  generalize (w.setCell ⟨s, 0, none⟩ (.int .u64 (v1 : Int))).drew = w1 at *
  clear s0 f0
  have s0 : w1.cell? ⟨s, 0, none⟩ = some (.int .u64 (v1 : Int)) := b1.cell 0
  have f0 := b1.frozen 0
  go_region
  go_wp2_with fail
  rw [e2.out]
  obtain ⟨b2, c2⟩ := hB.out w1 v1 v2 b1 c1
  generalize (w1.setCell ⟨s, 0, none⟩ (.int .u64 (v2 : Int))).drew = w2 at *
  clear s0 f0
  have s0 : w2.cell? ⟨s, 0, none⟩ = some (.int .u64 (v2 : Int)) := b2.cell 0
  have f0 := b2.frozen 0
  go_region
  go_wp2_with fail
  rw [e3.out]
  obtain ⟨b3, c3⟩ := hB.out w2 v2 v3 b2 c2
  generalize (w2.setCell ⟨s, 0, none⟩ (.int .u64 (v3 : Int))).drew = w3 at *
  clear s0 f0
  have s0 : w3.cell? ⟨s, 0, none⟩ = some (.int .u64 (v3 : Int)) := b3.cell 0
  replace b3 := Lib.hid b3
  go_wp2
  go_ret
  exact ⟨v3, l3, rfl, b3.out, c3⟩

theorem bitLen_pow : ∀ l : Nat, 0 < l → l < 4611686018427387904 → l < 2 ^ Lib.bitLen l ∧ 2 ^ Lib.bitLen l ≤ 2 * l := by
  intro l
  induction l using Nat.strongRecOn with
  | _ l ih =>
    intro h0 h1
    rcases Nat.lt_or_ge l 2 with h2 | h2
    · have : l = 1 := by omega
      subst this
      decide +kernel
    · rw [Lib.bitLen_half l (by omega) (by omega)]
      obtain ⟨p1, p2⟩ := ih (l / 2) (by omega) (by omega) (by omega)
      rw [Nat.pow_add]
      generalize 2 ^ Lib.bitLen (l / 2) = p at *
      omega
theorem bitLen_le (l : Nat) (h0 : 0 < l) (h1 : l < 4611686018427387904) : Lib.bitLen l ≤ 63 := by
  have h := (bitLen_pow l h0 h1).2
  rcases Nat.lt_or_ge 63 (Lib.bitLen l) with h2 | h2
  · have h3 : 2 ^ 64 ≤ 2 ^ Lib.bitLen l := Nat.pow_le_pow_right (by decide) h2
    omega
  · exact h2

set_option maxRecDepth 100000 in
set_option maxHeartbeats 8000000 in
theorem unpow_any (l : Nat) (w : World) (h0 : 0 < l) (h1 : l < 4611686018427387904) :
    Calls Tryz.prog 155 #[.int .i64 (l : Int)] w fun x w' => ∃ m : Nat, l < m ∧ m ≤ 2 * l ∧ x = .returned (.int .u64 (m : Int)) ∧ w' = w := by
  have hB := Tryz.bits_Len (l : Int) w (by omega) (by omega)
  have hw : IntKind.u64.wrap (l : Int) = (l : Int) := by simp only [IntKind.wrap_u64]; omega
  have hp := Lib.hid (bitLen_pow l h0 h1)
  have he : Hid (IntKind.u64.wrap (2 ^ min (Lib.bitLen l) 64) = ((2 ^ Lib.bitLen l : Nat) : Int)) := by
    rw [Nat.min_eq_left (by have := bitLen_le l h0 h1; omega)]
    simp only [IntKind.wrap_u64]
    have h2 := (bitLen_pow l h0 h1).2
    have h3 : (2 : Int) ^ Lib.bitLen l = ((2 ^ Lib.bitLen l : Nat) : Int) := by simp
    rw [h3]
    obtain ⟨p, hp⟩ : ∃ p, 2 ^ Lib.bitLen l = p := ⟨_, rfl⟩
    rw [hp] at h2 ⊢
    clear h3 hp hw
    have h5 : (p : Int) < 18446744073709551616 := by omega
    have h6 : (0 : Int) ≤ (p : Int) := by omega
    exact Int.emod_eq_of_lt h6 h5
  go_enter Tryz.func155, Tryz.ntmps155
  go_wp2_with fail
  refine hB.mono ?_
  rintro x w1 ⟨rfl, rfl⟩
  go_wp2_with fail
  rw [he.out]
  go_ret
  exact ⟨2 ^ Lib.bitLen l, hp.out.1, hp.out.2, rfl, rfl⟩

set_option maxRecDepth 100000 in
set_option maxHeartbeats 8000000 in
theorem ubreak_any (base g o n c a b : Nat) (t : TypeId) (d : Array Nat) (w : World) (ho : o = 0) (h : UA w base t g n c d) (h8 : a + 8 ≤ b) (hb : b ≤ n) (hn : n < 4611686018427387904) :
    Calls Tryz.prog 147 #[.slice (some ⟨g, o, none⟩) n c, .int .i64 (a : Int), .int .i64 (b : Int)] w fun x w' => x = .returned (.tuple #[]) ∧ ∃ d', Go.Sort.PermIn a b d d' ∧ SrtTo base t g n c w d' w' := by
  have h8z : (8 : Int) ≤ (b : Int) - (a : Int) := by omega
  obtain ⟨l, hl⟩ : ∃ l, l = b - a := ⟨_, rfl⟩
  have eL : (b : Int) - (a : Int) = (l : Int) := by omega
  have hP := fun w => unpow_any l w (by omega) (by omega)
  have hgs : w.heap.size ≠ g := by
    have := (Own.blk_lt h _ rfl).2
    simp at this
    omega
  have g0 : Grew w (w.alloc (.cells #[.int .u64 (l : Int)] 169)) := (Chg.refl _ w).alloc _
  have b0 : Blk (w.alloc (.cells #[.int .u64 (l : Int)] 169)) w.heap.size 169 #[.int .u64 (l : Int)] := Blk.new _ _ _
  have u0 : SrtTo base t g n c w d (w.alloc (.cells #[.int .u64 (l : Int)] 169)) := ⟨OE.grew h g0, Chg.of_grew g0⟩
  have hl1 : a + l ≤ b := by omega
  have hl2 : b ≤ a + l := by omega
  clear hl
  replace hgs := Lib.hid hgs
  replace ho := Lib.hid ho
  replace eL := Lib.hid eL
  replace b0 := Lib.hid b0
  replace u0 := Lib.hid u0
  go_enter Tryz.func147, Tryz.ntmps147
  go_wp2_with fail
  simp only [eL.out]
  refine (hP _).mono ?_
  rintro x w1 ⟨m, m1, m2, rfl, rfl⟩
  clear h8z hP
  go_wp2
  go_loopw [9] (fun vi wr => ∃ (i : Nat) (e : Array Nat) (v : Nat), vi = .int .i64 (i : Int) ∧ a + l / 4 * 2 - 1 ≤ i ∧ i ≤ a + l / 4 * 2 + 2 ∧ v < 18446744073709551616 ∧ Blk wr w.heap.size 169 #[.int .u64 (v : Int)] ∧ Go.Sort.PermIn a b d e ∧ SrtTo base t g n c w e wr) (fun vi _ => a + l / 4 * 2 + 2 - (intOf vi).toNat)
  case atStart =>
    refine ⟨a + l / 4 * 2 - 1, d, l, ?_, Nat.le_refl _, by omega, by omega, b0.out, Go.Sort.permIn_refl _ _ _, u0.out⟩
    congr 1
    omega
  case round =>
    obtain ⟨i, e, v, rfl, hi1, hi2, hv, hbk, hpm, hu⟩ := hrel
    by_cases hI : i ≤ a + l / 4 * 2 + 1
    · have hIz : (i : Int) ≤ (a : Int) + (l : Int) / 4 * 2 + 1 := by omega
      have hN := unext_any w.heap.size v wr hbk hv
      replace hbk := Lib.hid hbk
      replace hpm := Lib.hid hpm
      replace hu := Lib.hid hu
      go_wp2_with fail
      refine hN.mono ?_
      rintro x w1 ⟨v2, hv2, rfl, b1, c1⟩
      have hu1 : SrtTo base t g n c w e w1 := ⟨hu.out.1.far c1 fun e => hgs.out e.symm, hu.out.2.step c1 fun k hk e => by omega⟩
      obtain ⟨z, hz⟩ : ∃ z, z = v2 &&& (m - 1) := ⟨_, rfl⟩
      have hzm : z ≤ m - 1 := by rw [hz]; exact Nat.and_le_right
      have hand : bits .and .u64 (v2 : Int) ((m : Int) - 1) = (z : Int) := by
        rw [show (m : Int) - 1 = ((m - 1 : Nat) : Int) by omega, bits_and_u64_nat v2 (m - 1) hv2 (by omega), ← hz]
      clear hz hN hbk
      by_cases hzl : l ≤ z
      · have hzz : (l : Int) ≤ (z : Int) := by omega
        obtain ⟨u, hu0⟩ : ∃ u, u = z - l := ⟨_, rfl⟩
        have hsub : (z : Int) - (l : Int) = (u : Int) := by omega
        have hul : u < l := by omega
        clear hu0
        obtain ⟨x, hx⟩ : ∃ x, e[i]! = x := ⟨_, rfl⟩
        obtain ⟨y, hy⟩ : ∃ y, e[a + u]! = y := ⟨_, rfl⟩
        have ca : w1.cell? ⟨g, o + i, none⟩ = some (.int .u64 (x : Int)) := by rw [← hx]; exact hu1.1.fam ho.out i (by omega)
        have cp : w1.cell? ⟨g, o + (a + u), none⟩ = some (.int .u64 (y : Int)) := by rw [← hy]; exact hu1.1.fam ho.out (a + u) (by omega)
        have fa : w1.frozen? ⟨g, o + i, none⟩ = false := hu1.1.fre i (by omega)
        have fp : w1.frozen? ⟨g, o + (a + u), none⟩ = false := hu1.1.fre (a + u) (by omega)
        obtain ⟨v', hy'⟩ := cell?_setCell_some (w := w1) (p := ⟨g, o + i, none⟩) (x := .int .u64 (y : Int)) (q := ⟨g, o + (a + u), none⟩) cp
        have S1 := Lib.hid (hu1.1.swpo ho.out i (a + u) x y hx hy)
        have C1 := Lib.hid (Chg.swap hu1.2 (o + i) (o + (a + u)) (.int .u64 (y : Int)) (.int .u64 (x : Int)))
        have B1 : Hid (Blk ((w1.setCell ⟨g, o + i, none⟩ (.int .u64 (y : Int))).setCell ⟨g, o + (a + u), none⟩ (.int .u64 (x : Int))) w.heap.size 169 #[.int .u64 (v2 : Int)]) := (b1.far (p := ⟨g, o + i, none⟩) hgs.out _).far (p := ⟨g, o + (a + u), none⟩) hgs.out _
        have P1 := Lib.hid (Go.Sort.permIn_trans _ _ _ a b hpm.out (Go.Sort.swp_permIn e a b i (a + u) (by omega) (by omega) (by omega) (by omega) (by rw [hu1.1.size]; exact hb)))
        clear hx hy hu1 b1
        go_wp2_with fail
        go_region
        go_wp2
        go_roundw
        case rel => exact ⟨i + 1, _, v2, by go_num, by omega, by omega, hv2, B1.out, P1.out, ⟨S1.out.drew, C1.out.drew⟩⟩
        case measure => simp [intOf]; omega
      · have hzz : ¬ ((l : Int) ≤ (z : Int)) := by omega
        obtain ⟨u, hu0⟩ : ∃ u, u = z := ⟨_, rfl⟩
        subst hu0
        have hul : u < l := by omega
        obtain ⟨x, hx⟩ : ∃ x, e[i]! = x := ⟨_, rfl⟩
        obtain ⟨y, hy⟩ : ∃ y, e[a + u]! = y := ⟨_, rfl⟩
        have ca : w1.cell? ⟨g, o + i, none⟩ = some (.int .u64 (x : Int)) := by rw [← hx]; exact hu1.1.fam ho.out i (by omega)
        have cp : w1.cell? ⟨g, o + (a + u), none⟩ = some (.int .u64 (y : Int)) := by rw [← hy]; exact hu1.1.fam ho.out (a + u) (by omega)
        have fa : w1.frozen? ⟨g, o + i, none⟩ = false := hu1.1.fre i (by omega)
        have fp : w1.frozen? ⟨g, o + (a + u), none⟩ = false := hu1.1.fre (a + u) (by omega)
        obtain ⟨v', hy'⟩ := cell?_setCell_some (w := w1) (p := ⟨g, o + i, none⟩) (x := .int .u64 (y : Int)) (q := ⟨g, o + (a + u), none⟩) cp
        have S1 := Lib.hid (hu1.1.swpo ho.out i (a + u) x y hx hy)
        have C1 := Lib.hid (Chg.swap hu1.2 (o + i) (o + (a + u)) (.int .u64 (y : Int)) (.int .u64 (x : Int)))
        have B1 : Hid (Blk ((w1.setCell ⟨g, o + i, none⟩ (.int .u64 (y : Int))).setCell ⟨g, o + (a + u), none⟩ (.int .u64 (x : Int))) w.heap.size 169 #[.int .u64 (v2 : Int)]) := (b1.far (p := ⟨g, o + i, none⟩) hgs.out _).far (p := ⟨g, o + (a + u), none⟩) hgs.out _
        have P1 := Lib.hid (Go.Sort.permIn_trans _ _ _ a b hpm.out (Go.Sort.swp_permIn e a b i (a + u) (by omega) (by omega) (by omega) (by omega) (by rw [hu1.1.size]; exact hb)))
        clear hx hy hu1 b1
        go_wp2_with fail
        go_region
        go_wp2
        go_roundw
        case rel => exact ⟨i + 1, _, v2, by go_num, by omega, by omega, hv2, B1.out, P1.out, ⟨S1.out.drew, C1.out.drew⟩⟩
        case measure => simp [intOf]; omega
    · have hIz : ¬ ((i : Int) ≤ (a : Int) + (l : Int) / 4 * 2 + 1) := by omega
      replace hbk := Lib.hid hbk
      replace hpm := Lib.hid hpm
      replace hu := Lib.hid hu
      go_wp2
      first
        | go_end0
        | refine bodyPost_ret (results_none rfl _ _ _) rfl ?_
      exact ⟨rfl, e, hpm.out, hu.out⟩
end Go.Proofs.YtjoaonppaokhhaaGreat
