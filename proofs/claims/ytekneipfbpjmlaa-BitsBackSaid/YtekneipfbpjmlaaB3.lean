/-
  The law BitsBack, walked: whatever the input it returns true, and nothing that was there has turned. Conditions: lengths within the form's reach.
-/
import Derived.Test.YtekneipfbpjmlaaBm
namespace Go.Proofs.Ytekneipfbpjmlaa
open Go.RowKit

set_option maxRecDepth 100000 in
set_option maxHeartbeats 400000 in
theorem walk_bitsBack (A : Option Addr) (m c : Nat) (l : List UInt8) (vz wz xz uz : Int) (w : World) (h : RB w A m l) (hm : m ≤ 140737488351232) (hv : (Lit.int .u64 vz).wf = true) (_ : (Lit.int .i64 wz).wf = true) (hx : (Lit.int .u64 xz).wf = true) (_ : (Lit.int .i64 uz).wf = true) :
    Calls Try.prog 4 #[.slice A m c, .int .u64 vz, .int .i64 wz, .int .u64 xz, .int .i64 uz] w fun e w' => e = .returned (.bool true) ∧ Grew w w' := by
  have bv := Go.bounds_u64 hv
  have bx := Go.bounds_u64 hx
  obtain ⟨v, rfl⟩ := Int.eq_ofNat_of_zero_le bv.1
  obtain ⟨x, rfl⟩ := Int.eq_ofNat_of_zero_le bx.1
  have hv2 : v < 18446744073709551616 := by omega
  have hx2 : x < 18446744073709551616 := by omega
  clear hv hx bv bx
  go_enter Try.func4, Try.ntmps4
  go_wp2_with fail
  refine (low_any _ _).mono ?_
  rintro e w1 ⟨r1, hr1, rfl, rfl⟩
  go_wp2_with fail
  refine (low_any _ _).mono ?_
  rintro e w1 ⟨r2, hr2, rfl, rfl⟩
  have ha2 : r1 % 65 ≤ 64 := by omega
  have hb2 : r2 % 65 ≤ 64 := by omega
  go_wp2
  go_loopw [13, 14, 15] (fun sb sn si wr => ∃ (i M C : Nat) (B : Option Addr), i ≤ m ∧ si = .int .i64 (i : Int) ∧ sn = .int .i64 ((7 * i : Nat) : Int) ∧ sb = .slice B M C ∧ OB wr w.heap.size 5 B M C (pack (heads 7 (l.take i))) ∧ Grew w wr) (fun _ _ si _ => m - (intOf si).toNat)
  case atStart => exact ⟨0, 0, 0, none, by omega, rfl, rfl, rfl, by rw [show heads 7 (l.take 0) = [] from rfl, pack_nil]; exact Own.nil _ _ _ _, Chg.refl _ _⟩
  case round =>
    obtain ⟨i, M, C, B, hi, rfl, rfl, rfl, ho, hg⟩ := hrel
    have hM := ho.len
    rw [length_pack, length_heads, List.length_take, h.1, Nat.min_eq_left hi] at hM
    have hM1 : M ≤ 140737488355200 := by omega
    clear hM
    have hs := hg.size
    by_cases hlt : i < m
    · obtain ⟨ad, y, rfl, hy, hc⟩ := (h.grew hg).at_ hlt
      have hll : ((l.take i).length : Int) = i := by have := h.1; simp; omega
      go_wp2_with fail
      refine (append_z B M C (heads 7 (l.take i)) y.toNat 7 _ _ _ _ ho.rb ?_ ?_ ?_ (by omega) (by have := y.toNat_lt; omega) (by omega)).mono ?_
      · have := h.1
        simp
        omega
      · have := y.toNat_lt
        simp only [IntKind.wrap_u64]
        omega
      · rfl
      rintro e w3 ⟨B3, M3, C3, rfl, ho3, hg3⟩
      rw [← heads_snoc, ← take_snoc l i y hy] at ho3
      go_wp2
      go_roundw
      case rel => exact ⟨i + 1, M3, C3, B3, by omega, by go_num, by have := h.1; simp; omega, rfl, ho3.mono hs, hg.trans hg3⟩
      case measure => simp [intOf]; omega
    · obtain rfl : i = m := by omega
      have htk : l.take i = l := List.take_of_length_le (by rw [h.1]; omega)
      rw [htk] at ho
      have hll := h.1
      go_wp2_with fail
      refine (append_z B M C (heads 7 l) v (r1 % 65) _ _ _ _ ho.rb ?_ ?_ ?_ (by omega) hv2 ha2).mono ?_
      · simp; omega
      · rfl
      · simp
      rintro e w3 ⟨B3, M3, C3, rfl, ho3, hg3⟩
      have hM3 := ho3.len
      simp only [length_pack, List.length_append, length_heads, length_toBits] at hM3
      have hM3b : M3 ≤ 140737488355200 := by omega
      clear hM3
      go_wp2_with fail
      refine (append_z B3 M3 C3 _ x (r2 % 65) _ _ _ _ ho3.rb ?_ ?_ ?_ (by omega) hx2 hb2).mono ?_
      · simp; omega
      · rfl
      · simp
      rintro e w4 ⟨B4, M4, C4, rfl, ho4, hg4⟩
      have hM4 := ho4.len
      simp only [length_pack, List.length_append, length_heads, length_toBits] at hM4
      have hM4b : M4 ≤ 140737488355200 := by omega
      clear hM4
      go_wp2_with fail
      refine (read_z B4 M4 C4 (heads 7 l) (toBits v (r1 % 65)) (toBits x (r2 % 65)) _ _ _ _ ho4.rb ?_ ?_ ?_ (by omega) (by simpa using ha2)).mono ?_
      · simp; omega
      · simp; omega
      · simp
      rintro e w5 ⟨rfl, hg5⟩
      go_wp2_with fail
      refine (read_z B4 M4 C4 (heads 7 l ++ toBits v (r1 % 65)) (toBits x (r2 % 65)) [] _ _ _ _ ?_ ?_ ?_ ?_ (by omega) (by simpa using hb2)).mono ?_
      · have := (ho4.grew hg5).rb
        rwa [List.append_nil]
      · simp; omega
      · simp; omega
      · simp
      rintro e w6 ⟨rfl, hg6⟩
      rw [val_toBits, val_toBits]
      go_wp2_with fail
      refine (lowBits_z v (r1 % 65) _ _ (by simp) hv2 ha2).mono ?_
      rintro e w7 ⟨rfl, rfl⟩
      go_wp2_with fail
      refine (lowBits_z x (r2 % 65) _ _ (by simp) hx2 hb2).mono ?_
      rintro e w8 ⟨rfl, rfl⟩
      have hgr : Grew w w8 := (((hg.trans hg3).trans hg4).trans hg5).trans hg6
      have hz := (ho4.grew hg5).grew hg6
      have hrb := h.grew hgr
      have hll := h.1
      clear hg hg3 hg4 hg5 hg6 ho4 ho3 ho h hll
      go_wp2
      obtain ⟨wo, rfl⟩ : ∃ wo : World, wo = wr := ⟨_, rfl⟩
      have hz2 := hz.rb
      clear hz
      go_loopw [26] (fun si wr => ∃ j : Nat, j ≤ i ∧ si = .int .i64 (j : Int) ∧ Grew w8 wr) (fun si _ => i - (intOf si).toNat)
      case atStart => exact ⟨0, by omega, rfl, Chg.refl _ _⟩
      case round =>
        obtain ⟨j, hj, rfl, hg9⟩ := hrel
        by_cases hlt2 : j < i
        · obtain ⟨ad, y, rfl, hy, hc⟩ := (hrb.grew hg9).at_ hlt2
          have hll := hrb.1
          have hsp : heads 7 l ++ toBits v (r1 % 65) ++ toBits x (r2 % 65) = heads 7 (l.take j) ++ toBits y.toNat 7 ++ (heads 7 (l.drop (j + 1)) ++ toBits v (r1 % 65) ++ toBits x (r2 % 65)) := by
            rw [heads_split 7 l j y hy]
            simp only [List.append_assoc]
          have Hsp := Lib.hid hsp
          have hy7 := y.toNat_lt
          clear hsp hy
          go_wp2_with fail
          refine (read_z B4 M4 C4 (heads 7 (l.take j)) (toBits y.toNat 7) (heads 7 (l.drop (j + 1)) ++ toBits v (r1 % 65) ++ toBits x (r2 % 65)) _ _ _ _ ?_ ?_ ?_ ?_ (by omega) (by simp)).mono ?_
          · rw [← Hsp.out]
            exact hz2.grew hg9
          · rw [← Hsp.out]
            simp
            omega
          · simp
            omega
          · simp
          rintro e w10 ⟨rfl, hg10⟩
          rw [val_toBits, show (2 : Nat) ^ 7 = 128 from rfl]
          have hc10 := hg10.cell hc (fun e => e)
          have e7 : bits .and .u64 (y.toNat : Int) 127 = ((y.toNat % 128 : Nat) : Int) := by
            have := u64_and_nat y.toNat 127 (by omega) (by omega)
            rw [show ((127 : Nat) : Int) = 127 from rfl] at this
            rw [this, nat_mask7]
          obtain ⟨q, hq⟩ : ∃ q : Nat, y.toNat % 128 = q := ⟨_, rfl⟩
          rw [hq] at e7 ⊢
          clear hq
          go_wp2
          go_roundw
          case rel => exact ⟨j + 1, by omega, by go_num, hg9.trans hg10⟩
          case measure => simp [intOf]; omega
        · go_wp2_with fail
          refine (awake_any _).mono ?_
          rintro e w12 ⟨rfl, hg12⟩
          go_wp2
          go_ret
          exact ⟨by simp, (hgr.trans hg9).trans hg12⟩
end Go.Proofs.Ytekneipfbpjmlaa
