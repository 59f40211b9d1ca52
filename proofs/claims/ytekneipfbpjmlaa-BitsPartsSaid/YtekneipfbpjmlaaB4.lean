/-
  The law BitsParts, walked: whatever the input it returns true, and nothing that was there has turned. Conditions: none.
-/
import Derived.Test.YtekneipfbpjmlaaBm
namespace Go.Proofs.Ytekneipfbpjmlaa
open Go.RowKit

set_option maxRecDepth 100000 in
set_option maxHeartbeats 1000000 in
theorem walk_bitsParts (hz vz wz cz : Int) (w : World) (hh : (Lit.int .u8 hz).wf = true) (hv : (Lit.int .u64 vz).wf = true) (_ : (Lit.int .i64 wz).wf = true) (_ : (Lit.int .i64 cz).wf = true) :
    Calls Try.prog 5 #[.int .u8 hz, .int .u64 vz, .int .i64 wz, .int .i64 cz] w fun e w' => e = .returned (.bool true) ∧ Grew w w' := by
  have bv := Go.bounds_u64 hv
  have bh := Go.bounds_u8 hh
  obtain ⟨v, rfl⟩ := Int.eq_ofNat_of_zero_le bv.1
  obtain ⟨d, rfl⟩ := Int.eq_ofNat_of_zero_le bh.1
  have hv2 : v < 18446744073709551616 := by omega
  have hd2 : d < 256 := by omega
  clear hv hh bv bh
  go_enter Try.func5, Try.ntmps5
  go_wp2_with fail
  refine (low_any _ _).mono ?_
  rintro e w1 ⟨r1, hr1, rfl, rfl⟩
  go_wp2_with fail
  refine (low_any _ _).mono ?_
  rintro e w1 ⟨r2, hr2, rfl, rfl⟩
  obtain ⟨a, ha⟩ : ∃ a, a = r1 % 65 := ⟨_, rfl⟩
  have ha2 : a ≤ 64 := by omega
  have hc2 : r2 % (r1 % 65 + 1) ≤ r1 % 65 := by have := Nat.mod_lt r2 (show 0 < r1 % 65 + 1 by omega); omega
  obtain ⟨c, hc⟩ : ∃ c, c = r2 % (r1 % 65 + 1) := ⟨_, rfl⟩
  rw [← hc, ← ha] at hc2
  have Ha := Lib.hid ha
  have Hc := Lib.hid hc
  clear ha hc
  obtain ⟨t, rfl⟩ : ∃ t, a = t + c := ⟨a - c, by omega⟩
  go_wp2_with fail
  refine (append_z none 0 0 [] d 5 _ _ _ _ ⟨by rw [pack_nil]; rfl, by rw [pack_nil]; exact Rd.nil _ _⟩ rfl rfl rfl (by omega) (by omega) (by omega)).mono ?_
  rintro e w1 ⟨A1, m1, c1, rfl, ho1, hg1⟩
  rw [List.nil_append] at ho1
  have l1 := ho1.len
  simp only [length_pack, length_toBits] at l1
  subst l1
  have e1 : ((r1 : Int) % 65) = (t : Int) + c := by have := Ha.out; omega
  have e2 : ((r2 : Int) % ((t : Int) + c + 1)) = (c : Int) := by
    have h1 := Hc.out
    have h2 : (((r2 % (r1 % 65 + 1) : Nat)) : Int) = ((r2 : Int) % ((r1 : Int) % 65 + 1)) := by simp
    rw [← e1, ← h2, ← h1]
  go_wp2_with fail
  refine (append_z A1 _ c1 (toBits d 5) v (t + c) _ _ _ _ ho1.rb ?_ rfl ?_ (by omega) hv2 ha2).mono ?_
  · simp
  · simp
  rintro e w2 ⟨A2, m2, c2, rfl, ho2, hg2⟩
  go_wp2_with fail
  refine (append_z A1 _ c1 (toBits d 5) (v / 2 ^ c) t _ _ _ _ (ho1.grew hg2).rb ?_ ?_ ?_ (by omega) ?_ (by omega)).mono ?_
  · simp
  · simp
  · omega
  · have := Nat.div_le_self v (2 ^ c)
    omega
  rintro e w3 ⟨A3, m3, c3, rfl, ho3, hg3⟩
  have l3 := ho3.len
  simp only [length_pack, List.length_append, length_toBits] at l3
  have b3 : m3 ≤ 140737488355200 := by omega
  clear l3
  go_wp2_with fail
  refine (append_z A3 _ c3 (toBits d 5 ++ toBits (v / 2 ^ c) t) v c _ _ _ _ ho3.rb ?_ rfl ?_ b3 hv2 (by omega)).mono ?_
  · simp
  · simp
  rintro e w4 ⟨A4, m4, c4, rfl, ho4, hg4⟩
  have hj : toBits d 5 ++ toBits (v / 2 ^ c) t ++ toBits v c = toBits d 5 ++ toBits v (t + c) := by
    rw [toBits_append v t c, List.append_assoc]
  rw [hj] at ho4
  have hx2 := (ho2.grew hg3).grew hg4
  have k2 := hx2.cap
  have k4 := ho4.cap
  have k5 := hx2.len
  simp only [length_pack, List.length_append, length_toBits] at k5
  have b2 : m2 ≤ 140737488355200 := by omega
  have hgr : Grew w w4 := ((hg1.trans hg2).trans hg3).trans hg4
  clear k5 hj hg1 hg2 hg3 hg4 ho1 ho2 ho3
  go_wp2_with fail
  refine (sameBytes_yes A2 A4 m2 m4 c2 c4 _ _ hx2.rb ho4.rb (by omega) (by omega)).mono ?_
  rintro e w5 ⟨rfl, k5, rfl⟩
  go_wp2_with fail
  refine (whole_z A2 m2 c2 (toBits d 5 ++ toBits v (t + c)) _ _ (hx2.drewN k5).rb ?_ (by omega)).mono ?_
  · simp
    omega
  rintro e w6 ⟨rfl, rfl⟩
  go_wp2_with fail
  refine (awake_any _).mono ?_
  rintro e w12 ⟨rfl, hg12⟩
  go_wp2
  go_ret
  exact ⟨by simp, (hgr.drewN k5).trans hg12⟩
end Go.Proofs.Ytekneipfbpjmlaa
