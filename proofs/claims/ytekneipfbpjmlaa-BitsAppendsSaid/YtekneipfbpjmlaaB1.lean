/-
  The law BitsAppends, walked: whatever the input it returns true, and nothing that was there has turned. Conditions: lengths within the form's reach.
-/
import Derived.Test.YtekneipfbpjmlaaBl
import Derived.OpenShut
namespace Go.Proofs.Ytekneipfbpjmlaa
open Go.RowKit

set_option maxRecDepth 100000 in
set_option maxHeartbeats 4000000 in
theorem appends_ok (A : Option Addr) (m c : Nat) (bs : List Bool) (v k : Nat) (w : World) (h : RB w A m (pack bs)) (hm : m ≤ 140737488351232) (hv : v < 18446744073709551616) (hk : k ≤ 64) :
    Calls Try.prog 3 #[.slice A m c, .int .i64 (bs.length : Int), .int .u64 (v : Int), .int .i64 (k : Int)] w fun e w' => e = .returned (.bool true) ∧ Grew w w' := by
  have hlen := h.1
  simp only [length_pack] at hlen
  have hw : wholeB (pack bs) bs.length = true := wholeB_pack bs
  have Hw := Lib.hid hw
  have hm8 : bs.length ≤ 8 * m := by omega
  clear hw hlen
  go_enter Try.func3, Try.ntmps3
  go_wp2_with fail
  refine (refAppend_ok A m c bs v k _ h (by omega) hv hk).mono ?_
  rintro e w1 ⟨A1, m1, c1, rfl, ho1, hg1⟩
  have h1 := h.grew hg1
  go_wp2_with fail
  refine (lendBytes_any A m c _ _ h1 (by omega)).mono ?_
  rintro e w2 ⟨A2, c2, rfl, ho2, hg2⟩
  have h2 := h1.grew hg2
  have hc2 := ho2.cap
  have hrl : RB w2 A2 m (pack bs) := by
    have := ho2.rb.take (i := m) (by omega)
    rwa [List.take_left' h.1] at this
  go_wp2_with fail
  refine (append_ok A2 m c2 bs v k _ hrl (by omega) hv hk).mono ?_
  rintro e w3 ⟨A3, m3, c3, rfl, ho3, hg3⟩
  go_wp2_with fail
  refine (whole_any A2 m c2 (pack bs) bs.length _ (hrl.grew hg3) (by omega)).mono ?_
  rintro e w4 ⟨rfl, rfl⟩
  go_wp2_with fail
  refine (keptBytes_any A2 m c2 (pack bs) A c w1.heap.size _ (ho2.grew hg3) (h2.grew hg3) (by omega)).mono ?_
  rintro e w5 ⟨rfl, hg5⟩
  have s1 := hg1.size
  have s2 := hg2.size
  have s3 := hg3.size
  have s5 := hg5.size
  have b1 := Own.blk_lt ho1
  have b2 := Own.blk_lt ho2
  have b3 := Own.blk_lt ho3
  have h5 : RB w5 A m (pack bs) := (h2.grew hg3).far hg5 (by rintro ad e h0 ⟨bd, e2, e3⟩; have := h.lt ad e h0; have := b2 bd e2; omega)
  have ho1' : OB w5 w.heap.size 5 A1 m1 c1 (pack (bs ++ toBits v k)) := ((ho1.grew hg2).grew hg3).chg hg5 (by rintro ad e ⟨bd, e2, e3⟩; have := b1 ad e; have := b2 bd e2; omega)
  have ho3' : OB w5 w2.heap.size 5 A3 m3 c3 (pack (bs ++ toBits v k)) := ho3.chg hg5 (by rintro ad e ⟨bd, e2, e3⟩; have := b3 ad e; have := b2 bd e2; omega)
  have hgw : Grew w w5 := ((hg1.trans hg2).trans hg3).step hg5 (by rintro x hx ⟨bd, e2, e3⟩; have := b2 bd e2; omega)
  clear hg1 hg2 hg3 hg5 ho1 ho2 ho3 hrl h1 h2 h
  go_wp2_with fail
  refine (copyBytes_any A m c (pack bs) _ h5 (by omega)).mono ?_
  rintro e w6 ⟨A6, c6, rfl, ho6, hg6⟩
  go_wp2_with fail
  refine (append_ok A6 m c6 bs v k _ ho6.rb (by omega) hv hk).mono ?_
  rintro e w7 ⟨A7, m7, c7, rfl, ho7, hg7⟩
  have hg67 := hg6.trans hg7
  have hx1 := (ho1'.grew hg67)
  have hx3 := (ho3'.grew hg67)
  have l1 := hx1.cap
  have l3 := hx3.cap
  have l7 := ho7.cap
  go_wp2_with fail
  refine (sameBytes_yes A3 A1 m3 m1 c3 c1 _ _ hx3.rb hx1.rb (by omega) (by omega)).mono ?_
  rintro e w8 ⟨rfl, k8, rfl⟩
  have hw := Hw.out
  go_wp2_with fail
  refine (refWhole_any A m c (pack bs) bs.length _ ((h5.grew hg67).drewN k8) (by omega) (by omega)).mono ?_
  rintro e w9 ⟨rfl, rfl⟩
  go_wp2_with fail
  refine (spoilBytes_any A3 m3 c3 _ w2.heap.size _ (hx3.drewN k8) (by have := hg67.size; simp; omega) ?_).mono ?_
  · have := hx3.len
    simp at this
    omega
  rintro e w10 ⟨rfl, hg10⟩
  have s6 := hg6.size
  have s7 := hg7.size
  have b7 := Own.blk_lt ho7
  have hy7 : OB w10 w6.heap.size 5 A7 m7 c7 (pack (bs ++ toBits v k)) := (ho7.drewN k8).chg hg10 (by rintro ad e ⟨bd, e2, e3⟩; have := b7 ad e; have := b3 bd e2; omega)
  have hy1 : OB w10 w.heap.size 5 A1 m1 c1 (pack (bs ++ toBits v k)) := (hx1.drewN k8).chg hg10 (by rintro ad e ⟨bd, e2, e3⟩; have := b1 ad e; have := b3 bd e2; omega)
  have hgz : Grew w w10 := ((hgw.trans hg67).drewN k8).step hg10 (by rintro x hx ⟨bd, e2, e3⟩; have := b3 bd e2; omega)
  clear hg10 hx1 hx3 ho7 ho6 ho3' ho1' hg6 hg7 hg67 hgw
  go_wp2_with fail
  refine (sameBytes_yes A7 A1 m7 m1 c7 c1 _ _ hy7.rb hy1.rb (by omega) (by omega)).mono ?_
  rintro e w11 ⟨rfl, k11, rfl⟩
  go_wp2_with fail
  refine (awake_any _).mono ?_
  rintro e w12 ⟨rfl, hg12⟩
  go_wp2
  go_ret
  exact ⟨by simp, (hgz.drewN k11).trans hg12⟩

set_option maxRecDepth 100000 in
set_option maxHeartbeats 4000000 in
theorem appends_no (A : Option Addr) (m c : Nat) (l : List UInt8) (n v k : Int) (w : World) (h : RB w A m l) (hm : m ≤ 140737488351232) (hn : n ≤ 9223372036854775807) (hno : (wholeB l n && decide (0 ≤ k ∧ k ≤ 64)) = false) :
    Calls Try.prog 3 #[.slice A m c, .int .i64 n, .int .u64 v, .int .i64 k] w fun e w' => e = .returned (.bool true) ∧ Grew w w' := by
  have Hno := Lib.hid hno
  obtain ⟨b, hb⟩ : ∃ b, wholeB l n = b := ⟨_, rfl⟩
  have Hb := Lib.hid hb
  clear hno hb
  go_enter Try.func3, Try.ntmps3
  go_wp2_with fail
  refine (refAppend_no A m c l n v k _ h (by omega) hn Hno.out).mono ?_
  rintro e w1 ⟨rfl, rfl⟩
  go_wp2_with fail
  refine (lendBytes_any A m c _ _ h (by omega)).mono ?_
  rintro e w2 ⟨A2, c2, rfl, ho2, hg2⟩
  have h2 := h.grew hg2
  have hc2 := ho2.cap
  have hrl : RB w2 A2 m l := by
    have := ho2.rb.take (i := m) (by omega)
    rwa [List.take_left' h.1] at this
  go_wp2_with fail
  refine (append_no A2 m c2 l n v k _ hrl (by omega) Hno.out).mono ?_
  rintro e w3 ⟨rfl, rfl⟩
  go_wp2_with fail
  refine (whole_any A2 m c2 l n _ hrl (by omega)).mono ?_
  rintro e w4 ⟨rfl, rfl⟩
  rw [Hb.out]
  go_wp2_with fail
  refine (keptBytes_any A2 m c2 l A c w1.heap.size _ ho2 h2 (by omega)).mono ?_
  rintro e w5 ⟨rfl, hg5⟩
  have s2 := hg2.size
  have b2 := Own.blk_lt ho2
  have h5 : RB w5 A m l := h2.far hg5 (by rintro ad e h0 ⟨bd, e2, e3⟩; have := h.lt ad e h0; have := b2 bd e2; omega)
  have hgw : Grew w1 w5 := hg2.step hg5 (by rintro x hx ⟨bd, e2, e3⟩; have := b2 bd e2; omega)
  clear hg2 hg5 ho2 hrl h2 h
  go_wp2_with fail
  refine (copyBytes_any A m c l _ h5 (by omega)).mono ?_
  rintro e w6 ⟨A6, c6, rfl, ho6, hg6⟩
  go_wp2_with fail
  refine (append_no A6 m c6 l n v k _ ho6.rb (by omega) Hno.out).mono ?_
  rintro e w7 ⟨rfl, rfl⟩
  go_wp2_with fail
  refine (sameBytes_yes none none 0 0 0 0 [] _ ⟨rfl, Rd.nil _ _⟩ ⟨rfl, Rd.nil _ _⟩ (by omega) (by omega)).mono ?_
  rintro e w8 ⟨rfl, k8, rfl⟩
  go_wp2_with fail
  refine (refWhole_any A m c l n _ ((h5.grew hg6).drewN k8) (by omega) hn).mono ?_
  rintro e w9 ⟨rfl, rfl⟩
  rw [Hb.out]
  have hbb : (b != b) = false := by simp
  go_wp2_with fail
  refine (spoilBytes_any none 0 0 [] w1.heap.size _ (Own.nil _ _ _ _) (by have := hg6.size; have := hgw.size; simp; omega) (by omega)).mono ?_
  rintro e w10 ⟨rfl, hg10⟩
  have hgz : Grew w1 w10 := ((hgw.trans hg6).drewN k8).step hg10 (by rintro x hx ⟨bd, e2, e3⟩; cases e2)
  clear hg10 hg6 hgw ho6
  go_wp2_with fail
  refine (sameBytes_yes none none 0 0 0 0 [] _ ⟨rfl, Rd.nil _ _⟩ ⟨rfl, Rd.nil _ _⟩ (by omega) (by omega)).mono ?_
  rintro e w11 ⟨rfl, k11, rfl⟩
  go_wp2_with fail
  refine (awake_any _).mono ?_
  rintro e w12 ⟨rfl, hg12⟩
  go_wp2
  go_ret
  exact ⟨by simp, (hgz.drewN k11).trans hg12⟩

theorem walk_bitsAppends (A : Option Addr) (m c : Nat) (l : List UInt8) (n v k : Int) (w : World) (h : RB w A m l) (hm : m ≤ 140737488351232) (hn : (Lit.int .i64 n).wf = true) (hv : (Lit.int .u64 v).wf = true) (hk : (Lit.int .i64 k).wf = true) :
    Calls Try.prog 3 #[.slice A m c, .int .i64 n, .int .u64 v, .int .i64 k] w fun e w' => e = .returned (.bool true) ∧ Grew w w' := by
  have bn := Go.bounds_i64 hn
  have bv := Go.bounds_u64 hv
  by_cases hok : (wholeB l n && decide (0 ≤ k ∧ k ≤ 64)) = true
  · simp only [Bool.and_eq_true, decide_eq_true_eq] at hok
    obtain ⟨h1, h2, h3⟩ := hok
    have h0 : 0 ≤ n := ((wholeB_iff l n).1 h1).1
    obtain ⟨n, rfl⟩ := Int.eq_ofNat_of_zero_le h0
    obtain ⟨k, rfl⟩ := Int.eq_ofNat_of_zero_le h2
    obtain ⟨v, rfl⟩ := Int.eq_ofNat_of_zero_le bv.1
    have hp := pack_of_wholeB h1
    have hl := length_bitsOf l n
    simp only [Int.toNat_natCast] at hp
    have := appends_ok A m c (bitsOf l n) v k w (by rw [← hp]; exact h) hm (by omega) (by omega)
    rwa [hl] at this
  · exact appends_no A m c l n v k w h hm (by omega) (by simpa using hok)
end Go.Proofs.Ytekneipfbpjmlaa
