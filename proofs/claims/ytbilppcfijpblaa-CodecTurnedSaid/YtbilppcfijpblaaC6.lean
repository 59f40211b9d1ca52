/-
  The law CodecTurned, walked: it returns true, and nothing that was there has turned. Conditions: lengths within the form's reach.
-/
import Derived.Test.YtbilppcfijpblaaC5
import Derived.Test.YtbilppcfijpblaaTs
import Derived.OpenShut
namespace Go.Proofs.Ytbilppcfijpblaa
open Go.RowKit

theorem low_form (x : Int) : ∃ r : Nat, r < 9223372036854775808 ∧ bits .and .i64 x 9223372036854775807 = (r : Int) := by
  refine ⟨(BitVec.ofInt 64 x &&& BitVec.ofInt 64 9223372036854775807).toNat, ?_, ?_⟩
  · rw [BitVec.toNat_and]
    exact Nat.and_lt_two_pow (n := 63) _ (by decide)
  · show IntKind.i64.wrap ((BitVec.ofInt 64 x &&& BitVec.ofInt 64 9223372036854775807).toNat : Int) = _
    have : (BitVec.ofInt 64 x &&& BitVec.ofInt 64 9223372036854775807).toNat < 2 ^ 63 := by
      rw [BitVec.toNat_and]
      exact Nat.and_lt_two_pow (n := 63) _ (by decide)
    rw [IntKind.wrap_i64]
    omega

theorem turn_all : ∀ n : Nat, n < 256 → ∀ j : Nat, j < 8 → bits .xor .u8 (n : Int) (((2 ^ j % 256 : Nat) : Int)) = ((n ^^^ 2 ^ j : Nat) : Int) ∧ n ^^^ 2 ^ j < 256 ∧ n ^^^ 2 ^ j ≠ n := by decide +kernel
theorem turn_one (x : UInt8) (j : Nat) (hj : j < 8) : ∃ y : UInt8, bits .xor .u8 (x.toNat : Int) (2 ^ j % 256) = (y.toNat : Int) ∧ y ≠ x := by
  obtain ⟨h1, h2, h3⟩ := turn_all x.toNat (UInt8.toNat_lt x) j hj
  have e : (UInt8.ofNat (x.toNat ^^^ 2 ^ j)).toNat = x.toNat ^^^ 2 ^ j := ofNat_toNat h2
  refine ⟨UInt8.ofNat (x.toNat ^^^ 2 ^ j), ?_, fun h => h3 (by rw [← e, h])⟩
  rw [e, ← h1]
  simp

/-- no record, and a code -/
def UnfNo (w : World) (code : Int) (e : Ending) (w' : World) : Prop := ∃ B n C, e = .returned (.tuple #[.slice B n C, .int .i64 0, .int .i64 code]) ∧ Grew w w'

/-- a number that is not negative; the world as it was -/
def LowPost (w : World) (e : Ending) (w' : World) : Prop := ∃ r : Nat, r ≤ 9223372036854775807 ∧ e = .returned (.int .i64 (r : Int)) ∧ w = w'

set_option maxHeartbeats 400000 in
theorem low_any (x : Int) (w : World) : Calls Try.prog 33 #[.int .i64 x] w (LowPost w) := by
  obtain ⟨r, hr, he⟩ := low_form x
  have He := Lib.hid he
  clear he
  go_enter Try.func33, Try.ntmps33
  go_wp2
  go_ret
  refine ⟨r, by omega, ?_, rfl⟩
  rw [← He.out]
  simp


set_option maxRecDepth 100000 in
set_option maxHeartbeats 4000000 in
theorem walk_codecTurned (A : Option Addr) (m c : Nat) (l : List UInt8) (z : Int) (w : World) (h : RB w A m l) (hm : m ≤ 140737488351232) (_ : (Lit.int .i64 z).wf = true) :
    Calls Try.prog 7 #[.slice A m c, .int .i64 z] w fun e w' => e = .returned (.bool true) ∧ Grew w w' := by
  have hl : l.length = m := h.1
  by_cases h6 : 65536 < m
  · go_enter Try.func7, Try.ntmps7
    go_wp2_with fail
    refine (copyBytes_any A m c l _ h (by omega)).mono ?_
    rintro e w1 ⟨P1, c1, rfl, ho1, hg1⟩
    go_wp2_with fail
    refine (frame_no P1 m c1 _ (by omega) h6).mono ?_
    rintro e w2 ⟨rfl, rfl⟩
    go_wp2_with fail
    refine (awake_any _).mono ?_
    rintro e w3 ⟨rfl, hg3⟩
    go_wp2
    go_ret
    exact ⟨by simp, hg1.trans hg3⟩
  · have hm6 : m ≤ 65536 := by omega
    have z1 := uv_len10 (v := m) (by omega)
    have a1 : ∀ A c w, RB w A m l → Calls Try.prog 14 #[.slice A m c] w (BytesE w ((uv m).length + 4 + m) (frameB l) 0) := fun A c w h => frame_any A m c l w h hm6
    by_cases h3 : 300 < m
    · generalize (uv m).length + 4 + m = fn at a1
      generalize frameB l = fl at a1
      have A1 := Lib.hid a1
      have hd3 : decide ((300 : Int) < (m : Int)) = true := decide_eq_true (by omega)
      clear a1 z1 hl
      go_enter Try.func7, Try.ntmps7
      go_wp2_with fail
      refine (copyBytes_any A m c l _ h (by omega)).mono ?_
      rintro e w1 ⟨P1, c1, rfl, ho1, hg1⟩
      go_wp2_with fail
      refine (A1.out _ _ _ ho1.rb).mono ?_
      rintro e w2 ⟨P2, c2, rfl, ho2, hg2⟩
      go_wp2_with fail
      refine (awake_any _).mono ?_
      rintro e w3 ⟨rfl, hg3⟩
      go_wp2
      go_ret
      exact ⟨by simp, (hg1.trans hg2).trans hg3⟩
    · have h31 := uv_len1 m
      have hs := fun i (hi : i < (uv m).length + 4 + m) => unfR_short l i (by omega) (by rw [hl]; exact hi)
      have ht := fun j y (hj1 : (uv m).length ≤ j) => unfR_turned l j y (by omega) (by rw [hl]; exact hj1)
      have hfl : (frameB l).length = (uv m).length + 4 + m := by unfold frameB; simp only [List.length_append, hl]; rfl
      generalize (uv m).length = hd at *
      generalize hfn : hd + 4 + m = fn at *
      generalize frameB l = fl at *
      have u1 : ∀ A i c w, i < fn → RB w A i (fl.take i) → i ≤ c ∧ c ≤ 9223372036854775807 → Calls Try.prog 27 #[.slice A i c, .int .i64 0] w (UnfNo w 20) := fun A i c w hi h hc => by
        have := unframe_any A i c (fl.take i) 0 w h (by omega) hc
        rw [hs i hi] at this
        exact this.mono fun e w' ⟨B, n, C, h1, h2, h3⟩ => ⟨B, n, C, h1, h3⟩
      have u2 : ∀ A c w j y, hd ≤ j → ∀ hj : j < fl.length, y ≠ fl[j] → RB w A fn (fl.set j y) → fn ≤ c ∧ c ≤ 9223372036854775807 → Calls Try.prog 27 #[.slice A fn c, .int .i64 0] w (UnfNo w 22) := fun A c w j y hj1 hj hy h hc => by
        have := unframe_any A fn c (fl.set j y) 0 w h (by omega) hc
        rw [ht j y hj1 hj hy] at this
        exact this.mono fun e w' ⟨B, n, C, h1, h2, h3⟩ => ⟨B, n, C, h1, h3⟩
      have A1 := Lib.hid a1
      have U1 := Lib.hid u1
      have U2 := Lib.hid u2
      have Hfl := Lib.hid hfl
      have hd3 : decide ((300 : Int) < (m : Int)) = false := decide_eq_false (by omega)
      have hh : (fn : Int) - (m : Int) - 4 = (hd : Int) := by omega
      have hd4 : decide ((hd : Int) < 1) = false := decide_eq_false (by omega)
      have Hfn := Lib.hid hfn
      have hfb : fn ≤ 400 ∧ hd + 4 ≤ fn := by omega
      clear a1 u1 u2 hs ht hfl hfn hl z1
      go_enter Try.func7, Try.ntmps7
      go_wp2_with fail
      refine (copyBytes_any A m c l _ h (by omega)).mono ?_
      rintro e w1 ⟨P1, c1, rfl, ho1, hg1⟩
      go_wp2_with fail
      refine (A1.out _ _ _ ho1.rb).mono ?_
      rintro e w2 ⟨P2, c2, rfl, ho2, hg2⟩
      have g02 := hg1.trans hg2
      clear hg1 hg2 ho1 h
      go_wp2_with fail
      refine (low_any _ _).mono ?_
      rintro e w3 ⟨r, hr, rfl, rfl⟩
      obtain ⟨t, ht⟩ : ∃ t, t = r % (8 * (fn - hd)) := ⟨_, rfl⟩
      have htl : t < 8 * (fn - hd) := by have := Nat.mod_lt r (show 0 < 8 * (fn - hd) by omega); omega
      have htz : (r : Int) % (8 * ((fn : Int) - (hd : Int))) = (t : Int) := by
        have : (((r % (8 * (fn - hd)) : Nat)) : Int) = (r : Int) % (8 * ((fn : Int) - (hd : Int))) := by
          rw [Int.natCast_emod, Int.natCast_mul, Int.natCast_sub (by omega)]
          rfl
        rw [← this, ht]
      clear ht
      obtain ⟨k, hk⟩ : ∃ k, k = 8 * hd + t := ⟨_, rfl⟩
      have hkz : 8 * (hd : Int) + (t : Int) = (k : Int) := by omega
      have hk8 : k < 8 * fn := by omega
      have hk7 : hd ≤ k / 8 := by omega
      have hk9 : k / 8 < fn := by omega
      clear hk htl
      go_wp2_with fail
      refine (copyBytes_any P2 fn c2 fl _ ho2.rb (by omega)).mono ?_
      rintro e w6 ⟨P6, c6, rfl, ho6, hg6⟩
      have ho26 := ho2.grew hg6
      have g06 := g02.trans hg6
      have hs2 := g02.size
      have hs6 := hg6.size
      have hcc := ho2.cap
      obtain ⟨g2, rfl, hbg, hg2, hcs, hfs, hca, hcb⟩ := Own.at_ ho6 (by omega)
      have ⟨x0, hx0⟩ : ∃ x0, Hid (fl[k / 8]? = some x0) := ⟨_, List.getElem?_eq_getElem (show k / 8 < fl.length by have := Hfl.out; omega)⟩
      have hcb' : c6 ≤ 9223372036854775807 := by unfold maxLen at hcb; exact hcb
      have hcell : w6.cell? ⟨g2, k / 8, none⟩ = some (.int .u8 (x0.toNat : Int)) := by
        rw [hcs _ (by omega)]
        have := hx0.out
        simp [byt, this]
      have hf2 := hfs (k / 8)
      have ho2' := ho2
      clear hcs hfs ho2
      go_wp2
      refine wp_region_text [(3, 1), (5, 1)] (by kernel_rfl) (by kernel_rfl) ?_
      simp only [instr, chk, look, Nat.reduceBEq, Bool.false_eq_true, if_true, if_false, Nat.reduceEqDiff, List.cons_append, List.nil_append]
      go_wp2_with fail
      refine OnlyN.normal ?_
      go_wp2_with fail
      have hlen : k / 8 < fl.length := by have := Hfl.out; omega
      obtain ⟨y, hy, hyn⟩ := turn_one x0 (k % 8) (Nat.mod_lt _ (by decide))
      rw [hy]
      have hyn2 : y ≠ fl[k / 8] := by have := hx0.out; rw [List.getElem?_eq_getElem hlen] at this; injection this with this; rw [this]; exact hyn
      have q2 := Own.blk_lt ho2'
      have ho7 : Own ((w6.setCell ⟨g2, k / 8, none⟩ (.int .u8 (y.toNat : Int))).drew) w2.heap.size 5 1 (some ⟨g2, 0, none⟩) fn c6 ((fl.set (k / 8) y).map byt) := by
        have := Own.set ho6 (k / 8) (byt y)
        rw [← List.map_set] at this
        exact this
      have hf7 : RB ((w6.setCell ⟨g2, k / 8, none⟩ (.int .u8 (y.toNat : Int))).drew) P2 fn fl := ho26.rb.setFar (by
        rintro ad e _
        have := q2 ad e
        show ad.block ≠ g2
        omega) _
      have g07 : Grew w (w6.setCell ⟨g2, k / 8, none⟩ (.int .u8 (y.toNat : Int))).drew := (g06.setCell (p := ⟨g2, k / 8, none⟩) (.inl (show w.heap.size ≤ g2 by omega)) _).drew
      have hy7 : RB ((w6.setCell ⟨g2, k / 8, none⟩ (.int .u8 (y.toNat : Int))).drew) (some ⟨g2, 0, none⟩) fn (fl.set (k / 8) y) := OB.rb ho7
      clear hy hyn hcell hf2 ho6 ho26 ho7 q2
      generalize (w6.setCell ⟨g2, k / 8, none⟩ (.int .u8 (y.toNat : Int))).drew = w7 at *
      refine (U2.out (some ⟨g2, 0, none⟩) c6 w7 (k / 8) y hk7 hlen hyn2 hy7 (by omega)).mono ?_
      rintro e w8 ⟨B8, n8, c8, rfl, hg8⟩
      have hf8 := hf7.grew hg8
      have g08 := g07.trans hg8
      clear hf7 g07 hg8 hy7 hs6 hg6 g06 hs2 hg2 hbg g02 hca hcb
      go_wp2_with fail
      go_loopw [13] (fun i wr => ∃ k : Nat, k ≤ fn ∧ i = .int .i64 k ∧ RB wr P2 fn fl ∧ Grew w wr) (fun i _ => fn - (intOf i).toNat)
      case atStart => exact ⟨0, Nat.zero_le _, rfl, hf8, g08⟩
      case round =>
        clear hf8 g08
        obtain ⟨j, hj, rfl, hf, hg⟩ := hrel
        by_cases hlt : j < fn
        · have hjc : (j : Int) ≤ (c2 : Int) := by omega
          have hft := hf.take (i := j) hj
          go_wp2_with fail
          refine (copyBytes_any P2 j c2 _ _ hft (by omega)).mono ?_
          rintro e w9 ⟨P9, c9, rfl, ho9, hg9⟩
          have hc9 := ho9.cap
          go_wp2_with fail
          refine (U1.out P9 j c9 w9 hlt ho9.rb hc9).mono ?_
          rintro e w10 ⟨P10, n10, c10, rfl, hg10⟩
          have hf10 := (hf.grew hg9).grew hg10
          have hg11 := (hg.trans hg9).trans hg10
          clear hf hg hg9 hg10 ho9 hft
          go_wp2
          go_roundw
          case rel =>
            first
              | exact ⟨j + 1, by omega, by go_num, hf10, hg11⟩
              | ((repeat apply Exists.intro); refine ⟨?_, rfl⟩; exact ⟨j + 1, by omega, by go_num, hf10, hg11⟩)
          case measure => simp [intOf]; omega
        · go_wp2_with fail
          refine (awake_any _).mono ?_
          rintro e w9 ⟨rfl, hg9⟩
          go_wp2
          go_ret
          exact ⟨by simp, hg.trans hg9⟩
end Go.Proofs.Ytbilppcfijpblaa
