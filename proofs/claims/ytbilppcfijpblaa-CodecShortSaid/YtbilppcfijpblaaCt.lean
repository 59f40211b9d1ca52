/-
  Package codec and its reference: frames laid. Conditions: lengths that memory bears.
-/
import Derived.Test.YtbilppcfijpblaaCy
import Derived.Test.YtbilppcfijpblaaCs
namespace Go.Proofs.Ytbilppcfijpblaa
open Go.RowKit

/-- a sum's bytes -/
def four (s : Nat) : List UInt8 := [UInt8.ofNat (s / 16777216), UInt8.ofNat (s / 65536), UInt8.ofNat (s / 256), UInt8.ofNat s]
/-- a record's frame -/
def frameB (l : List UInt8) : List UInt8 := uv l.length ++ four (crc l) ++ l
/-- new bytes and an error -/
def BytesE (w : World) (n : Nat) (l : List UInt8) (er : Nat) (e : Ending) (w' : World) : Prop :=
  ∃ A c, e = .returned (.tuple #[.slice A n c, .int .i64 (er : Int)]) ∧ OB w' w.heap.size 5 A n c l ∧ Grew w w'

theorem byt_ofNat (n : Nat) : byt (UInt8.ofNat n) = .int .u8 ((n : Int) % 256) := by
  unfold byt
  rw [UInt8.toNat_ofNat']
  simp

/-- a sum's bytes as the walk lays them -/
def fourC (s : Nat) : Array Value := #[.int .u8 ((s : Int) / 16777216), .int .u8 ((s : Int) / 65536 % 256), .int .u8 ((s : Int) / 256 % 256), .int .u8 ((s : Int) % 256)]
theorem fourC_eq (s : Nat) (h : s < 4294967296) : fourC s = ((four s).map byt).toArray := by
  show _ = #[byt (UInt8.ofNat (s / 16777216)), byt (UInt8.ofNat (s / 65536)), byt (UInt8.ofNat (s / 256)), byt (UInt8.ofNat s)]
  rw [byt_ofNat, byt_ofNat, byt_ofNat, byt_ofNat]
  have e1 : (((s / 16777216 : Nat)) : Int) % 256 = (s : Int) / 16777216 := by omega
  have e2 : (((s / 65536 : Nat)) : Int) % 256 = (s : Int) / 65536 % 256 := by omega
  have e3 : (((s / 256 : Nat)) : Int) % 256 = (s : Int) / 256 % 256 := by omega
  rw [e1, e2, e3]
  rfl

set_option maxRecDepth 100000 in
set_option maxHeartbeats 1000000 in
theorem frame_no (A : Option Addr) (m c : Nat) (w : World) (hm : m ≤ 9223372036854775807) (h : 65536 < m) :
    Calls Try.prog 14 #[.slice A m c] w fun e w' => e = .returned (.tuple #[.slice none 0 0, .int .i64 23]) ∧ w' = w := by
  go_enter Try.func14, Try.ntmps14
  go_wp2_with fail
  go_ret2
  exact ⟨by simp, rfl⟩
set_option maxRecDepth 100000 in
set_option maxHeartbeats 1000000 in
theorem refFrame_no (A : Option Addr) (m c : Nat) (w : World) (hm : m ≤ 9223372036854775807) (h : 65536 < m) :
    Calls Try.prog 21 #[.slice A m c] w fun e w' => e = .returned (.tuple #[.slice none 0 0, .int .i64 23]) ∧ w' = w := by
  go_enter Try.func21, Try.ntmps21
  go_wp2_with fail
  go_ret2
  exact ⟨by simp, rfl⟩

set_option maxRecDepth 100000 in
set_option maxHeartbeats 1000000 in
theorem frame_any (A : Option Addr) (m c : Nat) (l : List UInt8) (w : World) (h : RB w A m l) (hm : m ≤ 65536) :
    Calls Try.prog 14 #[.slice A m c] w (BytesE w ((uv m).length + 4 + m) (frameB l) 0) := by
  have hl10 := uv_len10 (v := m) (by omega)
  have hcr := crc_lt l
  have hfb : frameB l = uv m ++ four (crc l) ++ l := by unfold frameB; rw [h.1]
  rw [hfb]
  clear hfb
  have hsum := sum_any A m c l w h (by omega)
  generalize crc l = s at hcr hsum ⊢
  have Hsum := Lib.hid hsum
  clear hsum
  go_enter Try.func14, Try.ntmps14
  go_wp2_with fail
  refine Hsum.out.mono ?_
  rintro e w1 ⟨rfl, hg1⟩
  go_wp2_with fail
  refine (putUint_any none 0 0 [] m _ _ ⟨rfl, Rd.nil _ _⟩ ?_ (by omega) (by omega)).mono ?_
  · simp
  rintro e w2 ⟨B, C, rfl, ho2, hg2⟩
  rw [List.nil_append] at ho2
  have h2 := (h.grew hg1).grew hg2
  have hs1 := hg1.size
  have hs2 := hg2.size
  rw [Nat.zero_add] at ho2
  have hf4 : RB (w2.alloc (.cells (fourC s) 5)) (some ⟨w2.heap.size, 0, none⟩) 4 (four s) := RB.new w2 (four s) 4 _ _ rfl (fourC_eq s hcr)
  have ho2a := ho2.grew ((Chg.refl _ w2).alloc (.cells (fourC s) 5))
  unfold fourC at hf4 ho2a
  have hr3 := h2.grew ((Chg.refl _ w2).alloc (.cells (fourC s) 5))
  unfold fourC at hr3
  go_wp2_with (first | (at_builtin; refine wpList_appB rfl _ _ rfl w1.heap.size B _ C _ rfl ho2a (by simp; omega) _ 4 4 (four s) rfl hf4 (by omega) ?_; intro A3 c3 w3 h3; have ho3 := h3.ob; have hg3 := h3.grew (hg2.alloc _) (fun ad e => (Own.blk_lt ho2 ad e).1); have hs3 := hg3.size; have hr4 := (h.grew hg1).grew hg3) | (at_builtin; refine wpList_appB rfl _ _ rfl w1.heap.size A3 _ c3 _ rfl ho3 hs3 A m c l rfl hr4 (by omega) ?_; intro A4 c4 w4 h4))
  go_ret2
  exact ⟨A4, c4, by simp, h4.ob.mono hs1, hg1.trans (h4.grew hg3 fun ad e => (Own.blk_lt ho3 ad e).1)⟩

theorem four_any (s : Nat) (w : World) (hs : s < 4294967296) : Calls Try.prog 36 #[.int .u32 (s : Int)] w fun e w' => ∃ A c, e = .returned (.slice A 4 c) ∧ OB w' w.heap.size 5 A 4 c (four s) ∧ Grew w w' := by
  have hf4 : OB (w.alloc (.cells (fourC s) 5)) w.heap.size 5 (some ⟨w.heap.size, 0, none⟩) 4 4 (four s) := by
    have := Own.lit w w.heap.size 5 1 4 (fourC s) (Nat.le_refl _) (by unfold maxLen; omega) rfl
    rw [fourC_eq s hs] at this ⊢
    exact this
  unfold fourC at hf4
  go_enter Try.func36, Try.ntmps36
  go_wp2
  go_ret
  exact ⟨_, _, by simp, hf4, (Chg.refl _ w).alloc _⟩

set_option maxRecDepth 100000 in
set_option maxHeartbeats 1000000 in
theorem refFrame_any (A : Option Addr) (m c : Nat) (l : List UInt8) (w : World) (h : RB w A m l) (hm : m ≤ 65536) :
    Calls Try.prog 21 #[.slice A m c] w (BytesE w ((uv m).length + 4 + m) (frameB l) 0) := by
  have hl10 := uv_len10 (v := m) (by omega)
  have hcr := crc_lt l
  have hfb : frameB l = uv m ++ four (crc l) ++ l := by unfold frameB; rw [h.1]
  rw [hfb]
  clear hfb
  have hsum := fun w h => refSum_any A m c l w h (by omega)
  generalize crc l = s at hcr hsum ⊢
  have Hsum := Lib.hid hsum
  clear hsum
  go_enter Try.func21, Try.ntmps21
  go_wp2_with fail
  refine (refPutUint_any none 0 0 [] m _ _ ⟨rfl, Rd.nil _ _⟩ ?_ (by omega) (by omega)).mono ?_
  · simp
  rintro e w2 ⟨B, C, rfl, ho2, hg2⟩
  rw [List.nil_append, Nat.zero_add] at ho2
  have h2 := h.grew hg2
  have hs2 := hg2.size
  go_wp2_with fail
  refine (Hsum.out _ h2).mono ?_
  rintro e w3 ⟨rfl, rfl⟩
  go_wp2_with fail
  refine (four_any s _ hcr).mono ?_
  rintro e w3 ⟨A3, c3, rfl, ho3, hg3⟩
  have ho2b := ho2.grew hg3
  have hs3 := hg3.size
  have hg23 := hg2.trans hg3
  go_wp2_with (first | (at_builtin; refine wpList_appB rfl _ _ rfl w.heap.size B _ C _ rfl ho2b (by omega) A3 4 c3 (four s) rfl ho3.rb (by omega) ?_; intro A4 c4 w4 h4; have ho4 := h4.ob; have hg4 := h4.grew hg23 (fun ad e => (Own.blk_lt ho2 ad e).1); have hs4 := hg4.size; have hr4 := h.grew hg4) | (at_builtin; refine wpList_appB rfl _ _ rfl w.heap.size A4 _ c4 _ rfl ho4 hs4 A m c l rfl hr4 (by omega) ?_; intro A5 c5 w5 h5))
  go_ret2
  exact ⟨A5, c5, by simp, h5.ob, h5.grew hg4 fun ad e => (Own.blk_lt ho4 ad e).1⟩
end Go.Proofs.Ytbilppcfijpblaa
