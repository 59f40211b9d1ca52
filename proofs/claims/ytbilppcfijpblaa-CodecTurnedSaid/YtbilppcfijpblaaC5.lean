/-
  The law CodecTurned's plain part: each beginning of a frame ends too early; a frame with one byte turned behind its length is refused. Conditions: a record of at most 300 bytes.
-/
import Derived.Test.YtbilppcfijpblaaC4
namespace Go.Proofs.Ytbilppcfijpblaa
open Go.RowKit

theorem unfR_short (q : List UInt8) (i : Nat) (hq : q.length ≤ 300) (hi : i < (uv q.length).length + 4 + q.length) : unfR ((frameB q).take i) 0 = ([], 0, 20) := by
  have hf : frameB q = uv q.length ++ (four (crc q) ++ q) := by unfold frameB; rw [List.append_assoc]
  rw [hf]
  by_cases h : i < (uv q.length).length
  · have hu : ur ((uv q.length).take i) 0 0 = (0, 0, 20) := by
      by_cases hs : q.length < 128
      · rw [uv_small hs] at h ⊢
        simp only [List.length_cons, List.length_nil] at h
        obtain rfl : i = 0 := by omega
        rfl
      · rw [uv_big hs, uv_small (show q.length / 128 < 128 by omega)] at h ⊢
        simp only [List.length_cons, List.length_nil] at h
        have : i = 0 ∨ i = 1 := by omega
        rcases this with rfl | rfl
        · rfl
        · have e : (UInt8.ofNat (q.length % 128 + 128)).toNat = q.length % 128 + 128 := ofNat_toNat (by omega)
          simp only [List.take_succ_cons, List.take_zero]
          unfold ur
          rw [if_neg (by omega), if_neg (by omega)]
          rfl
    rw [List.take_append_of_le_length (by omega)]
    have hR : uintR ((uv q.length).take i) 0 = (0, 0, 20) := by
      unfold uintR
      rw [if_pos ⟨by omega, by omega⟩]
      simp [hu]
    unfold unfR
    rw [hR]
    rfl
  · have hR := uintR_at [] ((four (crc q) ++ q).take (i - (uv q.length).length)) q.length (by omega)
    simp only [List.nil_append, List.length_nil, Nat.zero_add] at hR
    rw [List.take_append, List.take_of_length_le (by omega)]
    unfold unfR
    rw [show (0 : Int) = ((0 : Nat) : Int) from rfl, hR]
    unfold unfOf
    have hle : lenE (q.length, (uv q.length).length, 0) = 0 := by
      unfold lenE
      rw [if_neg (by simp), if_neg (by simp only; omega)]
    have h4 : (four (crc q)).length = 4 := rfl
    have hrec : recOf (uv q.length ++ (four (crc q) ++ q).take (i - (uv q.length).length)) (uv q.length).length q.length = ([], (uv q.length).length, 20) := by
      unfold recOf
      rw [if_pos (by simp only [List.length_append, List.length_take, h4]; omega)]
    rw [hle]
    simp only [hrec]
    simp

theorem crc_set (q : List UInt8) (j : Nat) (y : UInt8) (hj : j < q.length) (hy : y ≠ q[j]) : crc (q.set j y) ≠ crc q := by
  have e1 : q.set j y = q.take j ++ y :: q.drop (j + 1) := List.set_eq_take_append_cons_drop .. |>.trans (by rw [if_pos hj])
  have e2 : q = q.take j ++ q[j] :: q.drop (j + 1) := by rw [← List.drop_eq_getElem_cons hj, List.take_append_drop]
  rw [e1]
  conv => rhs; rw [e2]
  exact crc_turned _ _ _ _ hy

theorem turned_ne (q : List UInt8) (j : Nat) (y : UInt8) (hj : j < (four (crc q) ++ q).length) (hy : y ≠ (four (crc q) ++ q)[j]) :
    crc ((((four (crc q) ++ q).set j y).drop 4).take q.length) ≠ beN (((four (crc q) ++ q).set j y).take 4) := by
  have h4 : (four (crc q)).length = 4 := rfl
  by_cases h : j < 4
  · rw [List.set_append_left _ _ (by omega), List.drop_left' (by simp [h4]), List.take_left' (by simp [h4]), List.take_length]
    intro e
    have e2 := congrArg four e
    rw [four_beN _ (by simp [h4])] at e2
    have e3 : ((four (crc q)).set j y)[j]'(by simp [h4]; omega) = y := by simp
    have e4 : (four (crc q))[j]'(by omega) = y := by rw [← e3]; congr 1
    rw [List.getElem_append_left (by omega)] at hy
    exact hy e4.symm
  · rw [List.set_append_right _ _ (by omega), List.drop_left' h4, List.take_left' h4, List.take_of_length_le (by simp), beN_four _ (crc_lt q), h4]
    simp only [List.length_append, h4] at hj
    rw [List.getElem_append_right (by omega)] at hy
    exact crc_set q (j - 4) y (by omega) hy

theorem unfR_turned (q : List UInt8) (j : Nat) (y : UInt8) (hq : q.length ≤ 300) (hj1 : (uv q.length).length ≤ j) (hj : j < (frameB q).length) (hy : y ≠ (frameB q)[j]) : unfR ((frameB q).set j y) 0 = ([], 0, 22) := by
  have hf : frameB q = uv q.length ++ (four (crc q) ++ q) := by unfold frameB; rw [List.append_assoc]
  have h4 : (four (crc q)).length = 4 := rfl
  simp only [hf] at hj hy ⊢
  rw [List.getElem_append_right hj1] at hy
  rw [List.set_append_right _ _ hj1]
  have hne := turned_ne q (j - (uv q.length).length) y (by simp only [List.length_append] at hj ⊢; omega) hy
  have hR := uintR_at [] ((four (crc q) ++ q).set (j - (uv q.length).length) y) q.length (by omega)
  simp only [List.nil_append, List.length_nil, Nat.zero_add] at hR
  unfold unfR
  rw [show (0 : Int) = ((0 : Nat) : Int) from rfl, hR]
  have hle : lenE (q.length, (uv q.length).length, 0) = 0 := by
    unfold lenE
    rw [if_neg (by simp), if_neg (by simp only; omega)]
  have hrec : recOf (uv q.length ++ (four (crc q) ++ q).set (j - (uv q.length).length) y) (uv q.length).length q.length = ([], (uv q.length).length + 4 + q.length, 22) := by
    unfold recOf
    rw [if_neg (by simp only [List.length_append, List.length_set, h4]; omega), ← List.drop_drop, List.drop_left, if_pos hne]
  unfold unfOf
  rw [hle]
  simp only [hrec]
  simp
end Go.Proofs.Ytbilppcfijpblaa
