/-
  The reference of match: Like: a text is like a pattern just if likeB says so. Conditions: texts that memory bears.
-/
import Derived.Test.YtgmmcbdcabbmiaaDoorGd
namespace Go.Proofs.YtgmmcbdcabbmiaaDoor
open Go.RowKit

/-- what is left to ask, from an alternative's beginning on, with no bar ahead of place i -/
def Asks (P S : List UInt8) (a i : Nat) : Prop := (i ≤ P.length ∧ a ≤ i ∧ likeB P S = (splitC 124 (P.drop a)).any (fun x => glob x S) ∧ ∀ j, a ≤ j → j < i → P[j]? ≠ some 124) ∨ (P.length < i ∧ likeB P S = false)
theorem Asks.start (P S : List UInt8) : Asks P S 0 0 := .inl ⟨Nat.zero_le _, Nat.le_refl _, rfl, fun j h1 h2 => by omega⟩
theorem Asks.piece {P S : List UInt8} {a i : Nat} (h : Asks P S a i) (hi : i ≤ P.length) (hb : i = P.length ∨ P[i]? = some 124) :
    (glob ((P.take i).drop a) S = true → likeB P S = true) ∧ (glob ((P.take i).drop a) S = false → Asks P S (i + 1) (i + 1)) := by
  rcases h with ⟨_, ha, he, hn⟩ | ⟨h, _⟩
  · have hfree : ∀ x ∈ (P.take i).drop a, x ≠ 124 := fun x hx => by
      obtain ⟨j, hj⟩ := List.mem_iff_getElem?.1 hx
      rw [List.getElem?_drop, List.getElem?_take] at hj
      split at hj
      · rename_i hlt
        rintro rfl
        exact hn (a + j) (by omega) (by omega) hj
      · cases hj
    rcases hb with rfl | hb
    · have hd : P.drop a = (P.take P.length).drop a := by rw [List.take_length]
      rw [hd, splitC_none hfree] at he
      simp only [List.any_cons, List.any_nil, Bool.or_false] at he
      exact ⟨fun hg => by rw [he, hg], fun hg => .inr ⟨by omega, by rw [he, hg]⟩⟩
    · obtain ⟨hlt, hc⟩ := List.getElem?_eq_some_iff.1 hb
      have hd : P.drop a = (P.take i).drop a ++ 124 :: P.drop (i + 1) := by
        conv => lhs; rw [← List.take_append_drop i P]
        rw [List.drop_append_of_le_length (by rw [List.length_take]; omega), List.drop_eq_getElem_cons hlt, hc]
      rw [hd, splitC_cut _ hfree] at he
      simp only [List.any_cons] at he
      exact ⟨fun hg => by rw [he, hg]; rfl, fun hg => .inl ⟨by omega, Nat.le_refl _, by rw [he, hg]; rfl, fun j h1 h2 => by omega⟩⟩
  · omega
theorem Asks.more {P S : List UInt8} {a i : Nat} (h : Asks P S a i) (hi : i < P.length) (hb : P[i]? ≠ some 124) : Asks P S a (i + 1) := by
  rcases h with ⟨_, ha, he, hn⟩ | ⟨h, _⟩
  · refine .inl ⟨by omega, by omega, he, fun j h1 h2 => ?_⟩
    rcases Nat.lt_or_ge j i with h3 | h3
    · exact hn j h1 h3
    · obtain rfl : j = i := by omega
      exact hb
  · omega

set_option maxRecDepth 100000 in
set_option maxHeartbeats 2000000 in
theorem rLike_any (p s : ByteArray) (w : World) (hp : p.size ≤ 16777216) (hs : s.size ≤ 16777216) :
    Calls Tryd.prog 7 #[.string p, .string s] w fun e w' => e = .returned (.bool (likeB (lst p) (lst s))) ∧ Grew w w' := by
  have Hp : Hid (∀ i (h : i < p.size), (lst p)[i]? = some p[i]) := fun i h => by
    show (p.data.toList)[i]? = _
    rw [Array.getElem?_toList]
    exact Array.getElem?_eq_getElem h
  have Hl := Lib.hid (lst_length p)
  go_enter Tryd.func7, Tryd.ntmps7
  go_wp2
  go_loopw [5, 6] (fun sf si wr => ∃ (a i : Nat), sf = .int .i64 (a : Int) ∧ si = .int .i64 (i : Int) ∧ a ≤ i ∧ i ≤ p.size + 1 ∧ Hid (Asks (lst p) (lst s) a i) ∧ Grew w wr) (fun _ si _ => p.size + 1 - (intOf si).toNat)
  case atStart => exact ⟨0, 0, rfl, rfl, by omega, by omega, Asks.start _ _, Chg.refl _ _⟩
  case round =>
    obtain ⟨a, i, rfl, rfl, ha, hi, HA, hg⟩ := hrel
    by_cases hle : i ≤ p.size
    · have hO : ∀ w, Calls Tryd.prog 16 #[.string (p.extract a i), .string s] w fun e w' => e = .returned (.bool (glob (((lst p).take i).drop a) (lst s))) ∧ Grew w w' := fun w => by
        have := rone_any (p.extract a i) s w (by rw [ByteArray.size_extract]; omega) hs
        rwa [lst_extract] at this
      by_cases hb : i = p.size ∨ (lst p)[i]? = some 124
      · obtain ⟨h1, h2⟩ := HA.out.piece (by rw [Hl.out]; exact hle) (by rw [Hl.out]; exact hb)
        have hway : (((i : Int) == (p.size : Int)) = true) ∨ (((i : Int) == (p.size : Int)) = false ∧ i < p.size ∧ ∀ h : i < p.size, ((p[i].toNat : Int) == 124) = true) := by
          by_cases he : i = p.size
          · left; simp [he]
          · right
            have hlt : i < p.size := by omega
            refine ⟨by simp; omega, hlt, fun h => ?_⟩
            rcases hb with hb | hb
            · exact (he hb).elim
            · rw [Hp.out i hlt] at hb
              injection hb with hb
              rw [hb]
              rfl
        cases hg1 : glob (((lst p).take i).drop a) (lst s)
        · rw [hg1] at hO
          have HO := Lib.hid hO
          have HA2 := Lib.hid (h2 hg1)
          clear hO h1 h2 hg1 hb HA
          rcases hway with c1 | ⟨c1, hlt, c2⟩
          · obtain rfl : i = p.size := by have := beq_iff_eq.1 c1; omega
            clear c1
            go_wp2_with fail
            refine (HO.out _).mono ?_
            rintro e w2 ⟨rfl, hg2⟩
            go_wp2
            go_roundw
            case rel => exact ⟨p.size + 1, p.size + 1, by first | rfl | go_num, by first | rfl | go_num, by omega, by omega, HA2.out, hg.trans hg2⟩
            case measure => simp [intOf] <;> omega
          · have c3 := c2 hlt
            clear c2
            go_wp2_with fail
            refine (HO.out _).mono ?_
            rintro e w2 ⟨rfl, hg2⟩
            go_wp2
            go_roundw
            case rel => exact ⟨i + 1, i + 1, by first | rfl | go_num, by first | rfl | go_num, by omega, by omega, HA2.out, hg.trans hg2⟩
            case measure => simp [intOf] <;> omega
        · rw [hg1] at hO
          have HO := Lib.hid hO
          have HA2 := Lib.hid (h1 hg1)
          clear hO h1 h2 hg1 hb HA
          rcases hway with c1 | ⟨c1, hlt, c2⟩
          · obtain rfl : i = p.size := by have := beq_iff_eq.1 c1; omega
            clear c1
            go_wp2_with fail
            refine (HO.out _).mono ?_
            rintro e w2 ⟨rfl, hg2⟩
            go_wp2
            go_ret
            exact ⟨by rw [HA2.out]; simp, hg.trans hg2⟩
          · have c3 := c2 hlt
            clear c2
            go_wp2_with fail
            refine (HO.out _).mono ?_
            rintro e w2 ⟨rfl, hg2⟩
            go_wp2
            go_ret
            exact ⟨by rw [HA2.out]; simp, hg.trans hg2⟩
      · have hlt : i < p.size := by
          rcases Nat.lt_or_ge i p.size with h | h
          · exact h
          · exact (hb (.inl (by omega))).elim
        have hn : (lst p)[i]? ≠ some 124 := fun e => hb (.inr e)
        have HA2 := Lib.hid (HA.out.more (by rw [Hl.out]; exact hlt) hn)
        have c1 : ((i : Int) == (p.size : Int)) = false := by simp; omega
        have c3 : ((p[i].toNat : Int) == 124) = false := by
          rw [beq_eq_false_iff_ne]
          intro e
          refine hn ?_
          rw [Hp.out i hlt]
          congr 1
          exact UInt8.toNat_inj.1 (show p[i].toNat = 124 by omega)
        clear hb hn HA hO
        go_wp2
        go_roundw
        case rel => exact ⟨a, i + 1, rfl, by go_num, by omega, by omega, HA2.out, hg⟩
        case measure => simp [intOf] <;> omega
    · have hf : Hid (likeB (lst p) (lst s) = false) := by
        rcases HA.out with ⟨h, _⟩ | ⟨_, h⟩
        · have := Hl.out; omega
        · exact h
      clear HA
      go_wp2
      go_ret
      exact ⟨by rw [hf.out]; simp, hg⟩
end Go.Proofs.YtgmmcbdcabbmiaaDoor
