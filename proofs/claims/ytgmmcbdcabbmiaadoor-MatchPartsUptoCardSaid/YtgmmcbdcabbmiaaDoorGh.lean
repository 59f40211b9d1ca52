/-
  The law MatchParts, walked. Conditions: texts that memory bears.
-/
import Derived.Test.YtgmmcbdcabbmiaaDoorGg
namespace Go.Proofs.YtgmmcbdcabbmiaaDoor
open Go.RowKit

theorem lst_append (a b : ByteArray) : lst (a ++ b) = lst a ++ lst b := by
  show (a ++ b).data.toList = _
  rw [ByteArray.data_append]
  simp
theorem glob_self {s : List UInt8} (h : ∀ c ∈ s, c ≠ 42) : glob s s = true := (glob_plain s h).2 rfl
theorem glob_mid {s a b : List UInt8} (h : ∀ c ∈ s, c ≠ 42) : glob (42 :: (s ++ [42])) (a ++ s ++ b) = true :=
  glob_star.2 ⟨a, s ++ b, by simp, (glob_append s [42] _).2 ⟨s, b, rfl, glob_self h, glob_star.2 ⟨b, [], by simp, by simp [glob]⟩⟩⟩
theorem glob_head {s b : List UInt8} (h : ∀ c ∈ s, c ≠ 42) : glob (s ++ [42]) (s ++ b) = true :=
  (glob_append s [42] _).2 ⟨s, b, rfl, glob_self h, glob_star.2 ⟨b, [], by simp, by simp [glob]⟩⟩
theorem glob_tail {s a : List UInt8} (h : ∀ c ∈ s, c ≠ 42) : glob (42 :: s) (a ++ s) = true := glob_star.2 ⟨a, s, rfl, glob_self h⟩
theorem glob_any {s : List UInt8} : glob [42] s = true := glob_star.2 ⟨s, [], by simp, by simp [glob]⟩

/-- from the loop on -/
def LikeT (w : World) (t u : ByteArray) (o : Bool) : Prop := ∀ w', Grew w w' → Calls Tryd.prog 6 #[.string t, .string u] w' fun e w2 => e = .returned (.bool o) ∧ Grew w' w2
theorem likeT {w : World} {t u : ByteArray} {o : Bool} (hm : MaxL w) (ht : t.size ≤ 16777216) (hu : u.size ≤ 16777216) (ho : likeB (lst t) (lst u) = o) : LikeT w t u o := fun w' hg => by
  have := mLike_any t u w' ht hu (hm.grew hg)
  rwa [ho] at this
theorem byte_ne {c : UInt8} {n : Nat} (hn : n < 256) (h : c ≠ UInt8.ofNat n) : ((c.toNat : Int) == (n : Int)) = false := by
  rw [beq_eq_false_iff_ne]
  intro e
  refine h (UInt8.toNat_inj.1 ?_)
  rw [UInt8.toNat_ofNat', Nat.mod_eq_of_lt hn]
  omega

set_option maxRecDepth 100000 in
set_option maxHeartbeats 8000000 in
theorem walk_matchParts (p q a s b : ByteArray) (w : World) (hp : p.size ≤ 1048576) (hq : q.size ≤ 1048576) (ha : a.size ≤ 1048576) (hs : s.size ≤ 1048576) (hb : b.size ≤ 1048576) (hm : MaxL w) :
    Calls Tryd.prog 4 #[.string p, .string q, .string a, .string s, .string b] w fun e w' => e = .returned (.bool true) ∧ Grew w w' := by
  have C0 : Hid (LikeT w (p ++ ⟨#[124]⟩ ++ q) s (likeB (lst p) (lst s) || likeB (lst q) (lst s))) := likeT hm (by simp only [ByteArray.size_append]; show p.size + 1 + q.size ≤ _; omega) (by omega) (by
    rw [lst_append, lst_append, List.append_assoc]
    exact likeB_bar _ _ _)
  have C1 : Hid (LikeT w p s (likeB (lst p) (lst s))) := likeT hm (by omega) (by omega) rfl
  have C2 : Hid (LikeT w q s (likeB (lst q) (lst s))) := likeT hm (by omega) (by omega) rfl
  have Hfree : Hid ((∀ x ∈ lst s, x ≠ 42 ∧ x ≠ 124) → LikeT w s s true ∧ LikeT w ⟨#[42]⟩ s true ∧ LikeT w (⟨#[42]⟩ ++ s ++ ⟨#[42]⟩) (a ++ s ++ b) true ∧ LikeT w (s ++ ⟨#[42]⟩) (s ++ b) true ∧ LikeT w (⟨#[42]⟩ ++ s) (a ++ s) true ∧ ((s.toList == a.toList) = false → LikeT w s a false)) := fun hf => by
    have hst : ∀ c ∈ lst s, c ≠ 42 := fun c hc => (hf c hc).1
    have hbr : ∀ c ∈ lst s, c ≠ 124 := fun c hc => (hf c hc).2
    have one : ∀ {x : List UInt8} {y : List UInt8} {o : Bool}, (∀ c ∈ x, c ≠ 124) → glob x y = o → likeB x y = o := fun h1 h2 => by rw [likeB_one h1, h2]
    refine ⟨likeT hm (by omega) (by omega) (one hbr (glob_self hst)), likeT hm (by decide) (by omega) (one (by decide) glob_any), likeT hm (by simp only [ByteArray.size_append]; show 1 + s.size + 1 ≤ _; omega) (by simp only [ByteArray.size_append]; omega) ?_,
      likeT hm (by simp only [ByteArray.size_append]; show s.size + 1 ≤ _; omega) (by simp only [ByteArray.size_append]; omega) ?_, likeT hm (by simp only [ByteArray.size_append]; show 1 + s.size ≤ _; omega) (by simp only [ByteArray.size_append]; omega) ?_, fun hne => likeT hm (by omega) (by omega) ?_⟩
    · rw [lst_append, lst_append, lst_append, lst_append]
      refine one (fun c hc => ?_) (glob_mid hst)
      simp only [List.mem_append] at hc
      rcases hc with (hc | hc) | hc
      · have : c = 42 := by simpa [lst] using hc
        subst this; decide
      · exact hbr c hc
      · have : c = 42 := by simpa [lst] using hc
        subst this; decide
    · rw [lst_append, lst_append]
      refine one (fun c hc => ?_) (glob_head hst)
      rcases List.mem_append.1 hc with hc | hc
      · exact hbr c hc
      · have : c = 42 := by simpa [lst] using hc
        subst this; decide
    · rw [lst_append, lst_append]
      refine one (fun c hc => ?_) (glob_tail hst)
      rcases List.mem_append.1 hc with hc | hc
      · have : c = 42 := by simpa [lst] using hc
        subst this; decide
      · exact hbr c hc
    · refine one hbr ?_
      rw [Bool.eq_false_iff, ne_eq, glob_plain _ hst]
      intro e
      rw [ByteArray.toList_eq, ByteArray.toList_eq, show s.data.toList = a.data.toList from e.symm] at hne
      simp at hne
  have Hs : Hid (∀ i (h : i < s.size), (lst s)[i]? = some s[i]) := fun i h => by
    show (s.data.toList)[i]? = _
    rw [Array.getElem?_toList]
    exact Array.getElem?_eq_getElem h
  have Hsl : Hid ((lst s).length = s.size) := lst_length s
  have HM := Lib.hid hm
  generalize likeB (lst p) (lst s) = b1 at *
  generalize likeB (lst q) (lst s) = b2 at *
  clear hm
  rcases b1 with _ | _
  · rcases b2 with _ | _
    all_goals
      go_enter Tryd.func4, Tryd.ntmps4
      go_wp2_with fail
      refine (C0.out _ (Chg.refl _ _)).mono ?_
      rintro e w1 ⟨rfl, hg1⟩
      go_wp2_with fail
      refine (C1.out _ hg1).mono ?_
      rintro e w2 ⟨rfl, hg2⟩
      have hg02 := hg1.trans hg2
      go_wp2_with fail
      refine (C2.out _ hg02).mono ?_
      rintro e w3 ⟨rfl, hg3⟩
      have hg03 := hg02.trans hg3
      clear hg1 hg2 hg3 hg02
      go_wp2
      go_loopw [11] (fun i wr => ∃ (j : Nat), i = .int .i64 (j : Int) ∧ j ≤ s.size ∧ Hid (∀ x ∈ (lst s).take j, x ≠ 42 ∧ x ≠ 124) ∧ Grew w wr) (fun i _ => s.size - (intOf i).toNat)
      case atStart => exact ⟨0, rfl, by omega, (fun x hx => by simp at hx), hg03⟩
      case round =>
        clear hg03
        obtain ⟨j, rfl, hj, Hj, hg⟩ := hrel
        by_cases hlt : j < s.size
        · have hsj := Hs.out j hlt
          by_cases h42 : s[j] = 42
          · have c1 : ((s[j].toNat : Int) == 42) = true := by rw [h42]; rfl
            clear hsj h42
            go_wp2_with fail
            refine (awake_any _ (HM.out.grew hg)).mono ?_
            rintro e w10 ⟨rfl, hg10⟩
            go_wp2
            go_ret
            exact ⟨by simp, hg.trans hg10⟩
          · have c1 : ((s[j].toNat : Int) == 42) = false := byte_ne (n := 42) (by decide) h42
            by_cases h124 : s[j] = 124
            · have c2 : ((s[j].toNat : Int) == 124) = true := by rw [h124]; rfl
              clear hsj h42 h124
              go_wp2_with fail
              refine (awake_any _ (HM.out.grew hg)).mono ?_
              rintro e w10 ⟨rfl, hg10⟩
              go_wp2
              go_ret
              exact ⟨by simp, hg.trans hg10⟩
            · have c2 : ((s[j].toNat : Int) == 124) = false := byte_ne (n := 124) (by decide) h124
              have Hj2 : Hid (∀ x ∈ (lst s).take (j + 1), x ≠ 42 ∧ x ≠ 124) := fun x hx => by
                rw [List.take_add_one, hsj] at hx
                rcases List.mem_append.1 hx with hx | hx
                · exact Hj.out x hx
                · simp at hx
                  subst hx
                  exact ⟨h42, h124⟩
              clear hsj h42 h124 Hj
              go_wp2
              go_roundw
              case rel => exact ⟨j + 1, by go_num, by omega, Hj2, hg⟩
              case measure => simp [intOf]; omega
        · obtain rfl : j = s.size := by omega
          obtain ⟨C3, C4, C5, C6, C7, C8⟩ := Hfree.out (by
            have := Hj.out
            rwa [← Hsl.out, List.take_length] at this)
          have C3 := Lib.hid C3
          have C4 := Lib.hid C4
          have C5 := Lib.hid C5
          have C6 := Lib.hid C6
          have C7 := Lib.hid C7
          have HC8 := Lib.hid C8
          clear C8 Hj
          go_wp2_with fail
          refine (C3.out _ hg).mono ?_
          rintro e w4 ⟨rfl, hg4⟩
          have hg04 := hg.trans hg4
          go_wp2_with fail
          refine (C4.out _ hg04).mono ?_
          rintro e w5 ⟨rfl, hg5⟩
          have hg05 := hg04.trans hg5
          go_wp2_with fail
          refine (C5.out _ hg05).mono ?_
          rintro e w6 ⟨rfl, hg6⟩
          have hg06 := hg05.trans hg6
          go_wp2_with fail
          refine (C6.out _ hg06).mono ?_
          rintro e w7 ⟨rfl, hg7⟩
          have hg07 := hg06.trans hg7
          go_wp2_with fail
          refine (C7.out _ hg07).mono ?_
          rintro e w8 ⟨rfl, hg8⟩
          have hg08 := hg07.trans hg8
          clear hg4 hg5 hg6 hg7 hg8 hg04 hg05 hg06 hg07
          cases hsa : s.toList == a.toList
          · have C8 := Lib.hid (HC8.out hsa)
            clear HC8
            go_wp2_with fail
            refine (C8.out _ hg08).mono ?_
            rintro e w9 ⟨rfl, hg9⟩
            have hg09 := hg08.trans hg9
            go_wp2_with fail
            refine (awake_any _ (HM.out.grew hg09)).mono ?_
            rintro e w10 ⟨rfl, hg10⟩
            go_wp2
            go_ret
            exact ⟨by simp, hg09.trans hg10⟩
          · clear HC8
            go_wp2_with fail
            refine (awake_any _ (HM.out.grew hg08)).mono ?_
            rintro e w10 ⟨rfl, hg10⟩
            go_wp2
            go_ret
            exact ⟨by simp, hg08.trans hg10⟩
  · go_enter Tryd.func4, Tryd.ntmps4
    go_wp2_with fail
    refine (C0.out _ (Chg.refl _ _)).mono ?_
    rintro e w1 ⟨rfl, hg1⟩
    go_wp2_with fail
    refine (C1.out _ hg1).mono ?_
    rintro e w2 ⟨rfl, hg2⟩
    have hg03 := hg1.trans hg2
    clear hg1 hg2
    go_wp2
    go_loopw [11] (fun i wr => ∃ (j : Nat), i = .int .i64 (j : Int) ∧ j ≤ s.size ∧ Hid (∀ x ∈ (lst s).take j, x ≠ 42 ∧ x ≠ 124) ∧ Grew w wr) (fun i _ => s.size - (intOf i).toNat)
    case atStart => exact ⟨0, rfl, by omega, (fun x hx => by simp at hx), hg03⟩
    case round =>
      clear hg03
      obtain ⟨j, rfl, hj, Hj, hg⟩ := hrel
      by_cases hlt : j < s.size
      · have hsj := Hs.out j hlt
        by_cases h42 : s[j] = 42
        · have c1 : ((s[j].toNat : Int) == 42) = true := by rw [h42]; rfl
          clear hsj h42
          go_wp2_with fail
          refine (awake_any _ (HM.out.grew hg)).mono ?_
          rintro e w10 ⟨rfl, hg10⟩
          go_wp2
          go_ret
          exact ⟨by simp, hg.trans hg10⟩
        · have c1 : ((s[j].toNat : Int) == 42) = false := byte_ne (n := 42) (by decide) h42
          by_cases h124 : s[j] = 124
          · have c2 : ((s[j].toNat : Int) == 124) = true := by rw [h124]; rfl
            clear hsj h42 h124
            go_wp2_with fail
            refine (awake_any _ (HM.out.grew hg)).mono ?_
            rintro e w10 ⟨rfl, hg10⟩
            go_wp2
            go_ret
            exact ⟨by simp, hg.trans hg10⟩
          · have c2 : ((s[j].toNat : Int) == 124) = false := byte_ne (n := 124) (by decide) h124
            have Hj2 : Hid (∀ x ∈ (lst s).take (j + 1), x ≠ 42 ∧ x ≠ 124) := fun x hx => by
              rw [List.take_add_one, hsj] at hx
              rcases List.mem_append.1 hx with hx | hx
              · exact Hj.out x hx
              · simp at hx
                subst hx
                exact ⟨h42, h124⟩
            clear hsj h42 h124 Hj
            go_wp2
            go_roundw
            case rel => exact ⟨j + 1, by go_num, by omega, Hj2, hg⟩
            case measure => simp [intOf]; omega
      · obtain rfl : j = s.size := by omega
        obtain ⟨C3, C4, C5, C6, C7, C8⟩ := Hfree.out (by
          have := Hj.out
          rwa [← Hsl.out, List.take_length] at this)
        have C3 := Lib.hid C3
        have C4 := Lib.hid C4
        have C5 := Lib.hid C5
        have C6 := Lib.hid C6
        have C7 := Lib.hid C7
        have HC8 := Lib.hid C8
        clear C8 Hj
        go_wp2_with fail
        refine (C3.out _ hg).mono ?_
        rintro e w4 ⟨rfl, hg4⟩
        have hg04 := hg.trans hg4
        go_wp2_with fail
        refine (C4.out _ hg04).mono ?_
        rintro e w5 ⟨rfl, hg5⟩
        have hg05 := hg04.trans hg5
        go_wp2_with fail
        refine (C5.out _ hg05).mono ?_
        rintro e w6 ⟨rfl, hg6⟩
        have hg06 := hg05.trans hg6
        go_wp2_with fail
        refine (C6.out _ hg06).mono ?_
        rintro e w7 ⟨rfl, hg7⟩
        have hg07 := hg06.trans hg7
        go_wp2_with fail
        refine (C7.out _ hg07).mono ?_
        rintro e w8 ⟨rfl, hg8⟩
        have hg08 := hg07.trans hg8
        clear hg4 hg5 hg6 hg7 hg8 hg04 hg05 hg06 hg07
        cases hsa : s.toList == a.toList
        · have C8 := Lib.hid (HC8.out hsa)
          clear HC8
          go_wp2_with fail
          refine (C8.out _ hg08).mono ?_
          rintro e w9 ⟨rfl, hg9⟩
          have hg09 := hg08.trans hg9
          go_wp2_with fail
          refine (awake_any _ (HM.out.grew hg09)).mono ?_
          rintro e w10 ⟨rfl, hg10⟩
          go_wp2
          go_ret
          exact ⟨by simp, hg09.trans hg10⟩
        · clear HC8
          go_wp2_with fail
          refine (awake_any _ (HM.out.grew hg08)).mono ?_
          rintro e w10 ⟨rfl, hg10⟩
          go_wp2
          go_ret
          exact ⟨by simp, hg08.trans hg10⟩
end Go.Proofs.YtgmmcbdcabbmiaaDoor
