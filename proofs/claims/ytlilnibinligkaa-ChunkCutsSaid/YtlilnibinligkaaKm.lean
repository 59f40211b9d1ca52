/-
  The law ChunkCuts, walked. Conditions: lengths within the form's reach.
-/
import Derived.Test.YtlilnibinligkaaKk
namespace Go.Proofs.Ytlilnibinligkaa
open Go.RowKit

set_option maxRecDepth 100000 in
set_option maxHeartbeats 4000000 in
theorem walk_chunkCuts (A : Option Addr) (n c : Nat) (ps : List Pnt) (A1 : Option Addr) (n1 c1 : Nat) (more : List UInt8) (w : World) (h : RE elPt w A n ps) (hn : n ≤ 8796093021952) (hv : Okv ps) (h1 : RB w A1 n1 more) (hn1 : n1 ≤ 140737488351232) :
    Calls Try.prog 7 #[.slice A n c, .slice A1 n1 c1] w fun e w' => e = .returned (.bool true) ∧ Grew w w' := by
  have HL := Lib.hid h1.1
  go_enter Try.func7, Try.ntmps7
  go_wp2_with fail
  refine (copyPoints_any A n c ps _ h (by omega)).mono ?_
  rintro e w1 ⟨P1, cc1, rfl, ho1, hg1⟩
  go_wp2_with fail
  refine (encode_any _ n _ ps _ (by exact ho1.re (by decide)) (by omega) hv).mono ?_
  rintro e w2 ⟨B, m, d, l, er, he, rfl, ho2, hg2⟩
  have hg02 := hg1.trans hg2
  have hml : l.length = m := ho2.len
  have hm2 := he.len
  have hcd := ho2.cap
  clear ho1 hg1 hg2 h
  by_cases h0 : er = 0
  · subst h0
    by_cases h3 : 300 < m
    · have hd3 : decide ((300 : Int) < (m : Int)) = true := decide_eq_true (by omega)
      go_wp2_with fail
      refine (awake_any _).mono ?_
      rintro e w3 ⟨rfl, hg3⟩
      go_wp2
      go_ret
      exact ⟨by simp, hg02.trans hg3⟩
    · have hd3 : decide ((300 : Int) < (m : Int)) = false := decide_eq_false (by omega)
      have hm3 : m ≤ 300 := by omega
      have hdec := he.dec hv
      have Hcut : Hid (∀ i er qs, i < m → DecIs (l.take i) qs er → er = 52) := fun i er qs hi g => dec_cut hdec (by omega) g
      have Hmore : Hid (∀ er qs, DecIs (l ++ more) qs er → (er = 0 ∧ more = []) ∨ (er = 52 ∧ more ≠ [])) := fun er qs g => dec_more hdec g
      clear hdec he
      go_wp2
      obtain ⟨wo, rfl⟩ : ∃ wo : World, wo = w2 := ⟨_, rfl⟩
      go_loopw [7] (fun si wr => ∃ j : Nat, j ≤ m ∧ si = .int .i64 (j : Int) ∧ Grew wo wr) (fun si _ => m - (intOf si).toNat)
      case atStart => exact ⟨0, by omega, rfl, Chg.refl _ _⟩
      case round =>
        obtain ⟨j, hj, rfl, hg9⟩ := hrel
        by_cases hlt : j < m
        · have ho9 := ho2.grew hg9
          go_wp2_with fail
          refine (copyBytes_any B j _ (l.take j) _ (by exact ho9.rb.take (by omega)) (by omega)).mono ?_
          rintro e w10 ⟨P10, c10, rfl, ho10, hg10⟩
          go_wp2_with fail
          refine (decode_any _ j _ (l.take j) _ (by exact ho10.rb) (by omega)).mono ?_
          rintro e w11 ⟨C, n11, c11, ps11, er11, he11, rfl, ho11, hg11⟩
          obtain rfl := Hcut.out j er11 ps11 hlt he11
          have hgz := (hg9.trans hg10).trans hg11
          go_wp2
          go_roundw
          case rel =>
            first | exact ⟨j + 1, by omega, by go_num, hgz⟩ | ((repeat apply Exists.intro); refine ⟨?_, rfl⟩; exact ⟨j + 1, by omega, by go_num, hgz⟩)
          case measure => simp [intOf]; omega
        · have ho9 := ho2.grew hg9
          have hr9 := (h1.grew hg02).grew hg9
          go_wp2_with fail
          refine (copyBytes_any B m _ l _ (by exact ho9.rb) (by omega)).mono ?_
          rintro e w10 ⟨P10, c10, rfl, ho10, hg10⟩
          have hr10 := hr9.grew hg10
          go_wp2_with (at_builtin; refine wpList_appB rfl _ _ rfl _ P10 m c10 l rfl ho10 hg10.size A1 n1 c1 more rfl hr10 (by omega) ?_; intro A2 c2 w12 h2)
          go_wp2_with fail
          have hg12 := h2.grew hg10 (fun ad e => (Own.blk_lt ho10 ad e).1)
          refine (decode_any _ (m + n1) _ (l ++ more) _ (by exact h2.ob.rb) (by omega)).mono ?_
          rintro e w11 ⟨C, n11, c11, ps11, er11, he11, rfl, ho11, hg11⟩
          have hgz := ((hg02.trans hg9).trans hg12).trans hg11
          rcases Hmore.out er11 ps11 he11 with ⟨rfl, rfl⟩ | ⟨rfl, hne⟩
          · obtain rfl : n1 = 0 := by rw [← HL.out]; rfl
            go_wp2_with fail
            refine (awake_any _).mono ?_
            rintro e w13 ⟨rfl, hg13⟩
            go_wp2
            go_ret
            exact ⟨by simp, hgz.trans hg13⟩
          · have hn0 : n1 ≠ 0 := by
              rintro rfl
              exact hne (List.eq_nil_of_length_eq_zero HL.out)
            have hd1 : ((n1 : Int) == 0) = false := by simp; omega
            go_wp2_with fail
            refine (awake_any _).mono ?_
            rintro e w13 ⟨rfl, hg13⟩
            go_wp2
            go_ret
            exact ⟨by simp, hgz.trans hg13⟩
  · obtain ⟨rfl, _⟩ := he.no h0
    have hd : ((er : Int) == 0) = false := by simp; omega
    go_wp2_with fail
    refine (awake_any _).mono ?_
    rintro e w3 ⟨rfl, hg3⟩
    go_wp2
    go_ret
    exact ⟨by simp, hg02.trans hg3⟩
end Go.Proofs.Ytlilnibinligkaa
