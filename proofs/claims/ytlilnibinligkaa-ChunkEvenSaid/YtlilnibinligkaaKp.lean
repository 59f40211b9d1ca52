/-
  The law ChunkEven, walked. Conditions: none.
-/
import Derived.Test.YtlilnibinligkaaKo
namespace Go.Proofs.Ytlilnibinligkaa
open Go.RowKit

set_option maxRecDepth 100000 in
set_option maxHeartbeats 4000000 in
theorem walk_chunkEven (first gap vz many : Int) (w : World) (hf : (Lit.int .i64 first).wf = true) (hg : (Lit.int .i64 gap).wf = true) (hvz : (Lit.int .u64 vz).wf = true) (_ : (Lit.int .i64 many).wf = true) :
    Calls Try.prog 8 #[.int .i64 first, .int .i64 gap, .int .u64 vz, .int .i64 many] w fun e w' => e = .returned (.bool true) ∧ Grew w w' := by
  obtain ⟨v, rfl, hv64⟩ : ∃ v : Nat, vz = (v : Int) ∧ v < 18446744073709551616 := ⟨vz.toNat, by have := Go.bounds_u64 hvz; omega, by have := Go.bounds_u64 hvz; omega⟩
  clear hvz
  have bf := Go.bounds_i64 hf
  have bg := Go.bounds_i64 hg
  obtain ⟨t, ht⟩ : ∃ t, first.tmod 1073741824 = t := ⟨_, rfl⟩
  have ht1 : -1073741824 ≤ t ∧ t ≤ 1073741824 := by
    have h1 := Int.tmod_lt_of_pos first (show (0 : Int) < 1073741824 by decide)
    have h2 := Int.lt_tmod_of_pos first (show (0 : Int) < 1073741824 by decide)
    omega
  obtain ⟨gq, hgq⟩ : ∃ gq : Nat, IntKind.u64.wrap gap = (gq : Int) := ⟨(IntKind.u64.wrap gap).toNat, by have := Go.IntKind.wrap_u64 gap; omega⟩
  obtain ⟨q, hq⟩ : ∃ q, q = gq % 10000 := ⟨_, rfl⟩
  have hq1 : q < 10000 := by omega
  have hqz : (gq : Int) % 10000 = (q : Int) := by omega
  clear hq
  go_enter Try.func8, Try.ntmps8
  go_wp2_with fail
  refine (low_any _ _).mono ?_
  rintro e w1 ⟨r, hr, rfl, rfl⟩
  obtain ⟨k, hk⟩ : ∃ k, k = r % 8190 := ⟨_, rfl⟩
  have hkl : k < 8190 := by omega
  have hkz : (r : Int) % 8190 = (k : Int) := by omega
  clear hk
  have hd : ((1 + q : Nat) : Int) = 1 + (q : Int) := by omega
  have hn2 : 2 + k ≤ 8191 := by omega
  go_wp2
  clear hkz hqz ht hgq
  obtain ⟨wo, rfl⟩ : ∃ wo : World, wo = w := ⟨_, rfl⟩
  go_loopw [12, 13] (fun sp si wr => ∃ (j : Nat) (P : Option Addr) (c : Nat), j ≤ 2 + k ∧ si = .int .i64 (j : Int) ∧ sp = .slice P j c ∧ OE elPt wr wo.heap.size 41 P j c (evens t (1 + q) v j) ∧ Grew wo wr) (fun sp si _ => 2 + k - (intOf si).toNat)
  case atStart => exact ⟨0, none, 0, by omega, rfl, rfl, OE.nil _ _ _, Chg.refl _ _⟩
  case round =>
    obtain ⟨j, P, c, hj, rfl, rfl, ho, hg9⟩ := hrel
    by_cases hlt : j < 2 + k
    · have t1 : decide ((j : Int) < 2 + (k : Int)) = true := decide_eq_true (by omega)
      obtain ⟨jd, hjd, hjb⟩ : ∃ jd : Nat, (j : Int) * (1 + (q : Int)) = (jd : Int) ∧ jd ≤ 8191 * 10000 := ⟨j * (1 + q), by rw [Int.natCast_mul, hd], Nat.mul_le_mul (by omega) (by omega)⟩
      have hsz := hg9.size
      have h1 : OE elPt (wr.alloc (.cells #[.int .i64 (t + (jd : Int)), .int .u64 (v : Int)] 41)) wo.heap.size 41 P j c (evens t (1 + q) v j) := ho.grew ((Chg.refl _ wr).alloc _)
      have hr : RE elPt (wr.alloc (.cells #[.int .i64 (t + (jd : Int)), .int .u64 (v : Int)] 41)) (some ⟨wr.heap.size, 0, none⟩) 1 [(t + (jd : Int), v)] := RE.newAt rfl rfl rfl
      have hev : evens t (1 + q) v (j + 1) = evens t (1 + q) v j ++ [(t + (jd : Int), v)] := by rw [evens_succ, hd, hjd]
      have Hev := Lib.hid hev
      clear hev
      go_wp2_with (at_builtin; refine wpList_appE rfl _ _ 22 41 infoPt rfl Try.underlying22 rfl wo.heap.size P j c (evens t (1 + q) v j) rfl h1 (by simp; omega) _ 1 1 [(t + (jd : Int), v)] rfl hr (by unfold maxLen; omega) (by omega) ?_; intro A2 c2 w2 h2)
      have ho2 := h2.oe
      rw [← Hev.out] at ho2
      have hg2 := h2.grew (hg9.alloc _) (fun ad e => (Own.blk_lt h1 ad e).1)
      go_wp2
      go_roundw
      case rel =>
        first | exact ⟨j + 1, _, _, by omega, by go_num, rfl, ho2, hg2⟩ | ((repeat apply Exists.intro); refine ⟨?_, rfl⟩; exact ⟨j + 1, _, _, by omega, by go_num, rfl, ho2, hg2⟩)
      case measure => simp [intOf]; omega
    · have t1 : decide ((j : Int) < 2 + (k : Int)) = false := decide_eq_false (by omega)
      obtain rfl : j = 2 + k := by omega
      obtain ⟨n, hn⟩ : ∃ n, n = 2 + k := ⟨_, rfl⟩
      have hnz : 2 + (k : Int) = (n : Int) := by omega
      rw [← hn] at ho hn2 ⊢
      clear hn hj hlt
      have hen : EncIs (evens t (1 + q) v n) _ 0 := EncIs.evens ht1.1 ht1.2 (by omega) (by omega) hn2
      have hv2 : Okv (evens t (1 + q) v n) := evens_v hv64
      have hen2 : EncIs (evens t (1 + q) v 2) _ 0 := EncIs.evens ht1.1 ht1.2 (by omega) (by omega) (by omega)
      have hlen := evens_enc t (1 + q) v n (by omega)
      have htk : (evens t (1 + q) v n).take 2 = evens t (1 + q) v 2 := evens_take _ _ _ _ _ (by omega)
      have hn2' : 2 ≤ n := by omega
      have hcp := ho.cap
      go_wp2_with fail
      refine (copyPoints_any P n c (evens t (1 + q) v n) _ (by exact ho.re (by decide)) (by omega)).mono ?_
      rintro e w3 ⟨P3, c3, rfl, ho3, hg3⟩
      have hg03 := hg9.trans hg3
      have hop3 := ho.grew hg3
      go_wp2_with fail
      refine (encode_any _ n _ (evens t (1 + q) v n) _ (by exact ho3.re (by decide)) (by omega) hv2).mono ?_
      rintro e w4 ⟨B, m, d, l, er, he, rfl, ho4, hg4⟩
      obtain ⟨rfl, rfl⟩ := he.uniq hen
      have hml : (pack (encB (evens t (1 + q) v n))).length = m := ho4.len
      rw [length_pack] at hml
      have hg04 := hg03.trans hg4
      have hop4 := hop3.grew hg4
      clear hg3 hg4 hop3 hg03 ho3
      go_wp2_with fail
      refine (copyPoints_any P 2 _ (evens t (1 + q) v 2) _ (by have := (hop4.re (by decide)).take (i := 2) (by omega); rw [htk] at this; exact this) (by omega)).mono ?_
      rintro e w5 ⟨P5, c5, rfl, ho5, hg5⟩
      have hg05 := hg04.trans hg5
      have hop5 := hop4.grew hg5
      have hb5 := ho4.grew hg5
      go_wp2_with fail
      refine (encode_any _ 2 _ (evens t (1 + q) v 2) _ (by exact ho5.re (by decide)) (by omega) (evens_v hv64)).mono ?_
      rintro e w6 ⟨B2, m2, d2, l2, er2, he2, rfl, ho6, hg6⟩
      obtain ⟨rfl, rfl⟩ := he2.uniq hen2
      have hml2 : (pack (encB (evens t (1 + q) v 2))).length = m2 := ho6.len
      rw [length_pack] at hml2
      have hg06 := hg05.trans hg6
      have hop6 := hop5.grew hg6
      have hb6 := hb5.grew hg6
      have hm2 := he.len
      rw [length_pack] at hm2
      clear hg5 hg6 hop5 hg05 ho5 hop4 hb5 ho4 hg04 ho6
      go_wp2_with fail
      refine (decode_any _ m _ _ _ (by exact hb6.rb) (by omega)).mono ?_
      rintro e w7 ⟨C, n7, c7, ps7, er7, he7, rfl, ho7, hg7⟩
      obtain ⟨rfl, rfl⟩ := he7.uniq (he.dec hv2)
      obtain rfl : n7 = n := by rw [← ho7.len (by decide), evens_len]
      have hg07 := hg06.trans hg7
      have hop7 := hop6.grew hg7
      go_wp2_with fail
      refine (samePoints_yes _ _ n7 n7 _ _ _ _ (by exact ho7.re (by decide)) (by exact hop7.re (by decide)) (by omega) (by omega)).mono ?_
      rintro e w8 ⟨rfl, k8, rfl⟩
      have hg08 := hg07.drewN k8
      have hop8 : OE elPt (w7.drewN k8) wo.heap.size 41 P n7 c (evens t (1 + q) v n7) := hop7
      generalize w7.drewN k8 = w8 at *
      obtain ⟨qb, hqb, hqb2⟩ : ∃ qb : Nat, (2 * (n7 : Int) + 7) / 8 = (qb : Int) ∧ qb ≤ 3000 := ⟨(2 * n7 + 7) / 8, by omega, by omega⟩
      have tl : decide ((m2 : Int) + (qb : Int) < (m : Int)) = false := decide_eq_false (by omega)
      have hm2b : m2 ≤ 200000 := by omega
      clear he he2 he7 hen hen2 hlen htk hml hml2 hb6 hg06 hg07 hop6 hop7 ho7 hg7 hm2
      go_wp2
      clear tl hqb
      have hop8' := Own.mono hop8 (Nat.le_refl _)
      clear hop8 hg9 ho
      go_loopw [12] (fun sp wr => ∃ (j : Nat) (P : Option Addr) (c : Nat) (qs : List Pnt), 2 ≤ j ∧ j ≤ 8192 ∧ sp = .slice P j c ∧ OE elPt wr wo.heap.size 41 P j c qs ∧ Okv qs ∧ Grew wo wr) (fun sp _ => match sp with | .slice _ j _ => 8192 - j | _ => 0)
      case atStart => exact ⟨n7, P, c, _, by omega, by omega, rfl, hop8', hv2, hg08⟩
      case round =>
        obtain ⟨j, P, c, qs, hj2, hj, rfl, ho, hqv, hg9⟩ := hrel
        by_cases hlt : j ≤ 8191
        · have t1 : decide ((j : Int) ≤ 8191) = true := decide_eq_true (by omega)
          obtain ⟨i, hi⟩ : ∃ i, i = j - 1 := ⟨_, rfl⟩
          have hiz : (j : Int) - 1 = (i : Int) := by omega
          have hij : i < j := by omega
          have hsz := hg9.size
          obtain ⟨ad, p, rfl, hp, hp0, hp1⟩ := (ho.re (by decide)).pt hij
          rw [hi] at hp0
          obtain ⟨x, hx⟩ : ∃ x, IntKind.i64.wrap (p.1 + 1) = x := ⟨_, rfl⟩
          have h1 : OE elPt (wr.alloc (.cells #[.int .i64 x, .int .u64 (v : Int)] 41)) wo.heap.size 41 (some ad) j c qs := ho.grew ((Chg.refl _ wr).alloc _)
          have hr : RE elPt (wr.alloc (.cells #[.int .i64 x, .int .u64 (v : Int)] 41)) (some ⟨wr.heap.size, 0, none⟩) 1 [(x, v)] := RE.newAt rfl rfl rfl
          go_wp2_with (at_builtin; refine wpList_appE rfl _ _ 22 41 infoPt rfl Try.underlying22 rfl wo.heap.size (some ad) j c qs rfl h1 (by simp; omega) _ 1 1 [(x, v)] rfl hr (by unfold maxLen; omega) (by omega) ?_; intro A2 c2 w2 h2)
          have ho2 := h2.oe
          have hg2 := h2.grew (hg9.alloc _) (fun ad e => (Own.blk_lt h1 ad e).1)
          have hqv2 : Okv (qs ++ [(x, v)]) := fun y hy => by
            rcases List.mem_append.1 hy with h | h
            · exact hqv y h
            · obtain rfl := List.mem_singleton.1 h
              exact hv64
          go_wp2
          go_roundw
          case rel =>
            first | exact ⟨j + 1, _, _, _, by omega, by omega, rfl, ho2, hqv2, hg2⟩ | ((repeat apply Exists.intro); refine ⟨?_, rfl⟩; exact ⟨j + 1, _, _, _, by omega, by omega, rfl, ho2, hqv2, hg2⟩)
          case measure => simp; omega
        · have t1 : decide ((j : Int) ≤ 8191) = false := decide_eq_false (by omega)
          go_wp2_with fail
          refine (encode_any _ j _ qs _ (by exact ho.re (by decide)) (by omega) hqv).mono ?_
          rintro e w9 ⟨B9, m9, d9, l9, er9, he9, rfl, ho9, hg10⟩
          obtain rfl : er9 = 51 := by
            have hl := ho.len (by decide)
            rcases he9 with ⟨_, _, h⟩ | ⟨h, _⟩ | ⟨h, _⟩
            · exact h
            · omega
            · omega
          go_wp2_with fail
          refine (awake_any _).mono ?_
          rintro e w13 ⟨rfl, hg13⟩
          go_wp2
          go_ret
          exact ⟨by simp, (hg9.trans hg10).trans hg13⟩
end Go.Proofs.Ytlilnibinligkaa
