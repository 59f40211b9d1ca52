/-
  The reference of chunk: Encode of any points; the law ChunkEncodes, walked. Conditions: lengths that memory bears.
-/
import Derived.Test.YtlilnibinligkaaRd
import Derived.Test.YtlilnibinligkaaKj
namespace Go.Proofs.Ytlilnibinligkaa
open Go.RowKit

/-- blocks of a row that the call made: none that was there -/
theorem Chg.own_new {w0 w w' : World} {A : Option Addr} (h : Chg (fun k => ∃ ad, A = some ad ∧ k = ad.block) w w') (hg : Grew w0 w) (hA : ∀ ad, A = some ad → w0.heap.size ≤ ad.block) : Grew w0 w' :=
  hg.step h fun k hk ⟨ad, e, he⟩ => by have := hA ad e; omega

set_option maxRecDepth 100000 in
set_option maxHeartbeats 2000000 in
theorem rencode_any (A : Option Addr) (n c : Nat) (ps : List Pnt) (w : World) (h : RE elPt w A n ps) (hn : n ≤ 8796093022208) (hv : Okv ps) :
    Calls Try.prog 10 #[.slice A n c] w (EncP w ps) := by
  have hl := h.1
  by_cases h1 : 8191 < n
  · have Hl := Lib.hid hl
    clear hl
    go_enter Try.func10, Try.ntmps10
    go_wp2_with fail
    go_ret2
    exact ⟨none, 0, 0, [], 51, .inl ⟨by rw [Hl.out]; exact h1, rfl, rfl⟩, by simp, Own.nil _ _ _ _, Chg.refl _ _⟩
  · by_cases h2 : Okp ps
    · exact (rencode_ok A n c ps w h (by omega) h2 hv).mono fun e w' ⟨B, m, d, g1, g2, g3⟩ => ⟨B, m, d, _, 0, .inr (.inr ⟨by omega, h2, rfl, rfl⟩), g1, g2, g3⟩
    · have M : Hid (∀ w, RE elPt w A n ps → Calls Try.prog 26 #[.slice A n c] w fun e w' => e = .returned (.bool false) ∧ Grew w w') := fun w h => (points_any A n c ps w h hn).mono fun e w' ⟨b, h1, h2', h3⟩ => ⟨by
        cases b
        · exact h1
        · exact (h2 (h2'.1 rfl)).elim, h3⟩
      have Hl := Lib.hid hl
      have H2 := Lib.hid h2
      clear hl h2
      go_enter Try.func10, Try.ntmps10
      go_wp2_with fail
      refine (M.out _ h).mono ?_
      rintro e w1 ⟨rfl, hg1⟩
      go_wp2_with fail
      go_ret2
      exact ⟨none, 0, 0, [], 50, .inr (.inl ⟨by rw [Hl.out]; omega, H2.out, rfl, rfl⟩), by simp, Own.nil _ _ _ _, hg1⟩

set_option maxRecDepth 100000 in
set_option maxHeartbeats 4000000 in
theorem walk_chunkEncodes (A : Option Addr) (n c : Nat) (ps : List Pnt) (w : World) (h : RE elPt w A n ps) (hn : n ≤ 8796093021952) (hv : Okv ps) :
    Calls Try.prog 3 #[.slice A n c] w fun e w' => e = .returned (.bool true) ∧ Grew w w' := by
  go_enter Try.func3, Try.ntmps3
  go_wp2_with fail
  refine (rencode_any A n c ps _ h (by omega) hv).mono ?_
  rintro e w1 ⟨B1, m1, d1, l1, er1, he1, rfl, ho1, hg1⟩
  have hr1 := h.grew hg1
  have hlen := he1.len
  have hm1 := ho1.len
  have hs1 := hg1.size
  go_wp2_with fail
  refine (lendPoints_any A n c ps _ hr1 (by omega)).mono ?_
  rintro e w2 ⟨P2, c2, rfl, ho2, hg2⟩
  have hg02 := hg1.trans hg2
  have hs2 := hg2.size
  have hb2 := Own.blk_lt ho2
  have hre2 : RE elPt w2 P2 n ps := (ho2.re (by decide)).take0 (r := [(-7, 77), (-7, 77)])
  go_wp2_with fail
  refine (encode_any P2 n c2 ps _ hre2 (by omega) hv).mono ?_
  rintro e w3 ⟨B3, m3, d3, l3, er3, he3, rfl, ho3, hg3⟩
  obtain ⟨rfl, rfl⟩ := he3.uniq he1
  have hs3 := hg3.size
  have hg03 := hg02.trans hg3
  have hr3 := h.grew hg03
  have o13 := (ho1.grew hg2).grew hg3
  have hb1 := Own.blk_lt ho1
  have hb3 := Own.blk_lt ho3
  have hm3 := ho3.len
  have o23 := ho2.grew hg3
  clear hr1 hre2 ho1 ho2 hg1 hg2 hg3 hg02
  go_wp2_with fail
  refine (keptPoints_any P2 n c2 ps A c w1.heap.size _ o23 hr3 (by omega)).mono ?_
  rintro e w4 ⟨rfl, hc4⟩
  have hg04 := hc4.own_new hg03 (fun ad e => by have := hb2 ad e; omega)
  have hs4 := hc4.size
  have o14 := o13.chg hc4 (fun ad e ⟨ad2, e2, h2⟩ => by have := hb1 ad e; have := hb2 ad2 e2; omega)
  have o34 := ho3.chg hc4 (fun ad e ⟨ad2, e2, h2⟩ => by have := hb3 ad e; have := hb2 ad2 e2; omega)
  have hr4 := h.grew hg04
  clear hc4 o13 ho3 o23 hr3 hg03
  go_wp2_with fail
  refine (copyPoints_any A n c ps _ hr4 (by omega)).mono ?_
  rintro e w5 ⟨P5, c5, rfl, ho5, hg5⟩
  have hs5 := hg5.size
  go_wp2_with fail
  refine (encode_any P5 n c5 ps _ (ho5.re (by decide)) (by omega) hv).mono ?_
  rintro e w6 ⟨B6, m6, d6, l6, er6, he6, rfl, ho6, hg6⟩
  obtain ⟨rfl, rfl⟩ := he6.uniq he1
  have hm6 := ho6.len
  have hs6 := hg6.size
  have hg56 := hg5.trans hg6
  have hg06 := hg04.trans hg56
  have o16 := o14.grew hg56
  have o36 := o34.grew hg56
  have hb6 := Own.blk_lt ho6
  clear hr4 ho5 hg5 hg6 hg56 o14 o34 hg04 he1 he3 he6
  go_wp2_with fail
  refine (sameBytes_yes _ _ m3 m1 _ _ l6 _ o36.rb o16.rb (by omega) (by omega)).mono ?_
  rintro e w7 ⟨rfl, k7, rfl⟩
  go_wp2_with fail
  refine (spoilBytes_any B3 m3 d3 l6 w2.heap.size _ (o36.drewN k7) (by simp; omega) (by omega)).mono ?_
  rintro e w8 ⟨rfl, hc8⟩
  have hg08 := hc8.own_new (hg06.drewN k7) (fun ad e => by have := hb3 ad e; omega)
  have o18 := (o16.drewN k7).chg hc8 (fun ad e ⟨ad2, e2, h2⟩ => by have := hb1 ad e; have := hb3 ad2 e2; omega)
  have o68 := (ho6.drewN k7).chg hc8 (fun ad e ⟨ad2, e2, h2⟩ => by have := hb6 ad e; have := hb3 ad2 e2; omega)
  clear hc8 o16 o36 ho6 hg06
  go_wp2_with fail
  refine (sameBytes_yes _ _ m6 m1 _ _ l6 _ o68.rb o18.rb (by omega) (by omega)).mono ?_
  rintro e w9 ⟨rfl, k9, rfl⟩
  go_wp2_with fail
  refine (awake_any _).mono ?_
  rintro e w10 ⟨rfl, hg10⟩
  go_wp2
  go_ret
  exact ⟨by simp, (hg08.drewN k9).trans hg10⟩
end Go.Proofs.Ytlilnibinligkaa
