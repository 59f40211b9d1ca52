/-
  The law ChunkDecodes, walked. Conditions: lengths within the form's reach.
-/
import Derived.Test.YtlilnibinligkaaRh
import Derived.Test.YtlilnibinligkaaKj
namespace Go.Proofs.Ytlilnibinligkaa
open Go.RowKit

theorem DecIs.len {b : List UInt8} {ps : List Pnt} {er : Nat} (h : DecIs b ps er) : ps.length ≤ 8191 := by
  rcases h with ⟨_, h, _⟩ | ⟨_, h, _⟩
  · exact h
  · simp [h]

set_option maxRecDepth 100000 in
set_option maxHeartbeats 4000000 in
theorem walk_chunkDecodes (A : Option Addr) (m c : Nat) (b : List UInt8) (w : World) (h : RB w A m b) (hm : m ≤ 140737488351232) :
    Calls Try.prog 4 #[.slice A m c] w fun e w' => e = .returned (.bool true) ∧ Grew w w' := by
  go_enter Try.func4, Try.ntmps4
  go_wp2_with fail
  refine (rdecode_any A m c b _ h (by omega)).mono ?_
  rintro e w1 ⟨B1, n1, d1, ps, er, he1, rfl, ho1, hg1⟩
  have hr1 := h.grew hg1
  have hlen := he1.len
  have hm1 := ho1.len (by decide)
  have hs1 := hg1.size
  go_wp2_with fail
  refine (lendBytes_any A m c b _ hr1 (by omega)).mono ?_
  rintro e w2 ⟨P2, c2, rfl, ho2, hg2⟩
  have hg02 := hg1.trans hg2
  have hs2 := hg2.size
  have hb2 := Own.blk_lt ho2
  have hre2 : RB w2 P2 m b := by
    have := ho2.rb
    refine ⟨h.1, ?_⟩
    have h2 := this.2.take m
    rwa [List.map_append, List.take_left' (by rw [List.length_map]; exact h.1)] at h2
  go_wp2_with fail
  refine (decode_any P2 m c2 b _ hre2 (by omega)).mono ?_
  rintro e w3 ⟨B3, n3, d3, ps3, er3, he3, rfl, ho3, hg3⟩
  obtain ⟨rfl, rfl⟩ := he3.uniq he1
  have hs3 := hg3.size
  have hg03 := hg02.trans hg3
  have hr3 := h.grew hg03
  have o13 := (ho1.grew hg2).grew hg3
  have hb1 := Own.blk_lt ho1
  have hb3 := Own.blk_lt ho3
  have hm3 := ho3.len (by decide)
  have o23 := ho2.grew hg3
  clear hr1 hre2 ho1 ho2 hg1 hg2 hg3 hg02
  go_wp2_with fail
  refine (keptBytes_any P2 m c2 b A c w1.heap.size _ o23 hr3 (by omega)).mono ?_
  rintro e w4 ⟨rfl, hc4⟩
  have hg04 := hc4.own_new hg03 (fun ad e => by have := hb2 ad e; omega)
  have hs4 := hc4.size
  have o14 := o13.chg hc4 (fun ad e ⟨ad2, e2, h2⟩ => by have := hb1 ad e; have := hb2 ad2 e2; omega)
  have o34 := ho3.chg hc4 (fun ad e ⟨ad2, e2, h2⟩ => by have := hb3 ad e; have := hb2 ad2 e2; omega)
  have hr4 := h.grew hg04
  clear hc4 o13 ho3 o23 hr3 hg03
  go_wp2_with fail
  refine (copyBytes_any A m c b _ hr4 (by omega)).mono ?_
  rintro e w5 ⟨P5, c5, rfl, ho5, hg5⟩
  have hs5 := hg5.size
  go_wp2_with fail
  refine (decode_any P5 m c5 b _ ho5.rb (by omega)).mono ?_
  rintro e w6 ⟨B6, n6, d6, ps6, er6, he6, rfl, ho6, hg6⟩
  obtain ⟨rfl, rfl⟩ := he6.uniq he1
  have hm6 := ho6.len (by decide)
  have hs6 := hg6.size
  have hg56 := hg5.trans hg6
  have hg06 := hg04.trans hg56
  have o16 := o14.grew hg56
  have o36 := o34.grew hg56
  have hb6 := Own.blk_lt ho6
  clear hr4 ho5 hg5 hg6 hg56 o14 o34 hg04 he1 he3 he6
  go_wp2_with fail
  refine (samePoints_yes _ _ n3 n1 _ _ ps6 _ (o36.re (by decide)) (o16.re (by decide)) (by omega) (by omega)).mono ?_
  rintro e w7 ⟨rfl, k7, rfl⟩
  go_wp2_with fail
  refine (spoilPoints_any B3 n3 d3 ps6 w2.heap.size _ (o36.drewN k7) (by simp; omega) (by omega)).mono ?_
  rintro e w8 ⟨rfl, hc8⟩
  have hg08 := hc8.own_new (hg06.drewN k7) (fun ad e => by have := hb3 ad e; omega)
  have o18 := (o16.drewN k7).chg hc8 (fun ad e ⟨ad2, e2, h2⟩ => by have := hb1 ad e; have := hb3 ad2 e2; omega)
  have o68 := (ho6.drewN k7).chg hc8 (fun ad e ⟨ad2, e2, h2⟩ => by have := hb6 ad e; have := hb3 ad2 e2; omega)
  clear hc8 o16 o36 ho6 hg06
  go_wp2_with fail
  refine (samePoints_yes _ _ n6 n1 _ _ ps6 _ (o68.re (by decide)) (o18.re (by decide)) (by omega) (by omega)).mono ?_
  rintro e w9 ⟨rfl, k9, rfl⟩
  go_wp2_with fail
  refine (awake_any _).mono ?_
  rintro e w10 ⟨rfl, hg10⟩
  go_wp2
  go_ret
  exact ⟨by simp, (hg08.drewN k9).trans hg10⟩
end Go.Proofs.Ytlilnibinligkaa
