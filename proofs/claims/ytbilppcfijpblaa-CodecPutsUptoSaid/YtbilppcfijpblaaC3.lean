/-
  The law CodecPuts, walked, for bytes and texts of at most 1048576: it returns true, and nothing that was there has turned. Conditions: those lengths.
-/
import Derived.Test.YtbilppcfijpblaaCa
import Derived.OpenShut
namespace Go.Proofs.Ytbilppcfijpblaa
open Go.RowKit

set_option maxRecDepth 100000 in
set_option maxHeartbeats 4000000 in
theorem walk_codecPuts (A : Option Addr) (m c : Nat) (l : List UInt8) (vz x : Int) (s : ByteArray) (w : World) (h : RB w A m l) (hm : m ≤ 1048576) (hv : (Lit.int .u64 vz).wf = true) (hx : (Lit.int .i64 x).wf = true) (hs : s.size ≤ 1048576) :
    Calls Try.prog 3 #[.slice A m c, .int .u64 vz, .int .i64 x, .string s] w fun e w' => e = .returned (.bool true) ∧ Grew w w' := by
  have bv := Go.bounds_u64 hv
  have bx := Go.bounds_i64 hx
  obtain ⟨v, rfl⟩ := Int.eq_ofNat_of_zero_le bv.1
  have hv2 : v < 18446744073709551616 := by omega
  have hl : l.length = m := h.1
  have zx := zz_lt (x := x) (by omega) (by omega)
  have z1 := uv_len10 hv2
  have z2 := uv_len10 zx
  have z3 := uv_len10 (v := s.size) (by omega)
  have ⟨n1, l1, hn1, a1, b1⟩ : ∃ (n1 : Nat) (l1 : List UInt8), n1 ≤ 3000000 ∧ (∀ A c w, RB w A m l → Calls Try.prog 10 #[.slice A m c, .int .u64 (v : Int)] w (NewB w n1 l1)) ∧ (∀ A c w, RB w A m l → Calls Try.prog 17 #[.slice A m c, .int .u64 (v : Int)] w (NewB w n1 l1)) :=
    ⟨_, _, by omega, fun A c w h => putUint_any A m c l v v w h rfl (by omega) hv2, fun A c w h => refPutUint_any A m c l v v w h rfl (by omega) hv2⟩
  have ⟨n2, l2, hn2, a2, b2⟩ : ∃ (n1 : Nat) (l1 : List UInt8), n1 ≤ 3000000 ∧ (∀ A c w, RB w A m l → Calls Try.prog 11 #[.slice A m c, .int .i64 x] w (NewB w n1 l1)) ∧ (∀ A c w, RB w A m l → Calls Try.prog 18 #[.slice A m c, .int .i64 x] w (NewB w n1 l1)) :=
    ⟨_, _, by omega, fun A c w h => putInt_any A m c l x w h (by omega) (by omega) (by omega), fun A c w h => refPutInt_any A m c l x w h (by omega) (by omega) (by omega)⟩
  have ⟨n3, l3, hn3, a3, b3⟩ : ∃ (n1 : Nat) (l1 : List UInt8), n1 ≤ 3000000 ∧ (∀ A c w, RB w A m l → Calls Try.prog 12 #[.slice A m c, .string s] w (NewB w n1 l1)) ∧ (∀ A c w, RB w A m l → Calls Try.prog 19 #[.slice A m c, .string s] w (NewB w n1 l1)) :=
    ⟨_, _, by omega, fun A c w h => putText_any A m c l s w h (by omega), fun A c w h => refPutText_any A m c l s w h (by omega)⟩
  have ⟨n4, l4, er, hn4, a4, b4⟩ : ∃ (n1 : Nat) (l1 : List UInt8) (er : Nat), n1 ≤ 3000000 ∧ (∀ A c w, RB w A m l → Calls Try.prog 14 #[.slice A m c] w (BytesE w n1 l1 er)) ∧ (∀ A c w, RB w A m l → Calls Try.prog 21 #[.slice A m c] w (BytesE w n1 l1 er)) := by
    by_cases h6 : m ≤ 65536
    · have := uv_len10 (v := m) (by omega)
      exact ⟨_, _, 0, by omega, fun A c w h => frame_any A m c l w h h6, fun A c w h => refFrame_any A m c l w h h6⟩
    · refine ⟨0, [], 23, by omega, fun A c w _ => (frame_no A m c w (by omega) (by omega)).mono ?_, fun A c w _ => (refFrame_no A m c w (by omega) (by omega)).mono ?_⟩
      · rintro e w' ⟨rfl, rfl⟩
        exact ⟨none, 0, rfl, Own.nil _ _ _ _, Chg.refl _ _⟩
      · rintro e w' ⟨rfl, rfl⟩
        exact ⟨none, 0, rfl, Own.nil _ _ _ _, Chg.refl _ _⟩
  have a5 : ∀ A c w, RB w A m l → Calls Try.prog 13 #[.slice A m c] w fun e w' => e = .returned (.int .u32 (crc l : Int)) ∧ Grew w w' := fun A c w h => sum_any A m c l w h (by omega)
  have b5 : ∀ A c w, RB w A m l → Calls Try.prog 20 #[.slice A m c] w fun e w' => e = .returned (.int .u32 (crc l : Int)) ∧ w' = w := fun A c w h => refSum_any A m c l w h (by omega)
  generalize crc l = cr at a5 b5
  have X1 := Lib.hid a1
  have X2 := Lib.hid a2
  have X3 := Lib.hid a3
  have X4 := Lib.hid a4
  have X5 := Lib.hid a5
  have Y1 := Lib.hid b1
  have Y2 := Lib.hid b2
  have Y3 := Lib.hid b3
  have Y4 := Lib.hid b4
  have Y5 := Lib.hid b5
  have Hl := Lib.hid hl
  clear a1 a2 a3 a4 a5 b1 b2 b3 b4 b5 hl z1 z2 z3 zx hv hx bv bx hv2 hs
  go_enter Try.func3, Try.ntmps3
  go_wp2_with fail
  refine (lendBytes_any A m c l _ h (by omega)).mono ?_
  rintro e w1 ⟨P0, c0, rfl, ho0, hg1⟩
  have hr1 : RB w1 P0 m l := by have := ho0.rb.take (i := m) (by omega); rwa [List.take_left' Hl.out] at this
  go_wp2_with fail
  refine (X1.out _ _ _ hr1).mono ?_
  rintro e w2 ⟨P1, c1, rfl, ho1, hg2⟩
  have hr2 := hr1.grew hg2
  go_wp2_with fail
  refine (X2.out _ _ _ hr2).mono ?_
  rintro e w3 ⟨P2, c2, rfl, ho2, hg3⟩
  have hr3 := hr2.grew hg3
  go_wp2_with fail
  refine (X3.out _ _ _ hr3).mono ?_
  rintro e w4 ⟨P3, c3, rfl, ho3, hg4⟩
  have hr4 := hr3.grew hg4
  go_wp2_with fail
  refine (X5.out _ _ _ hr4).mono ?_
  rintro e w5 ⟨rfl, hg5⟩
  have hr5 := hr4.grew hg5
  go_wp2_with fail
  refine (X4.out _ _ _ hr5).mono ?_
  rintro e w6 ⟨P4, c4, rfl, ho4, hg6⟩
  have g16 : Grew w1 w6 := (((hg2.trans hg3).trans hg4).trans hg5).trans hg6
  have h6 : RB w6 A m l := (h.grew hg1).grew g16
  have o0 := ho0.grew g16
  have o1 := (((ho1.grew hg3).grew hg4).grew hg5).grew hg6
  have o2 := ((ho2.grew hg4).grew hg5).grew hg6
  have o3 := (ho3.grew hg5).grew hg6
  have s1 := hg1.size
  have s2 := hg2.size
  have s3 := hg3.size
  have s4 := hg4.size
  have s5 := hg5.size
  have s6 := hg6.size
  have q0 := Own.blk_lt ho0
  have q1 := Own.blk_lt ho1
  have q2 := Own.blk_lt ho2
  have q3 := Own.blk_lt ho3
  have q4 := Own.blk_lt ho4
  have g06 : Grew w w6 := hg1.trans g16
  clear hr1 hr2 hr3 hr4 hr5 hg1 hg2 hg3 hg4 hg5 hg6 ho0 ho1 ho2 ho3
  go_wp2_with fail
  refine (keptBytes_any P0 m c0 l A c w.heap.size _ o0 h6 (by omega)).mono ?_
  rintro e w7 ⟨rfl, hg7⟩
  have h7 : RB w7 A m l := h6.far hg7 (by rintro ad e h0 ⟨bd, e2, e3⟩; have := h.lt ad e h0; have := q0 bd e2; omega)
  have p1 := o1.chg hg7 (by rintro ad e ⟨bd, e2, e3⟩; have := q1 ad e; have := q0 bd e2; omega)
  have p2 := o2.chg hg7 (by rintro ad e ⟨bd, e2, e3⟩; have := q2 ad e; have := q0 bd e2; omega)
  have p3 := o3.chg hg7 (by rintro ad e ⟨bd, e2, e3⟩; have := q3 ad e; have := q0 bd e2; omega)
  have p4 := ho4.chg hg7 (by rintro ad e ⟨bd, e2, e3⟩; have := q4 ad e; have := q0 bd e2; omega)
  have g07 : Grew w w7 := g06.step hg7 (by rintro x hx ⟨bd, e2, e3⟩; have := q0 bd e2; omega)
  have s7 := hg7.size
  clear hg7 g06 g16 o0 o1 o2 o3 ho4 h6
  go_wp2_with fail
  refine (Y1.out _ _ _ h7).mono ?_
  rintro e w8 ⟨R1, d1, rfl, r1, hg8⟩
  go_wp2_with fail
  refine (sameBytes_yes _ _ n1 n1 _ _ l1 _ (p1.grew hg8).rb r1.rb (by omega) (by omega)).mono ?_
  rintro e w9 ⟨rfl, k9, rfl⟩
  have g79 : Grew w7 (w8.drewN k9) := hg8.drewN k9
  have s9 := g79.size
  generalize w8.drewN k9 = w9 at *
  go_wp2_with fail
  refine (Y2.out _ _ _ (h7.grew g79)).mono ?_
  rintro e w10 ⟨R2, d2, rfl, r2, hg10⟩
  go_wp2_with fail
  refine (sameBytes_yes _ _ n2 n2 _ _ l2 _ ((p2.grew g79).grew hg10).rb r2.rb (by omega) (by omega)).mono ?_
  rintro e w11 ⟨rfl, k11, rfl⟩
  have g711 : Grew w7 (w10.drewN k11) := (g79.trans hg10).drewN k11
  generalize w10.drewN k11 = w11 at *
  clear r1 r2 hg8 hg10 g79
  go_wp2_with fail
  refine (Y3.out _ _ _ (h7.grew g711)).mono ?_
  rintro e w12 ⟨R3, d3, rfl, r3, hg12⟩
  go_wp2_with fail
  refine (sameBytes_yes _ _ n3 n3 _ _ l3 _ ((p3.grew g711).grew hg12).rb r3.rb (by omega) (by omega)).mono ?_
  rintro e w13 ⟨rfl, k13, rfl⟩
  have g713 : Grew w7 (w12.drewN k13) := (g711.trans hg12).drewN k13
  generalize w12.drewN k13 = w13 at *
  clear r3 hg12 g711
  go_wp2_with fail
  refine (Y5.out _ _ _ (h7.grew g713)).mono ?_
  rintro e w14 ⟨rfl, rfl⟩
  go_wp2_with fail
  refine (Y4.out _ _ _ (h7.grew g713)).mono ?_
  rintro e w15 ⟨R4, d4, rfl, r4, hg15⟩
  have s13 := g713.size
  have s15 := hg15.size
  have t4 := Own.blk_lt r4
  have g715 := g713.trans hg15
  go_wp2_with fail
  refine (spoilBytes_any P1 n1 c1 l1 _ _ (p1.grew g715) (by omega) (by omega)).mono ?_
  rintro e w16 ⟨rfl, hg16⟩
  have h16 : RB w16 A m l := (h7.grew g715).far hg16 (by rintro ad e h0 ⟨bd, e2, e3⟩; have := h.lt ad e h0; have := q1 bd e2; omega)
  have v2 := (p2.grew g715).chg hg16 (by rintro ad e ⟨bd, e2, e3⟩; have := q2 ad e; have := q1 bd e2; omega)
  have v4 := (p4.grew g715).chg hg16 (by rintro ad e ⟨bd, e2, e3⟩; have := q4 ad e; have := q1 bd e2; omega)
  have u4 := r4.chg hg16 (by rintro ad e ⟨bd, e2, e3⟩; have := t4 ad e; have := q1 bd e2; omega)
  have g016 : Grew w w16 := (g07.trans g715).step hg16 (by rintro x hx ⟨bd, e2, e3⟩; have := q1 bd e2; omega)
  clear hg16 g715 hg15 g713 g07 r4 p1 p2 p3 p4
  go_wp2_with fail
  refine (sameBytes_yes _ _ n4 n4 _ _ l4 _ v4.rb u4.rb (by omega) (by omega)).mono ?_
  rintro e w17 ⟨rfl, k17, rfl⟩
  have g17 : Grew w16 (w16.drewN k17) := (Chg.refl _ w16).drewN k17
  generalize w16.drewN k17 = w17 at *
  go_wp2_with fail
  refine (Y2.out _ _ _ (h16.grew g17)).mono ?_
  rintro e w18 ⟨R5, d5, rfl, r5, hg18⟩
  go_wp2_with fail
  refine (sameBytes_yes _ _ n2 n2 _ _ l2 _ ((v2.grew g17).grew hg18).rb r5.rb (by omega) (by omega)).mono ?_
  rintro e w19 ⟨rfl, k19, rfl⟩
  go_wp2_with fail
  refine (awake_any _).mono ?_
  rintro e w20 ⟨rfl, hg20⟩
  go_wp2
  go_ret
  exact ⟨by simp, (((g016.trans g17).trans hg18).drewN k19).trans hg20⟩
end Go.Proofs.Ytbilppcfijpblaa
