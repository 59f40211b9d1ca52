/-
  The law CodecReads, walked: whatever the input it returns true, and nothing that was there has turned. Conditions: lengths within the form's reach.
-/
import Derived.Test.YtbilppcfijpblaaCa
namespace Go.Proofs.Ytbilppcfijpblaa
open Go.RowKit

set_option maxRecDepth 100000 in
set_option maxHeartbeats 4000000 in
theorem walk_codecReads (A : Option Addr) (m c : Nat) (l : List UInt8) (z : Int) (w : World) (h : RB w A m l) (hm : m ≤ 140737488351232) (hc : m ≤ c ∧ c ≤ 9223372036854775807) (_ : (Lit.int .i64 z).wf = true) :
    Calls Try.prog 4 #[.slice A m c, .int .i64 z] w fun e w' => e = .returned (.bool true) ∧ Grew w w' := by
  have hl : l.length = m := h.1
  have a1 : ∀ A c w, RB w A m l → Calls Try.prog 24 #[.slice A m c, .int .i64 z] w (UintPost w (uintR l z)) := fun A c w h => uint_any A m c l z w h (by omega)
  have a2 : ∀ A c w, RB w A m l → Calls Try.prog 25 #[.slice A m c, .int .i64 z] w (IntPost w (uintR l z)) := fun A c w h => int_any A m c l z w h (by omega)
  have a3 : ∀ A c w, RB w A m l → m ≤ c ∧ c ≤ 9223372036854775807 → Calls Try.prog 26 #[.slice A m c, .int .i64 z] w (TextPost w (textR l z)) := fun A c w h hc => text_any A m c l z w h (by omega) hc
  have a4 : ∀ A c w, RB w A m l → m ≤ c ∧ c ≤ 9223372036854775807 → Calls Try.prog 27 #[.slice A m c, .int .i64 z] w (UnfPost w (unfR l z)) := fun A c w h hc => unframe_any A m c l z w h (by omega) hc
  have a5 : ∀ A c w, RB w A m l → Calls Try.prog 28 #[.slice A m c, .int .i64 z] w (UintPost w (uintR l z)) := fun A c w h => refUint_any A m c l z w h (by omega)
  have a6 : ∀ A c w, RB w A m l → Calls Try.prog 29 #[.slice A m c, .int .i64 z] w (IntPost w (uintR l z)) := fun A c w h => refInt_any A m c l z w h (by omega)
  have a7 : ∀ A c w, RB w A m l → m ≤ c ∧ c ≤ 9223372036854775807 → Calls Try.prog 30 #[.slice A m c, .int .i64 z] w (TextPost w (textR l z)) := fun A c w h hc => refText_any A m c l z w h (by omega) hc
  have a8 : ∀ A c w, RB w A m l → m ≤ c ∧ c ≤ 9223372036854775807 → Calls Try.prog 31 #[.slice A m c, .int .i64 z] w (UnfPost w (unfR l z)) := fun A c w h hc => refUnframe_any A m c l z w h (by omega) hc
  generalize uintR l z = r at a1 a2 a5 a6
  generalize textR l z = t at a3 a7
  generalize unfR l z = u at a4 a8
  have A1 := Lib.hid a1
  have A2 := Lib.hid a2
  have A3 := Lib.hid a3
  have A4 := Lib.hid a4
  have A5 := Lib.hid a5
  have A6 := Lib.hid a6
  have A7 := Lib.hid a7
  have A8 := Lib.hid a8
  have Hl := Lib.hid hl
  clear a1 a2 a3 a4 a5 a6 a7 a8 hl
  go_enter Try.func4, Try.ntmps4
  go_wp2_with fail
  refine (lendBytes_any A m c l _ h (by omega)).mono ?_
  rintro e w1 ⟨P1, c1, rfl, ho1, hg1⟩
  have hc1 := ho1.cap
  have hr1 : RB w1 P1 m l := by have := ho1.rb.take (i := m) (by omega); rwa [List.take_left' Hl.out] at this
  have h1 := h.grew hg1
  go_wp2_with fail
  refine (A1.out _ _ _ hr1).mono ?_
  unfold UintPost uintEnd
  rintro e w2 ⟨rfl, rfl⟩
  go_wp2_with fail
  refine (A2.out _ _ _ hr1).mono ?_
  unfold IntPost
  rintro e w2 ⟨rfl, rfl⟩
  go_wp2_with fail
  refine (A3.out _ _ _ hr1 (by omega)).mono ?_
  unfold TextPost textEnd
  rintro e w2 ⟨rfl, rfl⟩
  go_wp2_with fail
  refine (A4.out _ _ _ hr1 (by omega)).mono ?_
  unfold UnfPost
  rintro e w2 ⟨B2, n2, c2, rfl, ho2, hg2⟩
  go_wp2_with fail
  refine (keptBytes_any P1 m c1 l A c w.heap.size _ (ho1.grew hg2) (h1.grew hg2) (by omega)).mono ?_
  rintro e w3 ⟨rfl, hg3⟩
  have s1 := hg1.size
  have s2 := hg2.size
  have s3 := hg3.size
  have b1 := Own.blk_lt ho1
  have b2 := Own.blk_lt ho2
  have h3 : RB w3 A m l := (h1.grew hg2).far hg3 (by rintro ad e h0 ⟨bd, e2, e3⟩; have := h.lt ad e h0; have := b1 bd e2; omega)
  have ho3 := ho2.chg hg3 (by rintro ad e ⟨bd, e2, e3⟩; have := b2 ad e; have := b1 bd e2; omega)
  have hgw : Grew w w3 := (hg1.trans hg2).step hg3 (by rintro x hx ⟨bd, e2, e3⟩; have := b1 bd e2; omega)
  clear hg1 hg2 hg3 ho1 ho2 h1 hr1 h
  go_wp2_with fail
  refine (A5.out _ _ _ h3).mono ?_
  unfold UintPost uintEnd
  rintro e w4 ⟨rfl, rfl⟩
  go_wp2_with fail
  refine (A6.out _ _ _ h3).mono ?_
  unfold IntPost
  rintro e w4 ⟨rfl, rfl⟩
  go_wp2_with fail
  refine (A7.out _ _ _ h3 hc).mono ?_
  unfold TextPost textEnd
  rintro e w4 ⟨rfl, rfl⟩
  go_wp2_with fail
  refine (A8.out _ _ _ h3 hc).mono ?_
  unfold UnfPost
  rintro e w5 ⟨B5, n5, c5, rfl, ho5, hg5⟩
  have l2 := ho3.len
  have l5 := ho5.len
  have k2 := ho3.cap
  have k5 := ho5.cap
  have hn : n2 = n5 := by omega
  subst hn
  clear l2 l5
  go_wp2_with fail
  refine (sameBytes_yes _ _ n2 n2 _ _ u.1 _ (ho3.grew hg5).rb ho5.rb (by omega) (by omega)).mono ?_
  rintro e w6 ⟨rfl, k6, rfl⟩
  go_wp2_with fail
  refine (awake_any _).mono ?_
  rintro e w7 ⟨rfl, hg7⟩
  go_wp2
  go_ret
  exact ⟨by simp, ((hgw.trans hg5).drewN k6).trans hg7⟩
end Go.Proofs.Ytbilppcfijpblaa
