/-
  The law CodecShort, walked: it returns true, and nothing that was there has turned. Conditions: lengths within the form's reach.
-/
import Derived.Test.YtbilppcfijpblaaCa
import Derived.Test.YtbilppcfijpblaaTs
import Derived.OpenShut
namespace Go.Proofs.Ytbilppcfijpblaa
open Go.RowKit

theorem uintR_form (l : List UInt8) (h : (uintR l 0).2.2 = 0) : (uintR l 0).1 < 18446744073709551616 ∧ (uintR l 0).2.1 = (uv (uintR l 0).1).length ∧ l.take (uintR l 0).2.1 = uv (uintR l 0).1 ∧ (uintR l 0).2.1 ≤ l.length := by
  obtain ⟨t, h0, _, h1, h2, h3, h4⟩ := uintR_ok l 0 h
  obtain rfl : t = 0 := by omega
  rw [Nat.zero_add] at h2 h4
  rw [List.drop_zero] at h3
  exact ⟨h1, h2, by rw [h2]; exact h3, by omega⟩
theorem textR_form (l : List UInt8) (h : (textR l 0).2.2 = 0) : (textR l 0).2.1 = (uv (textR l 0).1.length).length + (textR l 0).1.length ∧ l.take (textR l 0).2.1 = uv (textR l 0).1.length ++ (textR l 0).1 ∧ (textR l 0).2.1 ≤ l.length := by
  unfold textR at *
  unfold textOf at *
  by_cases h1 : (uintR l 0).2.2 ≠ 0
  · rw [if_pos h1] at h; exact (h1 h).elim
  · rw [if_neg h1] at h ⊢
    by_cases h2 : l.length - (uintR l 0).2.1 < (uintR l 0).1
    · rw [if_pos h2] at h; cases h
    · rw [if_neg h2]
      obtain ⟨e1, e2, e3, e4⟩ := uintR_form l (by simpa using h1)
      generalize uintR l 0 = r at *
      have hlen : ((l.drop r.2.1).take r.1).length = r.1 := by rw [List.length_take, List.length_drop]; omega
      simp only [hlen]
      refine ⟨by omega, ?_, by omega⟩
      rw [List.take_add, e3]
theorem unfR_form (l : List UInt8) (h : (unfR l 0).2.2 = 0) : (unfR l 0).1.length ≤ 65536 ∧ (unfR l 0).2.1 = (uv (unfR l 0).1.length).length + 4 + (unfR l 0).1.length ∧ l.take (unfR l 0).2.1 = frameB (unfR l 0).1 ∧ (unfR l 0).2.1 ≤ l.length := by
  unfold unfR at *
  unfold unfOf at *
  by_cases h1 : lenE (uintR l 0) ≠ 0
  · rw [if_pos h1] at h; exact (h1 h).elim
  · rw [if_neg h1] at h ⊢
    by_cases h2 : (recOf l (uintR l 0).2.1 (uintR l 0).1).2.2 ≠ 0
    · rw [if_pos h2] at h; exact (h2 h).elim
    · rw [if_neg h2]
      have hl : (uintR l 0).2.2 = 0 ∧ (uintR l 0).1 ≤ 65536 := by
        unfold lenE at h1
        by_cases h3 : (uintR l 0).2.2 ≠ 0
        · rw [if_pos h3] at h1; exact (h1 h3).elim
        · rw [if_neg h3] at h1
          by_cases h4 : 65536 < (uintR l 0).1
          · rw [if_pos h4] at h1; exact (h1 (by decide)).elim
          · exact ⟨by omega, by omega⟩
      obtain ⟨e1, e2, e3, e4⟩ := uintR_form l hl.1
      generalize uintR l 0 = r at *
      obtain ⟨v, nx, er⟩ := r
      dsimp only at *
      unfold recOf at *
      by_cases h5 : l.length - nx < 4 + v
      · rw [if_pos h5] at h2; exact (h2 (by simp)).elim
      · rw [if_neg h5] at h2 ⊢
        by_cases h6 : crc ((l.drop (nx + 4)).take v) ≠ beN ((l.drop nx).take 4)
        · rw [if_pos h6] at h2; exact (h2 (by simp)).elim
        · rw [if_neg h6]
          have hlen : ((l.drop (nx + 4)).take v).length = v := by rw [List.length_take, List.length_drop]; omega
          simp only [hlen]
          refine ⟨hl.2, by omega, ?_, by omega⟩
          unfold frameB
          rw [hlen, ← e3, Decidable.not_not.1 h6, four_beN _ (by rw [List.length_take, List.length_drop]; omega), List.take_add, List.take_add]
theorem unfR_none (l : List UInt8) (h : (unfR l 0).2.2 ≠ 0) : (unfR l 0).1 = [] := by
  unfold unfR at *
  unfold unfOf at *
  split at h <;> rename_i h1
  · rw [if_pos h1]
  · rw [if_neg h1]
    split at h <;> rename_i h2
    · rw [if_pos h2]
    · rw [if_neg h2] ; exact (h2 h).elim

set_option maxRecDepth 100000 in
set_option maxHeartbeats 8000000 in
theorem walk_codecShort (A : Option Addr) (m c : Nat) (l : List UInt8) (w : World) (h : RB w A m l) (hm : m ≤ 140737488351232) (hcc : m ≤ c ∧ c ≤ 9223372036854775807) :
    Calls Try.prog 6 #[.slice A m c] w fun e w' => e = .returned (.bool true) ∧ Grew w w' := by
  have hl : l.length = m := h.1
  have ⟨v, n, e1, u1, d1⟩ : ∃ (v n : Nat) (er : Int), (∀ A c w, RB w A m l → Calls Try.prog 24 #[.slice A m c, .int .i64 0] w fun e w' => e = .returned (.tuple #[.int .u64 (v : Int), .int .i64 (n : Int), .int .i64 er]) ∧ w = w') ∧
      ((er = 0 ∧ n ≤ m ∧ ∀ w, Calls Try.prog 10 #[.slice none 0 0, .int .u64 (v : Int)] w (NewB w n (l.take n))) ∨ (er == 0) = false) := by
    refine ⟨(uintR l 0).1, (uintR l 0).2.1, ((uintR l 0).2.2 : Int), fun A c w h => (uint_any A m c l 0 w h (by omega)).mono fun e w' ⟨h1, h2⟩ => ⟨h1, h2.symm⟩, ?_⟩
    by_cases he : (uintR l 0).2.2 = 0
    · obtain ⟨f1, f2, f3, f4⟩ := uintR_form l he
      refine .inl ⟨by omega, by omega, fun w => ?_⟩
      have := putUint_any none 0 0 [] (uintR l 0).1 (uintR l 0).1 w ⟨rfl, Rd.nil _ _⟩ rfl (by omega) f1
      rw [f3, f2]
      simpa using this
    · exact .inr (by simpa using he)
  have ⟨x, k2, e2, u2, d2⟩ : ∃ (x : Int) (n : Nat) (er : Int), (∀ A c w, RB w A m l → Calls Try.prog 25 #[.slice A m c, .int .i64 0] w fun e w' => e = .returned (.tuple #[.int .i64 x, .int .i64 (n : Int), .int .i64 er]) ∧ w = w') ∧
      ((er = 0 ∧ n ≤ m ∧ ∀ w, Calls Try.prog 11 #[.slice none 0 0, .int .i64 x] w (NewB w n (l.take n))) ∨ (er == 0) = false) := by
    refine ⟨uz (uintR l 0).1, (uintR l 0).2.1, ((uintR l 0).2.2 : Int), fun A c w h => (int_any A m c l 0 w h (by omega)).mono fun e w' ⟨h1, h2⟩ => ⟨h1, h2.symm⟩, ?_⟩
    by_cases he : (uintR l 0).2.2 = 0
    · obtain ⟨f1, f2, f3, f4⟩ := uintR_form l he
      have f5 := uz_ge f1
      refine .inl ⟨by omega, by omega, fun w => ?_⟩
      have := putInt_any none 0 0 [] (uz (uintR l 0).1) w ⟨rfl, Rd.nil _ _⟩ (by omega) (by omega) (by omega)
      rw [zz_uz] at this
      rw [f3, f2]
      simpa using this
    · exact .inr (by simpa using he)
  have ⟨s, k3, e3, u3, d3⟩ : ∃ (s : ByteArray) (n : Nat) (er : Int), (∀ A c w, RB w A m l → m ≤ c ∧ c ≤ 9223372036854775807 → Calls Try.prog 26 #[.slice A m c, .int .i64 0] w fun e w' => e = .returned (.tuple #[.string s, .int .i64 (n : Int), .int .i64 er]) ∧ w = w') ∧
      ((er = 0 ∧ n ≤ m ∧ ∀ w, Calls Try.prog 12 #[.slice none 0 0, .string s] w (NewB w n (l.take n))) ∨ (er == 0) = false) := by
    refine ⟨⟨(textR l 0).1.toArray⟩, (textR l 0).2.1, ((textR l 0).2.2 : Int), fun A c w h hc => (text_any A m c l 0 w h (by omega) hc).mono fun e w' ⟨h1, h2⟩ => ⟨h1, h2.symm⟩, ?_⟩
    by_cases he : (textR l 0).2.2 = 0
    · obtain ⟨f2, f3, f4⟩ := textR_form l he
      have hs : (⟨(textR l 0).1.toArray⟩ : ByteArray).size = (textR l 0).1.length := by simp [ByteArray.size]
      refine .inl ⟨by omega, by omega, fun w => ?_⟩
      have := putText_any none 0 0 [] ⟨(textR l 0).1.toArray⟩ w ⟨rfl, Rd.nil _ _⟩ (by omega)
      rw [hs] at this
      rw [f3, f2]
      simpa using this
    · exact .inr (by simpa using he)
  have ⟨q, nq, k4, e4, u4, d4⟩ : ∃ (q : List UInt8) (nq n : Nat) (er : Int), (∀ A c w, RB w A m l → m ≤ c ∧ c ≤ 9223372036854775807 → Calls Try.prog 27 #[.slice A m c, .int .i64 0] w fun e w' => ∃ B C, e = .returned (.tuple #[.slice B nq C, .int .i64 (n : Int), .int .i64 er]) ∧ OB w' w.heap.size 5 B nq C q ∧ Grew w w') ∧
      ((er = 0 ∧ n ≤ m ∧ ∀ A c w, RB w A nq q → Calls Try.prog 14 #[.slice A nq c] w fun e w' => ∃ B C, e = .returned (.tuple #[.slice B n C, .int .i64 0]) ∧ OB w' w.heap.size 5 B n C (l.take n) ∧ Grew w w') ∨ (nq = 0 ∧ (er != 0) = true)) := by
    refine ⟨(unfR l 0).1, (unfR l 0).1.length, (unfR l 0).2.1, ((unfR l 0).2.2 : Int), fun A c w h hc => (unframe_any A m c l 0 w h (by omega) hc).mono fun e w' ⟨B, n, C, h1, h2, h3⟩ => ?_, ?_⟩
    · obtain rfl := h2.len
      exact ⟨B, C, h1, h2, h3⟩
    · by_cases he : (unfR l 0).2.2 = 0
      · obtain ⟨f1, f2, f3, f4⟩ := unfR_form l he
        refine .inl ⟨by omega, by omega, fun A c w h => (frame_any A _ c _ w h (by omega)).mono fun e w' ⟨B, C, h1, h2, h3⟩ => ⟨B, C, ?_, ?_, h3⟩⟩
        · rw [f2]; exact h1
        · rw [f3, f2]; exact h2
      · exact .inr ⟨by rw [unfR_none l he]; rfl, by simpa using he⟩
  have U1 := Lib.hid u1
  have U2 := Lib.hid u2
  have U3 := Lib.hid u3
  have U4 := Lib.hid u4
  clear u1 u2 u3 u4 hl
  have D1 := Lib.hid d1
  have D2 := Lib.hid d2
  have D3 := Lib.hid d3
  have D4 := Lib.hid d4
  clear d1 d2 d3 d4
  go_enter Try.func6, Try.ntmps6
  go_wp2_with fail
  refine (copyBytes_any A m c l _ h (by omega)).mono ?_
  rintro e w1 ⟨P1, c1, rfl, ho1, hg1⟩
  go_wp2_with fail
  refine (U1.out _ _ _ ho1.rb).mono ?_
  rintro e w2 ⟨rfl, rfl⟩
  have h1 := h.grew hg1
  clear ho1
  go_wp2_with fail
  refine (copyBytes_any A m c l _ h1 (by omega)).mono ?_
  rintro e w2 ⟨P2, c2, rfl, ho2, hg2⟩
  go_wp2_with fail
  refine (U2.out _ _ _ ho2.rb).mono ?_
  rintro e w3 ⟨rfl, rfl⟩
  have h2 := h1.grew hg2
  have g2 := hg1.trans hg2
  clear ho2 h1 hg1 hg2
  go_wp2_with fail
  refine (copyBytes_any A m c l _ h2 (by omega)).mono ?_
  rintro e w3 ⟨P3, c3, rfl, ho3, hg3⟩
  have hc3 := ho3.cap
  go_wp2_with fail
  refine (U3.out _ _ _ ho3.rb hc3).mono ?_
  rintro e w4 ⟨rfl, rfl⟩
  have h3 := h2.grew hg3
  have g3 := g2.trans hg3
  clear ho3 h2 hg3 g2 hc3
  go_wp2_with fail
  refine (copyBytes_any A m c l _ h3 (by omega)).mono ?_
  rintro e w4 ⟨P4, c4, rfl, ho4, hg4⟩
  have hc4 := ho4.cap
  go_wp2_with fail
  refine (U4.out _ _ _ ho4.rb hc4).mono ?_
  rintro e w5 ⟨B5, C5, rfl, ho5, hg5⟩
  have h5 := (h3.grew hg4).grew hg5
  have g5 := (g3.trans hg4).trans hg5
  clear ho4 h3 hg4 g3 hc4 hg5 h
  go_wp2_with fail
  have hb : RB w5.drew A m l := h5
  have hq : RB w5.drew B5 nq q := ho5.rb
  have hg : Grew w w5.drew := g5.drew
  have hqc := ho5.cap
  clear h5 ho5 g5
  rcases D1.out with ⟨rfl, hn1, p1⟩ | hn1 <;> rcases D2.out with ⟨rfl, hn2, p2⟩ | hn2 <;> rcases D3.out with ⟨rfl, hn3, p3⟩ | hn3
  all_goals
    try (have P1 := Lib.hid p1; clear p1)
    try (have P2 := Lib.hid p2; clear p2)
    try (have P3 := Lib.hid p3; clear p3)
    clear D1 D2 D3
    refine wp_region_text [(3, 1), (23, 1), (30, 1)] (by kernel_rfl) (by kernel_rfl) ?_
    simp only [instr, chk, look, Nat.reduceBEq, Bool.false_eq_true, if_true, if_false, Nat.reduceEqDiff, List.cons_append, List.nil_append]
    generalize w5.drew = W at *
    go_wp2_with fail
  all_goals
    try (
      refine (P1.out _).mono ?_
      rintro e wa ⟨Ra, ca, rfl, hoa, hga⟩
      have hb := hb.grew hga
      have hq := hq.grew hga
      have hg := hg.trans hga
      go_wp2_with fail
      refine (sameBytes_yes _ _ n n _ _ (l.take n) _ hoa.rb (hb.take hn1) (by omega) (by omega)).mono ?_
      rintro e wb ⟨rfl, k, rfl⟩
      have hb := hb.drewN k
      have hq := hq.drewN k
      have hg := hg.drewN k
      clear hoa hga P1
      generalize wa.drewN k = Wa at *
      go_wp2_with fail)
  all_goals
    try (
      refine (P2.out _).mono ?_
      rintro e wc ⟨Rc, cc, rfl, hoc, hgc⟩
      have hb := hb.grew hgc
      have hq := hq.grew hgc
      have hg := hg.trans hgc
      go_wp2_with fail
      refine (sameBytes_yes _ _ k2 k2 _ _ (l.take k2) _ hoc.rb (hb.take hn2) (by omega) (by omega)).mono ?_
      rintro e wb ⟨rfl, k, rfl⟩
      have hb := hb.drewN k
      have hq := hq.drewN k
      have hg := hg.drewN k
      clear hoc hgc P2
      generalize wc.drewN k = Wc at *
      go_wp2_with fail)
  all_goals
    try (
      refine (P3.out _).mono ?_
      rintro e wd ⟨Rd, cd, rfl, hod, hgd⟩
      have hb := hb.grew hgd
      have hq := hq.grew hgd
      have hg := hg.trans hgd
      go_wp2_with fail
      refine (sameBytes_yes _ _ k3 k3 _ _ (l.take k3) _ hod.rb (hb.take hn3) (by omega) (by omega)).mono ?_
      rintro e wb ⟨rfl, k, rfl⟩
      have hb := hb.drewN k
      have hq := hq.drewN k
      have hg := hg.drewN k
      clear hod hgd P3
      generalize wd.drewN k = Wd at *
      go_wp2_with fail)
  all_goals
    refine OnlyN.normal ?_
    rcases D4.out with ⟨rfl, hn4, p4⟩ | ⟨rfl, hn4⟩
  all_goals
    try (have P4 := Lib.hid p4; clear p4)
    clear D4
    go_wp2_with fail
  all_goals
    try (
      refine (awake_any _).mono ?_
      rintro e w4 ⟨rfl, hg4⟩
      go_wp2
      go_ret
      exact ⟨by simp, hg.trans hg4⟩)
  all_goals
    refine (P4.out _ _ _ hq).mono ?_
    rintro e we ⟨Re, ce, rfl, hoe, hge⟩
    have hb := hb.grew hge
    have hg := hg.trans hge
    go_wp2_with fail
    refine (sameBytes_yes _ _ k4 k4 _ _ (l.take k4) _ hoe.rb (hb.take hn4) (by omega) (by omega)).mono ?_
    rintro e wf ⟨rfl, k, rfl⟩
    go_wp2_with fail
    refine (awake_any _).mono ?_
    rintro e w4 ⟨rfl, hg4⟩
    go_wp2
    go_ret
    exact ⟨by simp, (hg.drewN k).trans hg4⟩
end Go.Proofs.Ytbilppcfijpblaa
