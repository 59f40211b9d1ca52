/-
  The law CodecBack, walked, for bytes and texts of at most 1048576: it returns true, and nothing that was there has turned. Conditions: those lengths.
-/
import Derived.Test.YtbilppcfijpblaaCa
import Derived.OpenShut
namespace Go.Proofs.Ytbilppcfijpblaa
open Go.RowKit

theorem uintR_at (p r : List UInt8) (v : Nat) (hv : v < 18446744073709551616) : uintR (p ++ (uv v ++ r)) (p.length : Int) = (v, p.length + (uv v).length, 0) := by
  have h := ur_uv r v 0 0 (Or.inl rfl) (by omega) (by omega)
  unfold uintR
  rw [if_pos ⟨by omega, by simp only [List.length_append]; omega⟩, Int.toNat_natCast, List.drop_left, h]
  simp
theorem textR_at (p t r : List UInt8) (n : Nat) (ht : t.length = n) (hn : n < 18446744073709551616) : textR (p ++ (uv n ++ (t ++ r))) (p.length : Int) = (t, p.length + (uv n).length + n, 0) := by
  unfold textR
  rw [uintR_at p (t ++ r) n hn]
  unfold textOf
  rw [if_neg (by simp), if_neg (by simp only [List.length_append]; omega)]
  have e : (p ++ (uv n ++ (t ++ r))).drop (p.length + (uv n).length) = t ++ r := by
    rw [← List.append_assoc, ← List.length_append, List.drop_left]
  simp only [e]
  rw [List.take_left' ht]
theorem unfR_at (p q r : List UInt8) (hq : q.length ≤ 65536) : unfR (p ++ (frameB q ++ r)) (p.length : Int) = (q, p.length + ((uv q.length).length + 4 + q.length), 0) := by
  unfold unfR frameB
  rw [show p ++ (uv q.length ++ four (crc q) ++ q ++ r) = p ++ (uv q.length ++ (four (crc q) ++ (q ++ r))) by simp only [List.append_assoc], uintR_at p _ q.length (by omega)]
  have h4 : (four (crc q)).length = 4 := rfl
  have e : (p ++ (uv q.length ++ (four (crc q) ++ (q ++ r)))).drop (p.length + (uv q.length).length) = four (crc q) ++ (q ++ r) := by
    rw [← List.append_assoc, ← List.length_append, List.drop_left]
  have e2 : (p ++ (uv q.length ++ (four (crc q) ++ (q ++ r)))).drop (p.length + (uv q.length).length + 4) = q ++ r := by
    rw [← List.drop_drop, e, List.drop_left' h4]
  have hrec : recOf (p ++ (uv q.length ++ (four (crc q) ++ (q ++ r)))) (p.length + (uv q.length).length) q.length = (q, p.length + (uv q.length).length + 4 + q.length, 0) := by
    unfold recOf
    rw [if_neg (by simp only [List.length_append, h4]; omega), e, e2, List.take_left' h4, List.take_left, beN_four _ (crc_lt q)]
    simp
  unfold unfOf
  have hle : lenE (q.length, p.length + (uv q.length).length, 0) = 0 := by
    unfold lenE
    rw [if_neg (by simp), if_neg (by simp only; omega)]
  rw [hle]
  simp only [hrec]
  simp
  omega

set_option maxRecDepth 100000 in
set_option maxHeartbeats 4000000 in
theorem walk_codecBack (A : Option Addr) (m c : Nat) (lh : List UInt8) (T : Option Addr) (mt ct : Nat) (lt : List UInt8) (vz x : Int) (s : ByteArray) (D : Option Addr) (md cd : Nat) (lr : List UInt8) (w : World)
    (h : RB w A m lh) (hm : m ≤ 1048576) (ht : RB w T mt lt) (hmt : mt ≤ 1048576) (hv : (Lit.int .u64 vz).wf = true) (hx : (Lit.int .i64 x).wf = true) (hs : s.size ≤ 1048576) (hd : RB w D md lr) (hmd : md ≤ 1048576) :
    Calls Try.prog 5 #[.slice A m c, .slice T mt ct, .int .u64 vz, .int .i64 x, .string s, .slice D md cd] w fun e w' => e = .returned (.bool true) ∧ Grew w w' := by
  have bv := Go.bounds_u64 hv
  have bx := Go.bounds_i64 hx
  obtain ⟨v, rfl⟩ := Int.eq_ofNat_of_zero_le bv.1
  have hv2 : v < 18446744073709551616 := by omega
  have hl : lh.length = m := h.1
  have hlr : lr.length = md := hd.1
  have zx := zz_lt (x := x) (by omega) (by omega)
  have z1 := uv_len10 hv2
  have z2 := uv_len10 zx
  have z3 := uv_len10 (v := s.size) (by omega)
  have hsl : s.data.toList.length = s.size := by rw [Array.length_toList]; rfl
  have hse : (⟨s.data.toList.toArray⟩ : ByteArray) = s := by simp
  have ⟨n1, l1, n2, l2, nb, lb, hbd, a1, a2, a3, r1, r2, r3, r4⟩ : ∃ (n1 : Nat) (l1 : List UInt8) (n2 : Nat) (l2 : List UInt8) (nb : Nat) (lb : List UInt8), (n1 ≤ 3000000 ∧ n2 ≤ 3000000 ∧ nb ≤ 3000000) ∧
      (∀ A c w, RB w A m lh → Calls Try.prog 10 #[.slice A m c, .int .u64 (v : Int)] w (NewB w n1 l1)) ∧
      (∀ A c w, RB w A n1 l1 → Calls Try.prog 11 #[.slice A n1 c, .int .i64 x] w (NewB w n2 l2)) ∧
      (∀ A c w, RB w A n2 l2 → Calls Try.prog 12 #[.slice A n2 c, .string s] w (NewB w nb lb)) ∧
      (∀ fl A n c w, RB w A n (lb ++ fl ++ lt) → n ≤ 9000000 → Calls Try.prog 24 #[.slice A n c, .int .i64 (m : Int)] w fun e w' => e = .returned (.tuple #[.int .u64 (v : Int), .int .i64 (n1 : Int), .int .i64 0]) ∧ w' = w) ∧
      (∀ fl A n c w, RB w A n (lb ++ fl ++ lt) → n ≤ 9000000 → Calls Try.prog 25 #[.slice A n c, .int .i64 (n1 : Int)] w fun e w' => e = .returned (.tuple #[.int .i64 x, .int .i64 (n2 : Int), .int .i64 0]) ∧ w' = w) ∧
      (∀ fl A n c w, RB w A n (lb ++ fl ++ lt) → n ≤ 9000000 → n ≤ c ∧ c ≤ 9223372036854775807 → Calls Try.prog 26 #[.slice A n c, .int .i64 (n2 : Int)] w fun e w' => e = .returned (.tuple #[.string s, .int .i64 (nb : Int), .int .i64 0]) ∧ w' = w) ∧
      (md ≤ 65536 → ∀ A n c w, RB w A n (lb ++ frameB lr ++ lt) → n ≤ 9000000 → n ≤ c ∧ c ≤ 9223372036854775807 → Calls Try.prog 27 #[.slice A n c, .int .i64 (nb : Int)] w (UnfPost w (lr, nb + ((uv md).length + 4 + md), 0))) := by
    refine ⟨_, _, _, _, _, _, ⟨?_, ?_, ?_⟩, fun A c w h => putUint_any A m c lh v v w h rfl (by omega) hv2, fun A c w h => putInt_any A _ c _ x w h (by omega) (by omega) (by omega), fun A c w h => putText_any A _ c _ s w h (by omega), ?_, ?_, ?_, ?_⟩
    · omega
    · omega
    · omega
    · intro fl A n c w h hn
      have := uint_any A n c _ (m : Int) w h (by omega)
      unfold UintPost uintEnd at this
      simp only [List.append_assoc] at this
      rw [← hl, uintR_at lh _ v hv2, hl] at this
      exact this
    · intro fl A n c w h hn
      have := int_any A n c _ ((m + (uv v).length : Nat) : Int) w h (by omega)
      unfold IntPost at this
      have e := uintR_at (lh ++ uv v) (uv s.size ++ (s.data.toList ++ (fl ++ lt))) (zz x) zx
      simp only [List.append_assoc, List.length_append, hl] at this e
      rw [e] at this
      simp only [uz_zz] at this
      exact this
    · intro fl A n c w h hn hc
      have := text_any A n c _ ((m + (uv v).length + (uv (zz x)).length : Nat) : Int) w h (by omega) hc
      unfold TextPost textEnd at this
      have e := textR_at (lh ++ uv v ++ uv (zz x)) s.data.toList (fl ++ lt) s.size hsl (by omega)
      simp only [List.append_assoc, List.length_append, hl] at this e
      rw [← Nat.add_assoc] at e
      rw [e] at this
      simp only [hse] at this
      exact this
    · intro h6 A n c w h hn hc
      have := unframe_any A n c _ ((m + (uv v).length + (uv (zz x)).length + (uv s.size).length + s.size : Nat) : Int) w h (by omega) hc
      have e := unfR_at (lh ++ uv v ++ uv (zz x) ++ uv s.size ++ s.data.toList) lr lt (by omega)
      simp only [List.append_assoc, List.length_append, hl, hsl, hlr] at this e
      simp only [← Nat.add_assoc] at this e ⊢
      rw [e] at this
      exact this
  have ⟨fn, fl, er, hfn, f1, hcase⟩ : ∃ (fn : Nat) (fl : List UInt8) (er : Nat), fn ≤ 100000 ∧ (∀ A c w, RB w A md lr → Calls Try.prog 14 #[.slice A md c] w (BytesE w fn fl er)) ∧
      ((md ≤ 65536 ∧ er = 0 ∧ fl = frameB lr ∧ (uv md).length + 4 + md = fn) ∨ (65536 < md ∧ er = 23 ∧ fn = 0)) := by
    by_cases h6 : md ≤ 65536
    · have := uv_len10 (v := md) (by omega)
      exact ⟨_, _, 0, by omega, fun A c w h => frame_any A md c lr w h h6, Or.inl ⟨h6, rfl, rfl, rfl⟩⟩
    · refine ⟨0, [], 23, by omega, fun A c w _ => (frame_no A md c w (by omega) (by omega)).mono ?_, Or.inr ⟨by omega, rfl, rfl⟩⟩
      rintro e w' ⟨rfl, rfl⟩
      exact ⟨none, 0, rfl, Own.nil _ _ _ _, Chg.refl _ _⟩
  have X1 := Lib.hid a1
  have X2 := Lib.hid a2
  have X3 := Lib.hid a3
  have X4 := Lib.hid f1
  have Y1 := Lib.hid r1
  have Y2 := Lib.hid r2
  have Y3 := Lib.hid r3
  have Y4 := Lib.hid r4
  have HC := Lib.hid hcase
  clear a1 a2 a3 f1 r1 r2 r3 r4 hl hlr hsl hse z1 z2 z3 zx hv hx bv bx hv2 hs hcase
  go_enter Try.func5, Try.ntmps5
  go_wp2_with fail
  refine (copyBytes_any A m c lh _ h (by omega)).mono ?_
  rintro e w1 ⟨P0, c0, rfl, ho0, hg1⟩
  go_wp2_with fail
  refine (X1.out _ _ _ ho0.rb).mono ?_
  rintro e w2 ⟨P1, c1, rfl, ho1, hg2⟩
  go_wp2_with fail
  refine (X2.out _ _ _ ho1.rb).mono ?_
  rintro e w3 ⟨P2, c2, rfl, ho2, hg3⟩
  go_wp2_with fail
  refine (X3.out _ _ _ ho2.rb).mono ?_
  rintro e w4 ⟨P3, c3, rfl, ho3, hg4⟩
  have g04 : Grew w w4 := ((hg1.trans hg2).trans hg3).trans hg4
  clear hg1 hg2 hg3 hg4 ho0 ho1 ho2
  go_wp2_with fail
  refine (copyBytes_any D md cd lr _ (hd.grew g04) (by omega)).mono ?_
  rintro e w5 ⟨P5, c5, rfl, ho5, hg5⟩
  go_wp2_with fail
  refine (X4.out _ _ _ ho5.rb).mono ?_
  rintro e w6 ⟨P6, c6, rfl, ho6, hg6⟩
  have hb6 := (ho3.grew hg5).grew hg6
  have g06 := (g04.trans hg5).trans hg6
  clear ho5 ho3 hg5 hg6 g04
  go_wp2_with fail
  refine (copyBytes_any P3 nb c3 lb _ hb6.rb (by omega)).mono ?_
  rintro e w7 ⟨P7, c7, rfl, ho7, hg7⟩
  have hf7 := ho6.grew hg7
  have g07 := g06.trans hg7
  have s7 := hg7.size
  have s6 := g06.size
  have q7 := Own.blk_lt ho7
  have q6 := Own.blk_lt ho6
  clear ho6 g06 hb6
  go_wp2_with (first
    | (at_builtin; refine wpList_appB rfl _ _ rfl w6.heap.size P7 nb c7 lb rfl ho7 (by omega) P6 fn c6 fl rfl hf7.rb (by omega) ?_; intro P8 c8 w8 h8)
    | (at_builtin; refine wpList_appB rfl _ _ rfl w6.heap.size P8 (nb + fn) c8 (lb ++ fl) rfl h8.ob (by have := h8.chg.size; omega) T mt ct lt rfl ((ht.grew g07).far h8.chg (by rintro ad e h0 ⟨bd, e2, e3⟩; have := ht.lt ad e h0; have := q7 bd e2; omega)) (by omega) ?_; intro P9 c9 w9 h9))
  have t1 := h9.ob.rb
  have hc9 := h9.ob.cap
  have q8 := Own.blk_lt h8.ob
  have g08 : Grew w w8 := g07.step h8.chg (by rintro x hx ⟨bd, e2, e3⟩; have := q7 bd e2; omega)
  have g09 : Grew w w9 := g08.step h9.chg (by rintro x hx ⟨bd, e2, e3⟩; have := q8 bd e2; omega)
  have hd9 := hd.grew g09
  have hln := hd.1
  clear g07 g08 q6 q7 q8 h8 h9 ho7 hf7 h ht hd
  refine (Y1.out fl _ _ _ _ t1 (by omega)).mono ?_
  rintro e w10 ⟨rfl, rfl⟩
  go_wp2_with fail
  refine (Y2.out fl _ _ _ _ t1 (by omega)).mono ?_
  rintro e w10 ⟨rfl, rfl⟩
  go_wp2_with fail
  refine (Y3.out fl _ _ _ _ t1 (by omega) hc9).mono ?_
  rintro e w10 ⟨rfl, rfl⟩
  rcases HC.out with ⟨h6, rfl, rfl, hfe⟩ | ⟨h6, rfl, rfl⟩
  · have y4 := Y4.out h6
    rw [hfe] at y4
    have Y4' := Lib.hid y4
    clear y4 hfe
    have hdec : decide ((65536 : Int) < (md : Int)) = false := decide_eq_false (by omega)
    go_wp2_with fail
    refine (Y4'.out _ _ _ _ t1 (by omega) hc9).mono ?_
    unfold UnfPost
    rintro e w11 ⟨B, n, C, rfl, ho11, hg11⟩
    have hn := ho11.len
    have hnm : n = md := by simp only at hn; omega
    subst hnm
    clear hn hln
    go_wp2_with fail
    refine (sameBytes_yes _ _ n n _ _ lr _ ho11.rb (hd9.grew hg11) (by omega) (by omega)).mono ?_
    rintro e w12 ⟨rfl, k12, rfl⟩
    go_wp2_with fail
    refine (awake_any _).mono ?_
    rintro e w13 ⟨rfl, hg13⟩
    go_wp2
    go_ret
    exact ⟨by simp, ((g09.trans hg11).drewN k12).trans hg13⟩
  · have hdec : decide ((65536 : Int) < (md : Int)) = true := decide_eq_true (by omega)
    go_wp2_with fail
    refine (awake_any _).mono ?_
    rintro e w13 ⟨rfl, hg13⟩
    go_wp2
    go_ret
    exact ⟨by simp, g09.trans hg13⟩
end Go.Proofs.Ytbilppcfijpblaa
