/-
  The law ChunkPrefix, walked. Conditions: lengths within the form's reach.
-/
import Derived.Test.YtlilnibinligkaaKk
namespace Go.Proofs.Ytlilnibinligkaa
open Go.RowKit

theorem encGo_take : ∀ (r : List Pnt) (p : Pnt) (d : Int) (w : Win) (k : Nat), ∃ x, encGo p d w r = encGo p d w (r.take k) ++ x
  | [], p, d, w, k => ⟨[], by simp [encGo]⟩
  | q :: r, p, d, w, 0 => ⟨encGo p d w (q :: r), by simp [encGo]⟩
  | q :: r, p, d, w, k + 1 => by
    obtain ⟨x, hx⟩ := encGo_take r q (q.1 - p.1) (valB w (q.2 ^^^ p.2)).2 k
    refine ⟨x, ?_⟩
    rw [List.take_succ_cons]
    simp only [encGo]
    rw [hx]
    simp only [List.append_assoc]
theorem encB_take (ps : List Pnt) (k : Nat) (hk : k ≤ ps.length) : ∃ X Y, encB (ps.take k) = toBits k 13 ++ X ∧ encB ps = toBits ps.length 13 ++ (X ++ Y) := by
  cases k with
  | zero => exact ⟨[], (encB ps).drop 13, by simp [encB], by
      unfold encB
      rw [List.drop_left' (by simp)]
      rfl⟩
  | succ k =>
    cases ps with
    | nil => simp at hk
    | cons p r =>
      obtain ⟨x, hx⟩ := encGo_take r p 0 (0, 0, false) k
      refine ⟨headB p ++ encGo p 0 (0, 0, false) (r.take k), x, ?_, ?_⟩
      · unfold encB
        rw [List.length_take, Nat.min_eq_left hk, List.take_succ_cons]
      · show toBits _ 13 ++ (headB p ++ encGo p 0 (0, 0, false) r) = _
        rw [hx]
        simp only [List.append_assoc]
theorem encB_same (ps : List Pnt) (k : Nat) (hk : k ≤ ps.length) {i : Nat} (h13 : 13 ≤ i) (hi : i < (encB (ps.take k)).length) : (encB ps).getD i false = (encB (ps.take k)).getD i false := by
  obtain ⟨X, Y, h1, h2⟩ := encB_take ps k hk
  rw [h1, List.length_append, length_toBits] at hi
  rw [h1, h2, List.getD_eq_getElem?_getD, List.getD_eq_getElem?_getD, List.getElem?_append_right (l₁ := toBits ps.length 13) (by rw [length_toBits]; exact h13), List.getElem?_append_right (l₁ := toBits k 13) (by rw [length_toBits]; exact h13), length_toBits, length_toBits, List.getElem?_append_left (by omega)]
theorem encB_shorter (ps : List Pnt) (k : Nat) (hk : k ≤ ps.length) : (encB (ps.take k)).length ≤ (encB ps).length := by
  obtain ⟨X, Y, h1, h2⟩ := encB_take ps k hk
  rw [h1, h2]
  simp only [List.length_append, length_toBits]
  omega
theorem Okp.take {ps : List Pnt} (h : Okp ps) (k : Nat) : Okp (ps.take k) := by
  have key : ∀ (i : Nat) (p : Pnt), (ps.take k)[i]? = some p → ps[i]? = some p := fun i p hp => by
    rw [List.getElem?_take] at hp
    split at hp
    · exact hp
    · cases hp
  intro i p hp
  obtain ⟨h1, h2⟩ := h i p (key i p hp)
  exact ⟨h1, fun q hq => h2 q (key _ _ hq)⟩
theorem Okv.take {ps : List Pnt} (h : Okv ps) (k : Nat) : Okv (ps.take k) := fun p hp => h p (List.mem_of_mem_take hp)
theorem bit_byte {l : List UInt8} {i : Nat} {x : UInt8} (h : l[i / 8]? = some x) : bit l i = x.toNat.testBit (7 - i % 8) := by
  unfold bit
  rw [List.getD_eq_getElem?_getD, h]
  rfl
theorem same_walk (x y : UInt8) (s : Nat) (h : x.toNat.testBit s = y.toNat.testBit s) : (bits .and .u8 (bits .xor .u8 (x.toNat : Int) (y.toNat : Int) / 2 ^ s) 1 == 1) = false := by
  have hx := UInt8.toNat_lt x
  have hy := UInt8.toNat_lt y
  have hlt : x.toNat ^^^ y.toNat < 256 := Nat.xor_lt_two_pow (n := 8) hx hy
  rw [u8_xor_nat _ _ hx hy]
  have h0 : (((x.toNat ^^^ y.toNat : Nat) : Int) / 2 ^ s) = (((x.toNat ^^^ y.toNat) / 2 ^ s : Nat) : Int) := by simp
  have hle : (x.toNat ^^^ y.toNat) / 2 ^ s ≤ x.toNat ^^^ y.toNat := Nat.div_le_self _ _
  have h1 := u8_and_nat ((x.toNat ^^^ y.toNat) / 2 ^ s) 1 (by omega) (by omega)
  rw [show ((1 : Nat) : Int) = 1 from rfl] at h1
  have ht : (x.toNat ^^^ y.toNat).testBit s = false := by rw [Nat.testBit_xor, h, Bool.xor_self]
  rw [Nat.testBit_eq_decide_div_mod_eq, decide_eq_false_iff_not] at ht
  rw [h0, h1, nat_mask1]
  simp
  omega

/-- what two rows of points' bytes have alike -/
theorem enc_prefix {ps : List Pnt} {l l' : List UInt8} {er k : Nat} (h : EncIs ps l 0) (hk : k < ps.length) (g : EncIs (ps.take k) l' er) :
    er = 0 ∧ l'.length ≤ l.length ∧ 2 ≤ l'.length ∧ ∀ (i : Nat) (x y : UInt8), 13 ≤ i → i < 8 * (l'.length - 1) → l[i / 8]? = some x → l'[i / 8]? = some y → (bits .and .u8 (bits .xor .u8 (x.toNat : Int) (y.toNat : Int) / 2 ^ (7 - i % 8)) 1 == 1) = false := by
  obtain ⟨h1, h2, h3⟩ := h.ok
  have g1 : EncIs (ps.take k) (pack (encB (ps.take k))) 0 := .inr (.inr ⟨by rw [List.length_take]; omega, h2.take k, rfl, rfl⟩)
  obtain ⟨e1, e2⟩ := g.uniq g1
  have a1 := encB_shorter ps k (by omega)
  have a2 := encB_long (ps.take k)
  refine ⟨e2, by rw [h3, e1, length_pack, length_pack]; omega, by rw [e1, length_pack]; omega, fun i x y hi hi2 hx hy => ?_⟩
  refine same_walk x y _ ?_
  rw [e1, length_pack] at hi2
  rw [← bit_byte hx, ← bit_byte hy, h3, e1, bit_pack, bit_pack]
  exact encB_same ps k (by omega) hi (by omega)

set_option maxRecDepth 100000 in
set_option maxHeartbeats 4000000 in
theorem walk_chunkPrefix (A : Option Addr) (n c : Nat) (ps : List Pnt) (z : Int) (w : World) (h : RE elPt w A n ps) (hn : n ≤ 8796093021952) (hv : Okv ps) (hcc : n ≤ c ∧ c ≤ 9223372036854775807) (_ : (Lit.int .i64 z).wf = true) :
    Calls Try.prog 9 #[.slice A n c, .int .i64 z] w fun e w' => e = .returned (.bool true) ∧ Grew w w' := by
  have HL := Lib.hid h.1
  go_enter Try.func9, Try.ntmps9
  go_wp2_with fail
  refine (copyPoints_any A n c ps _ h (by omega)).mono ?_
  rintro e w1 ⟨P1, c1, rfl, ho1, hg1⟩
  go_wp2_with fail
  refine (encode_any _ n _ ps _ (by exact ho1.re (by decide)) (by omega) hv).mono ?_
  rintro e w2 ⟨B, m, d, l, er, he, rfl, ho2, hg2⟩
  have hg02 := hg1.trans hg2
  have hr2 := h.grew hg02
  have hml : l.length = m := ho2.len
  have hm2 := he.len
  clear ho1 hg1 hg2
  by_cases h0 : er = 0
  · subst h0
    by_cases hn0 : n = 0
    · subst hn0
      go_wp2_with fail
      refine (awake_any _).mono ?_
      rintro e w3 ⟨rfl, hg3⟩
      go_wp2
      go_ret
      exact ⟨by simp, hg02.trans hg3⟩
    · have hn1 : ((n : Int) == 0) = false := by simp; omega
      go_wp2_with fail
      refine (low_any _ _).mono ?_
      rintro e w5 ⟨r, hr, rfl, rfl⟩
      obtain ⟨k, hk⟩ : ∃ k, k = r % n := ⟨_, rfl⟩
      have hkl : k < n := by rw [hk]; exact Nat.mod_lt _ (by omega)
      have hkz : (r : Int) % (n : Int) = (k : Int) := by rw [hk]; simp
      clear hk
      go_wp2_with fail
      refine (copyPoints_any A k _ (ps.take k) _ (by exact hr2.take (by omega)) (by omega)).mono ?_
      rintro e w6 ⟨P6, c6, rfl, ho6, hg6⟩
      have hg06 := hg02.trans hg6
      have ho26 := ho2.grew hg6
      go_wp2_with fail
      refine (encode_any _ k _ (ps.take k) _ (by exact ho6.re (by decide)) (by omega) (hv.take k)).mono ?_
      rintro e w7 ⟨B7, m7, d7, l7, er7, he7, rfl, ho7, hg7⟩
      have hml7 : l7.length = m7 := ho7.len
      obtain ⟨rfl, b1, b2, hpre⟩ := enc_prefix he (by rw [HL.out]; exact hkl) he7
      rw [hml7] at hpre b1 b2
      rw [hml] at b1
      have Hpre := Lib.hid hpre
      have hg07 := hg06.trans hg7
      have ho27 := ho26.grew hg7
      have t1 : decide ((m : Int) < (m7 : Int)) = false := decide_eq_false (by omega)
      have t2 : decide ((m7 : Int) < 2) = false := decide_eq_false (by omega)
      clear hpre he he7 hg6 hg7 hg02 hg06 ho2 ho26 ho6 hr2
      go_wp2
      obtain ⟨wo, rfl⟩ : ∃ wo : World, wo = w7 := ⟨_, rfl⟩
      go_loopw [10] (fun si wr => ∃ j : Nat, 13 ≤ j ∧ j ≤ 8 * m7 + 13 ∧ si = .int .i64 (j : Int) ∧ Grew wo wr) (fun si _ => 8 * m7 + 13 - (intOf si).toNat)
      case atStart => exact ⟨13, by omega, by omega, rfl, Chg.refl _ _⟩
      case round =>
        obtain ⟨j, hj13, hj, rfl, hg9⟩ := hrel
        by_cases hlt : j < 8 * (m7 - 1)
        · have t3 : decide ((j : Int) < 8 * ((m7 : Int) - 1)) = true := decide_eq_true (by omega)
          obtain ⟨ad, x, rfl, hx, hcx⟩ := (ho27.grew hg9).rb.at_ (k := j / 8) (by omega)
          obtain ⟨bd, y, rfl, hy, hcy⟩ := (ho7.grew hg9).rb.at_ (k := j / 8) (by omega)
          have hw := Hpre.out j x y hj13 hlt hx hy
          have j1 : j / 8 < m := by omega
          have j2 : j / 8 < m7 := by omega
          go_wp2
          go_quiet (fail)
          go_wp2
          go_roundw
          case rel =>
            first | exact ⟨j + 1, by omega, by omega, by go_num, hg9.drewN _⟩ | ((repeat apply Exists.intro); refine ⟨?_, rfl⟩; exact ⟨j + 1, by omega, by omega, by go_num, hg9.drewN _⟩)
          case measure => simp [intOf]; omega
        · have t3 : decide ((j : Int) < 8 * ((m7 : Int) - 1)) = false := decide_eq_false (by omega)
          go_wp2_with fail
          refine (awake_any _).mono ?_
          rintro e w13 ⟨rfl, hg13⟩
          go_wp2
          go_ret
          exact ⟨by simp, (hg07.trans hg9).trans hg13⟩
  · obtain ⟨rfl, _⟩ := he.no h0
    have hd : ((er : Int) == 0) = false := by simp; omega
    go_wp2_with fail
    refine (awake_any _).mono ?_
    rintro e w3 ⟨rfl, hg3⟩
    go_wp2
    go_ret
    exact ⟨by simp, hg02.trans hg3⟩
end Go.Proofs.Ytlilnibinligkaa
