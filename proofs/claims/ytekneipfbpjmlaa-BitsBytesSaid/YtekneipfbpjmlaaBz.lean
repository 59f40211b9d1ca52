/-
  Package bits: Append, Read, and the reference's Append: told by lists of bits. Conditions: lengths that memory bears.
-/
import Derived.Test.YtekneipfbpjmlaaBy
namespace Go.Proofs.Ytekneipfbpjmlaa
open Go.RowKit

/-- new bytes that hold these bits, their number, and true -/
def AppPost (w : World) (n : Nat) (bs : List Bool) (e : Ending) (w' : World) : Prop :=
  ∃ A m c, e = .returned (.tuple #[.slice A m c, .int .i64 (n : Int), .bool true]) ∧ OB w' w.heap.size 5 A m c (pack bs) ∧ Grew w w'

set_option maxRecDepth 100000 in
set_option maxHeartbeats 2000000 in
theorem append_ok (A : Option Addr) (m c : Nat) (bs : List Bool) (v k : Nat) (w : World) (h : RB w A m (pack bs)) (hm : m ≤ 140737488355200) (hv : v < 18446744073709551616) (hk : k ≤ 64) :
    Calls Try.prog 9 #[.slice A m c, .int .i64 (bs.length : Int), .int .u64 (v : Int), .int .i64 (k : Int)] w (AppPost w (bs.length + k) (bs ++ toBits v k)) := by
  have hN : bs.length ≤ 140737488355200 * 8 := by
    have := h.1
    simp at this
    omega
  have hw : wholeB (pack bs) bs.length = true := wholeB_pack bs
  generalize hn : bs.length = n at hw hN ⊢
  have Hn := Lib.hid hn
  clear hn
  have hown : OB (w.alloc (.cells #[] 5)) w.heap.size 5 (some ⟨w.heap.size, 0, none⟩) 0 0 [] := Own.made w w.heap.size 5 1 (Nat.le_refl _)
  have hr : RB (w.alloc (.cells #[] 5)) A m (pack bs) := h.grew ((Chg.refl _ w).alloc _)
  go_enter Try.func9, Try.ntmps9
  go_wp2_with fail
  refine (whole_any A m c (pack bs) n _ h (by omega)).mono ?_
  rintro e w' ⟨rfl, rfl⟩
  go_wp2_with (at_builtin; refine wpList_appB rfl _ _ rfl w'.heap.size _ 0 0 [] rfl hown (by simp) A m c (pack bs) rfl hr (by omega) ?_; intro A1 c1 w1 h1)
  simp only [Nat.zero_add, List.nil_append] at h1
  have hg1 : Grew w' w1 := h1.grew ((Chg.refl _ w').alloc _) (head_ge (Nat.le_refl _))
  have hs1 := hg1.size
  have hb2 := Blk.new w1 39 #[.slice A1 m c1, .int .i64 (n : Int)]
  have ho2 := h1.ob.grew ((Chg.refl _ w1).alloc (.cells #[.slice A1 m c1, .int .i64 (n : Int)] 39))
  have hn := Hn.out
  subst hn
  refine (put_any w1.heap.size A1 m c1 bs v k w'.heap.size _ hb2 ho2 (by simp; omega) hv hk hN).mono ?_
  rintro e w3 ⟨B, M, C, rfl, hb3, ho3, hc3, hB3⟩
  have hc0 : w3.cell? ⟨w1.heap.size, 0, none⟩ = some (.slice B M C) := by rw [hb3.cell]; rfl
  have hc1 : w3.cell? ⟨w1.heap.size, 1, none⟩ = some (.int .i64 ((bs.length + k : Nat) : Int)) := by rw [hb3.cell]; rfl
  go_wp2
  go_quiet (fail)
  go_wp2
  go_ret3
  refine ⟨B, M, C, by simp, ho3.drewN _, ?_⟩
  refine Chg.drewN ?_ _
  refine (hg1.alloc _).step hc3 ?_
  rintro x hx (rfl | ⟨ad, e1, rfl⟩)
  · omega
  · have := (Own.blk_lt h1.ob ad e1).1
    omega

set_option maxRecDepth 100000 in
set_option maxHeartbeats 2000000 in
theorem append_no (A : Option Addr) (m c : Nat) (l : List UInt8) (n v k : Int) (w : World) (h : RB w A m l) (hm : m ≤ 140737488355200) (hno : (wholeB l n && decide (0 ≤ k ∧ k ≤ 64)) = false) :
    Calls Try.prog 9 #[.slice A m c, .int .i64 n, .int .u64 v, .int .i64 k] w fun e w' => e = .returned (.tuple #[.slice none 0 0, .int .i64 0, .bool false]) ∧ w' = w := by
  by_cases hw : wholeB l n = true
  · have hk : ¬ (0 ≤ k ∧ k ≤ 64) := by simpa [hw] using hno
    clear hno
    by_cases h0 : k < 0
    · have hd : decide (k < 0) = true := by simpa using h0
      go_enter Try.func9, Try.ntmps9
      go_wp2_with (go_at_call 10; refine (whole_any A m c l n _ h (by omega)).mono ?_; rintro e w' ⟨rfl, rfl⟩)
      go_ret3
      exact ⟨by simp, rfl⟩
    · have hd : decide (k < 0) = false := by simpa using h0
      have hd2 : 64 < k := by omega
      go_enter Try.func9, Try.ntmps9
      go_wp2_with (go_at_call 10; refine (whole_any A m c l n _ h (by omega)).mono ?_; rintro e w' ⟨rfl, rfl⟩)
      go_ret3
      exact ⟨by simp, rfl⟩
  · have hw1 : wholeB l n = false := by simpa using hw
    clear hw hno
    go_enter Try.func9, Try.ntmps9
    go_wp2_with (go_at_call 10; refine (whole_any A m c l n _ h (by omega)).mono ?_; rintro e w' ⟨rfl, rfl⟩)
    go_ret3
    exact ⟨by simp, rfl⟩

set_option maxRecDepth 100000 in
set_option maxHeartbeats 2000000 in
theorem read_ok (A : Option Addr) (m c : Nat) (l : List UInt8) (n a k : Nat) (w : World) (h : RB w A m l) (hm : m ≤ 140737488355200) (hk : k ≤ 64) (hw : wholeB l n = true) (hle : a + k ≤ n) :
    Calls Try.prog 18 #[.slice A m c, .int .i64 (n : Int), .int .i64 (a : Int), .int .i64 (k : Int)] w fun e w' => e = .returned (.tuple #[.int .u64 ((val (((bitsOf l n).drop a).take k) : Nat) : Int), .bool true]) ∧ Grew w w' := by
  have hn : n ≤ 8 * m := by
    have := (wholeB_iff l n).1 hw
    have := h.1
    simp at *
    omega
  go_enter Try.func18, Try.ntmps18
  go_wp2_with fail
  refine (whole_any A m c l n _ h (by omega)).mono ?_
  rintro e w' ⟨rfl, rfl⟩
  go_wp2_with fail
  have hb2 := Blk.new w' 42 #[.slice A m c, .int .i64 (n : Int), .int .i64 (a : Int)]
  have hr2 := h.grew ((Chg.refl _ w').alloc (.cells #[.slice A m c, .int .i64 (n : Int), .int .i64 (a : Int)] 42))
  refine (take_any w'.heap.size A m c l n a k _ hb2 hr2 ?_ hk hn (by omega) hle).mono ?_
  · intro ad e hm0
    have := h.lt ad e hm0
    omega
  rintro e w3 ⟨rfl, hb3, hc3⟩
  go_wp2
  go_ret2
  refine ⟨by simp, ?_⟩
  exact ((Chg.refl _ w').alloc _).step hc3 (by rintro x hx rfl; omega)


set_option maxRecDepth 100000 in
set_option maxHeartbeats 4000000 in
theorem refAppend_ok (A : Option Addr) (m c : Nat) (bs : List Bool) (v k : Nat) (w : World) (h : RB w A m (pack bs)) (hm : m ≤ 140737488355200) (hv : v < 18446744073709551616) (hk : k ≤ 64) :
    Calls Try.prog 7 #[.slice A m c, .int .i64 (bs.length : Int), .int .u64 (v : Int), .int .i64 (k : Int)] w (AppPost w (bs.length + k) (bs ++ toBits v k)) := by
  have hN : bs.length ≤ 140737488355200 * 8 := by
    have := h.1
    simp at this
    omega
  have hw : wholeB (pack bs) bs.length = true := wholeB_pack bs
  generalize hn : bs.length = n at hw hN ⊢
  have Hn := Lib.hid hn
  clear hn
  have hown : OB (w.alloc (.cells #[] 5)) w.heap.size 5 (some ⟨w.heap.size, 0, none⟩) 0 0 [] := Own.made w w.heap.size 5 1 (Nat.le_refl _)
  have hr : RB (w.alloc (.cells #[] 5)) A m (pack bs) := h.grew ((Chg.refl _ w).alloc _)
  go_enter Try.func7, Try.ntmps7
  go_wp2_with fail
  refine (refWhole_any A m c (pack bs) n _ h (by omega) (by omega)).mono ?_
  rintro e w' ⟨rfl, rfl⟩
  go_wp2_with (at_builtin; refine wpList_appB rfl _ _ rfl w'.heap.size _ 0 0 [] rfl hown (by simp) A m c (pack bs) rfl hr (by omega) ?_; intro A1 c1 w1 h1)
  simp only [Nat.zero_add, List.nil_append] at h1
  have hg1 : Grew w' w1 := h1.grew ((Chg.refl _ w').alloc _) (head_ge (Nat.le_refl _))
  have ho1 := h1.ob
  clear h1
  go_loopw [1, 11, 12] (fun sn so si wr => ∃ (j p M C : Nat) (B : Option Addr) (bs' : List Bool), j ≤ k ∧ p + j = n + k ∧ Hid (bs'.length = p) ∧ Hid (bs' ++ toBits v j = bs ++ toBits v k) ∧ sn = .int .i64 (p : Int) ∧ so = .slice B M C ∧ si = .int .i64 ((j : Int) - 1) ∧
     OB wr w'.heap.size 5 B M C (pack bs') ∧ Grew w' wr) (fun _ _ i _ => (intOf i + 1).toNat)
  case atStart => exact ⟨k, n, m, c1, A1, bs, Nat.le_refl _, rfl, Hn.out, rfl, rfl, rfl, rfl, ho1, hg1⟩
  case round =>
    clear hown hr h ho1 hg1 w1
    obtain ⟨j, p, M, C, B, bs', hj, hpj, Hlen, Hbs, rfl, rfl, rfl, ho, hg⟩ := hrel
    have hM := ho.len
    rw [length_pack, Hlen.out] at hM
    have hM1 : p ≤ 8 * M := by omega
    have hM2 : 8 * M ≤ p + 7 := by omega
    have hp' : p ≤ 140737488355200 * 8 + 64 := by omega
    have Hpj := Lib.hid hpj
    clear hM hpj
    have hsz := hg.size
    by_cases hj0 : j = 0
    · subst hj0
      go_wp2
      go_ret3
      have h1 := Hbs.out
      have h2 := Hpj.out
      rw [← h1]
      refine ⟨B, M, C, ?_, by simpa [toBits] using ho, hg⟩
      simp
      omega
    · obtain ⟨i, rfl⟩ : ∃ i, j = i + 1 := ⟨j - 1, by omega⟩
      have hi1 : ((i + 1 : Nat) : Int) - 1 = (i : Int) := by omega
      rw [hi1]
      have hr := RB.new wr [0] 1 #[.int .u8 0] 5 rfl rfl
      have ho1 := OB.grew ho ((Chg.refl _ wr).alloc (.cells #[.int .u8 0] 5))
      clear hi1
      go_upto_if 36 with (fail)
      go_cut [11] (fun so wx => ∃ (M C : Nat) (B : Option Addr) (l : List UInt8), so = .slice B M C ∧ Hid (l = if p % 8 = 0 then pack bs' ++ [0] else pack bs') ∧ OB wx w'.heap.size 5 B M C l ∧ p < 8 * M ∧ 8 * M ≤ p + 8 ∧ Grew w' wx)
      case first =>
        by_cases hn8 : p % 8 = 0
        · have hn9 : ((p : Int) % 8 == 0) = true := by simp; omega
          go_wp2_with (at_builtin; refine wpList_appB rfl _ _ rfl w'.heap.size B M C (pack bs') rfl ho1 (by simp; omega) _ 1 1 [0] rfl hr (by omega) ?_; intro A2 c2 w2 h2)
          go_meet
          refine ⟨M + 1, c2, A2, pack bs' ++ [0], rfl, ?_, h2.ob, by omega, by omega, h2.grew (hg.alloc _) fun ad e => (Own.blk_lt ho ad e).1⟩
          show _ = _
          rw [if_pos hn8]
        · have hn9 : ((p : Int) % 8 == 0) = false := by simp; omega
          go_wp2
          go_meet
          refine ⟨M, C, B, pack bs', rfl, ?_, ho, by omega, by omega, hg⟩
          show _ = _
          rw [if_neg hn8]
      case rest =>
        clear hM1 hM2 hr ho1 ho hg hsz
        obtain ⟨M, C, B, l, rfl, Hl, ho, hM, hM2, hg⟩ := hcut
        have hM3 : p / 8 < M := by omega
        obtain ⟨g2, rfl, hbg, hg2, hcs, hfs, hca, hcb⟩ := Own.at_ ho (by omega)
        have hc2 : wc.cell? ⟨g2, p / 8, none⟩ = some (.int .u8 (l.getD (p / 8) 0).toNat) := by
          rw [hcs _ (by omega)]
          have := ho.len
          simp [byt, List.getD, show p / 8 < l.length by omega]
        have hf2 := hfs (p / 8)
        clear hcs hfs
        go_wp2
        go_region
        go_wp2
        rw [orb_walk (l[p / 8]?.getD 0) v i (7 - p % 8) hv (by omega)]
        refine ⟨⟨i, p + 1, M, C, some ⟨g2, 0, none⟩, bs' ++ [v.testBit i], by omega, ?_, ?_, ?_, by simp, rfl, rfl, ?_, ?_⟩, by simp [intOf]⟩
        · have := Hpj.out; omega
        · show _ = _
          have := Hlen.out; simp; omega
        · show _ = _
          rw [← Hbs.out, List.append_assoc]
          rfl
        · rw [pack_snoc bs' (v.testBit i) l (by rw [Hlen.out]; exact Hl.out), Hlen.out, List.getD_eq_getElem?_getD]
          have h3 := Own.set ho (p / 8) (byt (orb (l[p / 8]?.getD 0) (v.testBit i) (7 - p % 8)))
          rw [← List.map_set] at h3
          exact h3
        · exact Chg.drew (hg.setCell (p := ⟨g2, p / 8, none⟩) (.inl hbg) _)

set_option maxRecDepth 100000 in
set_option maxHeartbeats 2000000 in
theorem refAppend_no (A : Option Addr) (m c : Nat) (l : List UInt8) (n v k : Int) (w : World) (h : RB w A m l) (hm : m ≤ 140737488355200) (hn : n ≤ 9223372036854775807) (hno : (wholeB l n && decide (0 ≤ k ∧ k ≤ 64)) = false) :
    Calls Try.prog 7 #[.slice A m c, .int .i64 n, .int .u64 v, .int .i64 k] w fun e w' => e = .returned (.tuple #[.slice none 0 0, .int .i64 0, .bool false]) ∧ w' = w := by
  by_cases hw : wholeB l n = true
  · have hk : ¬ (0 ≤ k ∧ k ≤ 64) := by simpa [hw] using hno
    clear hno
    by_cases h0 : k < 0
    · have hd : decide (k < 0) = true := by simpa using h0
      go_enter Try.func7, Try.ntmps7
      go_wp2_with (go_at_call 14; refine (refWhole_any A m c l n _ h (by omega) hn).mono ?_; rintro e w' ⟨rfl, rfl⟩)
      go_ret3
      exact ⟨by simp, rfl⟩
    · have hd : decide (k < 0) = false := by simpa using h0
      have hd2 : 64 < k := by omega
      go_enter Try.func7, Try.ntmps7
      go_wp2_with (go_at_call 14; refine (refWhole_any A m c l n _ h (by omega) hn).mono ?_; rintro e w' ⟨rfl, rfl⟩)
      go_ret3
      exact ⟨by simp, rfl⟩
  · have hw1 : wholeB l n = false := by simpa using hw
    clear hw hno
    go_enter Try.func7, Try.ntmps7
    go_wp2_with (go_at_call 14; refine (refWhole_any A m c l n _ h (by omega) hn).mono ?_; rintro e w' ⟨rfl, rfl⟩)
    go_ret3
    exact ⟨by simp, rfl⟩
end Go.Proofs.Ytekneipfbpjmlaa
