/-
  Package chunk: a row of bits on its way (RowIs, RChg), noughts, class: what each call does. Conditions: lengths that memory bears.
-/
import Derived.Test.YtlilnibinligkaaBw
import Derived.Test.YtlilnibinligkaaKx
import Derived.Test.YtlilnibinligkaaTs
namespace Go.Proofs.Ytlilnibinligkaa
open Go.RowKit

/-- a block of bytes -/
def ByteBlk (w : World) (x : Nat) : Prop := ∃ cs fr, w.heap[x]? = some (.cells cs 5 fr)
/-- a row of bits of the call's own, in the words of its bits -/
def RowIs (w : World) (base g : Nat) (bs : List Bool) : Prop :=
  base ≤ g ∧ ∃ A m c, Blk w g 54 #[.slice A m c, .int .i64 (bs.length : Int)] ∧ OB w base 5 A m c (pack bs)
/-- of what was there nothing has turned but the row's block and blocks of bytes, all of the call's own -/
def RChg (base g : Nat) (w w' : World) : Prop := Chg (fun x => base ≤ x ∧ (x = g ∨ ByteBlk w x)) w w'

theorem ByteBlk.lt {w : World} {x : Nat} (h : ByteBlk w x) : x < w.heap.size := by
  obtain ⟨cs, fr, h⟩ := h
  exact (Array.getElem?_eq_some_iff.1 h).1
theorem RChg.refl (base g : Nat) (w : World) : RChg base g w w := Chg.refl _ w
theorem RChg.trans {base g : Nat} {a b c : World} (h : RChg base g a b) (h' : RChg base g b c) : RChg base g a c :=
  Chg.step h h' fun k hk ⟨h1, h2⟩ => by
    refine ⟨h1, ?_⟩
    rcases h2 with h2 | ⟨cs, fr, h2⟩
    · exact .inl h2
    · by_cases hs : base ≤ k ∧ (k = g ∨ ByteBlk a k)
      · exact hs.2
      · have := h.block k hk hs
        rw [this] at h2
        exact .inr ⟨cs, fr, h2⟩
theorem RChg.grew {base g : Nat} {a b c : World} (h : RChg base g a b) (h' : Grew b c) : RChg base g a c := Chg.grow h h'
theorem RChg.of_grew {base g : Nat} {a b : World} (h : Grew a b) : RChg base g a b := Chg.of_grew h
theorem RChg.alloc {base g : Nat} {a b : World} (h : RChg base g a b) (o : Obj) : RChg base g a (b.alloc o) := Chg.alloc h o
theorem RChg.drewN {base g : Nat} {a b : World} (h : RChg base g a b) (k : Nat) : RChg base g a (b.drewN k) := Chg.drewN h k
theorem RChg.blk {base g h : Nat} {a b : World} {t : TypeId} {cs : Array Value} (hc : RChg base g a b) (hb : Blk a h t cs) (hg : h ≠ g) (ht : t ≠ 5) : Blk b h t cs :=
  hb.chg hc (by
    rintro ⟨_, e | ⟨cs', fr, e⟩⟩
    · exact hg e
    · rw [show a.heap[h]? = _ from hb] at e
      injection e with e
      injection e with _ e
      exact ht e)
theorem RChg.size {base g : Nat} {a b : World} (h : RChg base g a b) : a.heap.size ≤ b.heap.size := Chg.size h
/-- the same from a later beginning of what is the call's own -/
theorem RChg.below {base g : Nat} {a b : World} (h : RChg base g a b) (hb : a.heap.size ≤ base) : Grew a b := h.mono fun k hk ⟨h1, _⟩ => by omega
theorem RowIs.grew {base g : Nat} {a b : World} {bs : List Bool} (h : RowIs a base g bs) (hg : Grew a b) : RowIs b base g bs := by
  obtain ⟨h0, A, m, c, h1, h2⟩ := h
  exact ⟨h0, A, m, c, h1.grew hg, h2.grew hg⟩
theorem RowIs.drewN {base g : Nat} {a : World} {bs : List Bool} (h : RowIs a base g bs) (k : Nat) : RowIs (a.drewN k) base g bs := h
theorem RowIs.lt {base g : Nat} {a : World} {bs : List Bool} (h : RowIs a base g bs) : g < a.heap.size := by
  obtain ⟨_, A, m, c, h1, _⟩ := h
  exact h1.lt
/-- a store into a block that is neither the row's nor one of bytes -/
theorem RowIs.far {base g h : Nat} {a : World} {bs : List Bool} {t : TypeId} {cs : Array Value} (hr : RowIs a base g bs) (hb : Blk a h t cs) (hg : h ≠ g) (ht : t ≠ 5) (i : Nat) (u : Value) : RowIs (a.setCell ⟨h, i, none⟩ u) base g bs := by
  obtain ⟨h0, A, m, c, h1, h2⟩ := hr
  exact ⟨h0, A, m, c, h1.far (Ne.symm hg) u, Own.setFar h2 (fun ad e => Own.ne_blk h2 hb (Ne.symm ht) ad e) u⟩
theorem RowIs.new (w : World) (base : Nat) (hb : base ≤ w.heap.size) : RowIs (w.alloc (.cells #[.slice none 0 0, .int .i64 0] 54)) base w.heap.size [] :=
  ⟨hb, none, 0, 0, Blk.new w _ _, Own.nil _ _ _ _⟩

def PutR (w : World) (base g : Nat) (bs : List Bool) (e : Ending) (w' : World) : Prop := e = .returned (.tuple #[]) ∧ RowIs w' base g bs ∧ RChg base g w w'

theorem put_row (g : Nat) (bs : List Bool) (v k : Nat) (vz kz : Int) (base : Nat) (w : World) (h : RowIs w base g bs) (hvz : vz = (v : Int)) (hkz : kz = (k : Int)) (hv : v < 18446744073709551616) (hk : k ≤ 64) (hN : bs.length ≤ 140737488355200) :
    Calls Try.prog 31 #[.pointer (some ⟨g, 0, none⟩), .int .u64 vz, .int .i64 kz] w (PutR w base g (bs ++ toBits v k)) := by
  subst hvz; subst hkz
  obtain ⟨h0, A, m, c, h1, h2⟩ := h
  have hlt := h1.lt
  refine (put_any g A m c bs v k base w h1 h2 (by omega) hv hk (by omega)).mono ?_
  rintro e w' ⟨B, M, C, rfl, h3, h4, h5, h6⟩
  refine ⟨rfl, ⟨h0, B, M, C, by simpa using h3, h4⟩, h5.mono fun x hx hs => ?_⟩
  rcases hs with rfl | ⟨ad, rfl, rfl⟩
  · exact ⟨h0, .inl rfl⟩
  · refine ⟨(Own.blk_lt h2 ad rfl).1, .inr ?_⟩
    rcases h2.2 with ⟨e, _⟩ | ⟨g2, cap, cur, e, hb, hg, _⟩
    · injection e with e; cases e
    · injection e with e
      injection e with e
      subst e
      exact ⟨cur, _, hg⟩

/-! ### noughts, class -/
theorem shl_bit {x a : Nat} (ha : a ≤ 63) : (IntKind.u64.wrap ((x : Int) * 2 ^ a) / 9223372036854775808 == 0) = !x.testBit (63 - a) := by
  have h1 : IntKind.u64.wrap ((x : Int) * 2 ^ a) = ((x * 2 ^ a % 2 ^ 64 : Nat) : Int) := by
    rw [IntKind.wrap_u64]
    simp
  rw [h1]
  have h2 : ((x * 2 ^ a % 2 ^ 64 : Nat) : Int) / 9223372036854775808 = ((x * 2 ^ a % 2 ^ 64 / 2 ^ 63 : Nat) : Int) := by simp
  rw [h2]
  have h3 : (x * 2 ^ a % 2 ^ 64).testBit 63 = x.testBit (63 - a) := by
    rw [Nat.testBit_mod_two_pow, Nat.testBit_mul_two_pow]
    simp [ha]
  have h4 : x * 2 ^ a % 2 ^ 64 / 2 ^ 63 = (x.testBit (63 - a)).toNat := by
    rw [← h3, Nat.toNat_testBit]
    have := Nat.mod_lt (x * 2 ^ a) (show 0 < 2 ^ 64 by decide)
    omega
  rw [h4]
  cases x.testBit (63 - a) <;> rfl
theorem shr_bit {x b : Nat} (hx : x < 18446744073709551616) : (bits .and .u64 ((x : Int) / 2 ^ b) 1 == 0) = !x.testBit b := by
  have h0 : ((x : Int) / 2 ^ b) = ((x / 2 ^ b : Nat) : Int) := by simp
  have h1 := Nat.div_le_self x (2 ^ b)
  have h2 : bits .and .u64 ((x / 2 ^ b : Nat) : Int) 1 = ((x / 2 ^ b % 2 : Nat) : Int) := by
    have := u64_and_nat (x / 2 ^ b) 1 (by omega) (by omega)
    rw [show ((1 : Nat) : Int) = 1 from rfl] at this
    rw [this, nat_mask1]
  rw [h0, h2, ← Nat.toNat_testBit]
  cases x.testBit b <;> rfl

set_option maxHeartbeats 1000000 in
theorem noughts_any (x : Nat) (w : World) (hx : x < 18446744073709551616) (h0 : x ≠ 0) :
    Calls Try.prog 40 #[.int .u64 (x : Int)] w fun e w' => e = .returned (.tuple #[.int .i64 (lz x : Int), .int .i64 (tz x : Int)]) ∧ w = w' := by
  have hl := lz_le x
  obtain ⟨ht, htb⟩ := tz_bit h0 hx
  go_enter Try.func40, Try.ntmps40
  go_wp2
  go_loop [4] (fun i => ∃ a : Nat, a ≤ lz x ∧ i = .int .i64 a) (fun i => 31 - (intOf i).toNat)
  case atStart => exact ⟨0, Nat.zero_le _, rfl⟩
  case round =>
    obtain ⟨a, ha, rfl⟩ := hrel
    by_cases hal : a < lz x
    · have hb := shl_bit (x := x) (show a ≤ 63 by omega)
      rw [lz_above hal] at hb
      have hlt : a < 31 := by omega
      go_wp2
      exact ⟨⟨a + 1, by omega, by go_num⟩, by simp [intOf]; omega⟩
    · have hout : a = lz x := by omega
      have hend : (31 ≤ a) ∨ (a < 31 ∧ (IntKind.u64.wrap ((x : Int) * 2 ^ a) / 9223372036854775808 == 0) = false) := by
        by_cases hlt : a < 31
        · right
          refine ⟨hlt, ?_⟩
          rw [shl_bit (by omega)]
          have := (sF_spec (fun a => x.testBit (63 - a)) 31 0).2.2.2 (by show lz x < 31; omega)
          rw [hout]
          simpa [lz] using this
        · left; omega
      have Hout := Lib.hid hout
      clear hal hout
      rcases hend with hlt | ⟨hlt, hb⟩
      all_goals
        go_wp2
        go_loop [5] (fun i => ∃ b : Nat, b ≤ tz x ∧ i = .int .i64 b) (fun i => 64 - (intOf i).toNat)
        case atStart => exact ⟨0, Nat.zero_le _, rfl⟩
        case round =>
          obtain ⟨b, hbl, rfl⟩ := hrel
          have hs := shr_bit (b := b) hx
          by_cases hbt : b < tz x
          · rw [tz_below hbt] at hs
            go_wp2
            exact ⟨⟨b + 1, by omega, by go_num⟩, by simp [intOf]; omega⟩
          · have hbe : b = tz x := by omega
            rw [hbe, htb, ← hbe] at hs
            have Hbe := Lib.hid hbe
            clear hbe hbt
            go_wp2
            go_ret2
            exact ⟨by rw [← Hout.out, ← Hbe.out]; simp, rfl⟩
set_option maxHeartbeats 1000000 in
theorem class_any (z : Int) (w : World) (h : -9223372036854775808 ≤ z ∧ z ≤ 9223372036854775807) :
    Calls Try.prog 32 #[.int .i64 z] w fun e w' => e = .returned (.tuple #[.int .u64 ((cls z).1 : Int), .int .i64 ((cls z).2.1 : Int), .int .i64 ((cls z).2.2 : Int)]) ∧ w = w' := by
  by_cases c0 : z = 0
  · subst c0
    go_enter Try.func32, Try.ntmps32
    go_wp2
    go_ret3
    exact ⟨by simp [cls], rfl⟩
  · have hc : ∀ t, cls z = t → cls z = t := fun t h => h
    have e0 : (z == 0) = false := by simpa using c0
    by_cases c1 : -64 ≤ z ∧ z ≤ 63
    · have Hc := Lib.hid (show cls z = (2, 2, 7) by unfold cls; rw [if_neg c0, if_pos c1])
      clear hc c0
      obtain ⟨c1, d1⟩ := c1
      go_enter Try.func32, Try.ntmps32
      go_wp2
      go_ret3
      exact ⟨by rw [Hc.out]; rfl, rfl⟩
    · by_cases c2 : -256 ≤ z ∧ z ≤ 255
      · have Hc := Lib.hid (show cls z = (6, 3, 9) by unfold cls; rw [if_neg c0, if_neg c1, if_pos c2])
        clear hc c0
        obtain ⟨c2, d2⟩ := c2
        have hx : z < -64 ∨ 63 < z := by omega
        clear c1
        rcases hx with hx | hx
        all_goals
          go_enter Try.func32, Try.ntmps32
          go_wp2
          go_ret3
          exact ⟨by rw [Hc.out]; rfl, rfl⟩
      · by_cases c3 : -2048 ≤ z ∧ z ≤ 2047
        · have Hc := Lib.hid (show cls z = (14, 4, 12) by unfold cls; rw [if_neg c0, if_neg c1, if_neg c2, if_pos c3])
          clear hc c0 c1
          obtain ⟨c3, d3⟩ := c3
          have hx : z < -256 ∨ 255 < z := by omega
          clear c2
          rcases hx with hx | hx
          all_goals
            go_enter Try.func32, Try.ntmps32
            go_wp2
            go_ret3
            exact ⟨by rw [Hc.out]; rfl, rfl⟩
        · have Hc := Lib.hid (show cls z = (15, 4, 64) by unfold cls; rw [if_neg c0, if_neg c1, if_neg c2, if_neg c3])
          clear hc c0 c1 c2
          have hx : z < -2048 ∨ 2047 < z := by omega
          clear c3
          rcases hx with hx | hx
          all_goals
            go_enter Try.func32, Try.ntmps32
            go_wp2
            go_ret3
            exact ⟨by rw [Hc.out]; rfl, rfl⟩
end Go.Proofs.Ytlilnibinligkaa
