/-
  Several texts in one:
  Points as bits: the reference's reader, and that it reads back what was written. Conditions: none; no program in sight.
  Package chunk: a row of bits on its way (RowIs, RChg), noughts, class: what each call does. Conditions: lengths that memory bears.
  Package chunk: window.value: what it lays, and the window that it hands back. Conditions: lengths that memory bears.
  Package chunk: may, Encode: what each call does. Conditions: lengths that memory bears.
-/
import Derived.Test.YtlcaaacbookopaaGreatDoorPart3
import Derived.Test.YtlcaaacbookopaaGreatDoorPart16
import Derived.Test.YtlcaaacbookopaaGreatDoorPart6

namespace Go.Proofs.YtlcaaacbookopaaGreatDoor

end Go.Proofs.YtlcaaacbookopaaGreatDoor

namespace Go.Proofs.YtlcaaacbookopaaGreatDoor
open Go.RowKit

/-- a block of bytes -/
def ByteBlk (w : World) (x : Nat) : Prop := ∃ cs fr, w.heap[x]? = some (.cells cs 5 fr)
/-- a row of bits of the call's own, in the words of its bits -/
def RowIs (w : World) (base g : Nat) (bs : List Bool) : Prop :=
  base ≤ g ∧ ∃ A m c, Blk w g 121 #[.slice A m c, .int .i64 (bs.length : Int)] ∧ OB w base 5 A m c (pack bs)
/-- of what was there nothing has turned but the row's block and blocks of bytes, all of the call's own -/
def RChg (base g : Nat) (w w' : World) : Prop := Chg (fun x => base ≤ x ∧ (x = g ∨ ByteBlk w x)) w w'

theorem ByteBlk.lt {w : World} {x : Nat} (h : ByteBlk w x) : x < w.heap.size := by
  obtain ⟨cs, fr, h⟩ := h
  exact (Array.getElem?_eq_some_iff.1 h).1
theorem RChg.refl (base g : Nat) (w : World) : RChg base g w w := Chg.refl _ w
theorem RChg.trans {base g : Nat} {a b c : World} (h : RChg base g a b) (h' : RChg base g b c) : RChg base g a c :=
  Chg.step h h' fun k hk ⟨h1, h2⟩ => by
    refine ⟨h1, ?_⟩
    rcases h2 with h2 | ⟨cs, fr, h2⟩
    · exact .inl h2
    · by_cases hs : base ≤ k ∧ (k = g ∨ ByteBlk a k)
      · exact hs.2
      · have := h.block k hk hs
        rw [this] at h2
        exact .inr ⟨cs, fr, h2⟩
theorem RChg.grew {base g : Nat} {a b c : World} (h : RChg base g a b) (h' : Grew b c) : RChg base g a c := Chg.grow h h'
theorem RChg.of_grew {base g : Nat} {a b : World} (h : Grew a b) : RChg base g a b := Chg.of_grew h
theorem RChg.alloc {base g : Nat} {a b : World} (h : RChg base g a b) (o : Obj) : RChg base g a (b.alloc o) := Chg.alloc h o
theorem RChg.drewN {base g : Nat} {a b : World} (h : RChg base g a b) (k : Nat) : RChg base g a (b.drewN k) := Chg.drewN h k
theorem RChg.blk {base g h : Nat} {a b : World} {t : TypeId} {cs : Array Value} (hc : RChg base g a b) (hb : Blk a h t cs) (hg : h ≠ g) (ht : t ≠ 5) : Blk b h t cs :=
  hb.chg hc (by
    rintro ⟨_, e | ⟨cs', fr, e⟩⟩
    · exact hg e
    · rw [show a.heap[h]? = _ from hb] at e
      injection e with e
      injection e with _ e
      exact ht e)
theorem RChg.size {base g : Nat} {a b : World} (h : RChg base g a b) : a.heap.size ≤ b.heap.size := Chg.size h
/-- the same from a later beginning of what is the call's own -/
theorem RChg.below {base g : Nat} {a b : World} (h : RChg base g a b) (hb : a.heap.size ≤ base) : Grew a b := h.mono fun k hk ⟨h1, _⟩ => by omega
theorem RowIs.grew {base g : Nat} {a b : World} {bs : List Bool} (h : RowIs a base g bs) (hg : Grew a b) : RowIs b base g bs := by
  obtain ⟨h0, A, m, c, h1, h2⟩ := h
  exact ⟨h0, A, m, c, h1.grew hg, h2.grew hg⟩
theorem RowIs.drewN {base g : Nat} {a : World} {bs : List Bool} (h : RowIs a base g bs) (k : Nat) : RowIs (a.drewN k) base g bs := h
theorem RowIs.lt {base g : Nat} {a : World} {bs : List Bool} (h : RowIs a base g bs) : g < a.heap.size := by
  obtain ⟨_, A, m, c, h1, _⟩ := h
  exact h1.lt
/-- a store into a block that is neither the row's nor one of bytes -/
theorem RowIs.far {base g h : Nat} {a : World} {bs : List Bool} {t : TypeId} {cs : Array Value} (hr : RowIs a base g bs) (hb : Blk a h t cs) (hg : h ≠ g) (ht : t ≠ 5) (i : Nat) (u : Value) : RowIs (a.setCell ⟨h, i, none⟩ u) base g bs := by
  obtain ⟨h0, A, m, c, h1, h2⟩ := hr
  exact ⟨h0, A, m, c, h1.far (Ne.symm hg) u, Own.setFar h2 (fun ad e => Own.ne_blk h2 hb (Ne.symm ht) ad e) u⟩
theorem RowIs.new (w : World) (base : Nat) (hb : base ≤ w.heap.size) : RowIs (w.alloc (.cells #[.slice none 0 0, .int .i64 0] 121)) base w.heap.size [] :=
  ⟨hb, none, 0, 0, Blk.new w _ _, Own.nil _ _ _ _⟩

def PutR (w : World) (base g : Nat) (bs : List Bool) (e : Ending) (w' : World) : Prop := e = .returned (.tuple #[]) ∧ RowIs w' base g bs ∧ RChg base g w w'

theorem put_row (g : Nat) (bs : List Bool) (v k : Nat) (vz kz : Int) (base : Nat) (w : World) (h : RowIs w base g bs) (hvz : vz = (v : Int)) (hkz : kz = (k : Int)) (hv : v < 18446744073709551616) (hk : k ≤ 64) (hN : bs.length ≤ 140737488355200) :
    Calls Tryz.prog 79 #[.pointer (some ⟨g, 0, none⟩), .int .u64 vz, .int .i64 kz] w (PutR w base g (bs ++ toBits v k)) := by
  subst hvz; subst hkz
  obtain ⟨h0, A, m, c, h1, h2⟩ := h
  have hlt := h1.lt
  refine (put_any g A m c bs v k base w h1 h2 (by omega) hv hk (by omega)).mono ?_
  rintro e w' ⟨B, M, C, rfl, h3, h4, h5, h6⟩
  refine ⟨rfl, ⟨h0, B, M, C, by simpa using h3, h4⟩, h5.mono fun x hx hs => ?_⟩
  rcases hs with rfl | ⟨ad, rfl, rfl⟩
  · exact ⟨h0, .inl rfl⟩
  · refine ⟨(Own.blk_lt h2 ad rfl).1, .inr ?_⟩
    rcases h2.2 with ⟨e, _⟩ | ⟨g2, cap, cur, e, hb, hg, _⟩
    · injection e with e; cases e
    · injection e with e
      injection e with e
      subst e
      exact ⟨cur, _, hg⟩

/-! ### noughts, class -/
theorem shl_bit {x a : Nat} (ha : a ≤ 63) : (IntKind.u64.wrap ((x : Int) * 2 ^ a) / 9223372036854775808 == 0) = !x.testBit (63 - a) := by
  have h1 : IntKind.u64.wrap ((x : Int) * 2 ^ a) = ((x * 2 ^ a % 2 ^ 64 : Nat) : Int) := by
    rw [IntKind.wrap_u64]
    simp
  rw [h1]
  have h2 : ((x * 2 ^ a % 2 ^ 64 : Nat) : Int) / 9223372036854775808 = ((x * 2 ^ a % 2 ^ 64 / 2 ^ 63 : Nat) : Int) := by simp
  rw [h2]
  have h3 : (x * 2 ^ a % 2 ^ 64).testBit 63 = x.testBit (63 - a) := by
    rw [Nat.testBit_mod_two_pow, Nat.testBit_mul_two_pow]
    simp [ha]
  have h4 : x * 2 ^ a % 2 ^ 64 / 2 ^ 63 = (x.testBit (63 - a)).toNat := by
    rw [← h3, Nat.toNat_testBit]
    have := Nat.mod_lt (x * 2 ^ a) (show 0 < 2 ^ 64 by decide)
    omega
  rw [h4]
  cases x.testBit (63 - a) <;> rfl
theorem shr_bit {x b : Nat} (hx : x < 18446744073709551616) : (bits .and .u64 ((x : Int) / 2 ^ b) 1 == 0) = !x.testBit b := by
  have h0 : ((x : Int) / 2 ^ b) = ((x / 2 ^ b : Nat) : Int) := by simp
  have h1 := Nat.div_le_self x (2 ^ b)
  have h2 : bits .and .u64 ((x / 2 ^ b : Nat) : Int) 1 = ((x / 2 ^ b % 2 : Nat) : Int) := by
    have := u64_and_nat (x / 2 ^ b) 1 (by omega) (by omega)
    rw [show ((1 : Nat) : Int) = 1 from rfl] at this
    rw [this, nat_mask1]
  rw [h0, h2, ← Nat.toNat_testBit]
  cases x.testBit b <;> rfl

set_option maxHeartbeats 1000000 in
theorem noughts_any (x : Nat) (w : World) (hx : x < 18446744073709551616) (h0 : x ≠ 0) :
    Calls Tryz.prog 104 #[.int .u64 (x : Int)] w fun e w' => e = .returned (.tuple #[.int .i64 (lz x : Int), .int .i64 (tz x : Int)]) ∧ w = w' := by
  have hl := lz_le x
  obtain ⟨ht, htb⟩ := tz_bit h0 hx
  go_enter Tryz.func104, Tryz.ntmps104
  go_wp2
  go_loop [4] (fun i => ∃ a : Nat, a ≤ lz x ∧ i = .int .i64 a) (fun i => 31 - (intOf i).toNat)
  case atStart => exact ⟨0, Nat.zero_le _, rfl⟩
  case round =>
    obtain ⟨a, ha, rfl⟩ := hrel
    by_cases hal : a < lz x
    · have hb := shl_bit (x := x) (show a ≤ 63 by omega)
      rw [lz_above hal] at hb
      have hlt : a < 31 := by omega
      go_wp2
      exact ⟨⟨a + 1, by omega, by go_num⟩, by simp [intOf]; omega⟩
    · have hout : a = lz x := by omega
      have hend : (31 ≤ a) ∨ (a < 31 ∧ (IntKind.u64.wrap ((x : Int) * 2 ^ a) / 9223372036854775808 == 0) = false) := by
        by_cases hlt : a < 31
        · right
          refine ⟨hlt, ?_⟩
          rw [shl_bit (by omega)]
          have := (sF_spec (fun a => x.testBit (63 - a)) 31 0).2.2.2 (by show lz x < 31; omega)
          rw [hout]
          simpa [lz] using this
        · left; omega
      have Hout := Lib.hid hout
      clear hal hout
      rcases hend with hlt | ⟨hlt, hb⟩
      all_goals
        go_wp2
        go_loop [5] (fun i => ∃ b : Nat, b ≤ tz x ∧ i = .int .i64 b) (fun i => 64 - (intOf i).toNat)
        case atStart => exact ⟨0, Nat.zero_le _, rfl⟩
        case round =>
          obtain ⟨b, hbl, rfl⟩ := hrel
          have hs := shr_bit (b := b) hx
          by_cases hbt : b < tz x
          · rw [tz_below hbt] at hs
            go_wp2
            exact ⟨⟨b + 1, by omega, by go_num⟩, by simp [intOf]; omega⟩
          · have hbe : b = tz x := by omega
            rw [hbe, htb, ← hbe] at hs
            have Hbe := Lib.hid hbe
            clear hbe hbt
            go_wp2
            go_ret2
            exact ⟨by rw [← Hout.out, ← Hbe.out]; simp, rfl⟩
set_option maxHeartbeats 1000000 in
theorem class_any (z : Int) (w : World) (h : -9223372036854775808 ≤ z ∧ z ≤ 9223372036854775807) :
    Calls Tryz.prog 80 #[.int .i64 z] w fun e w' => e = .returned (.tuple #[.int .u64 ((cls z).1 : Int), .int .i64 ((cls z).2.1 : Int), .int .i64 ((cls z).2.2 : Int)]) ∧ w = w' := by
  by_cases c0 : z = 0
  · subst c0
    go_enter Tryz.func80, Tryz.ntmps80
    go_wp2
    go_ret3
    exact ⟨by simp [cls], rfl⟩
  · have hc : ∀ t, cls z = t → cls z = t := fun t h => h
    have e0 : (z == 0) = false := by simpa using c0
    by_cases c1 : -64 ≤ z ∧ z ≤ 63
    · have Hc := Lib.hid (show cls z = (2, 2, 7) by unfold cls; rw [if_neg c0, if_pos c1])
      clear hc c0
      obtain ⟨c1, d1⟩ := c1
      go_enter Tryz.func80, Tryz.ntmps80
      go_wp2
      go_ret3
      exact ⟨by rw [Hc.out]; rfl, rfl⟩
    · by_cases c2 : -256 ≤ z ∧ z ≤ 255
      · have Hc := Lib.hid (show cls z = (6, 3, 9) by unfold cls; rw [if_neg c0, if_neg c1, if_pos c2])
        clear hc c0
        obtain ⟨c2, d2⟩ := c2
        have hx : z < -64 ∨ 63 < z := by omega
        clear c1
        rcases hx with hx | hx
        all_goals
          go_enter Tryz.func80, Tryz.ntmps80
          go_wp2
          go_ret3
          exact ⟨by rw [Hc.out]; rfl, rfl⟩
      · by_cases c3 : -2048 ≤ z ∧ z ≤ 2047
        · have Hc := Lib.hid (show cls z = (14, 4, 12) by unfold cls; rw [if_neg c0, if_neg c1, if_neg c2, if_pos c3])
          clear hc c0 c1
          obtain ⟨c3, d3⟩ := c3
          have hx : z < -256 ∨ 255 < z := by omega
          clear c2
          rcases hx with hx | hx
          all_goals
            go_enter Tryz.func80, Tryz.ntmps80
            go_wp2
            go_ret3
            exact ⟨by rw [Hc.out]; rfl, rfl⟩
        · have Hc := Lib.hid (show cls z = (15, 4, 64) by unfold cls; rw [if_neg c0, if_neg c1, if_neg c2, if_neg c3])
          clear hc c0 c1 c2
          have hx : z < -2048 ∨ 2047 < z := by omega
          clear c3
          rcases hx with hx | hx
          all_goals
            go_enter Tryz.func80, Tryz.ntmps80
            go_wp2
            go_ret3
            exact ⟨by rw [Hc.out]; rfl, rfl⟩
end Go.Proofs.YtlcaaacbookopaaGreatDoor

namespace Go.Proofs.YtlcaaacbookopaaGreatDoor
open Go.RowKit

def winV (w : Win) : Value := .agg #[.int .i64 (w.1 : Int), .int .i64 (w.2.1 : Int), .bool w.2.2]
def ValR (w : World) (base g : Nat) (bs : List Bool) (wn : Win) (e : Ending) (w' : World) : Prop := e = .returned (winV wn) ∧ RowIs w' base g bs ∧ RChg base g w w'

/-- three cells of a block known whole -/
theorem Blk.three {w : World} {h : Nat} {t : TypeId} {a b c : Value} (hb : Blk w h t #[a, b, c]) : w.cell? ⟨h, 0, none⟩ = some a ∧ w.cell? ⟨h, 1, none⟩ = some b ∧ w.cell? ⟨h, 2, none⟩ = some c :=
  ⟨by rw [hb.cell]; rfl, by rw [hb.cell]; rfl, by rw [hb.cell]; rfl⟩

/-- three stores into a block of the call's own -/
theorem store3 {w w1 : World} {base g h : Nat} {bs : List Bool} {t : TypeId} {a b c a' b' c' : Value} (hb : Blk w1 h t #[a, b, c]) (hg : h ≠ g) (ht : t ≠ 5) (hr : RowIs w1 base g bs) (hc : RChg base g w w1) (hh : w.heap.size ≤ h) :
    Blk (((w1.setCell ⟨h, 0, none⟩ a').setCell ⟨h, 1, none⟩ b').setCell ⟨h, 2, none⟩ c') h t #[a', b', c'] ∧ RowIs (((w1.setCell ⟨h, 0, none⟩ a').setCell ⟨h, 1, none⟩ b').setCell ⟨h, 2, none⟩ c') base g bs ∧ RChg base g w (((w1.setCell ⟨h, 0, none⟩ a').setCell ⟨h, 1, none⟩ b').setCell ⟨h, 2, none⟩ c') := by
  have b1 := hb.set 0 a'
  have b2 := b1.set 1 b'
  have b3 := b2.set 2 c'
  refine ⟨by simpa using b3, ((hr.far hb hg ht 0 a').far b1 hg ht 1 b').far b2 hg ht 2 c', ?_⟩
  exact Chg.setCell (Chg.setCell (Chg.setCell hc (p := ⟨h, 0, none⟩) (.inl hh) _) (p := ⟨h, 1, none⟩) (.inl hh) _) (p := ⟨h, 2, none⟩) (.inl hh) _

set_option maxRecDepth 100000 in
set_option maxHeartbeats 2000000 in
theorem value_any (g : Nat) (bs : List Bool) (wa wb : Nat) (wh : Bool) (x : Nat) (xz : Int) (base : Nat) (w : World) (h : RowIs w base g bs) (hxz : xz = (x : Int)) (hx : x < 18446744073709551616) (hw : WinOk (wa, wb, wh)) (hN : bs.length ≤ 140737488350000) :
    Calls Tryz.prog 81 #[.agg #[.int .i64 (wa : Int), .int .i64 (wb : Int), .bool wh], .pointer (some ⟨g, 0, none⟩), .int .u64 xz] w (ValR w base g (bs ++ (valB (wa, wb, wh) x).1) (valB (wa, wb, wh) x).2) := by
  subst hxz
  have hg := h.lt
  have hr0 := (h.grew ((Chg.refl _ w).alloc (.cells #[.int .i64 (wa : Int), .int .i64 (wb : Int), .bool wh] 124))).grew ((Chg.refl _ _).alloc (.cells #[.int .i64 0, .int .i64 0, .bool false] 124))
  have hc0 : RChg base g w ((w.alloc (.cells #[.int .i64 (wa : Int), .int .i64 (wb : Int), .bool wh] 124)).alloc (.cells #[.int .i64 0, .int .i64 0, .bool false] 124)) := ((RChg.refl base g w).alloc _).alloc _
  have b3 : Blk ((w.alloc (.cells #[.int .i64 (wa : Int), .int .i64 (wb : Int), .bool wh] 124)).alloc (.cells #[.int .i64 0, .int .i64 0, .bool false] 124)) w.heap.size 124 #[.int .i64 (wa : Int), .int .i64 (wb : Int), .bool wh] := (Blk.new w _ _).alloc _
  have b6 : Blk ((w.alloc (.cells #[.int .i64 (wa : Int), .int .i64 (wb : Int), .bool wh] 124)).alloc (.cells #[.int .i64 0, .int .i64 0, .bool false] 124)) (w.heap.size + 1) 124 #[.int .i64 0, .int .i64 0, .bool false] := by
    have := Blk.new (w.alloc (.cells #[.int .i64 (wa : Int), .int .i64 (wb : Int), .bool wh] 124)) 124 #[.int .i64 0, .int .i64 0, .bool false]
    simpa using this
  by_cases h0 : x = 0
  · subst h0
    go_enter Tryz.func81, Tryz.ntmps81
    go_wp2_with fail
    refine (put_row g bs 0 1 _ _ base _ hr0 rfl rfl (by omega) (by omega) (by omega)).mono ?_
    rintro e w1 ⟨rfl, hr1, hc1⟩
    have b31 := (hc1.blk b3 (by omega) (by decide)).three
    obtain ⟨f1, f2, f3⟩ := b31
    have b61 := hc1.blk b6 (by omega) (by decide)
    obtain ⟨e1, e2, e3⟩ := b61.three
    have z0 := b61.frozen 0
    have z1 := b61.frozen 1
    have z2 := b61.frozen 2
    go_wp2
    obtain ⟨k1, k2, k3⟩ := store3 (a' := .int .i64 (wa : Int)) (b' := .int .i64 (wb : Int)) (c' := .bool wh) b61 (by omega) (by decide) hr1 (hc0.trans hc1) (by omega)
    obtain ⟨q1, q2, q3⟩ := k1.three
    refine bodyPost_ret (v := winV (wa, wb, wh)) (by simp [results, Tryz.results81, go_sem, q1, q2, q3, winV]) rfl ⟨by simp [valB], by simpa [valB, toBits] using k2, k3⟩
  · have hl := lz_tz h0 hx
    have hll := lz_le x
    have e0 : ((x : Int) == 0) = false := by simpa using h0
    have N0 : ∀ w, Calls Tryz.prog 104 #[.int .u64 (x : Int)] w fun e w' => e = .returned (.tuple #[.int .i64 (lz x : Int), .int .i64 (tz x : Int)]) ∧ w = w' := fun w => noughts_any x w hx h0
    by_cases hc : wh = true ∧ wa ≤ lz x ∧ wb ≤ tz x
    · obtain ⟨rfl, hca, hcb⟩ := hc
      have hwo := hw rfl
      have HV := Lib.hid (show valB (wa, wb, true) x = (toBits 1 1 ++ toBits 0 1 ++ toBits (x / 2 ^ wb) (64 - wa - wb), (wa, wb, true)) by unfold valB; rw [if_neg h0, if_pos ⟨rfl, hca, hcb⟩])
      have hxd : ((x : Int) / 2 ^ wb) = ((x / 2 ^ wb : Nat) : Int) := by simp
      have hxl := Nat.div_le_self x (2 ^ wb)
      have Hxd := Lib.hid hxd
      generalize lz x = a at *
      generalize tz x = b at *
      have N1 := Lib.hid N0
      clear N0 hxd hw h0
      go_enter Tryz.func81, Tryz.ntmps81
      go_wp2_with fail
      refine (put_row g bs 1 1 _ _ base _ hr0 rfl rfl (by omega) (by omega) (by omega)).mono ?_
      rintro e w1 ⟨rfl, hr1, hc1⟩
      have b31 := hc1.blk b3 (by omega) (by decide)
      have b61 := hc1.blk b6 (by omega) (by decide)
      have g1 := hc0.trans hc1
      clear hc0 hc1 b3 b6 hr0
      obtain ⟨f1, f2, f3⟩ := b31.three
      go_wp2_with fail
      refine (N1.out _).mono ?_
      rintro e w2 ⟨rfl, rfl⟩
      go_wp2_with fail
      refine (put_row g _ 0 1 _ _ base _ hr1 rfl rfl (by omega) (by omega) (by simp; omega)).mono ?_
      rintro e w2 ⟨rfl, hr2, hc2⟩
      have b32 := hc2.blk b31 (by omega) (by decide)
      have b62 := hc2.blk b61 (by omega) (by decide)
      have g2 := g1.trans hc2
      clear g1 hc2 b31 b61 hr1 f1 f2 f3
      obtain ⟨f1, f2, f3⟩ := b32.three
      go_wp2_with fail
      refine wp_region_text [(3, 1), (22, 1)] (by kernel_rfl) (by kernel_rfl) ?_
      simp only [instr, chk, look, Nat.reduceBEq, Bool.false_eq_true, if_true, if_false, Nat.reduceEqDiff, List.cons_append, List.nil_append]
      go_wp2_with fail
      refine (put_row g _ (x / 2 ^ wb) (64 - wa - wb) _ _ base _ (by exact hr2) Hxd.out (by omega) (by omega) (by omega) (by simp; omega)).mono ?_
      rintro e w3 ⟨rfl, hr3, hc3⟩
      have g2' : RChg base g w w2.drew := g2.drewN 1
      have b33 := RChg.blk hc3 (h := w.heap.size) (t := 124) (by exact b32) (by omega) (by decide)
      have b63 := RChg.blk hc3 (h := w.heap.size + 1) (t := 124) (by exact b62) (by omega) (by decide)
      have g3 := g2'.trans hc3
      clear g2 g2' hc3 b32 b62 hr2 f1 f2 f3
      obtain ⟨f1, f2, f3⟩ := b33.three
      obtain ⟨e1, e2, e3⟩ := b63.three
      have z0 := b63.frozen 0
      have z1 := b63.frozen 1
      have z2 := b63.frozen 2
      go_wp2_with fail
      refine OnlyN.normal ?_
      go_wp2
      obtain ⟨k1, k2, k3⟩ := store3 (a' := .int .i64 (wa : Int)) (b' := .int .i64 (wb : Int)) (c' := .bool true) b63 (by omega) (by decide) hr3 g3 (by omega)
      obtain ⟨q1, q2, q3⟩ := k1.three
      refine bodyPost_ret (v := winV (wa, wb, true)) (by simp [results, Tryz.results81, go_sem, q1, q2, q3, winV]) rfl ⟨by rw [HV.out], ?_, k3⟩
      rw [HV.out]
      simpa using k2
    · have hsp : wh = false ∨ (wh = true ∧ lz x < wa) ∨ (wh = true ∧ wa ≤ lz x ∧ tz x < wb) := by
        cases wh
        · exact .inl rfl
        · right
          by_cases h1 : lz x < wa
          · exact .inl ⟨rfl, h1⟩
          · right
            refine ⟨rfl, by omega, ?_⟩
            by_cases h2 : tz x < wb
            · exact h2
            · exact (hc ⟨rfl, by omega, by omega⟩).elim
      have HV := Lib.hid (show valB (wa, wb, wh) x = (toBits 1 1 ++ toBits 1 1 ++ toBits (lz x) 5 ++ toBits (63 - lz x - tz x) 6 ++ toBits (x / 2 ^ tz x) (64 - lz x - tz x), (lz x, tz x, true)) by unfold valB; rw [if_neg h0, if_neg hc])
      have hxd : ((x : Int) / 2 ^ tz x) = ((x / 2 ^ tz x : Nat) : Int) := by simp
      have hxl := Nat.div_le_self x (2 ^ tz x)
      have Hxd := Lib.hid hxd
      have hw64 : wh = true → wa ≤ 31 ∧ wb ≤ 63 := fun h => by have := hw h; simp only at this; omega
      generalize lz x = a at *
      generalize tz x = b at *
      have N1 := Lib.hid N0
      clear N0 hxd hw h0 hc
      rcases hsp with rfl | ⟨rfl, hs⟩ | ⟨rfl, hs, hs2⟩
      all_goals
        try have hw65 := hw64 rfl
        clear hw64
        go_enter Tryz.func81, Tryz.ntmps81
        go_wp2_with fail
        refine (put_row g bs 1 1 _ _ base _ hr0 rfl rfl (by omega) (by omega) (by omega)).mono ?_
        rintro e w1 ⟨rfl, hr1, hc1⟩
        have b31 := hc1.blk b3 (by omega) (by decide)
        have b61 := hc1.blk b6 (by omega) (by decide)
        have g1 := hc0.trans hc1
        clear hc0 hc1 b3 b6 hr0
        obtain ⟨f1, f2, f3⟩ := b31.three
        go_wp2_with fail
        refine (N1.out _).mono ?_
        rintro e w2 ⟨rfl, rfl⟩
        go_wp2_with fail
        refine (put_row g _ 1 1 _ _ base _ hr1 rfl rfl (by omega) (by omega) (by simp; omega)).mono ?_
        rintro e w2 ⟨rfl, hr2, hc2⟩
        have b62 := hc2.blk b61 (by omega) (by decide)
        have g2 := g1.trans hc2
        clear g1 hc2 b31 b61 hr1 f1 f2 f3
        go_wp2_with fail
        refine (put_row g _ a 5 _ _ base _ hr2 (by omega) rfl (by omega) (by omega) (by simp; omega)).mono ?_
        rintro e w3 ⟨rfl, hr3, hc3⟩
        have b63 := hc3.blk b62 (by omega) (by decide)
        have g3 := g2.trans hc3
        clear g2 hc3 b62 hr2
        go_wp2_with fail
        refine (put_row g _ (63 - a - b) 6 _ _ base _ hr3 (by omega) rfl (by omega) (by omega) (by simp; omega)).mono ?_
        rintro e w4 ⟨rfl, hr4, hc4⟩
        have b64 := hc4.blk b63 (by omega) (by decide)
        have g4 := g3.trans hc4
        clear g3 hc4 b63 hr3
        go_wp2_with fail
        refine (put_row g _ (x / 2 ^ b) (64 - a - b) _ _ base _ hr4 Hxd.out (by omega) (by omega) (by omega) (by simp; omega)).mono ?_
        rintro e w5 ⟨rfl, hr5, hc5⟩
        have b65 := hc5.blk b64 (by omega) (by decide)
        have g5 := g4.trans hc5
        clear g4 hc5 b64 hr4
        obtain ⟨e1, e2, e3⟩ := b65.three
        have z0 := b65.frozen 0
        have z1 := b65.frozen 1
        have z2 := b65.frozen 2
        go_wp2
        obtain ⟨k1, k2, k3⟩ := store3 (a' := .int .i64 (a : Int)) (b' := .int .i64 (b : Int)) (c' := .bool true) b65 (by omega) (by decide) hr5 g5 (by omega)
        obtain ⟨q1, q2, q3⟩ := k1.three
        refine bodyPost_ret (v := winV (a, b, true)) (by simp [results, Tryz.results81, go_sem, q1, q2, q3, winV]) rfl ⟨by rw [HV.out], ?_, k3⟩
        rw [HV.out]
        simpa using k2
end Go.Proofs.YtlcaaacbookopaaGreatDoor

namespace Go.Proofs.YtlcaaacbookopaaGreatDoor
open Go.RowKit

/-- the first k points are as they may be -/
def OkTo (ps : List Pnt) (k : Nat) : Prop := ∀ (i : Nat) (p : Pnt), i < k → ps[i]? = some p → (-1099511627776 ≤ p.1 ∧ p.1 ≤ 1099511627776) ∧ ∀ q : Pnt, i = 0 ∨ ps[i - 1]? ≠ some q ∨ q.1 < p.1
theorem okp_of_to {ps : List Pnt} (h : OkTo ps ps.length) : Okp ps := fun i p hp => by
  have hi := (List.getElem?_eq_some_iff.1 hp).1
  refine ⟨(h i p hi hp).1, fun q hq => ?_⟩
  have hi2 := (List.getElem?_eq_some_iff.1 hq).1
  rcases (h (i + 1) q hi2 hq).2 p with h1 | h1 | h1
  · omega
  · exact (h1 (by simpa using hp)).elim
  · exact h1
theorem okto_step {ps : List Pnt} {k : Nat} {p : Pnt} (h : OkTo ps k) (hp : ps[k]? = some p) (h1 : -1099511627776 ≤ p.1 ∧ p.1 ≤ 1099511627776) (h2 : ∀ q : Pnt, k = 0 ∨ ps[k - 1]? ≠ some q ∨ q.1 < p.1) : OkTo ps (k + 1) := fun i x hi hx => by
  by_cases hik : i = k
  · subst hik
    rw [hp] at hx
    injection hx with hx
    subst hx
    exact ⟨h1, h2⟩
  · exact h i x (by omega) hx

theorem cell?_grew {w w' : World} {p : Addr} {u : Value} (h : w.cell? p = some u) (hg : Grew w w') : w'.cell? p = some u := hg.cell h fun e => e

def MayP (w : World) (ps : List Pnt) (e : Ending) (w' : World) : Prop := ∃ b, e = .returned (.bool b) ∧ (b = true ↔ Okp ps) ∧ Grew w w'

set_option maxRecDepth 100000 in
set_option maxHeartbeats 2000000 in
theorem kmay_any (A : Option Addr) (n c : Nat) (ps : List Pnt) (w : World) (h : RE elPt w A n ps) (hn : n ≤ 8796093022208) :
    Calls Tryz.prog 78 #[.slice A n c] w (MayP w ps) := by
  go_enter Tryz.func78, Tryz.ntmps78
  go_wp2
  go_loopw [7] (fun i wr => ∃ k : Nat, k ≤ n ∧ i = .int .i64 k ∧ OkTo ps k ∧ Grew w wr) (fun i _ => n - (intOf i).toNat)
  case atStart => exact ⟨0, Nat.zero_le _, rfl, fun i p hi => by omega, Chg.refl _ _⟩
  case round =>
    obtain ⟨k, hk, rfl, hto, hg⟩ := hrel
    by_cases hlt : k < n
    · have hr := h.grew hg
      obtain ⟨ad, p, rfl, hp, hc1, hc2⟩ := hr.pt hlt
      have hsz := hg.size
      have hend : ∀ wz, Grew wr wz → Grew w wz := fun wz h => hg.trans h
      by_cases k0 : k < 1
      · have hsp : decide (p.1 < -1099511627776) = true ∨ (decide (p.1 < -1099511627776) = false ∧ decide (1099511627776 < p.1) = true) ∨ (decide (p.1 < -1099511627776) = false ∧ decide (1099511627776 < p.1) = false) := by simp only [decide_eq_true_eq, decide_eq_false_iff_not]; omega
        have hno : (decide (p.1 < -1099511627776) = true ∨ decide (1099511627776 < p.1) = true) → ¬ Okp ps := fun h ho => by simp only [decide_eq_true_eq] at h; have := (ho k p hp).1; omega
        have hyes : decide (p.1 < -1099511627776) = false ∧ decide (1099511627776 < p.1) = false → OkTo ps (k + 1) := fun h => by
          simp only [decide_eq_false_iff_not] at h
          exact okto_step hto hp (by omega) fun q => .inl (by omega)
        have Hno := Lib.hid hno
        have Hyes := Lib.hid hyes
        clear hno hyes hp hto hr h
        rcases hsp with h1 | ⟨h1, h2⟩ | ⟨h1, h2⟩
        · go_wp2
          refine wp_region_text [(3, 1), (2, 1)] (by kernel_rfl) (by kernel_rfl) ?_
          simp only [instr, chk, look, Nat.reduceBEq, Bool.false_eq_true, if_true, if_false, Nat.reduceEqDiff, List.cons_append, List.nil_append]
          go_wp2_with fail
          refine OnlyN.normal ?_
          go_wp2
          go_ret
          exact ⟨false, rfl, by simp [Hno.out (.inl h1)], hend _ (((Chg.refl _ wr).alloc _).drewN 1)⟩
        · go_wp2
          refine wp_region_text [(3, 1), (2, 1)] (by kernel_rfl) (by kernel_rfl) ?_
          simp only [instr, chk, look, Nat.reduceBEq, Bool.false_eq_true, if_true, if_false, Nat.reduceEqDiff, List.cons_append, List.nil_append]
          go_wp2_with fail
          refine OnlyN.normal ?_
          go_wp2
          go_ret
          exact ⟨false, rfl, by simp [Hno.out (.inr h2)], hend _ (((Chg.refl _ wr).alloc _).drewN 1)⟩
        · go_wp2
          refine wp_region_text [(3, 1), (2, 1)] (by kernel_rfl) (by kernel_rfl) ?_
          simp only [instr, chk, look, Nat.reduceBEq, Bool.false_eq_true, if_true, if_false, Nat.reduceEqDiff, List.cons_append, List.nil_append]
          go_wp2_with fail
          refine OnlyN.normal ?_
          go_wp2
          go_roundw
          case rel => exact ⟨k + 1, by omega, by go_num, Hyes.out ⟨h1, h2⟩, hend _ (((Chg.refl _ wr).alloc _).drewN 1)⟩
          case measure => simp [intOf]; omega
      · obtain ⟨ad', q, e, hq, hc3, hc4⟩ := hr.pt (k := k - 1) (by omega)
        injection e with e
        subst e
        have hsp : decide (p.1 < -1099511627776) = true ∨ (decide (p.1 < -1099511627776) = false ∧ decide (1099511627776 < p.1) = true) ∨ (decide (p.1 < -1099511627776) = false ∧ decide (1099511627776 < p.1) = false ∧ decide (p.1 ≤ q.1) = true) ∨
            (decide (p.1 < -1099511627776) = false ∧ decide (1099511627776 < p.1) = false ∧ decide (p.1 ≤ q.1) = false) := by simp only [decide_eq_true_eq, decide_eq_false_iff_not]; omega
        have hno : (decide (p.1 < -1099511627776) = true ∨ decide (1099511627776 < p.1) = true) → ¬ Okp ps := fun h ho => by simp only [decide_eq_true_eq] at h; have := (ho k p hp).1; omega
        have hno2 : decide (p.1 ≤ q.1) = true → ¬ Okp ps := fun h ho => by simp only [decide_eq_true_eq] at h; have := (ho (k - 1) q hq).2 p (by rw [show k - 1 + 1 = k by omega]; exact hp); omega
        have hyes : decide (p.1 < -1099511627776) = false ∧ decide (1099511627776 < p.1) = false ∧ decide (p.1 ≤ q.1) = false → OkTo ps (k + 1) := fun h => by
          simp only [decide_eq_false_iff_not] at h
          refine okto_step hto hp (by omega) fun q' => ?_
          by_cases hqq : ps[k - 1]? = some q'
          · right; right
            rw [hq] at hqq
            injection hqq with hqq
            subst hqq
            omega
          · exact .inr (.inl hqq)
        have Hno := Lib.hid hno
        have Hno2 := Lib.hid hno2
        have Hyes := Lib.hid hyes
        have hc3' := cell?_grew hc3 ((Chg.refl (fun _ => False) wr).alloc (.cells #[.int .i64 p.1, .int .u64 (p.2 : Int)] 82))
        clear hno hno2 hyes hp hq hto hr h hc4
        rcases hsp with h1 | ⟨h1, h2⟩ | ⟨h1, h2, h3⟩ | ⟨h1, h2, h3⟩
        · go_wp2
          refine wp_region_text [(3, 1), (2, 1)] (by kernel_rfl) (by kernel_rfl) ?_
          simp only [instr, chk, look, Nat.reduceBEq, Bool.false_eq_true, if_true, if_false, Nat.reduceEqDiff, List.cons_append, List.nil_append]
          go_wp2_with fail
          refine OnlyN.normal ?_
          go_wp2
          go_ret
          exact ⟨false, rfl, by simp [Hno.out (.inl h1)], hend _ (((Chg.refl _ wr).alloc _).drewN 1)⟩
        · go_wp2
          refine wp_region_text [(3, 1), (2, 1)] (by kernel_rfl) (by kernel_rfl) ?_
          simp only [instr, chk, look, Nat.reduceBEq, Bool.false_eq_true, if_true, if_false, Nat.reduceEqDiff, List.cons_append, List.nil_append]
          go_wp2_with fail
          refine OnlyN.normal ?_
          go_wp2
          go_ret
          exact ⟨false, rfl, by simp [Hno.out (.inr h2)], hend _ (((Chg.refl _ wr).alloc _).drewN 1)⟩
        · go_wp2
          refine wp_region_text [(3, 1), (2, 1)] (by kernel_rfl) (by kernel_rfl) ?_
          simp only [instr, chk, look, Nat.reduceBEq, Bool.false_eq_true, if_true, if_false, Nat.reduceEqDiff, List.cons_append, List.nil_append]
          go_wp2_with fail
          refine OnlyN.normal ?_
          go_wp2
          go_ret
          exact ⟨false, rfl, by simp [Hno2.out h3], hend _ (((Chg.refl _ wr).alloc _).drewN 1)⟩
        · go_wp2
          refine wp_region_text [(3, 1), (2, 1)] (by kernel_rfl) (by kernel_rfl) ?_
          simp only [instr, chk, look, Nat.reduceBEq, Bool.false_eq_true, if_true, if_false, Nat.reduceEqDiff, List.cons_append, List.nil_append]
          go_wp2_with fail
          refine OnlyN.normal ?_
          go_wp2
          go_roundw
          case rel => exact ⟨k + 1, by omega, by go_num, Hyes.out ⟨h1, h2, h3⟩, hend _ (((Chg.refl _ wr).alloc _).drewN 1)⟩
          case measure => simp [intOf]; omega
    · have hkn : k = n := by omega
      subst hkn
      have hl := h.1
      have Hok := Lib.hid (show Okp ps from okp_of_to (by rw [hl]; exact hto))
      clear hl h hto
      go_wp2
      go_ret
      exact ⟨true, rfl, by simp [Hok.out], hg⟩
end Go.Proofs.YtlcaaacbookopaaGreatDoor
