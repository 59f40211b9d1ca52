/-
  Package chunk: window.value: what it lays, and the window that it hands back. Conditions: lengths that memory bears.
-/
import Derived.Test.YtlilnibinligkaaKa
namespace Go.Proofs.Ytlilnibinligkaa
open Go.RowKit

def winV (w : Win) : Value := .agg #[.int .i64 (w.1 : Int), .int .i64 (w.2.1 : Int), .bool w.2.2]
def ValR (w : World) (base g : Nat) (bs : List Bool) (wn : Win) (e : Ending) (w' : World) : Prop := e = .returned (winV wn) ∧ RowIs w' base g bs ∧ RChg base g w w'

/-- three cells of a block known whole -/
theorem Blk.three {w : World} {h : Nat} {t : TypeId} {a b c : Value} (hb : Blk w h t #[a, b, c]) : w.cell? ⟨h, 0, none⟩ = some a ∧ w.cell? ⟨h, 1, none⟩ = some b ∧ w.cell? ⟨h, 2, none⟩ = some c :=
  ⟨by rw [hb.cell]; rfl, by rw [hb.cell]; rfl, by rw [hb.cell]; rfl⟩

/-- three stores into a block of the call's own -/
theorem store3 {w w1 : World} {base g h : Nat} {bs : List Bool} {t : TypeId} {a b c a' b' c' : Value} (hb : Blk w1 h t #[a, b, c]) (hg : h ≠ g) (ht : t ≠ 5) (hr : RowIs w1 base g bs) (hc : RChg base g w w1) (hh : w.heap.size ≤ h) :
    Blk (((w1.setCell ⟨h, 0, none⟩ a').setCell ⟨h, 1, none⟩ b').setCell ⟨h, 2, none⟩ c') h t #[a', b', c'] ∧ RowIs (((w1.setCell ⟨h, 0, none⟩ a').setCell ⟨h, 1, none⟩ b').setCell ⟨h, 2, none⟩ c') base g bs ∧ RChg base g w (((w1.setCell ⟨h, 0, none⟩ a').setCell ⟨h, 1, none⟩ b').setCell ⟨h, 2, none⟩ c') := by
  have b1 := hb.set 0 a'
  have b2 := b1.set 1 b'
  have b3 := b2.set 2 c'
  refine ⟨by simpa using b3, ((hr.far hb hg ht 0 a').far b1 hg ht 1 b').far b2 hg ht 2 c', ?_⟩
  exact Chg.setCell (Chg.setCell (Chg.setCell hc (p := ⟨h, 0, none⟩) (.inl hh) _) (p := ⟨h, 1, none⟩) (.inl hh) _) (p := ⟨h, 2, none⟩) (.inl hh) _

set_option maxRecDepth 100000 in
set_option maxHeartbeats 2000000 in
theorem value_any (g : Nat) (bs : List Bool) (wa wb : Nat) (wh : Bool) (x : Nat) (xz : Int) (base : Nat) (w : World) (h : RowIs w base g bs) (hxz : xz = (x : Int)) (hx : x < 18446744073709551616) (hw : WinOk (wa, wb, wh)) (hN : bs.length ≤ 140737488350000) :
    Calls Try.prog 33 #[.agg #[.int .i64 (wa : Int), .int .i64 (wb : Int), .bool wh], .pointer (some ⟨g, 0, none⟩), .int .u64 xz] w (ValR w base g (bs ++ (valB (wa, wb, wh) x).1) (valB (wa, wb, wh) x).2) := by
  subst hxz
  have hg := h.lt
  have hr0 := (h.grew ((Chg.refl _ w).alloc (.cells #[.int .i64 (wa : Int), .int .i64 (wb : Int), .bool wh] 56))).grew ((Chg.refl _ _).alloc (.cells #[.int .i64 0, .int .i64 0, .bool false] 56))
  have hc0 : RChg base g w ((w.alloc (.cells #[.int .i64 (wa : Int), .int .i64 (wb : Int), .bool wh] 56)).alloc (.cells #[.int .i64 0, .int .i64 0, .bool false] 56)) := ((RChg.refl base g w).alloc _).alloc _
  have b3 : Blk ((w.alloc (.cells #[.int .i64 (wa : Int), .int .i64 (wb : Int), .bool wh] 56)).alloc (.cells #[.int .i64 0, .int .i64 0, .bool false] 56)) w.heap.size 56 #[.int .i64 (wa : Int), .int .i64 (wb : Int), .bool wh] := (Blk.new w _ _).alloc _
  have b6 : Blk ((w.alloc (.cells #[.int .i64 (wa : Int), .int .i64 (wb : Int), .bool wh] 56)).alloc (.cells #[.int .i64 0, .int .i64 0, .bool false] 56)) (w.heap.size + 1) 56 #[.int .i64 0, .int .i64 0, .bool false] := by
    have := Blk.new (w.alloc (.cells #[.int .i64 (wa : Int), .int .i64 (wb : Int), .bool wh] 56)) 56 #[.int .i64 0, .int .i64 0, .bool false]
    simpa using this
  by_cases h0 : x = 0
  · subst h0
    go_enter Try.func33, Try.ntmps33
    go_wp2_with fail
    refine (put_row g bs 0 1 _ _ base _ hr0 rfl rfl (by omega) (by omega) (by omega)).mono ?_
    rintro e w1 ⟨rfl, hr1, hc1⟩
    have b31 := (hc1.blk b3 (by omega) (by decide)).three
    obtain ⟨f1, f2, f3⟩ := b31
    have b61 := hc1.blk b6 (by omega) (by decide)
    obtain ⟨e1, e2, e3⟩ := b61.three
    have z0 := b61.frozen 0
    have z1 := b61.frozen 1
    have z2 := b61.frozen 2
    go_wp2
    obtain ⟨k1, k2, k3⟩ := store3 (a' := .int .i64 (wa : Int)) (b' := .int .i64 (wb : Int)) (c' := .bool wh) b61 (by omega) (by decide) hr1 (hc0.trans hc1) (by omega)
    obtain ⟨q1, q2, q3⟩ := k1.three
    refine bodyPost_ret (v := winV (wa, wb, wh)) (by simp [results, Try.results33, go_sem, q1, q2, q3, winV]) rfl ⟨by simp [valB], by simpa [valB, toBits] using k2, k3⟩
  · have hl := lz_tz h0 hx
    have hll := lz_le x
    have e0 : ((x : Int) == 0) = false := by simpa using h0
    have N0 : ∀ w, Calls Try.prog 40 #[.int .u64 (x : Int)] w fun e w' => e = .returned (.tuple #[.int .i64 (lz x : Int), .int .i64 (tz x : Int)]) ∧ w = w' := fun w => noughts_any x w hx h0
    by_cases hc : wh = true ∧ wa ≤ lz x ∧ wb ≤ tz x
    · obtain ⟨rfl, hca, hcb⟩ := hc
      have hwo := hw rfl
      have HV := Lib.hid (show valB (wa, wb, true) x = (toBits 1 1 ++ toBits 0 1 ++ toBits (x / 2 ^ wb) (64 - wa - wb), (wa, wb, true)) by unfold valB; rw [if_neg h0, if_pos ⟨rfl, hca, hcb⟩])
      have hxd : ((x : Int) / 2 ^ wb) = ((x / 2 ^ wb : Nat) : Int) := by simp
      have hxl := Nat.div_le_self x (2 ^ wb)
      have Hxd := Lib.hid hxd
      generalize lz x = a at *
      generalize tz x = b at *
      have N1 := Lib.hid N0
      clear N0 hxd hw h0
      go_enter Try.func33, Try.ntmps33
      go_wp2_with fail
      refine (put_row g bs 1 1 _ _ base _ hr0 rfl rfl (by omega) (by omega) (by omega)).mono ?_
      rintro e w1 ⟨rfl, hr1, hc1⟩
      have b31 := hc1.blk b3 (by omega) (by decide)
      have b61 := hc1.blk b6 (by omega) (by decide)
      have g1 := hc0.trans hc1
      clear hc0 hc1 b3 b6 hr0
      obtain ⟨f1, f2, f3⟩ := b31.three
      go_wp2_with fail
      refine (N1.out _).mono ?_
      rintro e w2 ⟨rfl, rfl⟩
      go_wp2_with fail
      refine (put_row g _ 0 1 _ _ base _ hr1 rfl rfl (by omega) (by omega) (by simp; omega)).mono ?_
      rintro e w2 ⟨rfl, hr2, hc2⟩
      have b32 := hc2.blk b31 (by omega) (by decide)
      have b62 := hc2.blk b61 (by omega) (by decide)
      have g2 := g1.trans hc2
      clear g1 hc2 b31 b61 hr1 f1 f2 f3
      obtain ⟨f1, f2, f3⟩ := b32.three
      go_wp2_with fail
      refine wp_region_text [(3, 1), (38, 1)] (by kernel_rfl) (by kernel_rfl) ?_
      simp only [instr, chk, look, Nat.reduceBEq, Bool.false_eq_true, if_true, if_false, Nat.reduceEqDiff, List.cons_append, List.nil_append]
      go_wp2_with fail
      refine (put_row g _ (x / 2 ^ wb) (64 - wa - wb) _ _ base _ (by exact hr2) Hxd.out (by omega) (by omega) (by omega) (by simp; omega)).mono ?_
      rintro e w3 ⟨rfl, hr3, hc3⟩
      have g2' : RChg base g w w2.drew := g2.drewN 1
      have b33 := RChg.blk hc3 (h := w.heap.size) (t := 56) (by exact b32) (by omega) (by decide)
      have b63 := RChg.blk hc3 (h := w.heap.size + 1) (t := 56) (by exact b62) (by omega) (by decide)
      have g3 := g2'.trans hc3
      clear g2 g2' hc3 b32 b62 hr2 f1 f2 f3
      obtain ⟨f1, f2, f3⟩ := b33.three
      obtain ⟨e1, e2, e3⟩ := b63.three
      have z0 := b63.frozen 0
      have z1 := b63.frozen 1
      have z2 := b63.frozen 2
      go_wp2_with fail
      refine OnlyN.normal ?_
      go_wp2
      obtain ⟨k1, k2, k3⟩ := store3 (a' := .int .i64 (wa : Int)) (b' := .int .i64 (wb : Int)) (c' := .bool true) b63 (by omega) (by decide) hr3 g3 (by omega)
      obtain ⟨q1, q2, q3⟩ := k1.three
      refine bodyPost_ret (v := winV (wa, wb, true)) (by simp [results, Try.results33, go_sem, q1, q2, q3, winV]) rfl ⟨by rw [HV.out], ?_, k3⟩
      rw [HV.out]
      simpa using k2
    · have hsp : wh = false ∨ (wh = true ∧ lz x < wa) ∨ (wh = true ∧ wa ≤ lz x ∧ tz x < wb) := by
        cases wh
        · exact .inl rfl
        · right
          by_cases h1 : lz x < wa
          · exact .inl ⟨rfl, h1⟩
          · right
            refine ⟨rfl, by omega, ?_⟩
            by_cases h2 : tz x < wb
            · exact h2
            · exact (hc ⟨rfl, by omega, by omega⟩).elim
      have HV := Lib.hid (show valB (wa, wb, wh) x = (toBits 1 1 ++ toBits 1 1 ++ toBits (lz x) 5 ++ toBits (63 - lz x - tz x) 6 ++ toBits (x / 2 ^ tz x) (64 - lz x - tz x), (lz x, tz x, true)) by unfold valB; rw [if_neg h0, if_neg hc])
      have hxd : ((x : Int) / 2 ^ tz x) = ((x / 2 ^ tz x : Nat) : Int) := by simp
      have hxl := Nat.div_le_self x (2 ^ tz x)
      have Hxd := Lib.hid hxd
      have hw64 : wh = true → wa ≤ 31 ∧ wb ≤ 63 := fun h => by have := hw h; simp only at this; omega
      generalize lz x = a at *
      generalize tz x = b at *
      have N1 := Lib.hid N0
      clear N0 hxd hw h0 hc
      rcases hsp with rfl | ⟨rfl, hs⟩ | ⟨rfl, hs, hs2⟩
      all_goals
        try have hw65 := hw64 rfl
        clear hw64
        go_enter Try.func33, Try.ntmps33
        go_wp2_with fail
        refine (put_row g bs 1 1 _ _ base _ hr0 rfl rfl (by omega) (by omega) (by omega)).mono ?_
        rintro e w1 ⟨rfl, hr1, hc1⟩
        have b31 := hc1.blk b3 (by omega) (by decide)
        have b61 := hc1.blk b6 (by omega) (by decide)
        have g1 := hc0.trans hc1
        clear hc0 hc1 b3 b6 hr0
        obtain ⟨f1, f2, f3⟩ := b31.three
        go_wp2_with fail
        refine (N1.out _).mono ?_
        rintro e w2 ⟨rfl, rfl⟩
        go_wp2_with fail
        refine (put_row g _ 1 1 _ _ base _ hr1 rfl rfl (by omega) (by omega) (by simp; omega)).mono ?_
        rintro e w2 ⟨rfl, hr2, hc2⟩
        have b62 := hc2.blk b61 (by omega) (by decide)
        have g2 := g1.trans hc2
        clear g1 hc2 b31 b61 hr1 f1 f2 f3
        go_wp2_with fail
        refine (put_row g _ a 5 _ _ base _ hr2 (by omega) rfl (by omega) (by omega) (by simp; omega)).mono ?_
        rintro e w3 ⟨rfl, hr3, hc3⟩
        have b63 := hc3.blk b62 (by omega) (by decide)
        have g3 := g2.trans hc3
        clear g2 hc3 b62 hr2
        go_wp2_with fail
        refine (put_row g _ (63 - a - b) 6 _ _ base _ hr3 (by omega) rfl (by omega) (by omega) (by simp; omega)).mono ?_
        rintro e w4 ⟨rfl, hr4, hc4⟩
        have b64 := hc4.blk b63 (by omega) (by decide)
        have g4 := g3.trans hc4
        clear g3 hc4 b63 hr3
        go_wp2_with fail
        refine (put_row g _ (x / 2 ^ b) (64 - a - b) _ _ base _ hr4 Hxd.out (by omega) (by omega) (by omega) (by simp; omega)).mono ?_
        rintro e w5 ⟨rfl, hr5, hc5⟩
        have b65 := hc5.blk b64 (by omega) (by decide)
        have g5 := g4.trans hc5
        clear g4 hc5 b64 hr4
        obtain ⟨e1, e2, e3⟩ := b65.three
        have z0 := b65.frozen 0
        have z1 := b65.frozen 1
        have z2 := b65.frozen 2
        go_wp2
        obtain ⟨k1, k2, k3⟩ := store3 (a' := .int .i64 (a : Int)) (b' := .int .i64 (b : Int)) (c' := .bool true) b65 (by omega) (by decide) hr5 g5 (by omega)
        obtain ⟨q1, q2, q3⟩ := k1.three
        refine bodyPost_ret (v := winV (a, b, true)) (by simp [results, Try.results33, go_sem, q1, q2, q3, winV]) rfl ⟨by rw [HV.out], ?_, k3⟩
        rw [HV.out]
        simpa using k2
end Go.Proofs.Ytlilnibinligkaa
