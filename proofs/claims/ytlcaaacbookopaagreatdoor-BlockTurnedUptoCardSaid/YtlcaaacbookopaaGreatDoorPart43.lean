/-
  Several texts in one:
  The law BlockBack, walked. Conditions: lengths that memory bears; the table that the library reads.
  Sealed bytes turned, cut short, or with bytes behind them, in plain words. Conditions: none; no program in sight.
  The law BlockTurned, walked. Conditions: lengths that memory bears; the table that the library reads.
-/
import Derived.Test.YtlcaaacbookopaaGreatDoorPart41
import Derived.Test.YtlcaaacbookopaaGreatDoorPart42
import Derived.Deep.DeepCutAuto

namespace Go.Proofs.YtlcaaacbookopaaGreatDoor
open Go.RowKit

/-- a block's encoding in one word -/
theorem enck_one (ss : List Ser) (hv : ∀ s ∈ ss, Okv s.pts) (hn : ss.length ≤ 9223372036854775807) : ∃ (R : List UInt8) (z : Nat), R.length ≤ 300000000 ∧ ((z = 0 ∧ BkV ss ∧ R = blkB (tabT ss) ss) ∨ (z = 90 ∧ ¬ BkOk ss ∧ R = [])) ∧
    ∀ (A : Option Addr) (n c : Nat) (w : World), RS w A n ss → Calls Tryz.prog 18 #[.slice A n c] w (EncP w R (z : Int)) := by
  by_cases hok : BkOk ss
  · exact ⟨_, 0, blkB_len (hok.bks hv), .inl ⟨rfl, ⟨hok, hv⟩, rfl⟩, fun A n c w h => encK_ok A n c ss w h hok hv⟩
  · exact ⟨[], 90, by simp, .inr ⟨rfl, hok, rfl⟩, fun A n c w h => encK_no A n c ss w h (by rw [← h.len]; exact hn) hok⟩
theorem encm_one (m : Met) (hw : MetW m) (hp : m.src.length ≤ 9223372036854775807) : ∃ (L : List UInt8) (z : Nat), L.length ≤ 2000 ∧ ((z = 0 ∧ metOk m = true ∧ L = encM m) ∨ (z = 92 ∧ metOk m = false ∧ L = [])) ∧
    ∀ (D : Option Addr) (p d : Nat) (w : World), RE elU w D p m.src → Calls Tryz.prog 11 #[.agg #[.int .u64 (m.id : Int), .int .i64 m.lo, .int .i64 m.hi, .int .i64 m.lv, .slice D p d, .int .i64 m.sr, .int .i64 m.pt]] w (EncP w L (z : Int)) := by
  cases hok : metOk m
  · exact ⟨[], 92, by simp, .inr ⟨rfl, rfl, rfl⟩, fun D p d w h => encodeMeta_no m D p d w h (by rw [← h.1]; exact hp) hok⟩
  · obtain ⟨k, h1, h2⟩ := kencM_len hok hw
    exact ⟨encM m, 0, by omega, .inl ⟨rfl, rfl, rfl⟩, fun D p d w h => encodeMeta_ok m D p d w h hok hw⟩
theorem decm_own {m : Met} (hok : metOk m = true) (hw : MetW m) (B : Option Addr) (n c : Nat) (w : World) (hr : RB w B n (encM m)) (hc : n ≤ c ∧ c ≤ 9223372036854775807) : Calls Tryz.prog 12 #[.slice B n c] w (MtR w m 0) := by
  obtain ⟨k, h4, h5⟩ := kencM_len hok hw
  have hl := hr.1
  rw [h4] at hl
  subst hl
  exact decodeMeta_ok m hok hw w B k c hr hc (by omega)
theorem decm_one (lb : List UInt8) : (∃ m, metOk m = true ∧ MetW m ∧ lb = encM m ∧ ∀ (B : Option Addr) (n c : Nat) (w : World), RB w B n lb → n ≤ c ∧ c ≤ 9223372036854775807 → n ≤ 17592186040000 → Calls Tryz.prog 12 #[.slice B n c] w (MtR w m 0)) ∨
    ((∀ m, metOk m = true → MetW m → lb ≠ encM m) ∧ ∀ (B : Option Addr) (n c : Nat) (w : World), RB w B n lb → n ≤ c ∧ c ≤ 9223372036854775807 → n ≤ 17592186040000 → Calls Tryz.prog 12 #[.slice B n c] w (MtR w ⟨0, 0, 0, 0, [], 0, 0⟩ 92)) := by
  by_cases h : ∃ m, metOk m = true ∧ MetW m ∧ lb = encM m
  · obtain ⟨m, h1, h2, h3⟩ := h
    exact .inl ⟨m, h1, h2, h3, fun B n c w hr hc hn => decm_own h1 h2 B n c w (by rw [← h3]; exact hr) hc⟩
  · have hno : ∀ m, metOk m = true → MetW m → lb ≠ encM m := fun m h1 h2 h3 => h ⟨m, h1, h2, h3⟩
    exact .inr ⟨hno, fun B n c w hr hc hn => decodeMeta_no w B n c lb hr hc (by omega) hno⟩

theorem dcP_one {w w' : World} {lb : List UInt8} {e : Ending} (h : DcP w lb e w') : ∃ (A : Option Addr) (m d z : Nat), e = .returned (.tuple #[.slice A m d, .int .i64 (z : Int)]) ∧ Grew w w' ∧ ((z = 0 ∧ ∃ zs, RdOk w w' lb A m d zs) ∨ z = 91) := by
  rcases h with ⟨A, m, d, zs, h1, h2⟩ | ⟨h1, h2, _⟩
  · exact ⟨A, m, d, 0, h1, h2.g, .inl ⟨rfl, zs, h2⟩⟩
  · exact ⟨none, 0, 0, 91, h1, h2, .inr rfl⟩

set_option maxRecDepth 100000 in
set_option maxHeartbeats 16000000 in
theorem walk_blockBack (A : Option Addr) (n c : Nat) (ss : List Ser) (m : Met) (D : Option Addr) (p pc : Nat) (B : Option Addr) (k d : Nat) (lb : List UInt8) (w : World) (hS : InS w A n c ss) (hpk : PtsOk ss) (hA : RE elU w D p m.src) (hw : MetW m) (hp : p ≤ 17592186043904) (hB : RB w B k lb) (_hd : k ≤ d ∧ d ≤ 9223372036854775807) (hk : k ≤ 1048576) (hm : MaxL w) :
    Calls Tryz.prog 4 #[.slice A n c, .agg #[.int .u64 (m.id : Int), .int .i64 m.lo, .int .i64 m.hi, .int .i64 m.lv, .slice D p pc, .int .i64 m.sr, .int .i64 m.pt], .slice B k d] w fun e w' => e = .returned (.bool true) ∧ Grew w w' := by
  have hv : ∀ s ∈ ss, Okv s.pts := fun s hs x hx => (hpk s hs x hx).2.2
  have hln := hS.rs.len
  have hlb := hS.len
  have hcap := hS.cap
  obtain ⟨R, z, hRl, hz, hE⟩ := enck_one ss hv (by omega)
  obtain ⟨L, y, hLl, hy, hM⟩ := encm_one m hw (by have := hA.1; omega)
  obtain ⟨nr, hnr⟩ : ∃ nr, R.length = nr := ⟨_, rfl⟩
  obtain ⟨nl, hnl⟩ : ∃ nl, L.length = nl := ⟨_, rfl⟩
  unfold EncP at hE hM
  rw [hnr] at hE hRl
  rw [hnl] at hM hLl
  rw [hln] at hlb
  obtain ⟨W, hW⟩ : ∃ W, W = w.alloc (.cells #[.int .u64 (m.id : Int), .int .i64 m.lo, .int .i64 m.hi, .int .i64 m.lv, .slice D p pc, .int .i64 m.sr, .int .i64 m.pt] 25) := ⟨_, rfl⟩
  have gW : Grew w W := by rw [hW]; exact (Chg.refl _ w).alloc _
  obtain ⟨g4, hg4⟩ : ∃ g4, w.heap.size = g4 := ⟨_, rfl⟩
  have b4 : Blk W g4 25 #[.int .u64 (m.id : Int), .int .i64 m.lo, .int .i64 m.hi, .int .i64 m.lv, .slice D p pc, .int .i64 m.sr, .int .i64 m.pt] := by rw [hW, ← hg4]; exact Blk.new w _ _
  have hC1 := copySeries_any A n c ss W (hS.rs.grew gW) hS.small
  unfold NewS at hC1
  rw [hln] at hC1
  have hC2 := Lib.hid fun W' (g : Grew w W') => copySeries_any A n c ss W' (hS.rs.grew g) hS.small
  have hRS := Lib.hid fun W' (g : Grew w W') => hS.rs.grew g
  have hDw := Lib.hid (decm_one lb)
  replace hE := Lib.hid hE
  replace hM := Lib.hid hM
  replace hz := Lib.hid hz
  replace hy := Lib.hid hy
  replace hm := Lib.hid hm
  replace hnr := Lib.hid hnr
  replace hnl := Lib.hid hnl
  replace hln := Lib.hid hln
  clear hS hpk hv
  go_enter Tryz.func4, Tryz.ntmps4
  go_wp2_with fail
  rw [← hW]
  clear hW
  refine hC1.mono ?_
  rintro e w1 ⟨A1, c1, rfl, hN1, g1⟩
  clear hC1
  have gg1 := gW.trans g1
  go_wp2_with fail
  refine (hE.out A1 n c1 w1 hN1.rs).mono ?_
  rintro e w2 ⟨B2, c2, rfl, o2, g2⟩
  have gg2 := gg1.trans g2
  have hWw2 := g1.trans g2
  have hcp2 := Own.cap o2
  unfold maxLen at hcp2
  have hr2 := OB.rb o2
  clear hN1 g1 g2 o2
  have hWw := Lib.hid fun W' (g : Grew w2 W') => hWw2.trans g
  go_upto_if 30 with (fail)
  go_cut [] (fun wx => Grew w2 wx)
  case first =>
    rcases hz.out with ⟨hz0, hV, hR⟩ | ⟨hz0, _, _⟩
    · subst hz0
      go_wp2_with fail
      refine (decodeK_any B2 nr c2 R w2 hr2 (by omega) (by omega)).mono ?_
      rintro e w3 (⟨A3, m3, d3, zs, rfl, hz3⟩ | ⟨_, _, hno⟩)
      rotate_left
      · exact absurd hR (hno ss hV)
      have hzs : zs = ss := hz3.v.inj hV (by rw [← hz3.b, hR])
      rw [hzs] at hz3
      have hl3 : ss.length = m3 := hz3.ns.len
      have hm3 : m3 = n := by rw [← hl3, hln.out]
      subst hm3
      have hc3 := hz3.ns.cap
      have g3 := hz3.g
      have hSs := sameS_any A3 A m3 m3 d3 c ss ss w3 hz3.ns.rs (hRS.out _ (gg2.trans g3)) (by omega) (by omega)
      rw [eqB_true rfl] at hSs
      clear hz3 hl3 hzs hR hV
      go_wp2_with fail
      refine hSs.mono ?_
      rintro e w4 ⟨rfl, g4'⟩
      go_wp2
      go_meet
      exact g3.trans g4'
    · subst hz0
      go_wp2
      go_meet
      exact Chg.refl _ _
  case rest =>
    have gg3 := gg2.trans hcut
    have hWw3 := hWw.out _ hcut
    clear hcut hr2 hcp2
    generalize wc = w3 at *
    have b4w := b4.grew hWw3
    have r0 := b4w.cell 0
    have r1 := b4w.cell 1
    have r2 := b4w.cell 2
    have r3 := b4w.cell 3
    have r4 := b4w.cell 4
    have r5 := b4w.cell 5
    have r6 := b4w.cell 6
    simp only [List.getElem?_toArray, List.getElem?_cons_succ, List.getElem?_cons_zero] at r0 r1 r2 r3 r4 r5 r6
    have hMw := hM.out D p pc w3 (hA.grew gg3)
    go_wp2_with fail
    refine hMw.mono ?_
    rintro e w4 ⟨B4, c4, rfl, o4, g4'⟩
    have gg4 := gg3.trans g4'
    have hcp4 := Own.cap o4
    unfold maxLen at hcp4
    have hr4 := OB.rb o4
    have b4x := b4w.grew g4'
    clear hMw o4 r0 r1 r2 r3 r4 r5 r6 b4w
    go_upto_if 50 with (fail)
    go_cut [] (fun wx => Grew w4 wx)
    case first =>
      rcases hy.out with ⟨hy0, hmo, hL⟩ | ⟨hy0, _, _⟩
      · subst hy0
        rw [hL] at hr4
        have hDm := decm_own hmo hw B4 nl c4 w4 hr4 (by omega)
        unfold MtR at hDm
        obtain ⟨ps, hps⟩ : ∃ ps, m.src.length = ps := ⟨_, rfl⟩
        rw [hps] at hDm
        have hpp : ps = p := by rw [← hps]; exact hA.1
        subst hpp
        replace hps := Lib.hid hps
        clear hL hr4
        go_wp2_with fail
        refine hDm.mono ?_
        rintro e w5 ⟨A5, d5, rfl, o5, g5⟩
        obtain ⟨X, hX⟩ : ∃ X, X = w5.alloc (.cells #[.int .u64 (m.id : Int), .int .i64 m.lo, .int .i64 m.hi, .int .i64 m.lv, .slice A5 ps d5, .int .i64 m.sr, .int .i64 m.pt] 25) := ⟨_, rfl⟩
        have gX : Grew w5 X := by rw [hX]; exact (Chg.refl _ w5).alloc _
        have b13 : Blk X w5.heap.size 25 #[.int .u64 (m.id : Int), .int .i64 m.lo, .int .i64 m.hi, .int .i64 m.lv, .slice A5 ps d5, .int .i64 m.sr, .int .i64 m.pt] := by rw [hX]; exact Blk.new w5 _ _
        have b4X := (b4x.grew g5).grew gX
        have p0 := b13.cell 0
        have p1 := b13.cell 1
        have p2 := b13.cell 2
        have p3 := b13.cell 3
        have p4 := b13.cell 4
        have p5 := b13.cell 5
        have p6 := b13.cell 6
        have q0 := b4X.cell 0
        have q1 := b4X.cell 1
        have q2 := b4X.cell 2
        have q3 := b4X.cell 3
        have q4 := b4X.cell 4
        have q5 := b4X.cell 5
        have q6 := b4X.cell 6
        simp only [List.getElem?_toArray, List.getElem?_cons_succ, List.getElem?_cons_zero] at p0 p1 p2 p3 p4 p5 p6 q0 q1 q2 q3 q4 q5 q6
        have hSm := sameMeta_eq m A5 D ps d5 pc X (OE.re (by decide) (OE.grew o5 gX)) (hA.grew (gg4.trans (g5.trans gX))) (by omega)
        rw [hX] at q0 q1 q2 q3 q4 q5 q6 p0 p1 p2 p3 p4 p5 p6
        have g5X := g5.trans gX
        clear hDm o5 b13 b4X gX
        go_wp2_with fail
        rw [← hX]
        clear hX p0 p1 p2 p3 p4 p5 p6 q0 q1 q2 q3 q4 q5 q6
        refine hSm.mono ?_
        rintro e w6 ⟨rfl, g6⟩
        go_wp2
        go_meet
        exact g5X.trans g6
      · subst hy0
        go_wp2
        go_meet
        exact Chg.refl _ _
    case rest =>
      have gg5 := gg4.trans hcut
      clear hcut hr4 hcp4 b4x hM
      generalize wc = w5 at *
      have hCb := copyBytes_any B k d lb w5 (hB.grew gg5) (by omega)
      unfold NewB at hCb
      go_wp2_with fail
      refine hCb.mono ?_
      rintro e w6 ⟨A6, c6, rfl, o6, g6⟩
      have hcp6 := Own.cap o6
      unfold maxLen at hcp6
      have gg6 := gg5.trans g6
      have hDk := (decodeK_any A6 k c6 lb w6 (OB.rb o6) (by omega) (by omega)).mono fun e w' h => dcP_one h
      clear hCb o6 hcp6
      go_wp2_with fail
      refine hDk.mono ?_
      rintro e w7 ⟨A7, m7, d7, z7, rfl, g7, hz7⟩
      have gg7 := gg6.trans g7
      replace hz7 := Lib.hid hz7
      clear hDk
      go_upto_if 71 with (fail)
      go_cut [] (fun wx => Grew w7 wx)
      case first =>
        rcases hz7.out with ⟨h0, zs, h1⟩ | h0
        · subst h0
          have hlk := hB.1
          have hEk := encK_ok A7 m7 d7 zs w7 h1.ns.rs h1.v.1 h1.v.2
          unfold EncP at hEk
          rw [← h1.b, hlk] at hEk
          replace hlk := Lib.hid hlk
          clear h1
          go_wp2_with fail
          refine hEk.mono ?_
          rintro e w8 ⟨B8, c8, rfl, o8, g8⟩
          have hSb := sameBytes_yes B8 B k k c8 d lb w8 (OB.rb o8) (hB.grew (gg7.trans g8)) (by omega) (by omega)
          clear hEk o8
          go_wp2_with fail
          refine hSb.mono ?_
          rintro e w9 ⟨rfl, kk, rfl⟩
          go_wp2
          go_meet
          exact g8.drewN kk
        · subst h0
          go_wp2
          go_meet
          exact Chg.refl _ _
      case rest =>
        have gg8 := gg7.trans hcut
        clear hcut hz7
        generalize wc = w8 at *
        have hCb := copyBytes_any B k d lb w8 (hB.grew gg8) (by omega)
        unfold NewB at hCb
        go_wp2_with fail
        refine hCb.mono ?_
        rintro e w9 ⟨A9, c9, rfl, o9, g9⟩
        have hcp9 := Own.cap o9
        unfold maxLen at hcp9
        have gg9 := gg8.trans g9
        have hr9 := OB.rb o9
        clear hCb o9
        rcases hDw.out with ⟨m0, q1, q2, q3, q4⟩ | ⟨_, q4⟩
        · have hDm := q4 A9 k c9 w9 hr9 (by omega) (by omega)
          unfold MtR at hDm
          have hlk := hB.1
          have hsl := ((metOk_iff m0).1 q1).2.2.2.2.2
          obtain ⟨ps, hps⟩ : ∃ ps, m0.src.length = ps := ⟨_, rfl⟩
          rw [hps] at hDm hsl
          have hEm := fun D d w h => encodeMeta_ok m0 D ps d w h q1 q2
          unfold EncP at hEm
          rw [← q3, hlk] at hEm
          replace hEm := Lib.hid hEm
          replace hlk := Lib.hid hlk
          replace hps := Lib.hid hps
          clear q1 q2 q3 q4 hr9
          go_wp2_with fail
          refine hDm.mono ?_
          rintro e w10 ⟨A10, d10, rfl, o10, g10⟩
          obtain ⟨X, hX⟩ : ∃ X, X = w10.alloc (.cells #[.int .u64 (m0.id : Int), .int .i64 m0.lo, .int .i64 m0.hi, .int .i64 m0.lv, .slice A10 ps d10, .int .i64 m0.sr, .int .i64 m0.pt] 25) := ⟨_, rfl⟩
          have gX : Grew w10 X := by rw [hX]; exact (Chg.refl _ w10).alloc _
          have hEX := hEm.out A10 d10 X (OE.re (by decide) (OE.grew o10 gX))
          have ggX := (gg9.trans g10).trans gX
          clear hDm o10 gX
          go_wp2_with fail
          rw [← hX]
          clear hX
          refine hEX.mono ?_
          rintro e w11 ⟨B11, c11, rfl, o11, g11⟩
          have gg11 := ggX.trans g11
          have hSb := sameBytes_yes B11 B k k c11 d lb w11 (OB.rb o11) (hB.grew gg11) (by omega) (by omega)
          clear hEX o11
          go_wp2_with fail
          refine hSb.mono ?_
          rintro e w12 ⟨rfl, kk, rfl⟩
          have gg12 := gg11.drewN kk
          generalize w11.drewN kk = w12 at *
          clear hSb
          go_wp2_with fail
          refine (bawake_any w12 (hm.out.grewK gg12)).mono ?_
          rintro e w13 ⟨rfl, g13⟩
          go_wp2
          go_ret
          exact ⟨by simp, gg12.trans g13⟩
        · have hDm := q4 A9 k c9 w9 hr9 (by omega) (by omega)
          unfold MtR at hDm
          clear q4 hr9
          go_wp2_with fail
          refine hDm.mono ?_
          rintro e w10 ⟨A10, d10, rfl, o10, g10⟩
          obtain ⟨X, hX⟩ : ∃ X, X = w10.alloc (.cells #[.int .u64 0, .int .i64 0, .int .i64 0, .int .i64 0, .slice A10 0 d10, .int .i64 0, .int .i64 0] 25) := ⟨_, rfl⟩
          have gX : Grew w10 X := by rw [hX]; exact (Chg.refl _ w10).alloc _
          have ggX := (gg9.trans g10).trans gX
          have hCc := hC2.out X ggX
          unfold NewS at hCc
          rw [hln.out] at hCc
          clear hDm o10 gX
          go_wp2_with fail
          rw [← hX]
          clear hX
          refine hCc.mono ?_
          rintro e w11 ⟨A11, c11, rfl, hN11, g11⟩
          have hCk := bcheck_any A11 n c11 ss w11 hN11.rs (by omega)
          have gg11 := ggX.trans g11
          clear hCc hN11
          rcases hz.out with ⟨hz0, hV, _⟩ | ⟨hz0, hV, _⟩
          · rw [errK_ok hV.1] at hCk
            subst hz0
            clear hV
            go_wp2_with fail
            refine hCk.mono ?_
            rintro e w12 ⟨rfl, g12⟩
            have gg12 := gg11.trans g12
            clear hCk
            go_wp2_with fail
            refine (bawake_any w12 (hm.out.grewK gg12)).mono ?_
            rintro e w13 ⟨rfl, g13⟩
            go_wp2
            go_ret
            exact ⟨by simp, gg12.trans g13⟩
          · rw [errK_of hV] at hCk
            subst hz0
            clear hV
            go_wp2_with fail
            refine hCk.mono ?_
            rintro e w12 ⟨rfl, g12⟩
            have gg12 := gg11.trans g12
            clear hCk
            go_wp2_with fail
            refine (bawake_any w12 (hm.out.grewK gg12)).mono ?_
            rintro e w13 ⟨rfl, g13⟩
            go_wp2
            go_ret
            exact ⟨by simp, gg12.trans g13⟩
end Go.Proofs.YtlcaaacbookopaaGreatDoor

namespace Go.Proofs.YtlcaaacbookopaaGreatDoor
open Go.RowKit

theorem kfour_inj {a b : Nat} (ha : a < 4294967296) (hb : b < 4294967296) (h : four a = four b) : a = b := by
  have key : ∀ s : Nat, s < 4294967296 → (four s).foldl (fun (s : Nat) c => s * 256 + c.toNat) 0 = s := fun s hs => by
    show (((0 * 256 + (UInt8.ofNat (s / 16777216)).toNat) * 256 + (UInt8.ofNat (s / 65536)).toNat) * 256 + (UInt8.ofNat (s / 256)).toNat) * 256 + (UInt8.ofNat s).toNat = s
    simp only [UInt8.toNat_ofNat']
    omega
  rw [← key a ha, h, key b hb]
theorem seal_turned {l r : List UInt8} {j : Nat} {y x : UInt8} (hx : (sealB l)[j]? = some x) (hy : y ≠ x) : (sealB l).set j y ≠ sealB r := by
  intro e
  have h4 : ∀ z, (four z).length = 4 := fun z => rfl
  have hl : l.length = r.length := by
    have := congrArg List.length e
    rw [List.length_set, sealB_len, sealB_len] at this
    omega
  unfold sealB at e hx
  by_cases hj : j < l.length
  · rw [List.set_append_left _ _ hj] at e
    rw [List.getElem?_append_left hj] at hx
    obtain ⟨e1, e2⟩ := List.append_inj e (by rw [List.length_set]; exact hl)
    have hc := kfour_inj (crc_lt l) (crc_lt r) e2
    have hs1 : l = l.take j ++ x :: l.drop (j + 1) := by
      rw [← drop_one hx, List.take_append_drop]
    have hs2 : l.set j y = l.take j ++ y :: l.drop (j + 1) := by
      rw [List.set_eq_take_append_cons_drop, if_pos hj]
    rw [← e1, hs2] at hc
    exact crc_turned (l.take j) (l.drop (j + 1)) x y (fun e => hy e.symm) (by rw [← hs1]; exact hc)
  · have hjl : j < (l ++ four (crc l)).length := (List.getElem?_eq_some_iff.1 hx).1
    rw [List.set_append_right _ _ (by omega)] at e
    rw [List.getElem?_append_right (by omega)] at hx
    obtain ⟨e1, e2⟩ := List.append_inj e hl
    rw [← e1] at e2
    have h2 : (four (crc l))[j - l.length]? = some y := by
      have h3 : ((four (crc l)).set (j - l.length) y)[j - l.length]? = (four (crc l))[j - l.length]? := by rw [e2]
      rw [← h3, List.getElem?_set_self (by rw [List.length_append, h4] at hjl; rw [h4]; omega)]
    rw [hx] at h2
    exact hy (Option.some.inj h2).symm
theorem blk_turned {ss zs : List Ser} {j : Nat} {x y : UInt8} (hx : (blkB (tabT ss) ss)[j]? = some x) (hy : y ≠ x) : (blkB (tabT ss) ss).set j y ≠ blkB (tabT zs) zs := seal_turned hx hy
theorem met_turned {m m0 : Met} {j : Nat} {x y : UInt8} (hx : (encM m)[j]? = some x) (hy : y ≠ x) : (encM m).set j y ≠ encM m0 := by
  have h1 : ∀ m, encM m = sealB (metB m) := fun m => rfl
  rw [h1] at hx ⊢
  rw [h1 m0]
  exact seal_turned hx hy
theorem blk_cut {ss zs : List Ser} (h : BkV ss) (h' : BkV zs) {j : Nat} (hj : j < (blkB (tabT ss) ss).length) : (blkB (tabT ss) ss).take j ≠ blkB (tabT zs) zs := fun e => by
  have h1 := List.take_append_drop j (blkB (tabT ss) ss)
  rw [e] at h1
  have h2 := (blk_tell h'.bks h.bks (x := (blkB (tabT ss) ss).drop j) (y := []) (by rw [List.append_nil]; exact h1)).2
  have h3 := congrArg List.length h2
  rw [List.length_drop] at h3
  simp only [List.length_nil] at h3
  omega
theorem blk_more {ss zs : List Ser} (h : BkV ss) (h' : BkV zs) {r : List UInt8} (hr : r ≠ []) : blkB (tabT ss) ss ++ r ≠ blkB (tabT zs) zs := fun e => hr (blk_tell h.bks h'.bks (x := r) (y := []) (by rw [List.append_nil]; exact e)).2
theorem met_tell {m m0 : Met} (h1 : metOk m = true) (w1 : MetW m) (h2 : metOk m0 = true) (w2 : MetW m0) {x y : List UInt8} (e : encM m ++ x = encM m0 ++ y) : x = y := by
  have hE : ∀ m, encM m = sealB (metB m) := fun m => rfl
  have key : numsM m = numsM m0 := by
    rw [hE, hE] at e
    unfold sealB at e
    rw [metB_nums, metB_nums] at e
    simp only [List.append_assoc] at e
    replace e := List.append_cancel_left e
    have n1 := numsM_lt h1 w1
    have n2 := numsM_lt h2 w2
    unfold numsM at e n1 n2 ⊢
    rw [List.flatMap_append, List.flatMap_append, List.append_assoc, List.append_assoc] at e
    obtain ⟨e1, e2⟩ := flat_cancel (xs := [m.id, m.lv.toNat, m.sr.toNat, m.pt.toNat, zz m.lo, zz m.hi, m.src.length]) (ys := [m0.id, m0.lv.toNat, m0.sr.toNat, m0.pt.toNat, zz m0.lo, zz m0.hi, m0.src.length]) rfl (fun a ha => n1 a (List.mem_append_left _ ha)) (fun a ha => n2 a (List.mem_append_left _ ha)) e
    have e3 : m.src.length = m0.src.length := by
      simp only [List.cons.injEq] at e1
      exact e1.2.2.2.2.2.2.1
    obtain ⟨e4, _⟩ := flat_cancel e3 (fun a ha => n1 a (List.mem_append_right _ ha)) (fun a ha => n2 a (List.mem_append_right _ ha)) e2
    rw [e1, e4]
  have k2 : encM m = encM m0 := by rw [hE, hE, metB_nums, metB_nums, key]
  rw [k2] at e
  exact List.append_cancel_left e
theorem met_cut {m m0 : Met} (h1 : metOk m = true) (w1 : MetW m) (h2 : metOk m0 = true) (w2 : MetW m0) {j : Nat} (hj : j < (encM m).length) : (encM m).take j ≠ encM m0 := fun e => by
  have e1 := List.take_append_drop j (encM m)
  rw [e] at e1
  have e2 := met_tell h2 w2 h1 w1 (x := (encM m).drop j) (y := []) (by rw [List.append_nil]; exact e1)
  have h3 := congrArg List.length e2
  rw [List.length_drop] at h3
  simp only [List.length_nil] at h3
  omega
theorem met_more {m m0 : Met} (h1 : metOk m = true) (w1 : MetW m) (h2 : metOk m0 = true) (w2 : MetW m0) {r : List UInt8} (hr : r ≠ []) : encM m ++ r ≠ encM m0 := fun e => hr (met_tell h1 w1 h2 w2 (x := r) (y := []) (by rw [List.append_nil]; exact e))

/-- bytes that are no block's are refused -/
theorem decK_no {lb : List UInt8} (hno : ∀ zs, BkV zs → lb ≠ blkB (tabT zs) zs) (B : Option Addr) (n c : Nat) (w : World) (h : RB w B n lb) (hn : n ≤ 1099511627776) (hc : n ≤ c ∧ c ≤ 9223372036854775807) :
    Calls Tryz.prog 20 #[.slice B n c] w fun e w' => e = .returned (.tuple #[.slice none 0 0, .int .i64 91]) ∧ Grew w w' :=
  (decodeK_any B n c lb w h hn hc).mono fun e w' he => by
    rcases he with ⟨A, m, d, zs, _, h2⟩ | ⟨h1, h2, _⟩
    · exact absurd h2.b (hno zs h2.v)
    · exact ⟨h1, h2⟩
theorem decM_no {lb : List UInt8} (hno : ∀ m, metOk m = true → MetW m → lb ≠ encM m) (B : Option Addr) (n c : Nat) (w : World) (h : RB w B n lb) (hn : n ≤ 1099511627776) (hc : n ≤ c ∧ c ≤ 9223372036854775807) :
    Calls Tryz.prog 12 #[.slice B n c] w fun e w' => ∃ A d, e = .returned (.tuple #[.agg #[.int .u64 0, .int .i64 0, .int .i64 0, .int .i64 0, .slice A 0 d, .int .i64 0, .int .i64 0], .int .i64 92]) ∧ Grew w w' :=
  (decodeMeta_no w B n c lb h hc (by omega) hno).mono fun e w' ⟨A, d, h1, _, h3⟩ => ⟨A, d, h1, h3⟩
theorem turn_allK : ∀ n : Nat, n < 256 → ∀ j : Nat, j < 8 → bits .xor .u8 (n : Int) (((2 ^ j % 256 : Nat) : Int)) = ((n ^^^ 2 ^ j : Nat) : Int) ∧ n ^^^ 2 ^ j < 256 ∧ n ^^^ 2 ^ j ≠ n := by decide +kernel
theorem turn_oneK (x : UInt8) (j : Nat) (hj : j < 8) : ∃ y : UInt8, bits .xor .u8 (x.toNat : Int) (2 ^ j % 256) = (y.toNat : Int) ∧ y ≠ x := by
  obtain ⟨h1, h2, h3⟩ := turn_allK x.toNat (UInt8.toNat_lt x) j hj
  have e : (UInt8.ofNat (x.toNat ^^^ 2 ^ j)).toNat = x.toNat ^^^ 2 ^ j := by rw [UInt8.toNat_ofNat']; exact Nat.mod_eq_of_lt h2
  refine ⟨UInt8.ofNat (x.toNat ^^^ 2 ^ j), ?_, fun h => h3 (by rw [← e, h])⟩
  rw [e, ← h1]
  simp
end Go.Proofs.YtlcaaacbookopaaGreatDoor

namespace Go.Proofs.YtlcaaacbookopaaGreatDoor
open Go.RowKit

/-- Meta of no sources: one word -/
theorem metk_ok (ss : List Ser) (hV : BkOk ss) (A : Option Addr) (n c : Nat) (w : World) (h : RS w A n ss) (hn : n ≤ 9223372036854775807) : Calls Tryz.prog 24 #[.slice A n c, .int .u64 7, .int .i64 1, .slice none 0 0] w fun e w' => ∃ (m : Met) (D : Option Addr) (d : Nat), metOk m = true ∧ MetW m ∧ m.src = [] ∧ e = .returned (.tuple #[.agg #[.int .u64 (m.id : Int), .int .i64 m.lo, .int .i64 m.hi, .int .i64 m.lv, .slice D 0 d, .int .i64 m.sr, .int .i64 m.pt], .int .i64 0]) ∧ Grew w w' :=
  (metaK_nil A n c ss 7 1 w h hn (by omega) (by omega)).mono fun e w' he => by
    rcases he with ⟨hno, _⟩ | ⟨_, lo, hi, D, d, h1, h2, h3, h4, h5⟩
    · exact absurd hV hno
    · have hb := hV.2.1
      have hl := h.len
      have ht : totK ss ≤ 8191 * ss.length := by
        have : ∀ l : List Ser, (∀ s ∈ l, s.pts.length ≤ 8191) → totK l ≤ 8191 * l.length := fun l => by
          induction l with
          | nil => intro _; simp [totK]
          | cons a l ih =>
            intro hx
            have i1 := ih fun s hs => hx s (List.mem_cons_of_mem _ hs)
            have i2 := hx a List.mem_cons_self
            rw [totK, List.length_cons]
            omega
        exact this ss fun s hs => (okK_all hV.2.2 s hs).2.2.1
      exact ⟨⟨7, lo, hi, 1, [], (n : Int), (totK ss : Int)⟩, D, d, (metOk_iff _).2 ⟨by simp, by simp; omega, by simp; omega, rfl, h2, by simp⟩, ⟨by show 7 < _; omega, ⟨by show _ ≤ lo; omega, by show lo ≤ _; omega⟩, ⟨by show _ ≤ hi; omega, by show hi ≤ _; omega⟩, fun x hx => by cases hx⟩, rfl, h4, h5⟩

set_option maxRecDepth 100000 in
set_option maxHeartbeats 16000000 in
theorem walk_blockTurned (A : Option Addr) (n c : Nat) (ss : List Ser) (at_ : Int) (B : Option Addr) (k d : Nat) (lb : List UInt8) (w : World) (hS : InS w A n c ss) (hpk : PtsOk ss) (hB : RB w B k lb) (hd : k ≤ d ∧ d ≤ 9223372036854775807) (hk : k ≤ 1048576) (hm : MaxL w) :
    Calls Tryz.prog 5 #[.slice A n c, .int .i64 at_, .slice B k d] w fun e w' => e = .returned (.bool true) ∧ Grew w w' := by
  have hv : ∀ s ∈ ss, Okv s.pts := fun s hs x hx => (hpk s hs x hx).2.2
  have hln := hS.rs.len
  have hlb := hS.len
  have hcap := hS.cap
  rw [hln] at hlb
  have hC2 := Lib.hid fun W' (g : Grew w W') => copySeries_any A n c ss W' (hS.rs.grew g) hS.small
  unfold NewS at hC2
  rw [hln] at hC2
  by_cases hok : BkOk ss
  rotate_left
  · -- refused: one error
    obtain ⟨L, y, _, _, hE2⟩ := encm_two ⟨0, 0, 0, 0, [], 0, 0⟩ ⟨by show 0 < _; omega, ⟨by show _ ≤ (0 : Int); omega, by show (0 : Int) ≤ _; omega⟩, ⟨by show _ ≤ (0 : Int); omega, by show (0 : Int) ≤ _; omega⟩, fun x hx => by cases hx⟩ (by simp)
    unfold EncP at hE2
    replace hE2 := Lib.hid hE2
    go_enter Tryz.func5, Tryz.ntmps5
    go_wp2_with fail
    refine (hC2.out w (Chg.refl _ _)).mono ?_
    rintro e w1 ⟨A1, c1, rfl, hN1, g1⟩
    go_wp2_with fail
    refine (encK_no A1 n c1 ss w1 hN1.rs (by omega) hok).mono ?_
    rintro e w2 ⟨B2, c2, rfl, o2, g2⟩
    have gg2 := g1.trans g2
    go_wp2_with fail
    refine (hC2.out w2 gg2).mono ?_
    rintro e w3 ⟨A3, c3, rfl, hN3, g3⟩
    have gg3 := gg2.trans g3
    go_wp2_with fail
    refine (metaK_nil A3 n c3 ss 7 1 w3 hN3.rs (by omega) (by omega) (by omega)).mono ?_
    rintro e w4 (⟨_, rfl, g4⟩ | ⟨h9, _⟩)
    rotate_left
    · exact absurd h9 hok
    obtain ⟨X, hX⟩ : ∃ X, X = w4.alloc (.cells #[.int .u64 0, .int .i64 0, .int .i64 0, .int .i64 0, .slice none 0 0, .int .i64 0, .int .i64 0] 25) := ⟨_, rfl⟩
    have gX : Grew w4 X := by rw [hX]; exact (Chg.refl _ w4).alloc _
    have hEX := hE2.out none 0 0 X (RE.nil _ _)
    have ggX := (gg3.trans g4).trans gX
    clear o2 hN1 hN3 g1 g2 g3 g4 gX
    go_wp2_with fail
    rw [← hX]
    clear hX
    refine hEX.mono ?_
    rintro e w5 ⟨B5, c5, rfl, o5, g5⟩
    have gg5 := ggX.trans g5
    clear hEX o5
    go_wp2_with fail
    refine (bawake_any w5 (hm.grewK gg5)).mono ?_
    rintro e w6 ⟨rfl, g6⟩
    go_wp2
    go_ret
    exact ⟨by simp, gg5.trans g6⟩
  have hV : BkV ss := ⟨hok, hv⟩
  have hRl := blkB_len hV.bks
  have hno1 := Lib.hid fun j x y (hx : (blkB (tabT ss) ss)[j]? = some x) (hy : y ≠ x) zs (_ : BkV zs) => blk_turned (zs := zs) hx hy
  have hno2 := Lib.hid fun j (hj : j < (blkB (tabT ss) ss).length) zs (hz : BkV zs) => blk_cut hV hz hj
  have hno3 := Lib.hid fun r (hr : r ≠ []) zs (hz : BkV zs) => blk_more hV hz (r := r) hr
  have hE := Lib.hid fun A c w (h : RS w A n ss) => encK_ok A n c ss w h hok hv
  obtain ⟨R, hR⟩ : ∃ R, blkB (tabT ss) ss = R := ⟨_, rfl⟩
  obtain ⟨nr, hnr⟩ : ∃ nr, R.length = nr := ⟨_, rfl⟩
  rw [hR] at hRl hno1 hno2 hno3 hE
  have hR4 : 0 < R.length := by rw [← hR]; unfold blkB; rw [sealB_len]; omega
  unfold EncP at hE
  rw [hnr] at hRl hno2 hE hR4
  replace hnr := Lib.hid hnr
  replace hm := Lib.hid hm
  have hMk := Lib.hid fun A c w (h : RS w A n ss) => metk_ok ss hok A n c w h (by omega)
  clear hR hV hv hpk hok hS
  go_enter Tryz.func5, Tryz.ntmps5
  go_wp2_with fail
  refine (hC2.out w (Chg.refl _ _)).mono ?_
  rintro e w1 ⟨A1, c1, rfl, hN1, g1⟩
  go_wp2_with fail
  refine (hE.out A1 c1 w1 hN1.rs).mono ?_
  rintro e w2 ⟨B2, c2, rfl, o2, g2⟩
  have gg2 := g1.trans g2
  have hcp2 := OB.cap o2
  have hr2 := OB.rb o2
  have k2 := fun ad e => (Own.blk_lt o2 ad e).2
  clear hN1 g1 g2 o2
  go_wp2_with fail
  refine (hC2.out w2 gg2).mono ?_
  rintro e w3 ⟨A3, c3, rfl, hN3, g3⟩
  have gg3 := gg2.trans g3
  go_wp2_with fail
  refine (hMk.out A3 c3 w3 hN3.rs).mono ?_
  rintro e w4 ⟨m, D, dm, hmo, hmw, hms, rfl, g4⟩
  obtain ⟨km, hkm, hkm2⟩ := kencM_len hmo hmw
  have hmo1 := Lib.hid fun j x y (hx : (encM m)[j]? = some x) (hy : y ≠ x) m0 (_ : metOk m0 = true) (_ : MetW m0) => met_turned (m0 := m0) hx hy
  have hmo2 := Lib.hid fun j (hj : j < (encM m).length) m0 (h1 : metOk m0 = true) (h2 : MetW m0) => met_cut hmo hmw h1 h2 hj
  have hmo3 := Lib.hid fun r (hr : r ≠ []) m0 (h1 : metOk m0 = true) (h2 : MetW m0) => met_more hmo hmw h1 h2 (r := r) hr
  obtain ⟨X, hX⟩ : ∃ X, X = w4.alloc (.cells #[.int .u64 (m.id : Int), .int .i64 m.lo, .int .i64 m.hi, .int .i64 m.lv, .slice D 0 dm, .int .i64 m.sr, .int .i64 m.pt] 25) := ⟨_, rfl⟩
  have gX : Grew w4 X := by rw [hX]; exact (Chg.refl _ w4).alloc _
  have hEX := encodeMeta_ok m D 0 dm X (by rw [hms]; exact RE.nil _ _) hmo hmw
  obtain ⟨L, hL⟩ : ∃ L, encM m = L := ⟨_, rfl⟩
  obtain ⟨nl, hnl⟩ : ∃ nl, L.length = nl := ⟨_, rfl⟩
  unfold EncP at hEX
  rw [hL] at hEX hmo1 hmo2 hmo3 hkm
  rw [hnl] at hEX hmo2 hkm
  have hnlb : 4 ≤ nl ∧ nl ≤ 2000 := by omega
  replace hnl := Lib.hid hnl
  have ggX := (gg3.trans g4).trans gX
  have hr2X := ((hr2.grew g3).grew g4).grew gX
  have s2X : w2.heap.size ≤ X.heap.size := by
    have := g3.size
    have := g4.size
    have := gX.size
    omega
  clear hN3 hMk hkm hkm2 hms hmo hmw hL hE hC2 hr2 g3 g4 gX
  go_wp2_with fail
  rw [← hX]
  clear hX
  refine hEX.mono ?_
  rintro e w5 ⟨B5, c5, rfl, o5, g5⟩
  have gg5 := ggX.trans g5
  have hcp5 := OB.cap o5
  have hr5 := OB.rb o5
  have k5 := fun ad e => (Own.blk_lt o5 ad e).2
  have hr25 := hr2X.grew g5
  have s5 := g5.size
  have en1 : ((nr : Int) == 0) = false := by simp; omega
  have en2 : ((nl : Int) == 0) = false := by simp; omega
  have en3 : ¬ nr = 0 := by omega
  have en4 : ¬ nl = 0 := by omega
  have hCb := copyBytes_any B2 nr c2 R w5 hr25 (by omega)
  unfold NewB at hCb
  clear hEX o5 hr2X
  go_wp2_with fail
  refine hCb.mono ?_
  rintro e w6 ⟨P6, q6, rfl, o6, g6⟩
  have hCc := copyBytes_any B5 nl c5 L w6 (hr5.grew g6) (by omega)
  unfold NewB at hCc
  clear hCb
  go_wp2_with fail
  refine hCc.mono ?_
  rintro e w7 ⟨P7, q7, rfl, o7, g7⟩
  have gg7 := (gg5.trans g6).trans g7
  have hr27 := (hr25.grew g6).grew g7
  have hr57 := (hr5.grew g6).grew g7
  have o67 := OB.grew o6 g7
  have k6 := fun ad e => (Own.blk_lt o6 ad e)
  have k7 := fun ad e => (Own.blk_lt o7 ad e)
  have s7 := g7.size
  have s6 := g6.size
  clear hCc
  go_wp2_with fail
  refine wp_region_text [(3, 1)] (by kernel_rfl) (by kernel_rfl) ?_
  simp only [instr, chk, look, Nat.reduceBEq, if_true, if_false, Nat.reduceEqDiff, List.cons_append, List.nil_append]
  go_wp2_with fail
  refine (low_any _ _).mono ?_
  rintro e w8 ⟨r1, hr1, rfl, h8⟩
  obtain ⟨t1, ht1, htl1⟩ : ∃ t1 : Nat, (r1 : Int) % (8 * (nr : Int)) = (t1 : Int) ∧ t1 < 8 * nr := ⟨r1 % (8 * nr), by rw [Int.natCast_emod, Int.natCast_mul]; rfl, Nat.mod_lt _ (by omega)⟩
  go_wp2_with fail
  refine (low_any _ _).mono ?_
  rintro e w9 ⟨r2, hr2', rfl, h9⟩
  obtain ⟨t2, ht2, htl2⟩ : ∃ t2 : Nat, (r2 : Int) % (8 * (nl : Int)) = (t2 : Int) ∧ t2 < 8 * nl := ⟨r2 % (8 * nl), by rw [Int.natCast_emod, Int.natCast_mul]; rfl, Nat.mod_lt _ (by omega)⟩
  subst h9
  subst h8
  go_wp2_with fail
  refine OnlyN.normal ?_
  try rw [ht1]
  try rw [ht2]
  have o6d := OB.drewN o67 1
  have o7d := OB.drewN o7 1
  have hr2d : RB (w7.drewN 1) B2 nr R := hr27
  have hr5d : RB (w7.drewN 1) B5 nl L := hr57
  have ggd := gg7.drewN 1
  have hszd : (w7.drewN 1).heap.size = w7.heap.size := rfl
  rw [show w7.drewN 1 = w7.drew from rfl] at o6d o7d hr2d hr5d ggd hszd
  generalize w7.drew = V at *
  clear o67 o6 o7 hr27 hr57 hr1 hr2' ht1 ht2 gg7
  obtain ⟨h6, rfl, hb6, hl6, hcs6, hfs6, hca6, hcb6⟩ := Own.at_ o6d (by omega)
  obtain ⟨h7, rfl, hb7, hl7, hcs7, hfs7, hca7, hcb7⟩ := Own.at_ o7d (by omega)
  have hl6l : R.length = nr := hnr.out
  have hl7l : L.length = nl := hnl.out
  have ⟨x6, hx6⟩ : ∃ x6, Hid (R[t1 / 8]? = some x6) := ⟨_, List.getElem?_eq_getElem (show t1 / 8 < R.length by omega)⟩
  have ⟨x7, hx7⟩ : ∃ x7, Hid (L[t2 / 8]? = some x7) := ⟨_, List.getElem?_eq_getElem (show t2 / 8 < L.length by omega)⟩
  replace hl6l := Lib.hid hl6l
  replace hl7l := Lib.hid hl7l
  have hcell6 : V.cell? ⟨h6, t1 / 8, none⟩ = some (.int .u8 (x6.toNat : Int)) := by
    rw [hcs6 _ (by omega)]
    have := hx6.out
    simp [byt, this]
  have hcell7 : V.cell? ⟨h7, t2 / 8, none⟩ = some (.int .u8 (x7.toNat : Int)) := by
    rw [hcs7 _ (by omega)]
    have := hx7.out
    simp [byt, this]
  have hf6 := hfs6 (t1 / 8)
  have hf7 := hfs7 (t2 / 8)
  have hne67 : h6 ≠ h7 := by
    have e6 := (k6 _ rfl).2
    have e7 := (k7 _ rfl).1
    simp only at e6 e7
    omega
  have hcb6' : q6 ≤ 9223372036854775807 := by unfold maxLen at hcb6; exact hcb6
  have hcb7' : q7 ≤ 9223372036854775807 := by unfold maxLen at hcb7; exact hcb7
  clear hcs6 hcs7 hfs6 hfs7 hcb6 hcb7
  obtain ⟨y6, hy6, hyn6⟩ := turn_oneK x6 (t1 % 8) (Nat.mod_lt _ (by decide))
  obtain ⟨y7, hy7, hyn7⟩ := turn_oneK x7 (t2 % 8) (Nat.mod_lt _ (by decide))
  go_wp2
  refine wp_region_text [(3, 1), (5, 1)] (by kernel_rfl) (by kernel_rfl) ?_
  simp only [instr, chk, look, Nat.reduceBEq, Bool.false_eq_true, if_true, if_false, Nat.reduceEqDiff, List.cons_append, List.nil_append]
  go_wp2_with fail
  refine OnlyN.normal ?_
  go_upto_region 9 with fail
  obtain ⟨U, hU⟩ : ∃ U, U = (V.setCell ⟨h6, t1 / 8, none⟩ (.int .u8 (y6.toNat : Int))).drew := ⟨_, rfl⟩
  have ch6 : Chg (fun j => j = h6) V U := by rw [hU]; exact ((Chg.refl (fun j => j = h6) V).setCell (p := ⟨h6, t1 / 8, none⟩) (.inr rfl) _).drew
  have oU6 : Own U w5.heap.size 5 1 (some ⟨h6, 0, none⟩) nr q6 ((R.set (t1 / 8) y6).map byt) := by
    rw [hU]
    have := Own.set o6d (t1 / 8) (byt y6)
    rw [← List.map_set] at this
    exact this
  have oU7 := OB.chg o7d ch6 (fun ad e => by injection e with e; subst e; exact fun e => hne67 e.symm)
  have hr2U : RB U B2 nr R := hr2d.far ch6 fun ad e _ => by
    have := k2 ad e
    have := (k6 _ rfl).1
    simp only at this
    show ¬ ad.block = h6
    omega
  have hr5U : RB U B5 nl L := hr5d.far ch6 fun ad e _ => by
    have := k5 ad e
    have := (k6 _ rfl).1
    simp only at this
    show ¬ ad.block = h6
    omega
  have hw5 : w.heap.size ≤ w5.heap.size := gg5.size
  have ggU : Grew w U := ggd.step ch6 fun j hj e => by
    have e : j = h6 := e
    omega
  have hcell7U : U.cell? ⟨h7, t2 / 8, none⟩ = some (.int .u8 (x7.toNat : Int)) := ch6.cell hcell7 (fun e => hne67 e.symm)
  have hf7U : U.frozen? ⟨h7, t2 / 8, none⟩ = false := by rw [ch6.frozen (by exact hl7) (fun e => hne67 e.symm)]; exact hf7
  rw [← hU]
  clear hU ch6 hcell6 hcell7 hf6 hf7 hy6 o6d o7d hr2d hr5d ggd
  refine wp_region_text [(3, 1), (5, 1)] (by kernel_rfl) (by kernel_rfl) ?_
  simp only [instr, chk, look, Nat.reduceBEq, Bool.false_eq_true, if_true, if_false, Nat.reduceEqDiff, List.cons_append, List.nil_append]
  go_wp2_with fail
  refine OnlyN.normal ?_
  obtain ⟨Z, hZ⟩ : ∃ Z, Z = (U.setCell ⟨h7, t2 / 8, none⟩ (.int .u8 (y7.toNat : Int))).drew := ⟨_, rfl⟩
  have ch7 : Chg (fun j => j = h7) U Z := by rw [hZ]; exact ((Chg.refl (fun j => j = h7) U).setCell (p := ⟨h7, t2 / 8, none⟩) (.inr rfl) _).drew
  have oZ7 : Own Z w6.heap.size 5 1 (some ⟨h7, 0, none⟩) nl q7 ((L.set (t2 / 8) y7).map byt) := by
    rw [hZ]
    have := Own.set oU7 (t2 / 8) (byt y7)
    rw [← List.map_set] at this
    exact this
  have rZ6 : RB Z (some ⟨h6, 0, none⟩) nr (R.set (t1 / 8) y6) := OB.rb (OB.chg oU6 ch7 (fun ad e => by injection e with e; subst e; exact hne67))
  have rZ7 : RB Z (some ⟨h7, 0, none⟩) nl (L.set (t2 / 8) y7) := OB.rb oZ7
  have hr2Z : RB Z B2 nr R := hr2U.far ch7 fun ad e _ => by
    have := k2 ad e
    have := (k7 _ rfl).1
    simp only at this
    show ¬ ad.block = h7
    omega
  have hr5Z : RB Z B5 nl L := hr5U.far ch7 fun ad e _ => by
    have := k5 ad e
    have := (k7 _ rfl).1
    simp only at this
    show ¬ ad.block = h7
    omega
  have ggZ : Grew w Z := ggU.step ch7 fun j hj e => by
    have e : j = h7 := e
    have := (k7 _ rfl).1
    simp only at this
    omega
  have hD1 := decK_no (fun zs hz => hno1.out _ _ _ hx6.out hyn6 zs hz) (some ⟨h6, 0, none⟩) nr q6 Z rZ6 (by omega) (by omega)
  have hD2 := Lib.hid fun W' (g : Grew Z W') => decM_no (fun m0 h1 h2 => hmo1.out _ _ _ hx7.out hyn7 m0 h1 h2) (some ⟨h7, 0, none⟩) nl q7 W' (rZ7.grew g) (by omega) (by omega)
  have hD3 := Lib.hid fun W' (g : Grew Z W') => decK_no (fun zs hz => hno2.out (t1 / 8) (by omega) zs hz) B2 (t1 / 8) c2 W' ((hr2Z.grew g).take (by omega)) (by omega) (by omega)
  have hD4 := Lib.hid fun W' (g : Grew Z W') => decM_no (fun m0 h1 h2 => hmo2.out (t2 / 8) (by omega) m0 h1 h2) B5 (t2 / 8) c5 W' ((hr5Z.grew g).take (by omega)) (by omega) (by omega)
  clear oU6 oU7 oZ7 rZ6 rZ7 hr2U hr5U ggU hcell7U hf7U hy7 ch7 k6 k7
  have hjc1 : ((t1 / 8 : Nat) : Int) ≤ (c2 : Int) := by omega
  have hjc2 : ((t2 / 8 : Nat) : Int) ≤ (c5 : Int) := by omega
  go_wp2_with fail
  rw [← hZ]
  clear hZ
  refine hD1.mono ?_
  rintro e a1 ⟨rfl, ga1⟩
  clear hD1
  go_wp2_with fail
  refine (hD2.out a1 ga1).mono ?_
  rintro e a2 ⟨Da, da, rfl, ga2⟩
  have gz2 := ga1.trans ga2
  clear ga1 ga2
  go_wp2_with fail
  refine (hD3.out _ ?_).mono ?_
  · exact gz2.alloc _
  rintro e a3 ⟨rfl, ga3⟩
  have gz3 : Grew Z a3 := (gz2.alloc _).trans ga3
  clear gz2 ga3 hD2 hD3
  go_wp2_with fail
  refine (hD4.out a3 gz3).mono ?_
  rintro e a4 ⟨Db, db, rfl, ga4⟩
  obtain ⟨Y, hY⟩ : ∃ Y, Y = a4.alloc (.cells #[.int .u64 0, .int .i64 0, .int .i64 0, .int .i64 0, .slice Db 0 db, .int .i64 0, .int .i64 0] 25) := ⟨_, rfl⟩
  have gY : Grew Z Y := by rw [hY]; exact (gz3.trans ga4).alloc _
  have ggY := ggZ.trans gY
  have hr2Y := hr2Z.grew gY
  have hr5Y := hr5Z.grew gY
  have hBY := hB.grew ggY
  clear gz3 ga4 hD4 hr2Z hr5Z gY
  by_cases hk0 : k = 0
  · subst hk0
    go_wp2_with fail
    rw [← hY]
    clear hY
    refine (bawake_any Y (hm.out.grewK ggY)).mono ?_
    rintro e a6 ⟨rfl, g6'⟩
    go_wp2
    go_ret
    exact ⟨by simp, ggY.trans g6'⟩
  have hkp : 0 < k := by omega
  have hln0 : lb ≠ [] := fun e => by
    have := hB.1
    rw [e] at this
    simp at this
    omega
  have hCb := copyBytes_any B2 nr c2 R Y hr2Y (by omega)
  unfold NewB at hCb
  go_wp2_with fail
  rw [← hY]
  clear hY
  refine hCb.mono ?_
  rintro e a5 ⟨P5, p5, rfl, o5', ga5⟩
  have sz5 := ga5.size
  have hB5' := hBY.grew ga5
  clear hCb
  go_wp2_with (at_builtin; go_loud (refine wpList_appB rfl _ _ rfl Y.heap.size P5 nr p5 R rfl o5' sz5 B k d lb rfl hB5' (by omega) ?_); intro A6 c6 a6 h6')
  have r6 := OB.rb h6'.ob
  have c6' := OB.cap h6'.ob
  have ga6 : Grew Y a6 := h6'.grew ga5 (fun ad e => (Own.blk_lt o5' ad e).1)
  clear h6' o5' ga5 sz5 hB5'
  refine (decK_no (fun zs hz => hno3.out lb hln0 zs hz) A6 (nr + k) c6 a6 r6 (by omega) (by omega)).mono ?_
  rintro e a7 ⟨rfl, ga7⟩
  have gY7 := ga6.trans ga7
  have hCc := copyBytes_any B5 nl c5 L a7 (hr5Y.grew gY7) (by omega)
  unfold NewB at hCc
  clear r6 c6' ga6 ga7
  go_wp2_with fail
  refine hCc.mono ?_
  rintro e a8 ⟨P8, p8, rfl, o8, ga8⟩
  have gY8 := gY7.trans ga8
  have sz8 := ga8.size
  have hB8 := hBY.grew gY8
  clear hCc
  go_wp2_with (at_builtin; go_loud (refine wpList_appB rfl _ _ rfl a7.heap.size P8 nl p8 L rfl o8 sz8 B k d lb rfl hB8 (by omega) ?_); intro A9 c9 a9 h9)
  have r9 := OB.rb h9.ob
  have c9' := OB.cap h9.ob
  have ga9 : Grew a7 a9 := h9.grew ga8 (fun ad e => (Own.blk_lt o8 ad e).1)
  have gY9 := gY7.trans ga9
  clear h9 o8 ga8 sz8 hB8 ga9 gY7 gY8
  refine (decM_no (fun m0 h1 h2 => hmo3.out lb hln0 m0 h1 h2) A9 (nl + k) c9 a9 r9 (by omega) (by omega)).mono ?_
  rintro e a10 ⟨Dc, dc, rfl, ga10⟩
  have ggf := ggY.trans (gY9.trans ga10)
  obtain ⟨Q, hQ⟩ : ∃ Q, Q = a10.alloc (.cells #[.int .u64 0, .int .i64 0, .int .i64 0, .int .i64 0, .slice Dc 0 dc, .int .i64 0, .int .i64 0] 25) := ⟨_, rfl⟩
  have ggQ : Grew w Q := by rw [hQ]; exact ggf.alloc _
  clear ggf ga10 gY9 r9 c9'
  go_wp2_with fail
  rw [← hQ]
  clear hQ
  refine (bawake_any Q (hm.out.grewK ggQ)).mono ?_
  rintro e a11 ⟨rfl, g11⟩
  go_wp2
  go_ret
  exact ⟨by simp, ggQ.trans g11⟩
end Go.Proofs.YtlcaaacbookopaaGreatDoor
