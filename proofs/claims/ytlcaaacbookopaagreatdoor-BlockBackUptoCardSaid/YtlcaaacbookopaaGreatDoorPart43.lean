/-
  Several texts in one:
  The law BlockBack, walked. Conditions: lengths that memory bears; the table that the library reads.
-/
import Derived.Test.YtlcaaacbookopaaGreatDoorPart41
import Derived.Test.YtlcaaacbookopaaGreatDoorPart42
import Derived.Deep.DeepCutAuto

namespace Go.Proofs.YtlcaaacbookopaaGreatDoor
open Go.RowKit

/-- a block's encoding in one word -/
theorem enck_one (ss : List Ser) (hv : ∀ s ∈ ss, Okv s.pts) (hn : ss.length ≤ 9223372036854775807) : ∃ (R : List UInt8) (z : Nat), R.length ≤ 300000000 ∧ ((z = 0 ∧ BkV ss ∧ R = blkB (tabT ss) ss) ∨ (z = 90 ∧ ¬ BkOk ss ∧ R = [])) ∧
    ∀ (A : Option Addr) (n c : Nat) (w : World), RS w A n ss → Calls Tryz.prog 18 #[.slice A n c] w (EncP w R (z : Int)) := by
  by_cases hok : BkOk ss
  · exact ⟨_, 0, blkB_len (hok.bks hv), .inl ⟨rfl, ⟨hok, hv⟩, rfl⟩, fun A n c w h => encK_ok A n c ss w h hok hv⟩
  · exact ⟨[], 90, by simp, .inr ⟨rfl, hok, rfl⟩, fun A n c w h => encK_no A n c ss w h (by rw [← h.len]; exact hn) hok⟩
theorem encm_one (m : Met) (hw : MetW m) (hp : m.src.length ≤ 9223372036854775807) : ∃ (L : List UInt8) (z : Nat), L.length ≤ 2000 ∧ ((z = 0 ∧ metOk m = true ∧ L = encM m) ∨ (z = 92 ∧ metOk m = false ∧ L = [])) ∧
    ∀ (D : Option Addr) (p d : Nat) (w : World), RE elU w D p m.src → Calls Tryz.prog 11 #[.agg #[.int .u64 (m.id : Int), .int .i64 m.lo, .int .i64 m.hi, .int .i64 m.lv, .slice D p d, .int .i64 m.sr, .int .i64 m.pt]] w (EncP w L (z : Int)) := by
  cases hok : metOk m
  · exact ⟨[], 92, by simp, .inr ⟨rfl, rfl, rfl⟩, fun D p d w h => encodeMeta_no m D p d w h (by rw [← h.1]; exact hp) hok⟩
  · obtain ⟨k, h1, h2⟩ := kencM_len hok hw
    exact ⟨encM m, 0, by omega, .inl ⟨rfl, rfl, rfl⟩, fun D p d w h => encodeMeta_ok m D p d w h hok hw⟩
theorem decm_own {m : Met} (hok : metOk m = true) (hw : MetW m) (B : Option Addr) (n c : Nat) (w : World) (hr : RB w B n (encM m)) (hc : n ≤ c ∧ c ≤ 9223372036854775807) : Calls Tryz.prog 12 #[.slice B n c] w (MtR w m 0) := by
  obtain ⟨k, h4, h5⟩ := kencM_len hok hw
  have hl := hr.1
  rw [h4] at hl
  subst hl
  exact decodeMeta_ok m hok hw w B k c hr hc (by omega)
theorem decm_one (lb : List UInt8) : (∃ m, metOk m = true ∧ MetW m ∧ lb = encM m ∧ ∀ (B : Option Addr) (n c : Nat) (w : World), RB w B n lb → n ≤ c ∧ c ≤ 9223372036854775807 → n ≤ 17592186040000 → Calls Tryz.prog 12 #[.slice B n c] w (MtR w m 0)) ∨
    ((∀ m, metOk m = true → MetW m → lb ≠ encM m) ∧ ∀ (B : Option Addr) (n c : Nat) (w : World), RB w B n lb → n ≤ c ∧ c ≤ 9223372036854775807 → n ≤ 17592186040000 → Calls Tryz.prog 12 #[.slice B n c] w (MtR w ⟨0, 0, 0, 0, [], 0, 0⟩ 92)) := by
  by_cases h : ∃ m, metOk m = true ∧ MetW m ∧ lb = encM m
  · obtain ⟨m, h1, h2, h3⟩ := h
    exact .inl ⟨m, h1, h2, h3, fun B n c w hr hc hn => decm_own h1 h2 B n c w (by rw [← h3]; exact hr) hc⟩
  · have hno : ∀ m, metOk m = true → MetW m → lb ≠ encM m := fun m h1 h2 h3 => h ⟨m, h1, h2, h3⟩
    exact .inr ⟨hno, fun B n c w hr hc hn => decodeMeta_no w B n c lb hr hc (by omega) hno⟩

theorem dcP_one {w w' : World} {lb : List UInt8} {e : Ending} (h : DcP w lb e w') : ∃ (A : Option Addr) (m d z : Nat), e = .returned (.tuple #[.slice A m d, .int .i64 (z : Int)]) ∧ Grew w w' ∧ ((z = 0 ∧ ∃ zs, RdOk w w' lb A m d zs) ∨ z = 91) := by
  rcases h with ⟨A, m, d, zs, h1, h2⟩ | ⟨h1, h2, _⟩
  · exact ⟨A, m, d, 0, h1, h2.g, .inl ⟨rfl, zs, h2⟩⟩
  · exact ⟨none, 0, 0, 91, h1, h2, .inr rfl⟩

set_option maxRecDepth 100000 in
set_option maxHeartbeats 16000000 in
theorem walk_blockBack (A : Option Addr) (n c : Nat) (ss : List Ser) (m : Met) (D : Option Addr) (p pc : Nat) (B : Option Addr) (k d : Nat) (lb : List UInt8) (w : World) (hS : InS w A n c ss) (hpk : PtsOk ss) (hA : RE elU w D p m.src) (hw : MetW m) (hp : p ≤ 17592186043904) (hB : RB w B k lb) (hd : k ≤ d ∧ d ≤ 9223372036854775807) (hk : k ≤ 1048576) (hm : MaxL w) :
    Calls Tryz.prog 4 #[.slice A n c, .agg #[.int .u64 (m.id : Int), .int .i64 m.lo, .int .i64 m.hi, .int .i64 m.lv, .slice D p pc, .int .i64 m.sr, .int .i64 m.pt], .slice B k d] w fun e w' => e = .returned (.bool true) ∧ Grew w w' := by
  have hv : ∀ s ∈ ss, Okv s.pts := fun s hs x hx => (hpk s hs x hx).2.2
  have hln := hS.rs.len
  have hlb := hS.len
  have hcap := hS.cap
  obtain ⟨R, z, hRl, hz, hE⟩ := enck_one ss hv (by omega)
  obtain ⟨L, y, hLl, hy, hM⟩ := encm_one m hw (by have := hA.1; omega)
  obtain ⟨nr, hnr⟩ : ∃ nr, R.length = nr := ⟨_, rfl⟩
  obtain ⟨nl, hnl⟩ : ∃ nl, L.length = nl := ⟨_, rfl⟩
  unfold EncP at hE hM
  rw [hnr] at hE hRl
  rw [hnl] at hM hLl
  rw [hln] at hlb
  obtain ⟨W, hW⟩ : ∃ W, W = w.alloc (.cells #[.int .u64 (m.id : Int), .int .i64 m.lo, .int .i64 m.hi, .int .i64 m.lv, .slice D p pc, .int .i64 m.sr, .int .i64 m.pt] 25) := ⟨_, rfl⟩
  have gW : Grew w W := by rw [hW]; exact (Chg.refl _ w).alloc _
  obtain ⟨g4, hg4⟩ : ∃ g4, w.heap.size = g4 := ⟨_, rfl⟩
  have b4 : Blk W g4 25 #[.int .u64 (m.id : Int), .int .i64 m.lo, .int .i64 m.hi, .int .i64 m.lv, .slice D p pc, .int .i64 m.sr, .int .i64 m.pt] := by rw [hW, ← hg4]; exact Blk.new w _ _
  have hC1 := copySeries_any A n c ss W (hS.rs.grew gW) hS.small
  unfold NewS at hC1
  rw [hln] at hC1
  have hC2 := Lib.hid fun W' (g : Grew w W') => copySeries_any A n c ss W' (hS.rs.grew g) hS.small
  have hRS := Lib.hid fun W' (g : Grew w W') => hS.rs.grew g
  have hDw := Lib.hid (decm_one lb)
  replace hE := Lib.hid hE
  replace hM := Lib.hid hM
  replace hz := Lib.hid hz
  replace hy := Lib.hid hy
  replace hm := Lib.hid hm
  replace hnr := Lib.hid hnr
  replace hnl := Lib.hid hnl
  replace hln := Lib.hid hln
  clear hS hpk hv
  go_enter Tryz.func4, Tryz.ntmps4
  go_wp2_with fail
  rw [← hW]
  clear hW
  refine hC1.mono ?_
  rintro e w1 ⟨A1, c1, rfl, hN1, g1⟩
  clear hC1
  have gg1 := gW.trans g1
  go_wp2_with fail
  refine (hE.out A1 n c1 w1 hN1.rs).mono ?_
  rintro e w2 ⟨B2, c2, rfl, o2, g2⟩
  have gg2 := gg1.trans g2
  have hWw2 := g1.trans g2
  have hcp2 := Own.cap o2
  unfold maxLen at hcp2
  have hr2 := OB.rb o2
  clear hN1 g1 g2 o2
  have hWw := Lib.hid fun W' (g : Grew w2 W') => hWw2.trans g
  go_upto_if 30 with (fail)
  go_cut [] (fun wx => Grew w2 wx)
  case first =>
    rcases hz.out with ⟨hz0, hV, hR⟩ | ⟨hz0, _, _⟩
    · subst hz0
      go_wp2_with fail
      refine (decodeK_any B2 nr c2 R w2 hr2 (by omega) (by omega)).mono ?_
      rintro e w3 (⟨A3, m3, d3, zs, rfl, hz3⟩ | ⟨_, _, hno⟩)
      rotate_left
      · exact absurd hR (hno ss hV)
      have hzs : zs = ss := hz3.v.inj hV (by rw [← hz3.b, hR])
      rw [hzs] at hz3
      have hl3 : ss.length = m3 := hz3.ns.len
      have hm3 : m3 = n := by rw [← hl3, hln.out]
      subst hm3
      have hc3 := hz3.ns.cap
      have g3 := hz3.g
      have hSs := sameS_any A3 A m3 m3 d3 c ss ss w3 hz3.ns.rs (hRS.out _ (gg2.trans g3)) (by omega) (by omega)
      rw [eqB_true rfl] at hSs
      clear hz3 hl3 hzs hR hV
      go_wp2_with fail
      refine hSs.mono ?_
      rintro e w4 ⟨rfl, g4'⟩
      go_wp2
      go_meet
      exact g3.trans g4'
    · subst hz0
      go_wp2
      go_meet
      exact Chg.refl _ _
  case rest =>
    have gg3 := gg2.trans hcut
    have hWw3 := hWw.out _ hcut
    clear hcut hr2 hcp2
    generalize wc = w3 at *
    have b4w := b4.grew hWw3
    have r0 := b4w.cell 0
    have r1 := b4w.cell 1
    have r2 := b4w.cell 2
    have r3 := b4w.cell 3
    have r4 := b4w.cell 4
    have r5 := b4w.cell 5
    have r6 := b4w.cell 6
    simp only [List.getElem?_toArray, List.getElem?_cons_succ, List.getElem?_cons_zero] at r0 r1 r2 r3 r4 r5 r6
    have hMw := hM.out D p pc w3 (hA.grew gg3)
    go_wp2_with fail
    refine hMw.mono ?_
    rintro e w4 ⟨B4, c4, rfl, o4, g4'⟩
    have gg4 := gg3.trans g4'
    have hcp4 := Own.cap o4
    unfold maxLen at hcp4
    have hr4 := OB.rb o4
    have b4x := b4w.grew g4'
    clear hMw o4 r0 r1 r2 r3 r4 r5 r6 b4w
    go_upto_if 50 with (fail)
    go_cut [] (fun wx => Grew w4 wx)
    case first =>
      rcases hy.out with ⟨hy0, hmo, hL⟩ | ⟨hy0, _, _⟩
      · subst hy0
        rw [hL] at hr4
        have hDm := decm_own hmo hw B4 nl c4 w4 hr4 (by omega)
        unfold MtR at hDm
        obtain ⟨ps, hps⟩ : ∃ ps, m.src.length = ps := ⟨_, rfl⟩
        rw [hps] at hDm
        have hpp : ps = p := by rw [← hps]; exact hA.1
        subst hpp
        replace hps := Lib.hid hps
        clear hL hr4
        go_wp2_with fail
        refine hDm.mono ?_
        rintro e w5 ⟨A5, d5, rfl, o5, g5⟩
        obtain ⟨X, hX⟩ : ∃ X, X = w5.alloc (.cells #[.int .u64 (m.id : Int), .int .i64 m.lo, .int .i64 m.hi, .int .i64 m.lv, .slice A5 ps d5, .int .i64 m.sr, .int .i64 m.pt] 25) := ⟨_, rfl⟩
        have gX : Grew w5 X := by rw [hX]; exact (Chg.refl _ w5).alloc _
        have b13 : Blk X w5.heap.size 25 #[.int .u64 (m.id : Int), .int .i64 m.lo, .int .i64 m.hi, .int .i64 m.lv, .slice A5 ps d5, .int .i64 m.sr, .int .i64 m.pt] := by rw [hX]; exact Blk.new w5 _ _
        have b4X := (b4x.grew g5).grew gX
        have p0 := b13.cell 0
        have p1 := b13.cell 1
        have p2 := b13.cell 2
        have p3 := b13.cell 3
        have p4 := b13.cell 4
        have p5 := b13.cell 5
        have p6 := b13.cell 6
        have q0 := b4X.cell 0
        have q1 := b4X.cell 1
        have q2 := b4X.cell 2
        have q3 := b4X.cell 3
        have q4 := b4X.cell 4
        have q5 := b4X.cell 5
        have q6 := b4X.cell 6
        simp only [List.getElem?_toArray, List.getElem?_cons_succ, List.getElem?_cons_zero] at p0 p1 p2 p3 p4 p5 p6 q0 q1 q2 q3 q4 q5 q6
        have hSm := sameMeta_eq m A5 D ps d5 pc X (OE.re (by decide) (OE.grew o5 gX)) (hA.grew (gg4.trans (g5.trans gX))) (by omega)
        rw [hX] at q0 q1 q2 q3 q4 q5 q6 p0 p1 p2 p3 p4 p5 p6
        have g5X := g5.trans gX
        clear hDm o5 b13 b4X gX
        go_wp2_with fail
        rw [← hX]
        clear hX p0 p1 p2 p3 p4 p5 p6 q0 q1 q2 q3 q4 q5 q6
        refine hSm.mono ?_
        rintro e w6 ⟨rfl, g6⟩
        go_wp2
        go_meet
        exact g5X.trans g6
      · subst hy0
        go_wp2
        go_meet
        exact Chg.refl _ _
    case rest =>
      have gg5 := gg4.trans hcut
      clear hcut hr4 hcp4 b4x hM
      generalize wc = w5 at *
      have hCb := copyBytes_any B k d lb w5 (hB.grew gg5) (by omega)
      unfold NewB at hCb
      go_wp2_with fail
      refine hCb.mono ?_
      rintro e w6 ⟨A6, c6, rfl, o6, g6⟩
      have hcp6 := Own.cap o6
      unfold maxLen at hcp6
      have gg6 := gg5.trans g6
      have hDk := (decodeK_any A6 k c6 lb w6 (OB.rb o6) (by omega) (by omega)).mono fun e w' h => dcP_one h
      clear hCb o6 hcp6
      go_wp2_with fail
      refine hDk.mono ?_
      rintro e w7 ⟨A7, m7, d7, z7, rfl, g7, hz7⟩
      have gg7 := gg6.trans g7
      replace hz7 := Lib.hid hz7
      clear hDk
      go_upto_if 71 with (fail)
      go_cut [] (fun wx => Grew w7 wx)
      case first =>
        rcases hz7.out with ⟨h0, zs, h1⟩ | h0
        · subst h0
          have hlk := hB.1
          have hEk := encK_ok A7 m7 d7 zs w7 h1.ns.rs h1.v.1 h1.v.2
          unfold EncP at hEk
          rw [← h1.b, hlk] at hEk
          replace hlk := Lib.hid hlk
          clear h1
          go_wp2_with fail
          refine hEk.mono ?_
          rintro e w8 ⟨B8, c8, rfl, o8, g8⟩
          have hSb := sameBytes_yes B8 B k k c8 d lb w8 (OB.rb o8) (hB.grew (gg7.trans g8)) (by omega) (by omega)
          clear hEk o8
          go_wp2_with fail
          refine hSb.mono ?_
          rintro e w9 ⟨rfl, kk, rfl⟩
          go_wp2
          go_meet
          exact g8.drewN kk
        · subst h0
          go_wp2
          go_meet
          exact Chg.refl _ _
      case rest =>
        have gg8 := gg7.trans hcut
        clear hcut hz7
        generalize wc = w8 at *
        have hCb := copyBytes_any B k d lb w8 (hB.grew gg8) (by omega)
        unfold NewB at hCb
        go_wp2_with fail
        refine hCb.mono ?_
        rintro e w9 ⟨A9, c9, rfl, o9, g9⟩
        have hcp9 := Own.cap o9
        unfold maxLen at hcp9
        have gg9 := gg8.trans g9
        have hr9 := OB.rb o9
        clear hCb o9
        rcases hDw.out with ⟨m0, q1, q2, q3, q4⟩ | ⟨_, q4⟩
        · have hDm := q4 A9 k c9 w9 hr9 (by omega) (by omega)
          unfold MtR at hDm
          have hlk := hB.1
          have hsl := ((metOk_iff m0).1 q1).2.2.2.2.2
          obtain ⟨ps, hps⟩ : ∃ ps, m0.src.length = ps := ⟨_, rfl⟩
          rw [hps] at hDm hsl
          have hEm := fun D d w h => encodeMeta_ok m0 D ps d w h q1 q2
          unfold EncP at hEm
          rw [← q3, hlk] at hEm
          replace hEm := Lib.hid hEm
          replace hlk := Lib.hid hlk
          replace hps := Lib.hid hps
          clear q1 q2 q3 q4 hr9
          go_wp2_with fail
          refine hDm.mono ?_
          rintro e w10 ⟨A10, d10, rfl, o10, g10⟩
          obtain ⟨X, hX⟩ : ∃ X, X = w10.alloc (.cells #[.int .u64 (m0.id : Int), .int .i64 m0.lo, .int .i64 m0.hi, .int .i64 m0.lv, .slice A10 ps d10, .int .i64 m0.sr, .int .i64 m0.pt] 25) := ⟨_, rfl⟩
          have gX : Grew w10 X := by rw [hX]; exact (Chg.refl _ w10).alloc _
          have hEX := hEm.out A10 d10 X (OE.re (by decide) (OE.grew o10 gX))
          have ggX := (gg9.trans g10).trans gX
          clear hDm o10 gX
          go_wp2_with fail
          rw [← hX]
          clear hX
          refine hEX.mono ?_
          rintro e w11 ⟨B11, c11, rfl, o11, g11⟩
          have gg11 := ggX.trans g11
          have hSb := sameBytes_yes B11 B k k c11 d lb w11 (OB.rb o11) (hB.grew gg11) (by omega) (by omega)
          clear hEX o11
          go_wp2_with fail
          refine hSb.mono ?_
          rintro e w12 ⟨rfl, kk, rfl⟩
          have gg12 := gg11.drewN kk
          generalize w11.drewN kk = w12 at *
          clear hSb
          go_wp2_with fail
          refine (bawake_any w12 (hm.out.grewK gg12)).mono ?_
          rintro e w13 ⟨rfl, g13⟩
          go_wp2
          go_ret
          exact ⟨by simp, gg12.trans g13⟩
        · have hDm := q4 A9 k c9 w9 hr9 (by omega) (by omega)
          unfold MtR at hDm
          clear q4 hr9
          go_wp2_with fail
          refine hDm.mono ?_
          rintro e w10 ⟨A10, d10, rfl, o10, g10⟩
          obtain ⟨X, hX⟩ : ∃ X, X = w10.alloc (.cells #[.int .u64 0, .int .i64 0, .int .i64 0, .int .i64 0, .slice A10 0 d10, .int .i64 0, .int .i64 0] 25) := ⟨_, rfl⟩
          have gX : Grew w10 X := by rw [hX]; exact (Chg.refl _ w10).alloc _
          have ggX := (gg9.trans g10).trans gX
          have hCc := hC2.out X ggX
          unfold NewS at hCc
          rw [hln.out] at hCc
          clear hDm o10 gX
          go_wp2_with fail
          rw [← hX]
          clear hX
          refine hCc.mono ?_
          rintro e w11 ⟨A11, c11, rfl, hN11, g11⟩
          have hCk := bcheck_any A11 n c11 ss w11 hN11.rs (by omega)
          have gg11 := ggX.trans g11
          clear hCc hN11
          rcases hz.out with ⟨hz0, hV, _⟩ | ⟨hz0, hV, _⟩
          · rw [errK_ok hV.1] at hCk
            subst hz0
            clear hV
            go_wp2_with fail
            refine hCk.mono ?_
            rintro e w12 ⟨rfl, g12⟩
            have gg12 := gg11.trans g12
            clear hCk
            go_wp2_with fail
            refine (bawake_any w12 (hm.out.grewK gg12)).mono ?_
            rintro e w13 ⟨rfl, g13⟩
            go_wp2
            go_ret
            exact ⟨by simp, gg12.trans g13⟩
          · rw [errK_of hV] at hCk
            subst hz0
            clear hV
            go_wp2_with fail
            refine hCk.mono ?_
            rintro e w12 ⟨rfl, g12⟩
            have gg12 := gg11.trans g12
            clear hCk
            go_wp2_with fail
            refine (bawake_any w12 (hm.out.grewK gg12)).mono ?_
            rintro e w13 ⟨rfl, g13⟩
            go_wp2
            go_ret
            exact ⟨by simp, gg12.trans g13⟩
end Go.Proofs.YtlcaaacbookopaaGreatDoor
