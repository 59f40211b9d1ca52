/-
  Several texts in one:
  (tidewracklaw14.IndexCovers) walked. Conditions: lengths that memory bears.
-/
import Derived.Test.YtjoaonppaokhhaaGreatPart40
import Derived.Deep.CutRange
import Derived.Deep.RegionHeld3

namespace Go.Proofs.YtjoaonppaokhhaaGreat
open Go.RowKit

/-- the law's boxes of an index and of a meta -/
structure CvB (w W : World) (v : Nat) (fl : Int) (A : Option Addr) (n c : Nat) (m : Met) (D : Option Addr) (p d : Nat) : Prop where
  bi : Blk W w.heap.size 25 #[.int .u64 (v : Int), .int .i64 fl, .slice A n c]
  bm : Blk W (w.heap.size + 1) 28 #[.int .u64 (m.id : Int), .int .i64 m.lo, .int .i64 m.hi, .int .i64 m.lv, .slice D p d, .int .i64 m.sr, .int .i64 m.pt]
  gr : Grew w W
theorem CvB.grew {w W W' : World} {v : Nat} {fl : Int} {A : Option Addr} {n c : Nat} {m : Met} {D : Option Addr} {p d : Nat} (h : CvB w W v fl A n c m D p d) (hg : Grew W W') : CvB w W' v fl A n c m D p d := ⟨h.bi.grew hg, h.bm.grew hg, h.gr.trans hg⟩
theorem CvB.i {w W : World} {v : Nat} {fl : Int} {A : Option Addr} {n c : Nat} {m : Met} {D : Option Addr} {p d : Nat} (h : CvB w W v fl A n c m D p d) :
    w.heap.size < W.heap.size ∧ W.cell? ⟨w.heap.size, 0, none⟩ = some (.int .u64 (v : Int)) ∧ W.cell? ⟨w.heap.size, 1, none⟩ = some (.int .i64 fl) ∧ W.cell? ⟨w.heap.size, 2, none⟩ = some (.slice A n c) := ⟨h.bi.lt, h.bi.cell 0, h.bi.cell 1, h.bi.cell 2⟩
theorem CvB.m {w W : World} {v : Nat} {fl : Int} {A : Option Addr} {n c : Nat} {m : Met} {D : Option Addr} {p d : Nat} (h : CvB w W v fl A n c m D p d) :
    w.heap.size + 1 < W.heap.size ∧ W.cell? ⟨w.heap.size + 1, 0, none⟩ = some (.int .u64 (m.id : Int)) ∧ W.cell? ⟨w.heap.size + 1, 1, none⟩ = some (.int .i64 m.lo) ∧ W.cell? ⟨w.heap.size + 1, 2, none⟩ = some (.int .i64 m.hi) ∧ W.cell? ⟨w.heap.size + 1, 3, none⟩ = some (.int .i64 m.lv) ∧
      W.cell? ⟨w.heap.size + 1, 4, none⟩ = some (.slice D p d) ∧ W.cell? ⟨w.heap.size + 1, 5, none⟩ = some (.int .i64 m.sr) ∧ W.cell? ⟨w.heap.size + 1, 6, none⟩ = some (.int .i64 m.pt) := ⟨h.bm.lt, h.bm.cell 0, h.bm.cell 1, h.bm.cell 2, h.bm.cell 3, h.bm.cell 4, h.bm.cell 5, h.bm.cell 6⟩

set_option maxRecDepth 100000 in
set_option maxHeartbeats 16000000 in
theorem walk_indexCovers (v : Nat) (fl : Int) (A : Option Addr) (n c : Nat) (es : List Ent) (m : Met) (D : Option Addr) (p d : Nat) (id : Nat) (most t : Int) (w : World) (h : RX w A n es) (hf : Fit es) (hs : RE elU w D p m.src) (hp : p ≤ 9223372036854775807) :
    Calls Tryz.prog 5 #[.agg #[.int .u64 (v : Int), .int .i64 fl, .slice A n c], .agg #[.int .u64 (m.id : Int), .int .i64 m.lo, .int .i64 m.hi, .int .i64 m.lv, .slice D p d, .int .i64 m.sr, .int .i64 m.pt], .int .u64 (id : Int), .int .i64 most, .int .i64 t] w
      fun e w' => e = .returned (.bool true) ∧ Grew w w' := by
  have hln : es.length = n := h.len
  have hn : n ≤ 9223372036854775807 := by have := hf.n; omega
  obtain ⟨W, hW⟩ : ∃ W, W = allocL w [.cells #[.int .u64 (v : Int), .int .i64 fl, .slice A n c] 25, .cells #[.int .u64 (m.id : Int), .int .i64 m.lo, .int .i64 m.hi, .int .i64 m.lv, .slice D p d, .int .i64 m.sr, .int .i64 m.pt] 28] := ⟨_, rfl⟩
  have hB : CvB w W v fl A n c m D p d := by
    rw [hW]
    exact ⟨allocL_at _ _ 0 _ _ rfl, allocL_at _ _ 1 _ _ rfl, allocL_grew _ _⟩
  have hX := h.grew hB.gr
  replace hln := Lib.hid hln
  have hC := copyIndex_any v fl A n c es W hX hf
  go_enter Tryz.func5, Tryz.ntmps5
  go_wp2_with fail
  rw [show (w.alloc (.cells #[.int .u64 (v : Int), .int .i64 fl, .slice A n c] 25)).alloc (.cells #[.int .u64 (m.id : Int), .int .i64 m.lo, .int .i64 m.hi, .int .i64 m.lv, .slice D p d, .int .i64 m.sr, .int .i64 m.pt] 28) = W from hW.symm]
  clear hW
  refine hC.mono ?_
  rintro e w1 ⟨B1, C1, rfl, x1, g1⟩
  have hK := check_any v fl B1 n C1 es w1 x1.rx hn
  clear hC
  cases hck : chkI fl es
  · rw [hck] at hK
    go_wp2_with fail
    refine hK.mono ?_
    rintro e w2 ⟨rfl, g2⟩
    unfold errI
    go_wp2_with fail
    refine (awake_any _).mono ?_
    rintro e w3 ⟨rfl, g3⟩
    go_wp2
    go_ret
    exact ⟨rfl, ((hB.gr.trans g1).trans g2).trans g3⟩
  · have hok : IxOk fl es := (chkI_iff fl es).1 hck
    rw [hck] at hK
    go_wp2_with fail
    refine hK.mono ?_
    rintro e w2 ⟨rfl, g2⟩
    unfold errI
    have hB2 := hB.grew (g1.trans g2)
    clear hK hck x1 g1 g2 hX hB
    replace hok := Lib.hid hok
    obtain ⟨li, i0, i1, i2⟩ := hB2.i
    obtain ⟨lm, m0, m1, m2, m3, m4, m5, m6⟩ := hB2.m
    go_upto_region 3 with fail
    go_cut [11, 12] from 28 to 34 (fun b e wx => CvB w wx v fl A n c m D p d ∧ ∃ (ga va na ca : Nat) (fla : Int) (Ba : Option Addr) (esa : List Ent) (za : Int), b = .pointer (some ⟨ga, 0, none⟩) ∧ e = .int .i64 za ∧ Blk wx ga 25 #[.int .u64 (va : Int), .int .i64 fla, .slice Ba na ca] ∧ RX wx Ba na esa ∧ na ≤ 9223372036854775807 ∧
      (za = 0 → (∀ id most, covI fl es id most = true → covI fla esa id most = true) ∧ ∀ most, covI fla esa m.id most = true))
    case first =>
      have hSS : ∀ w', Grew w2 w' → (w'.cell? ⟨w.heap.size, 0, none⟩ = some (.int .u64 (v : Int)) ∧ w'.cell? ⟨w.heap.size, 1, none⟩ = some (.int .i64 fl) ∧ w'.cell? ⟨w.heap.size, 2, none⟩ = some (.slice A n c) ∧ w'.cell? ⟨w.heap.size + 1, 0, none⟩ = some (.int .u64 (m.id : Int)) ∧ w'.cell? ⟨w.heap.size + 1, 1, none⟩ = some (.int .i64 m.lo) ∧ w'.cell? ⟨w.heap.size + 1, 2, none⟩ = some (.int .i64 m.hi) ∧ w'.cell? ⟨w.heap.size + 1, 3, none⟩ = some (.int .i64 m.lv) ∧ w'.cell? ⟨w.heap.size + 1, 4, none⟩ = some (.slice D p d) ∧ w'.cell? ⟨w.heap.size + 1, 5, none⟩ = some (.int .i64 m.sr) ∧ w'.cell? ⟨w.heap.size + 1, 6, none⟩ = some (.int .i64 m.pt)) := fun w' g => ⟨(hB2.grew g).i.2.1, (hB2.grew g).i.2.2.1, (hB2.grew g).i.2.2.2, (hB2.grew g).m.2⟩
      have hXX : ∀ w', Grew w2 w' → RX w' A n es := fun w' g => h.grew (hB2.gr.trans g)
      have hSr : ∀ w', Grew w2 w' → RE elU w' D p m.src := fun w' g => hs.grew (hB2.gr.trans g)
      clear i0 i1 i2 m0 m1 m2 m3 m4 m5 m6
      go_region_held3 (fun w' => w'.cell? ⟨w.heap.size, 0, none⟩ = some (.int .u64 (v : Int)) ∧ w'.cell? ⟨w.heap.size, 1, none⟩ = some (.int .i64 fl) ∧ w'.cell? ⟨w.heap.size, 2, none⟩ = some (.slice A n c) ∧ w'.cell? ⟨w.heap.size + 1, 0, none⟩ = some (.int .u64 (m.id : Int)) ∧ w'.cell? ⟨w.heap.size + 1, 1, none⟩ = some (.int .i64 m.lo) ∧ w'.cell? ⟨w.heap.size + 1, 2, none⟩ = some (.int .i64 m.hi) ∧ w'.cell? ⟨w.heap.size + 1, 3, none⟩ = some (.int .i64 m.lv) ∧ w'.cell? ⟨w.heap.size + 1, 4, none⟩ = some (.slice D p d) ∧ w'.cell? ⟨w.heap.size + 1, 5, none⟩ = some (.int .i64 m.sr) ∧ w'.cell? ⟨w.heap.size + 1, 6, none⟩ = some (.int .i64 m.pt)) (first | exact hSS _ (by repeat (first | assumption | exact Chg.refl _ _ | refine Chg.alloc ?_ _ | refine Chg.drew ?_ | refine Chg.setCell ?_ (.inl (by first | exact Nat.le_refl _ | exact gg8.size)) _)))
        (first
          | (go_at_call 8; refine (copyIndex_any v fl A n c es _ (hXX _ (by repeat (first | assumption | exact Chg.refl _ _ | apply Chg.alloc | apply Chg.drew | apply Chg.drewN))) hf).mono ?_; rintro e w8 ⟨B8, C8, rfl, x8, g8⟩; have gg8 : Grew w2 w8 := Chg.trans (by repeat (first | assumption | exact Chg.refl _ _ | apply Chg.alloc | apply Chg.drew | apply Chg.drewN)) g8; have b8 : Blk w8 w2.heap.size 25 #[.int .u64 0, .int .i64 0, .slice none 0 0] := (by refine Blk.grew ?_ g8; exact Blk.new w2 _ _))
          | (go_at_call 8; refine (copyIndex_any v fl A n c es _ (hXX _ (by repeat (first | assumption | exact Chg.refl _ _ | apply Chg.alloc | apply Chg.drew | apply Chg.drewN))) hf).mono ?_; rintro e w8 ⟨B8, C8, rfl, x8, g8⟩; have gg8 : Grew w2 w8 := Chg.trans (by repeat (first | assumption | exact Chg.refl _ _ | apply Chg.alloc | apply Chg.drew | apply Chg.drewN)) g8)
          | (go_at_call 10; refine (add_all v fl B8 n C8 es m D p d _ (x8.rx.grew (by repeat (first | assumption | exact Chg.refl _ _ | apply Chg.alloc | apply Chg.drew | apply Chg.drewN))) hn (hSr _ (by repeat (first | assumption | exact Chg.refl _ _ | apply Chg.alloc | apply Chg.drew | apply Chg.drewN))) hp hok.out).mono ?_; rintro e w9 ⟨v9, fl9, es9, z9, ⟨B9, C9, rfl, x9, g9⟩, q9⟩; have gg9 : Grew w2 w9 := Chg.trans (by repeat (first | assumption | exact Chg.refl _ _ | apply Chg.alloc | apply Chg.drew | apply Chg.drewN)) g9; have b9 := b8.grew g9; have k0 := b9.cell 0; have k1 := b9.cell 1; have k2 := b9.cell 2; have f0 := b9.frozen 0; have f1 := b9.frozen 1; have f2 := b9.frozen 2; simp only [List.getElem?_toArray, List.getElem?_cons_succ, List.getElem?_cons_zero] at k0 k1 k2)
          | (go_at_call 10; refine (add_all v fl B8 n C8 es m D p d _ (x8.rx.grew (by repeat (first | assumption | exact Chg.refl _ _ | apply Chg.alloc | apply Chg.drew | apply Chg.drewN))) hn (hSr _ (by repeat (first | assumption | exact Chg.refl _ _ | apply Chg.alloc | apply Chg.drew | apply Chg.drewN))) hp hok.out).mono ?_; rintro e w9 ⟨v9, fl9, es9, z9, ⟨B9, C9, rfl, x9, g9⟩, q9⟩; have gg9 : Grew w2 w9 := Chg.trans (by repeat (first | assumption | exact Chg.refl _ _ | apply Chg.alloc | apply Chg.drew | apply Chg.drewN)) g9; have b9 : Blk w9 w8.heap.size 25 #[.int .u64 0, .int .i64 0, .slice none 0 0] := (by refine Blk.grew ?_ g9; exact Blk.new w8 _ _); have k0 := b9.cell 0; have k1 := b9.cell 1; have k2 := b9.cell 2; have f0 := b9.frozen 0; have f1 := b9.frozen 1; have f2 := b9.frozen 2; simp only [List.getElem?_toArray, List.getElem?_cons_succ, List.getElem?_cons_zero] at k0 k1 k2)
          | (go_at_call 10; refine (add_all v fl B8 n C8 es m D p d _ (x8.rx.grew (by repeat (first | assumption | exact Chg.refl _ _ | apply Chg.alloc | apply Chg.drew | apply Chg.drewN))) hn (hSr _ (by repeat (first | assumption | exact Chg.refl _ _ | apply Chg.alloc | apply Chg.drew | apply Chg.drewN))) hp hok.out).mono ?_; rintro e w9 ⟨v9, fl9, es9, z9, ⟨B9, C9, rfl, x9, g9⟩, q9⟩; have gg9 : Grew w2 w9 := Chg.trans (by repeat (first | assumption | exact Chg.refl _ _ | apply Chg.alloc | apply Chg.drew | apply Chg.drewN)) g9))
      all_goals
        go_wp2
        go_meet
      case rel =>
        exact ⟨hB2.grew (by repeat (first | assumption | exact Chg.refl _ _ | refine Chg.alloc ?_ _ | refine Chg.drew ?_ | refine Chg.setCell ?_ (.inl (by first | exact Nat.le_refl _ | exact gg8.size)) _)), w9.heap.size, v9, es9.length, C9, fl9, B9, es9, z9, rfl, rfl, Blk.new w9 _ _, x9.rx.grew ((Chg.refl _ w9).alloc _), by have := x9.cap; omega, q9⟩
      case rel =>
        exact ⟨hB2.grew (by repeat (first | assumption | exact Chg.refl _ _ | refine Chg.alloc ?_ _ | refine Chg.drew ?_ | refine Chg.setCell ?_ (.inl (by first | exact Nat.le_refl _ | exact gg8.size)) _)), w8.heap.size, v9, es9.length, C9, fl9, B9, es9, z9, rfl, rfl, b9.put3 _ _ _, (x9.far3 b9 (by decide) (by decide) _ _ _).rx, by have := x9.cap; omega, q9⟩
      case rel =>
        exact ⟨hB2.grew (by repeat (first | assumption | exact Chg.refl _ _ | refine Chg.alloc ?_ _ | refine Chg.drew ?_ | refine Chg.setCell ?_ (.inl (by first | exact Nat.le_refl _ | exact gg8.size)) _)), w2.heap.size, v9, es9.length, C9, fl9, B9, es9, z9, rfl, rfl, b9.put3 _ _ _, (x9.far3 b9 (by decide) (by decide) _ _ _).rx, by have := x9.cap; omega, q9⟩
    case rest =>
      obtain ⟨hB3, ga, va, na, ca, fla, Ba, esa, za, rfl, rfl, bA, xA, hna, qA⟩ := hcut
      clear li i0 i1 i2 lm m0 m1 m2 m3 m4 m5 m6 hB2
      generalize wc = w3 at *
      obtain ⟨li, i0, i1, i2⟩ := hB3.i
      go_wp2_with fail
      refine (copyIndex_any v fl A n c es _ (h.grew hB3.gr) hf).mono ?_
      rintro e w4 ⟨B4, C4, rfl, x4, g4⟩
      go_wp2_with fail
      refine (raise_all v fl B4 n C4 es t _ x4.rx hn hok.out).mono ?_
      rintro e w5 ⟨vb, flb, esb, zb, ⟨Bb, cb, rfl, xb, g5⟩, qb⟩
      have hnb : esb.length ≤ 9223372036854775807 := by have := xb.cap; omega
      generalize esb.length = nb at *
      obtain ⟨W5, hW5⟩ : ∃ W, W = w5.alloc (.cells #[.int .u64 (vb : Int), .int .i64 flb, .slice Bb nb cb] 25) := ⟨_, rfl⟩
      have gW5 : Grew w5 W5 := by rw [hW5]; exact (Chg.refl _ w5).alloc _
      have bB : Blk W5 w5.heap.size 25 #[.int .u64 (vb : Int), .int .i64 flb, .slice Bb nb cb] := by rw [hW5]; exact Blk.new _ _ _
      have g35 := (g4.trans g5).trans gW5
      have hB5 := hB3.grew g35
      replace bA := bA.grew g35
      replace xA := xA.grew g35
      replace xb := xb.rx.grew gW5
      clear li i0 i1 i2 x4 g4 g5 gW5 g35 hB3
      obtain ⟨gb, hgb⟩ : ∃ g, w5.heap.size = g := ⟨_, rfl⟩
      rw [hgb] at bB
      replace hgb := Lib.hid hgb
      obtain ⟨li, i0, i1, i2⟩ := hB5.i
      rw [hW5] at li i0 i1 i2
      go_wp2_with fail
      rw [← hW5, hgb.out]
      clear li i0 i1 i2 hW5 hgb
      refine (copyIndex_any v fl A n c es _ (h.grew hB5.gr) hf).mono ?_
      rintro e w6 ⟨B6, C6, rfl, x6, g6⟩
      go_wp2_with fail
      refine (mark_all v fl B6 n C6 es t _ x6.rx hok.out hln.out).mono ?_
      rintro e w7 ⟨Bc, cc, rfl, xc, g7⟩
      obtain ⟨W7, hW7⟩ : ∃ W, W = w7.alloc (.cells #[.int .u64 (v : Int), .int .i64 fl, .slice Bc n cc] 25) := ⟨_, rfl⟩
      have gW7 : Grew w7 W7 := by rw [hW7]; exact (Chg.refl _ w7).alloc _
      have bC : Blk W7 w7.heap.size 25 #[.int .u64 (v : Int), .int .i64 fl, .slice Bc n cc] := by rw [hW7]; exact Blk.new _ _ _
      have g57 := (g6.trans g7).trans gW7
      have hB7 := hB5.grew g57
      replace bA := bA.grew g57
      replace xA := xA.grew g57
      replace bB := bB.grew g57
      replace xb := xb.grew g57
      replace xc := xc.rx.grew gW7
      clear x6 g6 g7 gW7 g57 hB5
      obtain ⟨gc, hgc⟩ : ∃ g, w7.heap.size = g := ⟨_, rfl⟩
      rw [hgc] at bC
      replace hgc := Lib.hid hgc
      go_upto_region 6 with fail
      rw [← hW7, hgc.out]
      clear hW7 hgc
      have hi := Lib.hid fun W' (g : Grew W7 W') => (hB7.grew g).i
      have hm := Lib.hid fun W' (g : Grew W7 W') => (show w.heap.size + 1 < W'.heap.size ∧ W'.cell? ⟨w.heap.size + 1, 0, none⟩ = some (.int .u64 (m.id : Int)) from ⟨(hB7.grew g).m.1, (hB7.grew g).m.2.1⟩)
      have ha := Lib.hid fun W' (g : Grew W7 W') => (show ga < W'.heap.size ∧ W'.cell? ⟨ga, 0, none⟩ = some (.int .u64 (va : Int)) ∧ W'.cell? ⟨ga, 1, none⟩ = some (.int .i64 fla) ∧ W'.cell? ⟨ga, 2, none⟩ = some (.slice Ba na ca) from ⟨(bA.grew g).lt, (bA.grew g).cell 0, (bA.grew g).cell 1, (bA.grew g).cell 2⟩)
      have hb := Lib.hid fun W' (g : Grew W7 W') => (show gb < W'.heap.size ∧ W'.cell? ⟨gb, 0, none⟩ = some (.int .u64 (vb : Int)) ∧ W'.cell? ⟨gb, 1, none⟩ = some (.int .i64 flb) ∧ W'.cell? ⟨gb, 2, none⟩ = some (.slice Bb nb cb) from ⟨(bB.grew g).lt, (bB.grew g).cell 0, (bB.grew g).cell 1, (bB.grew g).cell 2⟩)
      have hc := Lib.hid fun W' (g : Grew W7 W') => (show gc < W'.heap.size ∧ W'.cell? ⟨gc, 0, none⟩ = some (.int .u64 (v : Int)) ∧ W'.cell? ⟨gc, 1, none⟩ = some (.int .i64 fl) ∧ W'.cell? ⟨gc, 2, none⟩ = some (.slice Bc n cc) from ⟨(bC.grew g).lt, (bC.grew g).cell 0, (bC.grew g).cell 1, (bC.grew g).cell 2⟩)
      have hgw := hB7.gr
      go_cut [93] from 49 to 93 (fun b wx => b = .bool false ∧ Grew W7 wx)
      case first =>
        clear bA bB bC
        have hCi : ∀ W B C, RX W B n es → Calls Tryz.prog 31 #[.agg #[.int .u64 (v : Int), .int .i64 fl, .slice B n C], .int .u64 (id : Int), .int .i64 most] W fun e w' => e = .returned (.bool (covI fl es id most)) ∧ Grew W w' := fun W B C hx => covered_any v fl B n C es id most W hx hn
        cases hb : covI fl es id most
        · rw [hb] at hCi
          by_cases hza : za = 0
          · subst hza
            have hCn : ∀ W, Grew W7 W → Calls Tryz.prog 31 #[.agg #[.int .u64 (va : Int), .int .i64 fla, .slice Ba na ca], .int .u64 (m.id : Int), .int .i64 4611686018427387904] W fun e w' => e = .returned (.bool true) ∧ Grew W w' := fun W g => by have := covered_any va fla Ba na ca esa m.id 4611686018427387904 W (xA.grew g) hna; rwa [(qA rfl).2 4611686018427387904] at this
            clear hb qA qb
            obtain ⟨li, i0, i1, i2⟩ := hi.out _ (Chg.refl _ W7)
            go_wp2_with fail
            refine (copyIndex_any v fl A n c es _ (h.grew hgw) hf).mono ?_
            rintro e y1 ⟨B8, C8, rfl, x8, k1⟩
            clear li i0 i1 i2
            go_wp2_with fail
            refine (hCi _ B8 C8 x8.rx).mono ?_
            rintro e y2 ⟨rfl, k2⟩
            have q0 := k1.trans k2
            clear x8 k1 k2 hCi
            obtain ⟨l0, p00, p01, p02⟩ := ha.out _ q0
            obtain ⟨lm, m0⟩ := hm.out _ q0
            go_wp2_with fail
            refine (hCn _ q0).mono ?_
            rintro e y ⟨rfl, k⟩
            have q1 := q0.trans k
            clear k l0 p00 p01 p02 lm m0 q0
            go_wp2
            go_meet
            case rel => exact ⟨rfl, q1⟩
          · have e1 : (za == 0) = false := by simpa using hza
            clear hb qA qb
            obtain ⟨li, i0, i1, i2⟩ := hi.out _ (Chg.refl _ W7)
            go_wp2_with fail
            refine (copyIndex_any v fl A n c es _ (h.grew hgw) hf).mono ?_
            rintro e y1 ⟨B8, C8, rfl, x8, k1⟩
            clear li i0 i1 i2
            go_wp2_with fail
            refine (hCi _ B8 C8 x8.rx).mono ?_
            rintro e y2 ⟨rfl, k2⟩
            have q0 := k1.trans k2
            clear x8 k1 k2 hCi
            go_wp2
            go_meet
            case rel => exact ⟨rfl, q0⟩
        · rw [hb] at hCi
          have hCc : ∀ W, Grew W7 W → Calls Tryz.prog 31 #[.agg #[.int .u64 (v : Int), .int .i64 fl, .slice Bc n cc], .int .u64 (id : Int), .int .i64 most] W fun e w' => e = .returned (.bool true) ∧ Grew W w' := fun W g => by have := covered_any v fl Bc n cc (markE es fl t) id most W (xc.grew g) hn; rwa [cov_mark hok.out t hb] at this
          by_cases hza : za = 0
          · subst hza
            have hCa : ∀ W, Grew W7 W → Calls Tryz.prog 31 #[.agg #[.int .u64 (va : Int), .int .i64 fla, .slice Ba na ca], .int .u64 (id : Int), .int .i64 most] W fun e w' => e = .returned (.bool true) ∧ Grew W w' := fun W g => by have := covered_any va fla Ba na ca esa id most W (xA.grew g) hna; rwa [(qA rfl).1 id most hb] at this
            have hCn : ∀ W, Grew W7 W → Calls Tryz.prog 31 #[.agg #[.int .u64 (va : Int), .int .i64 fla, .slice Ba na ca], .int .u64 (m.id : Int), .int .i64 4611686018427387904] W fun e w' => e = .returned (.bool true) ∧ Grew W w' := fun W g => by have := covered_any va fla Ba na ca esa m.id 4611686018427387904 W (xA.grew g) hna; rwa [(qA rfl).2 4611686018427387904] at this
            by_cases hzb : zb = 0
            · subst hzb
              have hCb : ∀ W, Grew W7 W → Calls Tryz.prog 31 #[.agg #[.int .u64 (vb : Int), .int .i64 flb, .slice Bb nb cb], .int .u64 (id : Int), .int .i64 most] W fun e w' => e = .returned (.bool true) ∧ Grew W w' := fun W g => by have := covered_any vb flb Bb nb cb esb id most W (xb.grew g) hnb; rwa [(qb rfl).1 id most hb] at this
              clear hb qA qb
              obtain ⟨li, i0, i1, i2⟩ := hi.out _ (Chg.refl _ W7)
              go_wp2_with fail
              refine (copyIndex_any v fl A n c es _ (h.grew hgw) hf).mono ?_
              rintro e y1 ⟨B8, C8, rfl, x8, k1⟩
              clear li i0 i1 i2
              go_wp2_with fail
              refine (hCi _ B8 C8 x8.rx).mono ?_
              rintro e y2 ⟨rfl, k2⟩
              have q0 := k1.trans k2
              clear x8 k1 k2 hCi
              obtain ⟨l0, p00, p01, p02⟩ := ha.out _ q0
              go_wp2_with fail
              refine (hCa _ q0).mono ?_
              rintro e y ⟨rfl, k⟩
              have q1 := q0.trans k
              clear k l0 p00 p01 p02 q0
              obtain ⟨l1, p10, p11, p12⟩ := hb.out _ q1
              go_wp2_with fail
              refine (hCb _ q1).mono ?_
              rintro e y ⟨rfl, k⟩
              have q2 := q1.trans k
              clear k l1 p10 p11 p12 q1
              obtain ⟨l2, p20, p21, p22⟩ := hc.out _ q2
              go_wp2_with fail
              refine (hCc _ q2).mono ?_
              rintro e y ⟨rfl, k⟩
              have q3 := q2.trans k
              clear k l2 p20 p21 p22 q2
              obtain ⟨l3, p30, p31, p32⟩ := ha.out _ q3
              obtain ⟨lm, m0⟩ := hm.out _ q3
              go_wp2_with fail
              refine (hCn _ q3).mono ?_
              rintro e y ⟨rfl, k⟩
              have q4 := q3.trans k
              clear k l3 p30 p31 p32 lm m0 q3
              go_wp2
              go_meet
              case rel => exact ⟨rfl, q4⟩
            · have e2 : (zb == 0) = false := by simpa using hzb
              clear hb qA qb
              obtain ⟨li, i0, i1, i2⟩ := hi.out _ (Chg.refl _ W7)
              go_wp2_with fail
              refine (copyIndex_any v fl A n c es _ (h.grew hgw) hf).mono ?_
              rintro e y1 ⟨B8, C8, rfl, x8, k1⟩
              clear li i0 i1 i2
              go_wp2_with fail
              refine (hCi _ B8 C8 x8.rx).mono ?_
              rintro e y2 ⟨rfl, k2⟩
              have q0 := k1.trans k2
              clear x8 k1 k2 hCi
              obtain ⟨l0, p00, p01, p02⟩ := ha.out _ q0
              go_wp2_with fail
              refine (hCa _ q0).mono ?_
              rintro e y ⟨rfl, k⟩
              have q1 := q0.trans k
              clear k l0 p00 p01 p02 q0
              obtain ⟨l1, p10, p11, p12⟩ := hc.out _ q1
              go_wp2_with fail
              refine (hCc _ q1).mono ?_
              rintro e y ⟨rfl, k⟩
              have q2 := q1.trans k
              clear k l1 p10 p11 p12 q1
              obtain ⟨l2, p20, p21, p22⟩ := ha.out _ q2
              obtain ⟨lm, m0⟩ := hm.out _ q2
              go_wp2_with fail
              refine (hCn _ q2).mono ?_
              rintro e y ⟨rfl, k⟩
              have q3 := q2.trans k
              clear k l2 p20 p21 p22 lm m0 q2
              go_wp2
              go_meet
              case rel => exact ⟨rfl, q3⟩
          · have e1 : (za == 0) = false := by simpa using hza
            by_cases hzb : zb = 0
            · subst hzb
              have hCb : ∀ W, Grew W7 W → Calls Tryz.prog 31 #[.agg #[.int .u64 (vb : Int), .int .i64 flb, .slice Bb nb cb], .int .u64 (id : Int), .int .i64 most] W fun e w' => e = .returned (.bool true) ∧ Grew W w' := fun W g => by have := covered_any vb flb Bb nb cb esb id most W (xb.grew g) hnb; rwa [(qb rfl).1 id most hb] at this
              clear hb qA qb
              obtain ⟨li, i0, i1, i2⟩ := hi.out _ (Chg.refl _ W7)
              go_wp2_with fail
              refine (copyIndex_any v fl A n c es _ (h.grew hgw) hf).mono ?_
              rintro e y1 ⟨B8, C8, rfl, x8, k1⟩
              clear li i0 i1 i2
              go_wp2_with fail
              refine (hCi _ B8 C8 x8.rx).mono ?_
              rintro e y2 ⟨rfl, k2⟩
              have q0 := k1.trans k2
              clear x8 k1 k2 hCi
              obtain ⟨l0, p00, p01, p02⟩ := hb.out _ q0
              go_wp2_with fail
              refine (hCb _ q0).mono ?_
              rintro e y ⟨rfl, k⟩
              have q1 := q0.trans k
              clear k l0 p00 p01 p02 q0
              obtain ⟨l1, p10, p11, p12⟩ := hc.out _ q1
              go_wp2_with fail
              refine (hCc _ q1).mono ?_
              rintro e y ⟨rfl, k⟩
              have q2 := q1.trans k
              clear k l1 p10 p11 p12 q1
              go_wp2
              go_meet
              case rel => exact ⟨rfl, q2⟩
            · have e2 : (zb == 0) = false := by simpa using hzb
              clear hb qA qb
              obtain ⟨li, i0, i1, i2⟩ := hi.out _ (Chg.refl _ W7)
              go_wp2_with fail
              refine (copyIndex_any v fl A n c es _ (h.grew hgw) hf).mono ?_
              rintro e y1 ⟨B8, C8, rfl, x8, k1⟩
              clear li i0 i1 i2
              go_wp2_with fail
              refine (hCi _ B8 C8 x8.rx).mono ?_
              rintro e y2 ⟨rfl, k2⟩
              have q0 := k1.trans k2
              clear x8 k1 k2 hCi
              obtain ⟨l0, p00, p01, p02⟩ := hc.out _ q0
              go_wp2_with fail
              refine (hCc _ q0).mono ?_
              rintro e y ⟨rfl, k⟩
              have q1 := q0.trans k
              clear k l0 p00 p01 p02 q0
              go_wp2
              go_meet
              case rel => exact ⟨rfl, q1⟩
      case rest =>
        obtain ⟨rfl, gC⟩ := hcut
        clear bA bB bC hm ha hb qA qb xA xb hna hnb
        replace hf := Lib.hid hf
        generalize wc = w8 at *
        obtain ⟨li, i0, i1, i2⟩ := hi.out _ gC
        obtain ⟨lc, c0, c1, c2⟩ := hc.out _ gC
        go_wp2
        clear li i0 i1 i2 lc c0 c1 c2
        go_loopw [17] (fun i wr => ∃ k : Nat, k ≤ n ∧ i = .int .i64 (k : Int) ∧ Grew W7 wr) (fun i _ => n - (intOf i).toNat)
        case atStart => exact ⟨0, by omega, rfl, gC⟩
        case round =>
          clear gC
          obtain ⟨k, hk, rfl, hg⟩ := hrel
          obtain ⟨li, i0, i1, i2⟩ := hi.out _ hg
          obtain ⟨lc, c0, c1, c2⟩ := hc.out _ hg
          by_cases hlt : k < n
          · obtain ⟨ad, m1, rfl, hx, hm1, x0, x1, x2, x3, x4, x5, x6, x7, x8⟩ := (h.grew (hgw.trans hg)).at_ hlt
            obtain ⟨ad2, m2, rfl, hy, hm2, y0, y1, y2, y3, y4, y5, y6, y7, y8⟩ := (xc.grew hg).at_ hlt
            have hcs : CellsIn [w.heap.size, gc, ad.block, ad2.block] wr := by
              intro b hb
              simp only [List.mem_cons, List.not_mem_nil, or_false] at hb
              rcases hb with rfl | rfl | rfl | rfl
              · exact cellsIn_cell i0 _ (by simp)
              · exact cellsIn_cell c0 _ (by simp)
              · have := cellsIn_cell x0 (ad.add (k * 9)).block (by simp)
                rwa [block_add] at this
              · have := cellsIn_cell y0 (ad2.add (k * 9)).block (by simp)
                rwa [block_add] at this
            have hsame : Hid (∀ W1, Grew wr W1 → SameIn [w.heap.size, gc, ad.block, ad2.block] wr W1) := fun W1 h1 => sameIn_of h1 hcs fun _ _ e => e
            replace hx := Lib.hid hx
            replace hy := Lib.hid hy
            go_upto_region 13 with fail
            go_cut [18, 19] from 112 to 121 (fun b1 b2 wx => ∃ g1 g2, b1 = .pointer (some ⟨g1, 0, none⟩) ∧ b2 = .pointer (some ⟨g2, 0, none⟩) ∧ Blk wx g1 51 #[.int .u64 (m1.e.m.id : Int), .int .i64 m1.e.m.lo, .int .i64 m1.e.m.hi, .int .i64 m1.e.m.lv, .slice m1.A m1.n m1.c, .int .i64 m1.e.m.sr, .int .i64 m1.e.m.pt, .bool m1.e.mkd, .int .i64 m1.e.tm] ∧ Blk wx g2 51 #[.int .u64 (m2.e.m.id : Int), .int .i64 m2.e.m.lo, .int .i64 m2.e.m.hi, .int .i64 m2.e.m.lv, .slice m2.A m2.n m2.c, .int .i64 m2.e.m.sr, .int .i64 m2.e.m.pt, .bool m2.e.mkd, .int .i64 m2.e.tm] ∧ Grew wr wx)
            case first =>
              refine wp_region_textsD [] [w.heap.size, gc, ad.block, ad2.block] [[0, 1, 2, 3, 4, 5, 6, 7, 8, 9, 10, 11, 12, 13], [0, 1, 2, 3, 4, 5, 6, 7, 8, 9, 11, 10, 12, 13]] (by kernel_rfl) (by kernel_rfl) hcs ?_
              intro t1 ht1
              simp only [List.mem_cons, List.not_mem_nil, or_false] at ht1
              rcases ht1 with rfl | rfl
              all_goals
                simp only [opsOf, List.filterMap_cons, List.filterMap_nil, List.getElem?_toArray, List.getElem?_cons_zero, List.getElem?_cons_succ]
                simp only [wpU, tagOf, chk, List.cons_append, List.nil_append]
                intro K hK
                go_wp2_with fail
                refine OnlyN.normal (hK _ _ (fun _ => ⟨_, _, _, rfl, rfl, by simp⟩) ?_)
                clear hK K
                intro K hK
                go_wp2_with fail
                refine OnlyN.normal (hK _ _ (fun _ => ⟨_, _, _, rfl, rfl, by simp [block_add]⟩) ?_)
                clear hK K
                intro K hK
                go_wp2_with fail
                refine OnlyN.normal (hK _ _ (fun _ => ⟨_, _, _, rfl, rfl, by simp⟩) ?_)
                clear hK K
                intro K hK
                go_wp2_with fail
                refine OnlyN.normal (hK _ _ (fun _ => ⟨_, _, _, rfl, rfl, by simp [block_add]⟩) ?_)
                clear hK K
              · skip
                have gX : Grew wr (wr.drew.alloc (.cells #[.int .u64 0, .int .i64 0, .int .i64 0, .int .i64 0, .slice none 0 0, .int .i64 0, .int .i64 0, .bool false, .int .i64 0] 51)) := (Chg.refl _ wr).drew.alloc _
                intro K hK
                go_wp2_with fail
                refine OnlyN.normal (hK _ _ (hsame.out _ gX) ?_)
                clear hK K
                have gY : Grew wr ((wr.drew.alloc (.cells #[.int .u64 0, .int .i64 0, .int .i64 0, .int .i64 0, .slice none 0 0, .int .i64 0, .int .i64 0, .bool false, .int .i64 0] 51)).alloc (.cells #[.int .u64 0, .int .i64 0, .int .i64 0, .int .i64 0, .slice none 0 0, .int .i64 0, .int .i64 0, .bool false, .int .i64 0] 51)) := gX.alloc _
                intro K hK
                go_wp2_with fail
                refine OnlyN.normal (hK _ _ (hsame.out _ gY) ?_)
                clear hK K
                obtain ⟨w9, hw9⟩ : ∃ W, W = (wr.drew.alloc (.cells #[.int .u64 0, .int .i64 0, .int .i64 0, .int .i64 0, .slice none 0 0, .int .i64 0, .int .i64 0, .bool false, .int .i64 0] 51)).alloc (.cells #[.int .u64 0, .int .i64 0, .int .i64 0, .int .i64 0, .slice none 0 0, .int .i64 0, .int .i64 0, .bool false, .int .i64 0] 51) := ⟨_, rfl⟩
                rw [← hw9] at gY
                have bP : Blk w9 wr.heap.size 51 #[.int .u64 0, .int .i64 0, .int .i64 0, .int .i64 0, .slice none 0 0, .int .i64 0, .int .i64 0, .bool false, .int .i64 0] := by rw [hw9]; exact (Blk.new wr.drew _ _).alloc _
                have bQ : Blk w9 (wr.heap.size + 1) 51 #[.int .u64 0, .int .i64 0, .int .i64 0, .int .i64 0, .slice none 0 0, .int .i64 0, .int .i64 0, .bool false, .int .i64 0] := by
                  have := Blk.new (wr.drew.alloc (.cells #[.int .u64 0, .int .i64 0, .int .i64 0, .int .i64 0, .slice none 0 0, .int .i64 0, .int .i64 0, .bool false, .int .i64 0] 51)) 51 #[.int .u64 0, .int .i64 0, .int .i64 0, .int .i64 0, .slice none 0 0, .int .i64 0, .int .i64 0, .bool false, .int .i64 0]
                  rw [World.size_alloc] at this
                  rw [hw9]
                  exact this
                have r0 := bP.cell 0
                have r1 := bP.cell 1
                have r2 := bP.cell 2
                have r3 := bP.cell 3
                have r4 := bP.cell 4
                have r5 := bP.cell 5
                have r6 := bP.cell 6
                have r7 := bP.cell 7
                have r8 := bP.cell 8
                simp only [List.getElem?_toArray, List.getElem?_cons_succ, List.getElem?_cons_zero] at r0 r1 r2 r3 r4 r5 r6 r7 r8
                have rf0 := bP.frozen 0
                have rf1 := bP.frozen 1
                have rf2 := bP.frozen 2
                have rf3 := bP.frozen 3
                have rf4 := bP.frozen 4
                have rf5 := bP.frozen 5
                have rf6 := bP.frozen 6
                have rf7 := bP.frozen 7
                have rf8 := bP.frozen 8
                clear x0 x1 x2 x3 x4 x5 x6 x7 x8 y0 y1 y2 y3 y4 y5 y6 y7 y8 i0 i1 i2 c0 c1 c2 li lc
                first
                  | rw [← hw9]
                  | rw [show ((wr.alloc (.cells #[.int .u64 0, .int .i64 0, .int .i64 0, .int .i64 0, .slice none 0 0, .int .i64 0, .int .i64 0, .bool false, .int .i64 0] 51)).alloc (.cells #[.int .u64 0, .int .i64 0, .int .i64 0, .int .i64 0, .slice none 0 0, .int .i64 0, .int .i64 0, .bool false, .int .i64 0] 51)).drew = w9 from hw9.symm]
                clear hw9
                have g10 := Chg.st9 gY (g := wr.heap.size) (by omega) (.int .u64 (m1.e.m.id : Int)) (.int .i64 m1.e.m.lo) (.int .i64 m1.e.m.hi) (.int .i64 m1.e.m.lv) (.slice m1.A m1.n m1.c) (.int .i64 m1.e.m.sr) (.int .i64 m1.e.m.pt) (.bool m1.e.mkd) (.int .i64 m1.e.tm)
                have bR := Blk.st9 bP (.int .u64 (m1.e.m.id : Int)) (.int .i64 m1.e.m.lo) (.int .i64 m1.e.m.hi) (.int .i64 m1.e.m.lv) (.slice m1.A m1.n m1.c) (.int .i64 m1.e.m.sr) (.int .i64 m1.e.m.pt) (.bool m1.e.mkd) (.int .i64 m1.e.tm)
                have bS := Blk.far9 bQ (g := wr.heap.size) (by omega) (.int .u64 (m1.e.m.id : Int)) (.int .i64 m1.e.m.lo) (.int .i64 m1.e.m.hi) (.int .i64 m1.e.m.lv) (.slice m1.A m1.n m1.c) (.int .i64 m1.e.m.sr) (.int .i64 m1.e.m.pt) (.bool m1.e.mkd) (.int .i64 m1.e.tm)
                intro K hK
                go_wp2_with fail
                refine OnlyN.normal (hK _ _ (hsame.out _ g10) ?_)
                clear hK K r0 rf0 r1 rf1 r2 rf2 r3 rf3 r4 rf4 r5 rf5 r6 rf6 r7 rf7 r8 rf8
                obtain ⟨w10, hw10⟩ : ∃ W, W = st9 w9 wr.heap.size (.int .u64 (m1.e.m.id : Int)) (.int .i64 m1.e.m.lo) (.int .i64 m1.e.m.hi) (.int .i64 m1.e.m.lv) (.slice m1.A m1.n m1.c) (.int .i64 m1.e.m.sr) (.int .i64 m1.e.m.pt) (.bool m1.e.mkd) (.int .i64 m1.e.tm) := ⟨_, rfl⟩
                rw [← hw10] at g10 bR bS
                have r0 := bS.cell 0
                have r1 := bS.cell 1
                have r2 := bS.cell 2
                have r3 := bS.cell 3
                have r4 := bS.cell 4
                have r5 := bS.cell 5
                have r6 := bS.cell 6
                have r7 := bS.cell 7
                have r8 := bS.cell 8
                simp only [List.getElem?_toArray, List.getElem?_cons_succ, List.getElem?_cons_zero] at r0 r1 r2 r3 r4 r5 r6 r7 r8
                have rf0 := bS.frozen 0
                have rf1 := bS.frozen 1
                have rf2 := bS.frozen 2
                have rf3 := bS.frozen 3
                have rf4 := bS.frozen 4
                have rf5 := bS.frozen 5
                have rf6 := bS.frozen 6
                have rf7 := bS.frozen 7
                have rf8 := bS.frozen 8
                unfold st9 at hw10
                rw [← hw10]
                clear hw10
                have g11 := Chg.st9 g10 (g := (wr.heap.size + 1)) (by omega) (.int .u64 (m2.e.m.id : Int)) (.int .i64 m2.e.m.lo) (.int .i64 m2.e.m.hi) (.int .i64 m2.e.m.lv) (.slice m2.A m2.n m2.c) (.int .i64 m2.e.m.sr) (.int .i64 m2.e.m.pt) (.bool m2.e.mkd) (.int .i64 m2.e.tm)
                have bT := Blk.st9 bS (.int .u64 (m2.e.m.id : Int)) (.int .i64 m2.e.m.lo) (.int .i64 m2.e.m.hi) (.int .i64 m2.e.m.lv) (.slice m2.A m2.n m2.c) (.int .i64 m2.e.m.sr) (.int .i64 m2.e.m.pt) (.bool m2.e.mkd) (.int .i64 m2.e.tm)
                have bU := Blk.far9 bR (g := (wr.heap.size + 1)) (by omega) (.int .u64 (m2.e.m.id : Int)) (.int .i64 m2.e.m.lo) (.int .i64 m2.e.m.hi) (.int .i64 m2.e.m.lv) (.slice m2.A m2.n m2.c) (.int .i64 m2.e.m.sr) (.int .i64 m2.e.m.pt) (.bool m2.e.mkd) (.int .i64 m2.e.tm)
                intro K hK
                go_wp2_with fail
                refine OnlyN.normal (hK _ _ (hsame.out _ g11) ?_)
                clear hK K
                go_wp2
                refine OnlyN.normal ?_
                go_wp2
                go_meet
                case rel => exact ⟨wr.heap.size, (wr.heap.size + 1), rfl, rfl, bU, bT, g11⟩
              · skip
                have gX : Grew wr (wr.drew.alloc (.cells #[.int .u64 0, .int .i64 0, .int .i64 0, .int .i64 0, .slice none 0 0, .int .i64 0, .int .i64 0, .bool false, .int .i64 0] 51)) := (Chg.refl _ wr).drew.alloc _
                intro K hK
                go_wp2_with fail
                refine OnlyN.normal (hK _ _ (hsame.out _ gX) ?_)
                clear hK K
                have gY : Grew wr ((wr.drew.alloc (.cells #[.int .u64 0, .int .i64 0, .int .i64 0, .int .i64 0, .slice none 0 0, .int .i64 0, .int .i64 0, .bool false, .int .i64 0] 51)).alloc (.cells #[.int .u64 0, .int .i64 0, .int .i64 0, .int .i64 0, .slice none 0 0, .int .i64 0, .int .i64 0, .bool false, .int .i64 0] 51)) := gX.alloc _
                intro K hK
                go_wp2_with fail
                refine OnlyN.normal (hK _ _ (hsame.out _ gY) ?_)
                clear hK K
                obtain ⟨w9, hw9⟩ : ∃ W, W = (wr.drew.alloc (.cells #[.int .u64 0, .int .i64 0, .int .i64 0, .int .i64 0, .slice none 0 0, .int .i64 0, .int .i64 0, .bool false, .int .i64 0] 51)).alloc (.cells #[.int .u64 0, .int .i64 0, .int .i64 0, .int .i64 0, .slice none 0 0, .int .i64 0, .int .i64 0, .bool false, .int .i64 0] 51) := ⟨_, rfl⟩
                rw [← hw9] at gY
                have bP : Blk w9 wr.heap.size 51 #[.int .u64 0, .int .i64 0, .int .i64 0, .int .i64 0, .slice none 0 0, .int .i64 0, .int .i64 0, .bool false, .int .i64 0] := by rw [hw9]; exact (Blk.new wr.drew _ _).alloc _
                have bQ : Blk w9 (wr.heap.size + 1) 51 #[.int .u64 0, .int .i64 0, .int .i64 0, .int .i64 0, .slice none 0 0, .int .i64 0, .int .i64 0, .bool false, .int .i64 0] := by
                  have := Blk.new (wr.drew.alloc (.cells #[.int .u64 0, .int .i64 0, .int .i64 0, .int .i64 0, .slice none 0 0, .int .i64 0, .int .i64 0, .bool false, .int .i64 0] 51)) 51 #[.int .u64 0, .int .i64 0, .int .i64 0, .int .i64 0, .slice none 0 0, .int .i64 0, .int .i64 0, .bool false, .int .i64 0]
                  rw [World.size_alloc] at this
                  rw [hw9]
                  exact this
                have r0 := bQ.cell 0
                have r1 := bQ.cell 1
                have r2 := bQ.cell 2
                have r3 := bQ.cell 3
                have r4 := bQ.cell 4
                have r5 := bQ.cell 5
                have r6 := bQ.cell 6
                have r7 := bQ.cell 7
                have r8 := bQ.cell 8
                simp only [List.getElem?_toArray, List.getElem?_cons_succ, List.getElem?_cons_zero] at r0 r1 r2 r3 r4 r5 r6 r7 r8
                have rf0 := bQ.frozen 0
                have rf1 := bQ.frozen 1
                have rf2 := bQ.frozen 2
                have rf3 := bQ.frozen 3
                have rf4 := bQ.frozen 4
                have rf5 := bQ.frozen 5
                have rf6 := bQ.frozen 6
                have rf7 := bQ.frozen 7
                have rf8 := bQ.frozen 8
                clear x0 x1 x2 x3 x4 x5 x6 x7 x8 y0 y1 y2 y3 y4 y5 y6 y7 y8 i0 i1 i2 c0 c1 c2 li lc
                first
                  | rw [← hw9]
                  | rw [show ((wr.alloc (.cells #[.int .u64 0, .int .i64 0, .int .i64 0, .int .i64 0, .slice none 0 0, .int .i64 0, .int .i64 0, .bool false, .int .i64 0] 51)).alloc (.cells #[.int .u64 0, .int .i64 0, .int .i64 0, .int .i64 0, .slice none 0 0, .int .i64 0, .int .i64 0, .bool false, .int .i64 0] 51)).drew = w9 from hw9.symm]
                clear hw9
                have g10 := Chg.st9 gY (g := (wr.heap.size + 1)) (by omega) (.int .u64 (m1.e.m.id : Int)) (.int .i64 m1.e.m.lo) (.int .i64 m1.e.m.hi) (.int .i64 m1.e.m.lv) (.slice m1.A m1.n m1.c) (.int .i64 m1.e.m.sr) (.int .i64 m1.e.m.pt) (.bool m1.e.mkd) (.int .i64 m1.e.tm)
                have bR := Blk.st9 bQ (.int .u64 (m1.e.m.id : Int)) (.int .i64 m1.e.m.lo) (.int .i64 m1.e.m.hi) (.int .i64 m1.e.m.lv) (.slice m1.A m1.n m1.c) (.int .i64 m1.e.m.sr) (.int .i64 m1.e.m.pt) (.bool m1.e.mkd) (.int .i64 m1.e.tm)
                have bS := Blk.far9 bP (g := (wr.heap.size + 1)) (by omega) (.int .u64 (m1.e.m.id : Int)) (.int .i64 m1.e.m.lo) (.int .i64 m1.e.m.hi) (.int .i64 m1.e.m.lv) (.slice m1.A m1.n m1.c) (.int .i64 m1.e.m.sr) (.int .i64 m1.e.m.pt) (.bool m1.e.mkd) (.int .i64 m1.e.tm)
                intro K hK
                go_wp2_with fail
                refine OnlyN.normal (hK _ _ (hsame.out _ g10) ?_)
                clear hK K r0 rf0 r1 rf1 r2 rf2 r3 rf3 r4 rf4 r5 rf5 r6 rf6 r7 rf7 r8 rf8
                obtain ⟨w10, hw10⟩ : ∃ W, W = st9 w9 (wr.heap.size + 1) (.int .u64 (m1.e.m.id : Int)) (.int .i64 m1.e.m.lo) (.int .i64 m1.e.m.hi) (.int .i64 m1.e.m.lv) (.slice m1.A m1.n m1.c) (.int .i64 m1.e.m.sr) (.int .i64 m1.e.m.pt) (.bool m1.e.mkd) (.int .i64 m1.e.tm) := ⟨_, rfl⟩
                rw [← hw10] at g10 bR bS
                have r0 := bS.cell 0
                have r1 := bS.cell 1
                have r2 := bS.cell 2
                have r3 := bS.cell 3
                have r4 := bS.cell 4
                have r5 := bS.cell 5
                have r6 := bS.cell 6
                have r7 := bS.cell 7
                have r8 := bS.cell 8
                simp only [List.getElem?_toArray, List.getElem?_cons_succ, List.getElem?_cons_zero] at r0 r1 r2 r3 r4 r5 r6 r7 r8
                have rf0 := bS.frozen 0
                have rf1 := bS.frozen 1
                have rf2 := bS.frozen 2
                have rf3 := bS.frozen 3
                have rf4 := bS.frozen 4
                have rf5 := bS.frozen 5
                have rf6 := bS.frozen 6
                have rf7 := bS.frozen 7
                have rf8 := bS.frozen 8
                unfold st9 at hw10
                rw [← hw10]
                clear hw10
                have g11 := Chg.st9 g10 (g := wr.heap.size) (by omega) (.int .u64 (m2.e.m.id : Int)) (.int .i64 m2.e.m.lo) (.int .i64 m2.e.m.hi) (.int .i64 m2.e.m.lv) (.slice m2.A m2.n m2.c) (.int .i64 m2.e.m.sr) (.int .i64 m2.e.m.pt) (.bool m2.e.mkd) (.int .i64 m2.e.tm)
                have bT := Blk.st9 bS (.int .u64 (m2.e.m.id : Int)) (.int .i64 m2.e.m.lo) (.int .i64 m2.e.m.hi) (.int .i64 m2.e.m.lv) (.slice m2.A m2.n m2.c) (.int .i64 m2.e.m.sr) (.int .i64 m2.e.m.pt) (.bool m2.e.mkd) (.int .i64 m2.e.tm)
                have bU := Blk.far9 bR (g := wr.heap.size) (by omega) (.int .u64 (m2.e.m.id : Int)) (.int .i64 m2.e.m.lo) (.int .i64 m2.e.m.hi) (.int .i64 m2.e.m.lv) (.slice m2.A m2.n m2.c) (.int .i64 m2.e.m.sr) (.int .i64 m2.e.m.pt) (.bool m2.e.mkd) (.int .i64 m2.e.tm)
                intro K hK
                go_wp2_with fail
                refine OnlyN.normal (hK _ _ (hsame.out _ g11) ?_)
                clear hK K
                go_wp2
                refine OnlyN.normal ?_
                go_wp2
                go_meet
                case rel => exact ⟨(wr.heap.size + 1), wr.heap.size, rfl, rfl, bU, bT, g11⟩
            case rest =>
              obtain ⟨g1, g2, rfl, rfl, bE, bF, gx⟩ := hcut
              clear li i0 i1 i2 lc c0 c1 c2 x0 x1 x2 x3 x4 x5 x6 x7 x8 y0 y1 y2 y3 y4 y5 y6 y7 y8 hcs hsame
              generalize wc = w10 at *
              have hg2 := hg.trans gx
              clear hg gx
              have hxy := mark_at (fl := fl) (t := t) hx.out
              rw [hy.out] at hxy
              have s0 := bE.cell 0
              have s2 := bE.cell 2
              have s7 := bE.cell 7
              have s8 := bE.cell 8
              have u7 := bF.cell 7
              have u8 := bF.cell 8
              simp only [List.getElem?_toArray, List.getElem?_cons_succ, List.getElem?_cons_zero] at s0 s2 s7 s8 u7 u8
              obtain ⟨li, i0, i1, i2⟩ := hi.out _ hg2
              rcases hxy with ⟨e1, e2⟩ | ⟨e1, e3, e2⟩ | ⟨e1, e3, e2⟩
              · injection e2 with e2
                rw [e2] at u7 u8
                rw [e1] at s7 u7
                clear e1 e2 s0 s2 hx hy hm1 hm2 bE bF
                go_wp2
                go_roundw
                case rel => exact ⟨k + 1, by omega, by go_num, hg2⟩
                case measure => simp [intOf]; omega
              · injection e2 with e2
                rw [e2] at u7 u8
                rw [e1] at s7 u7
                clear e1 e2 e3 s0 s2 hx hy hm1 hm2 bE bF
                go_wp2
                go_roundw
                case rel => exact ⟨k + 1, by omega, by go_num, hg2⟩
                case measure => simp [intOf]; omega
              · injection e2 with e2
                rw [e2] at u7 u8
                rw [e1] at s7
                simp only at u7 u8
                have hwhy := Lib.hid (why_mark e3)
                have h2s := Lib.hid fun W' (g : Grew w10 W') => (show W'.cell? ⟨g1, 0, none⟩ = some (.int .u64 (m1.e.m.id : Int)) from Chg.cell g s0 (fun e => e))
                have h2u := Lib.hid fun W' (g : Grew w10 W') => (show W'.cell? ⟨g2, 8, none⟩ = some (.int .i64 t) from Chg.cell g u8 (fun e => e))
                obtain ⟨d0, hd0⟩ : ∃ d, decide (m1.e.m.hi < fl) = d := ⟨_, rfl⟩
                obtain ⟨id1, hid1⟩ : ∃ x, m1.e.m.id = x := ⟨_, rfl⟩
                rw [hd0, hid1] at hwhy
                rw [hid1] at h2s
                replace hid1 := Lib.hid hid1
                clear e1 e2 e3 s0 hx hy hm1 hm2 bE bF
                go_upto_region 18 with fail
                clear hd0 s2 s7 s8 u7 u8 li i0 i1 i2
                generalize wr = wo at *
                go_wp2
                go_loopw [20, 21] (fun y j wr => ∃ q : Nat, q ≤ n ∧ j = .int .i64 (q : Int) ∧ y = .bool (d0 || whyJ es k id1 q) ∧ Grew w10 wr) (fun _ j _ => n - (intOf j).toNat)
                case atStart => exact ⟨0, by omega, rfl, by rw [show whyJ es k id1 0 = false from rfl, Bool.or_false], Chg.refl _ _⟩
                case round =>
                  obtain ⟨q, hq, rfl, rfl, hgq⟩ := hrel
                  obtain ⟨li, i0, i1, i2⟩ := hi.out _ (hg2.trans hgq)
                  by_cases hql : q < n
                  · obtain ⟨ad3, m3, e9, hx3, hm3, x0, x1, x2, x3, x4, x5, x6, x7, x8⟩ := (h.grew (hgw.trans (hg2.trans hgq))).at_ hql
                    injection e9 with e9
                    subst e9
                    have hst := whyJ_snoc es k id1 q m3.e hx3
                    obtain ⟨B0, hB0⟩ : ∃ b, (d0 || whyJ es k id1 q) = b := ⟨_, rfl⟩
                    rw [hB0]
                    have hnx : (d0 || whyJ es k id1 (q + 1)) = (B0 || ((!decide (q = k) && !m3.e.mkd) && m3.e.m.src.contains id1)) := by
                      rw [hst, ← hB0]
                      simp [Bool.or_assoc, Bool.and_assoc]
                    replace hnx := Lib.hid hnx
                    have x4h := Lib.hid fun W' (g : Grew wr W') => Chg.cell g x4 (fun e => e)
                    have x7h := Lib.hid fun W' (g : Grew wr W') => Chg.cell g x7 (fun e => e)
                    have ihx := Lib.hid fun W' (g : Grew wr W') => hi.out _ ((hg2.trans hgq).trans g)
                    have hrow := hm3.row
                    have hn3 : m3.n ≤ 9223372036854775807 := by have := hm3.cap; omega
                    have hsl : Hid (m3.e.m.src.length = m3.n) := Lib.hid hrow.1
                    clear hB0 hst hx3 hm3 x0 x1 x2 x3 x5 x6 x7 x8
                    generalize wr = wq at *
                    go_wp2
                    clear x4 li i0 i1 i2
                    go_loopw [20, 22] (fun y s wr => ∃ z : Nat, z ≤ m3.n ∧ s = .int .i64 (z : Int) ∧ y = .bool (B0 || ((!decide (q = k) && !m3.e.mkd) && (m3.e.m.src.take z).contains id1)) ∧ Grew wq wr) (fun _ s _ => m3.n - (intOf s).toNat)
                    case atStart => exact ⟨0, by omega, rfl, by simp, Chg.refl _ _⟩
                    case round =>
                      obtain ⟨z, hz, rfl, rfl, hgz⟩ := hrel
                      obtain ⟨li, i0, i1, i2⟩ := ihx.out _ hgz
                      have x4 := x4h.out _ hgz
                      by_cases hzl : z < m3.n
                      · have hzl2 := Lib.hid hzl
                        obtain ⟨bd, sv, hbd, hsv, sc⟩ := (hrow.grew hgz).uat hzl
                        rw [hbd] at x4
                        have x7 := x7h.out _ hgz
                        have s0 := h2s.out _ (hgq.trans hgz)
                        obtain ⟨Y, hY⟩ : ∃ b, (B0 || ((!decide (q = k) && !m3.e.mkd) && (m3.e.m.src.take z).contains id1)) = b := ⟨_, rfl⟩
                        rw [hY]
                        have hnew : (B0 || ((!decide (q = k) && !m3.e.mkd) && (m3.e.m.src.take (z + 1)).contains id1)) = (Y || ((!decide (q = k) && !m3.e.mkd) && decide (sv = id1))) := by
                          rw [← hY, List.take_add_one, hsv]
                          simp [Bool.and_or_distrib_left, Bool.or_assoc, eq_comm]
                        replace hnew := Lib.hid hnew
                        clear hY hsv hbd hrow
                        cases Y
                        · by_cases hqk : q = k
                          · subst hqk
                            go_wp2_with fail
                            refine wp_region_text [(3, 1), (22, 1)] (by kernel_rfl) (by kernel_rfl) ?_
                            simp only [instr, chk, look, Nat.reduceBEq, Bool.false_eq_true, if_true, if_false, Nat.reduceEqDiff, List.cons_append, List.nil_append]
                            go_wp2
                            refine OnlyN.normal ?_
                            go_wp2
                            go_roundw
                            case rel => exact ⟨z + 1, by have := hzl2.out; omega, by go_num, by rw [hnew.out]; first | (simp; done) | (simp [neqN, eqN]; done) | (simp [hqk]; done) | (simp [neqN, eqN, hqk]; done), hgz.drew⟩
                            case measure => simp [intOf]; have := hzl2.out; omega
                          · have hne : ¬ (q : Int) = (k : Int) := by omega
                            cases hmk : m3.e.mkd
                            · rw [hmk] at x7 hnew
                              by_cases hid : sv = id1
                              · subst hid
                                go_wp2_with fail
                                refine wp_region_text [(3, 1), (22, 1)] (by kernel_rfl) (by kernel_rfl) ?_
                                simp only [instr, chk, look, Nat.reduceBEq, Bool.false_eq_true, if_true, if_false, Nat.reduceEqDiff, List.cons_append, List.nil_append]
                                go_wp2
                                refine OnlyN.normal ?_
                                go_wp2
                                go_roundw
                                case rel => exact ⟨z + 1, by have := hzl2.out; omega, by go_num, by rw [hnew.out]; first | (simp; done) | (simp [neqN]; done) | (simp [hqk]; done) | (simp [neqN, eqN, hqk]; done), hgz.drew⟩
                                case measure => simp [intOf]; have := hzl2.out; omega
                              · have hne2 : ¬ (sv : Int) = (id1 : Int) := by omega
                                go_wp2_with fail
                                refine wp_region_text [(3, 1), (22, 1)] (by kernel_rfl) (by kernel_rfl) ?_
                                simp only [instr, chk, look, Nat.reduceBEq, Bool.false_eq_true, if_true, if_false, Nat.reduceEqDiff, List.cons_append, List.nil_append]
                                go_wp2
                                refine OnlyN.normal ?_
                                go_wp2
                                go_roundw
                                case rel => exact ⟨z + 1, by have := hzl2.out; omega, by go_num, by rw [hnew.out]; first | (simp; done) | (simp [neqN, eqN]; done) | (simp [hqk]; done) | (simp [neqN, eqN, hqk]; done), hgz.drew⟩
                                case measure => simp [intOf]; have := hzl2.out; omega
                            · rw [hmk] at x7 hnew
                              go_wp2_with fail
                              refine wp_region_text [(3, 1), (22, 1)] (by kernel_rfl) (by kernel_rfl) ?_
                              simp only [instr, chk, look, Nat.reduceBEq, Bool.false_eq_true, if_true, if_false, Nat.reduceEqDiff, List.cons_append, List.nil_append]
                              go_wp2
                              refine OnlyN.normal ?_
                              go_wp2
                              go_roundw
                              case rel => exact ⟨z + 1, by have := hzl2.out; omega, by go_num, by rw [hnew.out]; first | (simp; done) | (simp [neqN, eqN]; done) | (simp [hqk]; done) | (simp [neqN, eqN, hqk]; done), hgz.drew⟩
                              case measure => simp [intOf]; have := hzl2.out; omega
                        · skip
                          go_wp2_with fail
                          refine wp_region_text [(3, 1), (22, 1)] (by kernel_rfl) (by kernel_rfl) ?_
                          simp only [instr, chk, look, Nat.reduceBEq, Bool.false_eq_true, if_true, if_false, Nat.reduceEqDiff, List.cons_append, List.nil_append]
                          go_wp2
                          refine OnlyN.normal ?_
                          go_wp2
                          go_roundw
                          case rel => exact ⟨z + 1, by have := hzl2.out; omega, by go_num, by rw [hnew.out]; first | (simp; done) | (simp [neqN, eqN]; done) | (simp [hqk]; done) | (simp [neqN, eqN, hqk]; done), hgz.drew⟩
                          case measure => simp [intOf]; have := hzl2.out; omega
                      · obtain rfl : z = m3.n := by omega
                        rw [List.take_of_length_le (by have := hsl.out; omega)]
                        rw [← hnx.out]
                        go_wp2
                        go_roundw
                        case rel => exact ⟨q + 1, by omega, by go_num, rfl, hgq.trans hgz⟩
                        case measure => simp [intOf]; omega
                  · obtain rfl : q = n := by omega
                    have hw2 : (d0 || whyJ es k id1 q) = true := by
                      have := hwhy.out
                      rwa [hln.out] at this
                    rw [hw2]
                    have u8 := h2u.out _ hgq
                    clear hw2
                    go_wp2
                    go_roundw
                    case rel => exact ⟨k + 1, by omega, by go_num, hg2.trans hgq⟩
                    case measure => simp [intOf]; omega
          · obtain rfl : k = n := by omega
            go_wp2_with fail
            refine (awake_any _).mono ?_
            rintro e w11 ⟨rfl, g11⟩
            go_wp2
            go_ret
            exact ⟨rfl, (hgw.trans hg).trans g11⟩
end Go.Proofs.YtjoaonppaokhhaaGreat
