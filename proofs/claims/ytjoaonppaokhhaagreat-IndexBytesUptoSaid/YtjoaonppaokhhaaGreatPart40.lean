/-
  Several texts in one:
  (tidewracklaw14.awake) walked: it answers true. Conditions: none.
  What IndexCovers wants of the changes, in one word each; the plain law of its loops. Conditions: lengths that a slice has.
-/
import Derived.Test.YtjoaonppaokhhaaGreatPart39
import Derived.Test.YtjoaonppaokhhaaGreatPart32
import Derived.Test.YtjoaonppaokhhaaGreatPart20
import Derived.Test.YtjoaonppaokhhaaGreatPart21
import Derived.Test.YtjoaonppaokhhaaGreatPart22
import Derived.Test.YtjoaonppaokhhaaGreatPart19
import Derived.Test.YtjoaonppaokhhaaGreatPart18

namespace Go.Proofs.YtjoaonppaokhhaaGreat
open Go.RowKit

def mt4 : Met := ⟨4, 0, 20, 0, [1, 2], 0, 0⟩
def esA : List Ent := [⟨mt1, false, 0⟩, ⟨mt2, false, 0⟩, ⟨mt3, false, 0⟩, ⟨mt4, false, 0⟩]
def esM : List Ent := [⟨mt1, true, 7⟩, ⟨mt2, true, 7⟩, ⟨mt3, false, 0⟩, ⟨mt4, false, 0⟩]
def esR : List Ent := [⟨mt2, true, 7⟩, ⟨mt3, false, 0⟩, ⟨mt4, false, 0⟩]
/-- an index handed back, with its code -/
def Ix4 (w : World) (fl : Int) (k : Nat) (es : List Ent) (e : Ending) (w' : World) : Prop :=
  ∃ B C, e = .returned (.tuple #[.agg #[.int .u64 0, .int .i64 fl, .slice B k C], .int .i64 0]) ∧ NX w' w.heap.size B k C es ∧ Grew w w'
theorem Ix4.of {w : World} {fl : Int} {k : Nat} {es : List Ent} {e : Ending} {w' : World} (h : IxR w 0 fl es 0 e w') (hk : es.length = k) : Ix4 w fl k es e w' := by
  obtain ⟨B, C, he, hn, hg⟩ := h
  subst hk
  exact ⟨B, C, he, hn, hg⟩
theorem okA : IxOk 0 esA := (chkI_iff 0 esA).1 (by decide)
theorem okM : IxOk 0 esM := (chkI_iff 0 esM).1 (by decide)
theorem okS : IxOk 0 someE := (chkI_iff 0 someE).1 (by decide)
theorem wM : ∀ e ∈ esM, EntW e := by
  intro e he
  simp only [esM, List.mem_cons, List.not_mem_nil, or_false] at he
  rcases he with rfl | rfl | rfl | rfl <;> exact ⟨⟨by decide, by decide, by decide, by decide⟩, by decide⟩
theorem add4 (B : Option Addr) (c : Nat) (D : Option Addr) (d : Nat) (w : World) (h : RX w B 3 someE) (hs : RE elU w D 2 [1, 2]) :
    Calls Tryz.prog 10 #[.agg #[.int .u64 0, .int .i64 0, .slice B 3 c], .agg #[.int .u64 4, .int .i64 0, .int .i64 20, .int .i64 0, .slice D 2 d, .int .i64 0, .int .i64 0]] w (Ix4 w 0 4 esA) :=
  (add_ok 0 0 B 3 c someE mt4 D 2 d w h hs (by decide) okS (by decide) (by decide)).mono fun e w' h => Ix4.of (es := esA) h rfl
theorem mark4 (B : Option Addr) (c : Nat) (w : World) (h : RX w B 4 esA) :
    Calls Tryz.prog 13 #[.agg #[.int .u64 0, .int .i64 0, .slice B 4 c], .int .i64 7] w (Ix4 w 0 4 esM) :=
  (mark_ok 0 0 B 4 c esA 7 w h okA).mono fun _e _w' h => Ix4.of (es := esM) h rfl
theorem remove4 (B : Option Addr) (c : Nat) (w : World) (h : RX w B 4 esM) :
    Calls Tryz.prog 11 #[.agg #[.int .u64 0, .int .i64 0, .slice B 4 c], .int .u64 1] w (Ix4 w 0 3 esR) :=
  (remove_ok 0 0 B 4 c esM 1 w h okM).mono fun _e _w' h => Ix4.of (es := esR) h rfl
theorem raise4 (B : Option Addr) (c : Nat) (w : World) (h : RX w B 4 esM) :
    Calls Tryz.prog 12 #[.agg #[.int .u64 0, .int .i64 0, .slice B 4 c], .int .i64 5] w (Ix4 w 5 4 esM) :=
  (raise_ok 0 0 B 4 c esM 5 w h okM (by decide)).mono fun e w' h => Ix4.of (fl := 5) (es := esM) h rfl
theorem encLen : (encI 0 0 esM).length ≤ 1000 := by decide +kernel

/-- the four indexes that awake keeps in boxes -/
structure AwB (W : World) (gm gc gr gx : Nat) (B : Option Addr) (c : Nat) (Bc : Option Addr) (cc : Nat) (Br : Option Addr) (cr : Nat) (Bx : Option Addr) (cx : Nat) : Prop where
  bm : Blk W gm 25 #[.int .u64 0, .int .i64 0, .slice B 4 c]
  bc : Blk W gc 25 #[.int .u64 0, .int .i64 0, .slice Bc 4 cc]
  br : Blk W gr 25 #[.int .u64 0, .int .i64 0, .slice Br 3 cr]
  bx : Blk W gx 25 #[.int .u64 0, .int .i64 5, .slice Bx 4 cx]
  hm : RX W B 4 esM
  hc : RX W Bc 4 esM
theorem AwB.grew {W W' : World} {gm gc gr gx : Nat} {B : Option Addr} {c : Nat} {Bc : Option Addr} {cc : Nat} {Br : Option Addr} {cr : Nat} {Bx : Option Addr} {cx : Nat} (h : AwB W gm gc gr gx B c Bc cc Br cr Bx cx) (hg : Grew W W') : AwB W' gm gc gr gx B c Bc cc Br cr Bx cx :=
  ⟨h.bm.grew hg, h.bc.grew hg, h.br.grew hg, h.bx.grew hg, h.hm.grew hg, h.hc.grew hg⟩
theorem AwB.m {W : World} {gm gc gr gx : Nat} {B : Option Addr} {c : Nat} {Bc : Option Addr} {cc : Nat} {Br : Option Addr} {cr : Nat} {Bx : Option Addr} {cx : Nat} (h : AwB W gm gc gr gx B c Bc cc Br cr Bx cx) :
    gm < W.heap.size ∧ W.cell? ⟨gm, 0, none⟩ = some (.int .u64 0) ∧ W.cell? ⟨gm, 1, none⟩ = some (.int .i64 0) ∧ W.cell? ⟨gm, 2, none⟩ = some (.slice B 4 c) := ⟨h.bm.lt, h.bm.cell 0, h.bm.cell 1, h.bm.cell 2⟩
theorem AwB.c {W : World} {gm gc gr gx : Nat} {B : Option Addr} {c : Nat} {Bc : Option Addr} {cc : Nat} {Br : Option Addr} {cr : Nat} {Bx : Option Addr} {cx : Nat} (h : AwB W gm gc gr gx B c Bc cc Br cr Bx cx) :
    gc < W.heap.size ∧ W.cell? ⟨gc, 0, none⟩ = some (.int .u64 0) ∧ W.cell? ⟨gc, 1, none⟩ = some (.int .i64 0) ∧ W.cell? ⟨gc, 2, none⟩ = some (.slice Bc 4 cc) := ⟨h.bc.lt, h.bc.cell 0, h.bc.cell 1, h.bc.cell 2⟩

set_option maxRecDepth 100000 in
set_option maxHeartbeats 16000000 in
theorem awake_any (w : World) : Calls Tryz.prog 23 #[] w fun e w' => e = .returned (.bool true) ∧ Grew w w' := by
  go_enter Tryz.func23, Tryz.ntmps23
  go_wp2_with fail
  refine (some_any _).mono ?_
  rintro e w1 ⟨B, c, rfl, h1, g1⟩
  have gL : Grew w1 (w1.alloc (.cells #[.int .u64 1, .int .u64 2] 22)) := (Chg.refl _ w1).alloc _
  have rL : RE elU (w1.alloc (.cells #[.int .u64 1, .int .u64 2] 22)) (some ⟨w1.heap.size, 0, none⟩) 2 [1, 2] := RE.newAt (by simp) rfl rfl
  go_wp2_with fail
  refine (add4 B c _ 2 _ (h1.grew gL) rL).mono ?_
  rintro e w2 ⟨B, c, rfl, hA, g2⟩
  have gw2 := (g1.trans gL).trans g2
  replace hA := hA.rx
  clear h1 rL g1 gL g2
  go_wp2_with fail
  refine (mark4 B c _ (hA.grew ((Chg.refl _ _).alloc _))).mono ?_
  rintro e w3 ⟨B, c, rfl, hM, g3⟩
  have gw3 := (gw2.alloc _).trans g3
  replace hM := hM.rx
  clear hA gw2 g3
  obtain ⟨W, hW⟩ : ∃ W, W = w3.alloc (.cells #[.int .u64 0, .int .i64 0, .slice B 4 c] 25) := ⟨_, rfl⟩
  have gW : Grew w3 W := by rw [hW]; exact (Chg.refl _ w3).alloc _
  have bM : Blk W w3.heap.size 25 #[.int .u64 0, .int .i64 0, .slice B 4 c] := by rw [hW]; exact Blk.new _ _ _
  replace hM := hM.grew gW
  have gw := gw3.trans gW
  have hE := encode_ok 0 0 B 4 c esM W hM okM (by decide) wM
  clear gw3 gW
  go_wp2_with fail
  rw [← hW]
  clear hW
  refine hE.mono ?_
  rintro e w4 ⟨A4, c4, rfl, ho4, g4⟩
  have hD := decode_ok 0 0 esM A4 _ c4 w4 okM (by decide) wM ho4.rb (by have := encLen; omega) (by have := ho4.cap; exact this)
  clear hE
  go_wp2_with fail
  refine (hD.mono fun e w' h => Ix4.of (k := 4) h rfl).mono ?_
  rintro e w5 ⟨Bc, cc, rfl, hC, g5⟩
  have gm5 := g4.trans g5
  have bM5 := bM.grew gm5
  have lm := bM5.lt
  have m0 := bM5.cell 0
  have m1 := bM5.cell 1
  have m2 := bM5.cell 2
  simp only [List.getElem?_toArray, List.getElem?_cons_succ, List.getElem?_cons_zero] at m0 m1 m2
  replace hC := hC.rx
  have gw5 := gw.trans gm5
  clear hD ho4 g4 g5
  obtain ⟨W5, hW5⟩ : ∃ W, W = w5.alloc (.cells #[.int .u64 0, .int .i64 0, .slice Bc 4 cc] 25) := ⟨_, rfl⟩
  have gW5 : Grew w5 W5 := by rw [hW5]; exact (Chg.refl _ w5).alloc _
  have bC : Blk W5 w5.heap.size 25 #[.int .u64 0, .int .i64 0, .slice Bc 4 cc] := by rw [hW5]; exact Blk.new _ _ _
  have hM5 := (hM.grew gm5).grew gW5
  have hC5 := hC.grew gW5
  go_wp2_with fail
  rw [← hW5]
  clear hW5
  refine (remove4 B c _ hM5).mono ?_
  rintro e w6 ⟨Br, cr, rfl, hR, g6⟩
  have gm6 := gW5.trans g6
  have bM6 := bM5.grew gm6
  clear lm m0 m1 m2 hR
  have lm := bM6.lt
  have m0 := bM6.cell 0
  have m1 := bM6.cell 1
  have m2 := bM6.cell 2
  simp only [List.getElem?_toArray, List.getElem?_cons_succ, List.getElem?_cons_zero] at m0 m1 m2
  obtain ⟨W6, hW6⟩ : ∃ W, W = w6.alloc (.cells #[.int .u64 0, .int .i64 0, .slice Br 3 cr] 25) := ⟨_, rfl⟩
  have gW6 : Grew w6 W6 := by rw [hW6]; exact (Chg.refl _ w6).alloc _
  have bR : Blk W6 w6.heap.size 25 #[.int .u64 0, .int .i64 0, .slice Br 3 cr] := by rw [hW6]; exact Blk.new _ _ _
  have hM6 := (hM5.grew g6).grew gW6
  go_wp2_with fail
  rw [← hW6]
  clear hW6
  refine (raise4 B c _ hM6).mono ?_
  rintro e w7 ⟨Bx, cx, rfl, hX, g7⟩
  clear lm m0 m1 m2 hX
  obtain ⟨W7, hW7⟩ : ∃ W, W = w7.alloc (.cells #[.int .u64 0, .int .i64 5, .slice Bx 4 cx] 25) := ⟨_, rfl⟩
  have gW7 : Grew w7 W7 := by rw [hW7]; exact (Chg.refl _ w7).alloc _
  have g67 := (gW6.trans g7).trans gW7
  have bX : Blk W7 w7.heap.size 25 #[.int .u64 0, .int .i64 5, .slice Bx 4 cx] := by rw [hW7]; exact Blk.new _ _ _
  have hAw : AwB W7 w3.heap.size w5.heap.size w6.heap.size w7.heap.size B c Bc cc Br cr Bx cx :=
    ⟨bM6.grew g67, (bC.grew g6).grew g67, bR.grew (g7.trans gW7), bX, hM6.grew (g7.trans gW7), (hC5.grew g6).grew g67⟩
  have gw7 := (gw5.trans gm6).trans g67
  clear bM bM5 bM6 bC bR bX hM hM5 hM6 hC hC5 gm5 gm6 gW5 g6 gW6 g7 gW7 g67 gw5 gw
  generalize w3.heap.size = gm at *
  generalize w5.heap.size = gc at *
  generalize w6.heap.size = gr at *
  obtain ⟨gx, hgx⟩ : ∃ g, w7.heap.size = g := ⟨_, rfl⟩
  obtain ⟨lm, m0, m1, m2⟩ := hAw.m
  obtain ⟨lc, k0, k1, k2⟩ := hAw.c
  rw [hW7] at lm m0 m1 m2 lc k0 k1 k2
  rw [hgx] at hAw
  replace hgx := Lib.hid hgx
  go_wp2_with fail
  rw [← hW7]
  clear hW7
  refine (sameIndex_eq 0 0 Bc B 4 cc c esM _ hAw.hc hAw.hm (by decide)).mono ?_
  rintro e w8 ⟨rfl, g8⟩
  have gw8 := gw7.trans g8
  replace hAw := hAw.grew g8
  clear lm m0 m1 m2 lc k0 k1 k2 gw7 g8
  rw [hgx.out]
  go_wp2_with fail
  refine (some_any _).mono ?_
  rintro e w9 ⟨D9, d9, rfl, h9, g9⟩
  go_wp2_with fail
  refine (plan_some 0 0 D9 d9 _ h9).mono ?_
  rintro e w10 ⟨D, n, d, rfl, o10, g10⟩
  have hn : 2 = n := OE.len (by decide) o10
  subst hn
  have gL : Grew w10 (w10.alloc (.cells #[.int .u64 1, .int .u64 2] 22)) := (Chg.refl _ w10).alloc _
  have rL : RE elU (w10.alloc (.cells #[.int .u64 1, .int .u64 2] 22)) (some ⟨w10.heap.size, 0, none⟩) 2 [1, 2] := RE.newAt (by simp) rfl rfl
  go_wp2_with fail
  refine (sameIds_eq D _ 2 d 2 [1, 2] _ ((o10.re (by decide)).grew gL) rL (by decide)).mono ?_
  rintro e w11 ⟨rfl, g11⟩
  have g81 := ((g9.trans g10).trans gL).trans g11
  have gw11 := gw8.trans g81
  replace hAw := hAw.grew g81
  clear h9 o10 rL g9 g10 gL g11 g81 gw8
  go_wp2_with fail
  refine (some_any _).mono ?_
  rintro e w12 ⟨D9, d9, rfl, h9, g12⟩
  go_wp2_with fail
  refine (overlaps_ok 0 0 D9 3 d9 someE _ h9 okS).mono ?_
  rw [show ovL (livM someE) = true from by decide]
  rintro e w13 ⟨rfl, g13⟩
  have g113 := g12.trans g13
  have gw13 := gw11.trans g113
  replace hAw := hAw.grew g113
  clear h9 g12 g13 g113 gw11
  obtain ⟨lm, m0, m1, m2⟩ := hAw.m
  go_wp2_with fail
  refine (liveM_ok 0 0 B 4 c esM _ hAw.hm okM).mono ?_
  rintro e w14 ⟨D, n, d, ms, rfl, hx, hms, g14⟩
  have hn : 2 = n := by
    have h1 := OE.len (by decide) hx.row
    have h2 := congrArg List.length hms
    rw [List.length_map, show (livM esM).length = 2 from rfl] at h2
    omega
  subst hn
  have gw14 := gw13.trans g14
  replace hAw := hAw.grew g14
  clear lm m0 m1 m2 hx hms g14 gw13
  obtain ⟨lm, m0, m1, m2⟩ := hAw.m
  go_wp2_with fail
  refine (due_ok 0 0 B 4 c esM 7 0 _ hAw.hm okM (fun e he => (wM e he).tm) (by decide) (by decide)).mono ?_
  rw [show dueL esM 7 0 = [1, 2] from rfl]
  rintro e w15 ⟨D2, n, d2, rfl, o15, g15⟩
  have hn : 2 = n := OE.len (by decide) o15
  subst hn
  have gL : Grew w15 (w15.alloc (.cells #[.int .u64 1, .int .u64 2] 22)) := (Chg.refl _ w15).alloc _
  have rL : RE elU (w15.alloc (.cells #[.int .u64 1, .int .u64 2] 22)) (some ⟨w15.heap.size, 0, none⟩) 2 [1, 2] := RE.newAt (by simp) rfl rfl
  go_wp2_with fail
  refine (sameIds_eq D2 _ 2 d2 2 [1, 2] _ ((o15.re (by decide)).grew gL) rL (by decide)).mono ?_
  rintro e w16 ⟨rfl, g16⟩
  have g146 := (g15.trans gL).trans g16
  have gw16 := gw14.trans g146
  replace hAw := hAw.grew g146
  clear lm m0 m1 m2 o15 rL g15 gL g16 g146 gw14
  obtain ⟨lm, m0, m1, m2⟩ := hAw.m
  go_wp2_with fail
  refine (covered_any 0 0 B 4 c esM 1 99 _ hAw.hm (by decide)).mono ?_
  rw [show covI 0 esM 1 99 = true from by decide]
  rintro e w17 ⟨rfl, g17⟩
  have gw17 := gw16.trans g17
  replace hAw := hAw.grew g17
  clear lm m0 m1 m2 g17 gw16
  have r2 : w17.cell? ⟨gr, 2, none⟩ = some (.slice Br 3 cr) := hAw.br.cell 2
  have x1 : w17.cell? ⟨gx, 1, none⟩ = some (.int .i64 5) := hAw.bx.cell 1
  go_wp2_with fail
  refine (check_any 0 1125899906842624 none 0 0 [] _ (RX.nil _ _) (by decide)).mono ?_
  rw [show errI (chkI 1125899906842624 []) = 140 from by decide]
  rintro e w18 ⟨rfl, g18⟩
  go_wp2
  go_ret
  exact ⟨rfl, gw17.trans g18⟩
end Go.Proofs.YtjoaonppaokhhaaGreat

namespace Go.Proofs.YtjoaonppaokhhaaGreat
open Go.RowKit

/-- an index that is handed back; where the code says so, it covers what was covered, and what Q asks -/
def CvR (w : World) (fl : Int) (es : List Ent) (Q : Int → List Ent → Prop) (e : Ending) (w' : World) : Prop :=
  ∃ v2 fl2 es2 z, IxR w v2 fl2 es2 z e w' ∧ (z = 0 → (∀ id most, covI fl es id most = true → covI fl2 es2 id most = true) ∧ Q fl2 es2)
theorem add_all (v : Nat) (fl : Int) (A : Option Addr) (n c : Nat) (es : List Ent) (m : Met) (D : Option Addr) (p d : Nat) (w : World) (h : RX w A n es) (hn : n ≤ 9223372036854775807) (hs : RE elU w D p m.src) (hp : p ≤ 9223372036854775807) (hok : IxOk fl es) :
    Calls Tryz.prog 10 #[.agg #[.int .u64 (v : Int), .int .i64 fl, .slice A n c], .agg #[.int .u64 (m.id : Int), .int .i64 m.lo, .int .i64 m.hi, .int .i64 m.lv, .slice D p d, .int .i64 m.sr, .int .i64 m.pt]] w
      (CvR w fl es fun fl2 es2 => ∀ most, covI fl2 es2 m.id most = true) := by
  by_cases hm : metOk m = true
  · by_cases hl : es.length < 256
    · exact (add_ok v fl A n c es m D p d w h hs hp hok hm hl).mono fun e w' h => ⟨v, fl, addE es m, 0, h, fun _ => ⟨fun id most hc => cov_add hok hm hl hc, fun most => cov_new hok hm hl most⟩⟩
    · exact (add_many v fl A n c es m D p d w h hs hp hok hm (by omega)).mono fun e w' h => ⟨0, 0, [], 141, h, fun e => absurd e (by decide)⟩
  · exact (add_form v fl A n c es m D p d w h hn hs hp (fun h2 => hm h2.2)).mono fun e w' h => ⟨0, 0, [], 140, h, fun e => absurd e (by decide)⟩
theorem raise_all (v : Nat) (fl : Int) (A : Option Addr) (n c : Nat) (es : List Ent) (t : Int) (w : World) (h : RX w A n es) (hn : n ≤ 9223372036854775807) (hok : IxOk fl es) :
    Calls Tryz.prog 12 #[.agg #[.int .u64 (v : Int), .int .i64 fl, .slice A n c], .int .i64 t] w (CvR w fl es fun _ _ => True) := by
  by_cases ht : t ≤ 1099511627776
  · exact (raise_ok v fl A n c es t w h hok ht).mono fun e w' h => ⟨v, max fl t, es, 0, h, fun _ => ⟨fun id most hc => cov_raise hok ht hc, trivial⟩⟩
  · exact (raise_no v fl A n c es t w h hn (fun h2 => ht h2.2)).mono fun e w' h => ⟨0, 0, [], 140, h, fun e => absurd e (by decide)⟩

theorem mark_all (v : Nat) (fl : Int) (A : Option Addr) (n c : Nat) (es : List Ent) (t : Int) (w : World) (h : RX w A n es) (hok : IxOk fl es) (hl : es.length = n) :
    Calls Tryz.prog 13 #[.agg #[.int .u64 (v : Int), .int .i64 fl, .slice A n c], .int .i64 t] w fun e w' => ∃ B C, e = .returned (.tuple #[.agg #[.int .u64 (v : Int), .int .i64 fl, .slice B n C], .int .i64 0]) ∧ NX w' w.heap.size B n C (markE es fl t) ∧ Grew w w' := by
  refine (mark_ok v fl A n c es t w h hok).mono ?_
  have hm : (markE es fl t).length = n := by unfold markE; rw [markL_len]; exact hl
  intro e w' h2
  unfold IxR at h2
  rw [hm] at h2
  exact h2

/-- is an ID among the sources of live entries ahead of the j-th, but for the k-th? -/
def whyJ (es : List Ent) (k id j : Nat) : Bool := (List.range j).any fun o => !decide (o = k) && ((es[o]?).any fun e => !e.mkd && e.m.src.contains id)
theorem whyJ_snoc (es : List Ent) (k id j : Nat) (e : Ent) (h : es[j]? = some e) : whyJ es k id (j + 1) = (whyJ es k id j || (!decide (j = k) && (!e.mkd && e.m.src.contains id))) := by
  unfold whyJ
  rw [List.range_succ, List.any_append]
  simp [h]
theorem why_mark {es : List Ent} {fl : Int} {k : Nat} {e : Ent} (h : mkB es fl k e = true) : (decide (e.m.hi < fl) || whyJ es k e.m.id es.length) = true := by
  unfold mkB at h
  rw [Bool.or_eq_true] at h ⊢
  rcases h with h | h
  · exact .inl h
  · right
    obtain ⟨o, ho, hx⟩ := List.any_eq_true.1 h
    obtain ⟨e2, he2, hm2⟩ := mem_livI.1 ho
    unfold whyJ
    rw [List.any_eq_true]
    refine ⟨o, List.mem_range.2 (List.getElem?_eq_some_iff.1 he2).1, ?_⟩
    rw [Bool.and_eq_true] at hx ⊢
    refine ⟨hx.1, ?_⟩
    have h3 := hx.2
    unfold srcAt at h3
    rw [he2] at h3 ⊢
    simp only [Option.any_some, hm2, Bool.not_false, Bool.true_and]
    exact h3
/-- an entry as Mark leaves it -/
theorem mark_at {es : List Ent} {fl t : Int} {k : Nat} {e : Ent} (h : es[k]? = some e) :
    (e.mkd = true ∧ (markE es fl t)[k]? = some e) ∨ (e.mkd = false ∧ mkB es fl k e = false ∧ (markE es fl t)[k]? = some e) ∨ (e.mkd = false ∧ mkB es fl k e = true ∧ (markE es fl t)[k]? = some ⟨e.m, true, t⟩) := by
  unfold markE
  rw [markL_get h]
  unfold markAt
  cases hm : e.mkd
  · right
    have : (livI es).contains k = true := by rw [List.contains_iff_mem]; exact mem_livI.2 ⟨e, h, hm⟩
    rw [this, Bool.true_and]
    cases hb : mkB es fl k e
    · exact .inl ⟨rfl, rfl, rfl⟩
    · exact .inr ⟨rfl, rfl, rfl⟩
  · left
    have : (livI es).contains k = false := by
      rw [← Bool.not_eq_true, List.contains_iff_mem]
      intro h2
      obtain ⟨e2, h3, h4⟩ := mem_livI.1 h2
      rw [h] at h3
      injection h3 with h3
      subst h3
      rw [hm] at h4
      cases h4
    rw [this, Bool.false_and]
    exact ⟨rfl, rfl⟩
theorem neqN (a b : Nat) : ((a : Int) != (b : Int)) = !decide (a = b) := by
  by_cases h : a = b
  · subst h
    simp
  · have h2 : ¬ (a : Int) = (b : Int) := by omega
    simp [h, h2]
theorem eqN (a b : Nat) : ((a : Int) == (b : Int)) = decide (a = b) := by
  by_cases h : a = b
  · subst h
    simp
  · have h2 : ¬ (a : Int) = (b : Int) := by omega
    simp [h, h2]
/-- nine cells of a block written -/
abbrev st9 (w : World) (g : Nat) (a0 a1 a2 a3 a4 a5 a6 a7 a8 : Value) : World := (((((((((w.setCell ⟨g, 0, none⟩ a0).setCell ⟨g, 1, none⟩ a1).setCell ⟨g, 2, none⟩ a2).setCell ⟨g, 3, none⟩ a3).setCell ⟨g, 4, none⟩ a4).setCell ⟨g, 5, none⟩ a5).setCell ⟨g, 6, none⟩ a6).setCell ⟨g, 7, none⟩ a7).setCell ⟨g, 8, none⟩ a8)
theorem Blk.st9 {w : World} {g : Nat} {t : TypeId} {x0 x1 x2 x3 x4 x5 x6 x7 x8 : Value} (h : Blk w g t #[x0, x1, x2, x3, x4, x5, x6, x7, x8]) (a0 a1 a2 a3 a4 a5 a6 a7 a8 : Value) : Blk (st9 w g a0 a1 a2 a3 a4 a5 a6 a7 a8) g t #[a0, a1, a2, a3, a4, a5, a6, a7, a8] := by
  have h9 := (((((((((h.set 0 a0).set 1 a1).set 2 a2).set 3 a3).set 4 a4).set 5 a5).set 6 a6).set 7 a7).set 8 a8)
  simpa only [List.setIfInBounds_toArray, List.set_cons_succ, List.set_cons_zero] using h9
theorem Blk.far9 {w : World} {g g' : Nat} {t : TypeId} {cs : Array Value} (h : Blk w g' t cs) (hne : g' ≠ g) (a0 a1 a2 a3 a4 a5 a6 a7 a8 : Value) : Blk (Go.Proofs.YtjoaonppaokhhaaGreat.st9 w g a0 a1 a2 a3 a4 a5 a6 a7 a8) g' t cs :=
  ((((((((h.far (p := ⟨g, 0, none⟩) hne a0).far (p := ⟨g, 1, none⟩) hne a1).far (p := ⟨g, 2, none⟩) hne a2).far (p := ⟨g, 3, none⟩) hne a3).far (p := ⟨g, 4, none⟩) hne a4).far (p := ⟨g, 5, none⟩) hne a5).far (p := ⟨g, 6, none⟩) hne a6).far (p := ⟨g, 7, none⟩) hne a7).far (p := ⟨g, 8, none⟩) hne a8
theorem Chg.st9 {w0 w : World} (h : Grew w0 w) {g : Nat} (hg : w0.heap.size ≤ g) (a0 a1 a2 a3 a4 a5 a6 a7 a8 : Value) : Grew w0 (Go.Proofs.YtjoaonppaokhhaaGreat.st9 w g a0 a1 a2 a3 a4 a5 a6 a7 a8) :=
  ((((((((h.setCell (p := ⟨g, 0, none⟩) (.inl hg) a0).setCell (p := ⟨g, 1, none⟩) (.inl hg) a1).setCell (p := ⟨g, 2, none⟩) (.inl hg) a2).setCell (p := ⟨g, 3, none⟩) (.inl hg) a3).setCell (p := ⟨g, 4, none⟩) (.inl hg) a4).setCell (p := ⟨g, 5, none⟩) (.inl hg) a5).setCell (p := ⟨g, 6, none⟩) (.inl hg) a6).setCell (p := ⟨g, 7, none⟩) (.inl hg) a7).setCell (p := ⟨g, 8, none⟩) (.inl hg) a8
end Go.Proofs.YtjoaonppaokhhaaGreat
