/-
  Several texts in one:
  (index.Plan) at three given blocks; the statements' (some). Conditions: none.
  (tidewracklaw14.awake) walked: it answers true. Conditions: none.
  (index.Plan) on any index. Conditions: lengths that a slice has.
-/
import Derived.Test.YtjoaonppaokhhaaGreatPart51
import Derived.Test.YtjoaonppaokhhaaGreatPart36
import Derived.Test.YtjoaonppaokhhaaGreatPart25
import Derived.Test.YtjoaonppaokhhaaGreatPart27
import Derived.Test.YtjoaonppaokhhaaGreatPart24
import Derived.Test.YtjoaonppaokhhaaGreatPart23

namespace Go.Proofs.YtjoaonppaokhhaaGreat
open Go.RowKit

/-- the index that awake plans for -/
def someE : List Ent := [⟨mt1, false, 0⟩, ⟨mt2, false, 0⟩, ⟨mt3, false, 0⟩]
theorem th3_of {w : World} {base : Nat} {B : Option Addr} {p C : Nat} {ms : List MtM} (h : MXo w base B p C ms) (hm : ms.map MtM.m = [mt1, mt2, mt3]) :
    ∃ gb A1 c1 A2 c2 A3 c3, p = 3 ∧ B = some ⟨gb, 0, none⟩ ∧ Th3 w gb A1 c1 A2 c2 A3 c3 := by
  have hlen := OE.len (by decide) h.row
  match ms, hm with
  | [⟨m1, A1, n1, c1⟩, ⟨m2, A2, n2, c2⟩, ⟨m3, A3, n3, c3⟩], hm =>
    simp only [List.map_cons, List.map_nil, List.cons.injEq, and_true] at hm
    obtain ⟨rfl, rfl, rfl⟩ := hm
    have e1 := OE.len (by decide) (h.el ⟨mt1, A1, n1, c1⟩ (by simp))
    have e2 := OE.len (by decide) (h.el ⟨mt2, A2, n2, c2⟩ (by simp))
    have e3 := OE.len (by decide) (h.el ⟨mt3, A3, n3, c3⟩ (by simp))
    obtain rfl : 0 = n1 := e1
    obtain rfl : 0 = n2 := e2
    obtain rfl : 0 = n3 := e3
    obtain rfl : 3 = p := hlen
    obtain ⟨g, e, _, hg, hc, _⟩ := Own.at_ h.row (by decide)
    exact ⟨g, A1, c1, A2, c2, A3, c3, rfl, e, hg, fun j hj => hc j hj⟩

set_option maxRecDepth 100000 in
set_option maxHeartbeats 8000000 in
theorem plan_some (v : Nat) (now : Int) (A : Option Addr) (c : Nat) (w : World) (h : RX w A 3 someE) :
    Calls Tryz.prog 32 #[.agg #[.int .u64 (v : Int), .int .i64 0, .slice A 3 c], .int .i64 now] w fun e w' => ∃ B n d, e = .returned (.slice B n d) ∧ OE elU w' w.heap.size 22 B n d [1, 2] ∧ Grew w w' := by
  have hok : IxOk 0 someE := (chkI_iff 0 someE).1 (by decide)
  obtain ⟨W, hW⟩ : ∃ W, W = w.alloc (.cells #[.int .u64 (v : Int), .int .i64 0, .slice A 3 c] 25) := ⟨_, rfl⟩
  have gW : Grew w W := by rw [hW]; exact (Chg.refl _ w).alloc _
  have hL := liveM_ok v 0 A 3 c someE W (h.grew gW) hok
  have hlm : livM someE = [mt1, mt2, mt3] := rfl
  rw [hlm] at hL
  clear hlm
  go_enter Tryz.func32, Tryz.ntmps32
  go_wp2_with fail
  rw [← hW]
  clear hW
  refine hL.mono ?_
  rintro e w1 ⟨B, p, C, ms, rfl, hM, hmm, g1⟩
  obtain ⟨gb, A1, c1, A2, c2, A3, c3, rfl, rfl, hT⟩ := th3_of hM hmm
  clear hM hmm hL
  go_wp2_with fail
  refine (msort_some gb C A1 c1 A2 c2 A3 c3 _ hT).mono ?_
  rintro e w2 ⟨rfl, g2⟩
  go_wp2_with fail
  refine (upright_some gb C A1 c1 A2 c2 A3 c3 _ (hT.chg g2 (fun e => e))).mono ?_
  rintro e w3 ⟨B, n, d, rfl, o3, g3⟩
  have hn : 2 = n := OE.len (by decide) o3
  subst hn
  have gw := (gW.trans g1).trans g2
  have hz := gw.size
  clear gW g1 hT
  go_wp2
  go_ret
  exact ⟨B, 2, d, rfl, Own.mono o3 hz, gw.trans g3⟩

set_option maxRecDepth 100000 in
set_option maxHeartbeats 8000000 in
theorem some_any (w : World) : Calls Tryz.prog 53 #[] w fun e w' => ∃ B c, e = .returned (.agg #[.int .u64 0, .int .i64 0, .slice B 3 c]) ∧ RX w' B 3 someE ∧ Grew w w' := by
  go_enter Tryz.func53, Tryz.ntmps53
  go_wp2
  have q := (Blk.new w 25 #[.int .u64 0, .int .i64 0, .slice (some ⟨w.heap.size + 1, 0, none⟩) 3 3]).alloc (.cells #[.int .u64 1, .int .i64 0, .int .i64 9, .int .i64 0, .slice none 0 0, .int .i64 0, .int .i64 0, .bool false, .int .i64 0, .int .u64 2, .int .i64 5, .int .i64 20, .int .i64 0, .slice none 0 0, .int .i64 0, .int .i64 0, .bool false, .int .i64 0, .int .u64 3, .int .i64 30, .int .i64 40, .int .i64 0, .slice none 0 0, .int .i64 0, .int .i64 0, .bool false, .int .i64 0] 51)
  have q0 := q.cell 0
  have q1 := q.cell 1
  have q2 := q.cell 2
  simp only [List.getElem?_toArray, List.getElem?_cons_succ, List.getElem?_cons_zero] at q0 q1 q2
  refine bodyPost_ret (v := .agg #[.int .u64 0, .int .i64 0, .slice (some ⟨w.heap.size + 1, 0, none⟩) 3 3]) ?_ rfl ⟨some ⟨w.heap.size + 1, 0, none⟩, 3, rfl, ⟨[⟨⟨mt1, false, 0⟩, none, 0, 0⟩, ⟨⟨mt2, false, 0⟩, none, 0, 0⟩, ⟨⟨mt3, false, 0⟩, none, 0, 0⟩], RE.newAt (by simp) rfl rfl, rfl, ?_⟩, ((Chg.refl _ w).alloc _).alloc _⟩
  · simp [results, Tryz.results53, go_sem, q0, q1, q2]
  · intro m hm
    simp only [List.mem_cons, List.not_mem_nil, or_false] at hm
    rcases hm with rfl | rfl | rfl <;> exact ⟨RE.nil _ _, by decide⟩
end Go.Proofs.YtjoaonppaokhhaaGreat

namespace Go.Proofs.YtjoaonppaokhhaaGreat
open Go.RowKit

def mt4 : Met := ⟨4, 0, 20, 0, [1, 2], 0, 0⟩
def esA : List Ent := [⟨mt1, false, 0⟩, ⟨mt2, false, 0⟩, ⟨mt3, false, 0⟩, ⟨mt4, false, 0⟩]
def esM : List Ent := [⟨mt1, true, 7⟩, ⟨mt2, true, 7⟩, ⟨mt3, false, 0⟩, ⟨mt4, false, 0⟩]
def esR : List Ent := [⟨mt2, true, 7⟩, ⟨mt3, false, 0⟩, ⟨mt4, false, 0⟩]
/-- an index handed back, with its code -/
def Ix4 (w : World) (fl : Int) (k : Nat) (es : List Ent) (e : Ending) (w' : World) : Prop :=
  ∃ B C, e = .returned (.tuple #[.agg #[.int .u64 0, .int .i64 fl, .slice B k C], .int .i64 0]) ∧ NX w' w.heap.size B k C es ∧ Grew w w'
theorem Ix4.of {w : World} {fl : Int} {k : Nat} {es : List Ent} {e : Ending} {w' : World} (h : IxR w 0 fl es 0 e w') (hk : es.length = k) : Ix4 w fl k es e w' := by
  obtain ⟨B, C, he, hn, hg⟩ := h
  subst hk
  exact ⟨B, C, he, hn, hg⟩
theorem okA : IxOk 0 esA := (chkI_iff 0 esA).1 (by decide)
theorem okM : IxOk 0 esM := (chkI_iff 0 esM).1 (by decide)
theorem okS : IxOk 0 someE := (chkI_iff 0 someE).1 (by decide)
theorem wM : ∀ e ∈ esM, EntW e := by
  intro e he
  simp only [esM, List.mem_cons, List.not_mem_nil, or_false] at he
  rcases he with rfl | rfl | rfl | rfl <;> exact ⟨⟨by decide, by decide, by decide, by decide⟩, by decide⟩
theorem add4 (B : Option Addr) (c : Nat) (D : Option Addr) (d : Nat) (w : World) (h : RX w B 3 someE) (hs : RE elU w D 2 [1, 2]) :
    Calls Tryz.prog 10 #[.agg #[.int .u64 0, .int .i64 0, .slice B 3 c], .agg #[.int .u64 4, .int .i64 0, .int .i64 20, .int .i64 0, .slice D 2 d, .int .i64 0, .int .i64 0]] w (Ix4 w 0 4 esA) :=
  (add_ok 0 0 B 3 c someE mt4 D 2 d w h hs (by decide) okS (by decide) (by decide)).mono fun e w' h => Ix4.of (es := esA) h rfl
theorem mark4 (B : Option Addr) (c : Nat) (w : World) (h : RX w B 4 esA) :
    Calls Tryz.prog 13 #[.agg #[.int .u64 0, .int .i64 0, .slice B 4 c], .int .i64 7] w (Ix4 w 0 4 esM) :=
  (mark_ok 0 0 B 4 c esA 7 w h okA).mono fun _e _w' h => Ix4.of (es := esM) h rfl
theorem remove4 (B : Option Addr) (c : Nat) (w : World) (h : RX w B 4 esM) :
    Calls Tryz.prog 11 #[.agg #[.int .u64 0, .int .i64 0, .slice B 4 c], .int .u64 1] w (Ix4 w 0 3 esR) :=
  (remove_ok 0 0 B 4 c esM 1 w h okM).mono fun _e _w' h => Ix4.of (es := esR) h rfl
theorem raise4 (B : Option Addr) (c : Nat) (w : World) (h : RX w B 4 esM) :
    Calls Tryz.prog 12 #[.agg #[.int .u64 0, .int .i64 0, .slice B 4 c], .int .i64 5] w (Ix4 w 5 4 esM) :=
  (raise_ok 0 0 B 4 c esM 5 w h okM (by decide)).mono fun e w' h => Ix4.of (fl := 5) (es := esM) h rfl
theorem encLen : (encI 0 0 esM).length ≤ 1000 := by decide +kernel

/-- the four indexes that awake keeps in boxes -/
structure AwB (W : World) (gm gc gr gx : Nat) (B : Option Addr) (c : Nat) (Bc : Option Addr) (cc : Nat) (Br : Option Addr) (cr : Nat) (Bx : Option Addr) (cx : Nat) : Prop where
  bm : Blk W gm 25 #[.int .u64 0, .int .i64 0, .slice B 4 c]
  bc : Blk W gc 25 #[.int .u64 0, .int .i64 0, .slice Bc 4 cc]
  br : Blk W gr 25 #[.int .u64 0, .int .i64 0, .slice Br 3 cr]
  bx : Blk W gx 25 #[.int .u64 0, .int .i64 5, .slice Bx 4 cx]
  hm : RX W B 4 esM
  hc : RX W Bc 4 esM
theorem AwB.grew {W W' : World} {gm gc gr gx : Nat} {B : Option Addr} {c : Nat} {Bc : Option Addr} {cc : Nat} {Br : Option Addr} {cr : Nat} {Bx : Option Addr} {cx : Nat} (h : AwB W gm gc gr gx B c Bc cc Br cr Bx cx) (hg : Grew W W') : AwB W' gm gc gr gx B c Bc cc Br cr Bx cx :=
  ⟨h.bm.grew hg, h.bc.grew hg, h.br.grew hg, h.bx.grew hg, h.hm.grew hg, h.hc.grew hg⟩
theorem AwB.m {W : World} {gm gc gr gx : Nat} {B : Option Addr} {c : Nat} {Bc : Option Addr} {cc : Nat} {Br : Option Addr} {cr : Nat} {Bx : Option Addr} {cx : Nat} (h : AwB W gm gc gr gx B c Bc cc Br cr Bx cx) :
    gm < W.heap.size ∧ W.cell? ⟨gm, 0, none⟩ = some (.int .u64 0) ∧ W.cell? ⟨gm, 1, none⟩ = some (.int .i64 0) ∧ W.cell? ⟨gm, 2, none⟩ = some (.slice B 4 c) := ⟨h.bm.lt, h.bm.cell 0, h.bm.cell 1, h.bm.cell 2⟩
theorem AwB.c {W : World} {gm gc gr gx : Nat} {B : Option Addr} {c : Nat} {Bc : Option Addr} {cc : Nat} {Br : Option Addr} {cr : Nat} {Bx : Option Addr} {cx : Nat} (h : AwB W gm gc gr gx B c Bc cc Br cr Bx cx) :
    gc < W.heap.size ∧ W.cell? ⟨gc, 0, none⟩ = some (.int .u64 0) ∧ W.cell? ⟨gc, 1, none⟩ = some (.int .i64 0) ∧ W.cell? ⟨gc, 2, none⟩ = some (.slice Bc 4 cc) := ⟨h.bc.lt, h.bc.cell 0, h.bc.cell 1, h.bc.cell 2⟩

set_option maxRecDepth 100000 in
set_option maxHeartbeats 16000000 in
theorem awake_any (w : World) : Calls Tryz.prog 23 #[] w fun e w' => e = .returned (.bool true) ∧ Grew w w' := by
  go_enter Tryz.func23, Tryz.ntmps23
  go_wp2_with fail
  refine (some_any _).mono ?_
  rintro e w1 ⟨B, c, rfl, h1, g1⟩
  have gL : Grew w1 (w1.alloc (.cells #[.int .u64 1, .int .u64 2] 22)) := (Chg.refl _ w1).alloc _
  have rL : RE elU (w1.alloc (.cells #[.int .u64 1, .int .u64 2] 22)) (some ⟨w1.heap.size, 0, none⟩) 2 [1, 2] := RE.newAt (by simp) rfl rfl
  go_wp2_with fail
  refine (add4 B c _ 2 _ (h1.grew gL) rL).mono ?_
  rintro e w2 ⟨B, c, rfl, hA, g2⟩
  have gw2 := (g1.trans gL).trans g2
  replace hA := hA.rx
  clear h1 rL g1 gL g2
  go_wp2_with fail
  refine (mark4 B c _ (hA.grew ((Chg.refl _ _).alloc _))).mono ?_
  rintro e w3 ⟨B, c, rfl, hM, g3⟩
  have gw3 := (gw2.alloc _).trans g3
  replace hM := hM.rx
  clear hA gw2 g3
  obtain ⟨W, hW⟩ : ∃ W, W = w3.alloc (.cells #[.int .u64 0, .int .i64 0, .slice B 4 c] 25) := ⟨_, rfl⟩
  have gW : Grew w3 W := by rw [hW]; exact (Chg.refl _ w3).alloc _
  have bM : Blk W w3.heap.size 25 #[.int .u64 0, .int .i64 0, .slice B 4 c] := by rw [hW]; exact Blk.new _ _ _
  replace hM := hM.grew gW
  have gw := gw3.trans gW
  have hE := encode_ok 0 0 B 4 c esM W hM okM (by decide) wM
  clear gw3 gW
  go_wp2_with fail
  rw [← hW]
  clear hW
  refine hE.mono ?_
  rintro e w4 ⟨A4, c4, rfl, ho4, g4⟩
  have hD := decode_ok 0 0 esM A4 _ c4 w4 okM (by decide) wM ho4.rb (by have := encLen; omega) (by have := ho4.cap; exact this)
  clear hE
  go_wp2_with fail
  refine (hD.mono fun e w' h => Ix4.of (k := 4) h rfl).mono ?_
  rintro e w5 ⟨Bc, cc, rfl, hC, g5⟩
  have gm5 := g4.trans g5
  have bM5 := bM.grew gm5
  have lm := bM5.lt
  have m0 := bM5.cell 0
  have m1 := bM5.cell 1
  have m2 := bM5.cell 2
  simp only [List.getElem?_toArray, List.getElem?_cons_succ, List.getElem?_cons_zero] at m0 m1 m2
  replace hC := hC.rx
  have gw5 := gw.trans gm5
  clear hD ho4 g4 g5
  obtain ⟨W5, hW5⟩ : ∃ W, W = w5.alloc (.cells #[.int .u64 0, .int .i64 0, .slice Bc 4 cc] 25) := ⟨_, rfl⟩
  have gW5 : Grew w5 W5 := by rw [hW5]; exact (Chg.refl _ w5).alloc _
  have bC : Blk W5 w5.heap.size 25 #[.int .u64 0, .int .i64 0, .slice Bc 4 cc] := by rw [hW5]; exact Blk.new _ _ _
  have hM5 := (hM.grew gm5).grew gW5
  have hC5 := hC.grew gW5
  go_wp2_with fail
  rw [← hW5]
  clear hW5
  refine (remove4 B c _ hM5).mono ?_
  rintro e w6 ⟨Br, cr, rfl, hR, g6⟩
  have gm6 := gW5.trans g6
  have bM6 := bM5.grew gm6
  clear lm m0 m1 m2 hR
  have lm := bM6.lt
  have m0 := bM6.cell 0
  have m1 := bM6.cell 1
  have m2 := bM6.cell 2
  simp only [List.getElem?_toArray, List.getElem?_cons_succ, List.getElem?_cons_zero] at m0 m1 m2
  obtain ⟨W6, hW6⟩ : ∃ W, W = w6.alloc (.cells #[.int .u64 0, .int .i64 0, .slice Br 3 cr] 25) := ⟨_, rfl⟩
  have gW6 : Grew w6 W6 := by rw [hW6]; exact (Chg.refl _ w6).alloc _
  have bR : Blk W6 w6.heap.size 25 #[.int .u64 0, .int .i64 0, .slice Br 3 cr] := by rw [hW6]; exact Blk.new _ _ _
  have hM6 := (hM5.grew g6).grew gW6
  go_wp2_with fail
  rw [← hW6]
  clear hW6
  refine (raise4 B c _ hM6).mono ?_
  rintro e w7 ⟨Bx, cx, rfl, hX, g7⟩
  clear lm m0 m1 m2 hX
  obtain ⟨W7, hW7⟩ : ∃ W, W = w7.alloc (.cells #[.int .u64 0, .int .i64 5, .slice Bx 4 cx] 25) := ⟨_, rfl⟩
  have gW7 : Grew w7 W7 := by rw [hW7]; exact (Chg.refl _ w7).alloc _
  have g67 := (gW6.trans g7).trans gW7
  have bX : Blk W7 w7.heap.size 25 #[.int .u64 0, .int .i64 5, .slice Bx 4 cx] := by rw [hW7]; exact Blk.new _ _ _
  have hAw : AwB W7 w3.heap.size w5.heap.size w6.heap.size w7.heap.size B c Bc cc Br cr Bx cx :=
    ⟨bM6.grew g67, (bC.grew g6).grew g67, bR.grew (g7.trans gW7), bX, hM6.grew (g7.trans gW7), (hC5.grew g6).grew g67⟩
  have gw7 := (gw5.trans gm6).trans g67
  clear bM bM5 bM6 bC bR bX hM hM5 hM6 hC hC5 gm5 gm6 gW5 g6 gW6 g7 gW7 g67 gw5 gw
  generalize w3.heap.size = gm at *
  generalize w5.heap.size = gc at *
  generalize w6.heap.size = gr at *
  obtain ⟨gx, hgx⟩ : ∃ g, w7.heap.size = g := ⟨_, rfl⟩
  obtain ⟨lm, m0, m1, m2⟩ := hAw.m
  obtain ⟨lc, k0, k1, k2⟩ := hAw.c
  rw [hW7] at lm m0 m1 m2 lc k0 k1 k2
  rw [hgx] at hAw
  replace hgx := Lib.hid hgx
  go_wp2_with fail
  rw [← hW7]
  clear hW7
  refine (sameIndex_eq 0 0 Bc B 4 cc c esM _ hAw.hc hAw.hm (by decide)).mono ?_
  rintro e w8 ⟨rfl, g8⟩
  have gw8 := gw7.trans g8
  replace hAw := hAw.grew g8
  clear lm m0 m1 m2 lc k0 k1 k2 gw7 g8
  rw [hgx.out]
  go_wp2_with fail
  refine (some_any _).mono ?_
  rintro e w9 ⟨D9, d9, rfl, h9, g9⟩
  go_wp2_with fail
  refine (plan_some 0 0 D9 d9 _ h9).mono ?_
  rintro e w10 ⟨D, n, d, rfl, o10, g10⟩
  have hn : 2 = n := OE.len (by decide) o10
  subst hn
  have gL : Grew w10 (w10.alloc (.cells #[.int .u64 1, .int .u64 2] 22)) := (Chg.refl _ w10).alloc _
  have rL : RE elU (w10.alloc (.cells #[.int .u64 1, .int .u64 2] 22)) (some ⟨w10.heap.size, 0, none⟩) 2 [1, 2] := RE.newAt (by simp) rfl rfl
  go_wp2_with fail
  refine (sameIds_eq D _ 2 d 2 [1, 2] _ ((o10.re (by decide)).grew gL) rL (by decide)).mono ?_
  rintro e w11 ⟨rfl, g11⟩
  have g81 := ((g9.trans g10).trans gL).trans g11
  have gw11 := gw8.trans g81
  replace hAw := hAw.grew g81
  clear h9 o10 rL g9 g10 gL g11 g81 gw8
  go_wp2_with fail
  refine (some_any _).mono ?_
  rintro e w12 ⟨D9, d9, rfl, h9, g12⟩
  go_wp2_with fail
  refine (overlaps_ok 0 0 D9 3 d9 someE _ h9 okS).mono ?_
  rw [show ovL (livM someE) = true from by decide]
  rintro e w13 ⟨rfl, g13⟩
  have g113 := g12.trans g13
  have gw13 := gw11.trans g113
  replace hAw := hAw.grew g113
  clear h9 g12 g13 g113 gw11
  obtain ⟨lm, m0, m1, m2⟩ := hAw.m
  go_wp2_with fail
  refine (liveM_ok 0 0 B 4 c esM _ hAw.hm okM).mono ?_
  rintro e w14 ⟨D, n, d, ms, rfl, hx, hms, g14⟩
  have hn : 2 = n := by
    have h1 := OE.len (by decide) hx.row
    have h2 := congrArg List.length hms
    rw [List.length_map, show (livM esM).length = 2 from rfl] at h2
    omega
  subst hn
  have gw14 := gw13.trans g14
  replace hAw := hAw.grew g14
  clear lm m0 m1 m2 hx hms g14 gw13
  obtain ⟨lm, m0, m1, m2⟩ := hAw.m
  go_wp2_with fail
  refine (due_ok 0 0 B 4 c esM 7 0 _ hAw.hm okM (fun e he => (wM e he).tm) (by decide) (by decide)).mono ?_
  rw [show dueL esM 7 0 = [1, 2] from rfl]
  rintro e w15 ⟨D2, n, d2, rfl, o15, g15⟩
  have hn : 2 = n := OE.len (by decide) o15
  subst hn
  have gL : Grew w15 (w15.alloc (.cells #[.int .u64 1, .int .u64 2] 22)) := (Chg.refl _ w15).alloc _
  have rL : RE elU (w15.alloc (.cells #[.int .u64 1, .int .u64 2] 22)) (some ⟨w15.heap.size, 0, none⟩) 2 [1, 2] := RE.newAt (by simp) rfl rfl
  go_wp2_with fail
  refine (sameIds_eq D2 _ 2 d2 2 [1, 2] _ ((o15.re (by decide)).grew gL) rL (by decide)).mono ?_
  rintro e w16 ⟨rfl, g16⟩
  have g146 := (g15.trans gL).trans g16
  have gw16 := gw14.trans g146
  replace hAw := hAw.grew g146
  clear lm m0 m1 m2 o15 rL g15 gL g16 g146 gw14
  obtain ⟨lm, m0, m1, m2⟩ := hAw.m
  go_wp2_with fail
  refine (covered_any 0 0 B 4 c esM 1 99 _ hAw.hm (by decide)).mono ?_
  rw [show covI 0 esM 1 99 = true from by decide]
  rintro e w17 ⟨rfl, g17⟩
  have gw17 := gw16.trans g17
  replace hAw := hAw.grew g17
  clear lm m0 m1 m2 g17 gw16
  have r2 : w17.cell? ⟨gr, 2, none⟩ = some (.slice Br 3 cr) := hAw.br.cell 2
  have x1 : w17.cell? ⟨gx, 1, none⟩ = some (.int .i64 5) := hAw.bx.cell 1
  go_wp2_with fail
  refine (check_any 0 1125899906842624 none 0 0 [] _ (RX.nil _ _) (by decide)).mono ?_
  rw [show errI (chkI 1125899906842624 []) = 140 from by decide]
  rintro e w18 ⟨rfl, g18⟩
  go_wp2
  go_ret
  exact ⟨rfl, gw17.trans g18⟩
end Go.Proofs.YtjoaonppaokhhaaGreat

namespace Go.Proofs.YtjoaonppaokhhaaGreat
open Go.RowKit

/-- what Plan answers of live metas -/
structure PlA (ms : List Met) (p : List Nat) : Prop where
  ex : ∃ d : Array MtM, (d.toList.map MtM.m).Perm ms ∧ (p = [] ∨ Good d d.size p) ∧ (p = [] → NoAll d d.size d.size)
theorem plM_any (es : List Ent) (fl : Int) (hok : chkI fl es = true) : ∀ m ∈ livM es, m.src.length ≤ 64 := by
  intro m hm
  unfold livM metsAt at hm
  obtain ⟨k, _, h2⟩ := List.mem_filterMap.1 hm
  cases he : es[k]? with
  | none => rw [he] at h2; cases h2
  | some e =>
    rw [he] at h2
    injection h2 with h2
    subst h2
    have h3 := (((chkI_iff fl es).1 hok).el e (List.mem_of_getElem? he)).1
    unfold metOk at h3
    simp only [Bool.and_eq_true, decide_eq_true_eq] at h3
    exact h3.2.2.2

set_option maxRecDepth 100000 in
set_option maxHeartbeats 4000000 in
theorem mstable_none (A : Option Addr) (c : Nat) (w : World) :
    Calls Tryz.prog 74 #[.slice A 0 c, .func (.func 75) #[] #[]] w fun e w' => e = .returned (.tuple #[]) ∧ w' = w := by
  have hI : ∀ w, Calls Tryz.prog 123 #[.slice A 0 c, .int .i64 0, .int .i64 0, .func (.func 75) #[] #[]] w fun e w' => e = .returned (.tuple #[]) ∧ w' = w := fun w => by
    go_enter Tryz.func123, Tryz.ntmps123
    go_wp2
    refine wp_loop_rounds 1 ?_
    rw [rounds_succ]
    go_wp2
    first
      | go_end0
      | refine bodyPost_ret (results_none rfl _ _ _) rfl ?_
    exact ⟨rfl, rfl⟩
  have hS : ∀ w, Calls Tryz.prog 103 #[.slice A 0 c, .int .i64 0, .func (.func 75) #[] #[]] w fun e w' => e = .returned (.tuple #[]) ∧ w' = w := fun w => by
    go_enter Tryz.func103, Tryz.ntmps103
    go_wp2
    refine wp_loop_rounds 1 ?_
    rw [rounds_succ]
    go_wp2_with fail
    refine (hI _).mono ?_
    rintro e w1 ⟨rfl, rfl⟩
    go_wp2
    refine wp_loop_rounds 1 ?_
    rw [rounds_succ]
    go_wp2
    first
      | go_end0
      | refine bodyPost_ret (results_none rfl _ _ _) rfl ?_
    exact ⟨rfl, rfl⟩
  go_enter Tryz.func74, Tryz.ntmps74
  go_wp2_with fail
  refine (hS _).mono ?_
  rintro e w1 ⟨rfl, rfl⟩
  go_wp2
  first
    | go_end0
    | refine bodyPost_ret (results_none rfl _ _ _) rfl ?_
  exact ⟨rfl, rfl⟩

set_option maxRecDepth 100000 in
set_option maxHeartbeats 4000000 in
theorem upright_none (A : Option Addr) (c : Nat) (w : World) :
    Calls Tryz.prog 79 #[.slice A 0 c] w fun e w' => e = .returned (.slice none 0 0) ∧ Grew w w' := by
  have g0 : Grew w ((w.alloc (.cells #[.slice A 0 c] 54)).alloc (.cells #[.int .i64 (-1)] 3)) := ((Chg.refl _ w).alloc _).alloc _
  go_enter Tryz.func79, Tryz.ntmps79
  go_wp2_with fail
  go_step3
  go_wp2_with fail
  go_step3
  go_wp2_with fail
  refine wp_loop_rounds 1 ?_
  rw [rounds_succ]
  go_wp2
  first
    | (rw [Exit.noGoto_ret]; go_ret)
    | go_ret
  exact ⟨rfl, g0⟩

set_option maxRecDepth 100000 in
set_option maxHeartbeats 4000000 in
theorem level_none (A : Option Addr) (c : Nat) (now : Int) (w : World) :
    Calls Tryz.prog 80 #[.slice A 0 c, .int .i64 now] w fun e w' => e = .returned (.slice none 0 0) ∧ Grew w w' := by
  have hmf : ∀ (fn : Fn) (first cap : Array Value) (w : World), (Instr.makeFunc fn first cap).run Tryz.prog w = .ok (.func fn first cap) w := fun _ _ _ _ => rfl
  have hmm := @run_makeMap Tryz.prog
  have g0 : Grew w ((((w.alloc (.cells #[.slice A 0 c] 54)).alloc (.cells #[.int .i64 now] 2)).alloc (.map #[] 0)).alloc (.cells #[.func (.func 109) #[] #[.pointer (some ⟨w.heap.size + 1, 0, none⟩)]] 129)) := ((((Chg.refl _ w).alloc _).alloc _).alloc _).alloc _
  go_enter Tryz.func80, Tryz.ntmps80
  go_wp2
  refine wp_loop_rounds 1 ?_
  rw [rounds_succ]
  go_wp2_with fail
  refine (isort_none _ _ _).mono ?_
  rintro e w1 ⟨rfl, rfl⟩
  go_wp2
  refine wp_loop_rounds 1 ?_
  rw [rounds_succ]
  go_wp2
  go_ret
  exact ⟨rfl, g0⟩
end Go.Proofs.YtjoaonppaokhhaaGreat
