/-
  Several texts in one:
  (block.Meta) walked, without sources. Conditions: numbers of 64 bits.
  A heap in a list: what moving up and moving down keep. Conditions: none; no program in sight.
-/
import Derived.Deep.CutRange
import Derived.Test.YtlcaaacbookopaaGreatDoorPart32
import Derived.Test.YtlcaaacbookopaaGreatDoorPart25
import Derived.Test.YtlcaaacbookopaaGreatDoorPart26
import Derived.Test.YtlcaaacbookopaaGreatDoorPart1

namespace Go.Proofs.YtlcaaacbookopaaGreatDoor
open Go.RowKit

def totK : List Ser → Nat
  | [] => 0
  | s :: r => s.pts.length + totK r
theorem totK_app : ∀ (a b : List Ser), totK (a ++ b) = totK a + totK b
  | [], b => by simp [totK]
  | s :: r, b => by
    rw [List.cons_append, totK, totK, totK_app r b]
    omega
theorem totK_take {ss : List Ser} {k : Nat} {s : Ser} (h : ss[k]? = some s) : totK (ss.take (k + 1)) = totK (ss.take k) + s.pts.length := by
  rw [List.take_add_one, h, totK_app]
  simp [totK]
theorem meta_put {w1 w2 : World} {g : Nat} {z0 z1 z2 z3 z4 z5 z6 : Value} (hg : w1.heap.size ≤ g) (g2 : Grew w1 w2) (hb : Blk w2 g 25 #[z0, z1, z2, z3, z4, z5, z6]) (v0 v1 v2 v3 v4 v5 v6 : Value) :
    Blk (((((((w2.setCell ⟨g, 0, none⟩ v0).setCell ⟨g, 1, none⟩ v1).setCell ⟨g, 2, none⟩ v2).setCell ⟨g, 3, none⟩ v3).setCell ⟨g, 4, none⟩ v4).setCell ⟨g, 5, none⟩ v5).setCell ⟨g, 6, none⟩ v6) g 25 #[v0, v1, v2, v3, v4, v5, v6] ∧ Grew w1 (((((((w2.setCell ⟨g, 0, none⟩ v0).setCell ⟨g, 1, none⟩ v1).setCell ⟨g, 2, none⟩ v2).setCell ⟨g, 3, none⟩ v3).setCell ⟨g, 4, none⟩ v4).setCell ⟨g, 5, none⟩ v5).setCell ⟨g, 6, none⟩ v6) := by
  have hq := ((((((hb.set 0 v0).set 1 v1).set 2 v2).set 3 v3).set 4 v4).set 5 v5).set 6 v6
  simp only [List.setIfInBounds_toArray, List.set_cons_succ, List.set_cons_zero] at hq
  exact ⟨hq, ((((((g2.setCell (p := ⟨g, 0, none⟩) (.inl hg) _).setCell (p := ⟨g, 1, none⟩) (.inl hg) _).setCell (p := ⟨g, 2, none⟩) (.inl hg) _).setCell (p := ⟨g, 3, none⟩) (.inl hg) _).setCell (p := ⟨g, 4, none⟩) (.inl hg) _).setCell (p := ⟨g, 5, none⟩) (.inl hg) _).setCell (p := ⟨g, 6, none⟩) (.inl hg) _⟩

/-- what a block of some series is, as the meta tells -/
def MkP (w : World) (ss : List Ser) (n id : Nat) (lv : Int) (e : Ending) (w' : World) : Prop :=
  (¬ BkOk ss ∧ e = .returned (.tuple #[.agg #[.int .u64 0, .int .i64 0, .int .i64 0, .int .i64 0, .slice none 0 0, .int .i64 0, .int .i64 0], .int .i64 90]) ∧ Grew w w') ∨
  (BkOk ss ∧ ∃ (lo hi : Int) (D : Option Addr) (d : Nat), -1099511627776 ≤ lo ∧ lo ≤ hi ∧ hi ≤ 1099511627776 ∧ e = .returned (.tuple #[.agg #[.int .u64 (id : Int), .int .i64 lo, .int .i64 hi, .int .i64 lv, .slice D 0 d, .int .i64 (n : Int), .int .i64 (totK ss : Int)], .int .i64 0]) ∧ Grew w w')

set_option maxRecDepth 100000 in
set_option maxHeartbeats 16000000 in
theorem metaK_nil (A : Option Addr) (n c : Nat) (ss : List Ser) (id : Nat) (lv : Int) (w : World) (h : RS w A n ss) (hn : n ≤ 9223372036854775807) (_hid : id < 18446744073709551616) (hlv : 0 ≤ lv ∧ lv ≤ 2147483647) :
    Calls Tryz.prog 24 #[.slice A n c, .int .u64 (id : Int), .int .i64 lv, .slice none 0 0] w (MkP w ss n id lv) := by
  have hgz : Grew w (w.alloc (.cells #[.int .u64 0, .int .i64 0, .int .i64 0, .int .i64 0, .slice none 0 0, .int .i64 0, .int .i64 0] 25)) := (Chg.refl _ w).alloc _
  have hbz := Blk.new w 25 #[.int .u64 0, .int .i64 0, .int .i64 0, .int .i64 0, .slice none 0 0, .int .i64 0, .int .i64 0]
  have hC := bcheck_any A n c ss _ (h.grew hgz) hn
  unfold MkP
  by_cases hok : BkOk ss
  rotate_left
  · rw [errK_of hok] at hC
    replace hok := Lib.hid hok
    go_enter Tryz.func24, Tryz.ntmps24
    go_wp2_with fail
    refine hC.mono ?_
    rintro e w1 ⟨rfl, g1⟩
    have hb1 := hbz.grew g1
    have gg1 := hgz.trans g1
    have r0 := hb1.cell 0
    have r1 := hb1.cell 1
    have r2 := hb1.cell 2
    have r3 := hb1.cell 3
    have r4 := hb1.cell 4
    have r5 := hb1.cell 5
    have r6 := hb1.cell 6
    have f0 := hb1.frozen 0
    have f1 := hb1.frozen 1
    have f2 := hb1.frozen 2
    have f3 := hb1.frozen 3
    have f4 := hb1.frozen 4
    have f5 := hb1.frozen 5
    have f6 := hb1.frozen 6
    simp only [List.getElem?_toArray, List.getElem?_cons_succ, List.getElem?_cons_zero] at r0 r1 r2 r3 r4 r5 r6
    have hq := ((((((hb1.set 0 (.int .u64 0)).set 1 (.int .i64 0)).set 2 (.int .i64 0)).set 3 (.int .i64 0)).set 4 (.slice none 0 0)).set 5 (.int .i64 0)).set 6 (.int .i64 0)
    simp only [List.setIfInBounds_toArray, List.set_cons_succ, List.set_cons_zero] at hq
    have hcc : Chg (fun k => k = w.heap.size) w1 (((((((w1.setCell ⟨w.heap.size, 0, none⟩ (.int .u64 0)).setCell ⟨w.heap.size, 1, none⟩ (.int .i64 0)).setCell ⟨w.heap.size, 2, none⟩ (.int .i64 0)).setCell ⟨w.heap.size, 3, none⟩ (.int .i64 0)).setCell ⟨w.heap.size, 4, none⟩ (.slice none 0 0)).setCell ⟨w.heap.size, 5, none⟩ (.int .i64 0)).setCell ⟨w.heap.size, 6, none⟩ (.int .i64 0)) :=
      (((((((Chg.refl (fun k => k = w.heap.size) w1).setCell (p := ⟨w.heap.size, 0, none⟩) (.inr rfl) _).setCell (p := ⟨w.heap.size, 1, none⟩) (.inr rfl) _).setCell (p := ⟨w.heap.size, 2, none⟩) (.inr rfl) _).setCell (p := ⟨w.heap.size, 3, none⟩) (.inr rfl) _).setCell (p := ⟨w.heap.size, 4, none⟩) (.inr rfl) _).setCell (p := ⟨w.heap.size, 5, none⟩) (.inr rfl) _).setCell (p := ⟨w.heap.size, 6, none⟩) (.inr rfl) _
    have q0 := hq.cell 0
    have q1 := hq.cell 1
    have q2 := hq.cell 2
    have q3 := hq.cell 3
    have q4 := hq.cell 4
    have q5 := hq.cell 5
    have q6 := hq.cell 6
    clear hC
    go_wp2
    refine bodyPost_ret (v := .tuple #[.agg #[.int .u64 0, .int .i64 0, .int .i64 0, .int .i64 0, .slice none 0 0, .int .i64 0, .int .i64 0], .int .i64 90]) ?_ rfl (.inl ⟨hok.out, rfl, gg1.step hcc fun k hk e => by
      have e : k = w.heap.size := e
      omega⟩)
    simp [results, Tryz.results24, go_sem, q0, q1, q2, q3, q4, q5, q6]
  rw [errK_ok hok] at hC
  have hall : Hid (∀ s ∈ ss, 0 < s.pts.length ∧ s.pts.length ≤ 8191 ∧ Okp s.pts) := Lib.hid fun s hs => (okK_all hok.2.2 s hs).2
  have hln := h.len
  have hn0 : 0 < n := by have := hok.1; omega
  have hn1 : n ≤ 1024 := by have := hok.2.1; omega
  have hbz7 := hbz
  replace hok := Lib.hid hok
  replace hln := Lib.hid hln
  go_enter Tryz.func24, Tryz.ntmps24
  go_wp2_with fail
  refine hC.mono ?_
  rintro e w1 ⟨rfl, g1⟩
  have gg1 := hgz.trans g1
  have hb1 := hbz.grew g1
  have hsz1 := gg1.size
  clear hC hbz hbz7 hgz g1
  have hR1 := h.grew gg1
  obtain ⟨ad, ⟨la, ln, lc, pa, pn, pc⟩, s, rfl, hs, hsi, x0, x1⟩ := hR1.at_ hn0
  have e0 : ad.add (0 * 2) = ad := rfl
  rw [e0] at x0 x1
  dsimp only at x0 x1
  obtain ⟨h8, h9, h10⟩ := hall.out s (List.mem_of_getElem? hs)
  have hpl := hsi.pt.1
  dsimp only at hpl
  rw [hpl] at h8 h9
  obtain ⟨pd, p, rfl, hp, p0, p1⟩ := hsi.pt.pt0 h8
  have hp3 := (h10 0 p hp).1
  have hcA := cellsIn_cell x0
  have hcB := cellsIn_cell p0
  have hcs : CellsIn [ad.block, pd.block] w1 := fun i hi => by
    simp only [List.mem_cons, List.not_mem_nil, or_false] at hi
    rcases hi with rfl | rfl
    · exact hcA _ (by simp)
    · exact hcB _ (by simp)
  have hsame : Hid (∀ W1, Grew w1 W1 → SameIn [ad.block, pd.block] w1 W1) := fun W1 h1 => sameIn_of h1 hcs fun _ _ e => e
  clear hs hsi h10 hp hcA hcB
  go_upto_region 4 with fail
  go_cut [11] from 12 to 82 (fun b wx => ∃ (g11 : Nat) (D : Option Addr) (d : Nat), b = .pointer (some ⟨g11, 0, none⟩) ∧ w1.heap.size ≤ g11 ∧ Blk wx g11 25 #[.int .u64 (id : Int), .int .i64 p.1, .int .i64 p.1, .int .i64 lv, .slice D 0 d, .int .i64 (n : Int), .int .i64 0] ∧ Grew w1 wx)
  case first =>
    refine wp_region_textsD [(3, 1)] [ad.block, pd.block] [[0, 1, 2, 3, 4, 5, 6, 7, 8, 9, 10, 11, 12, 13, 14, 15, 16, 17, 18, 19, 20, 21, 22, 23], [0, 1, 2, 3, 4, 5, 6, 7, 8, 9, 10, 11, 12, 13, 14, 15, 16, 22, 17, 18, 19, 20, 21, 23], [0, 1, 2, 3, 4, 5, 6, 7, 8, 9, 10, 11, 12, 13, 14, 15, 22, 16, 17, 18, 19, 20, 21, 23]] (by kernel_rfl) (by kernel_rfl) hcs ?_
    intro t ht
    simp only [List.mem_cons, List.not_mem_nil, or_false] at ht
    rcases ht with rfl | rfl | rfl
    all_goals
      simp only [opsOf, List.filterMap_cons, List.filterMap_nil, List.getElem?_toArray, List.getElem?_cons_zero, List.getElem?_cons_succ]
      simp only [wpU, tagOf, chk, List.cons_append, List.nil_append]
    ·
      intro K hK
      go_wp2_with fail
      refine OnlyN.normal (hK _ _ (fun _ => ⟨_, _, _, rfl, rfl, by simp⟩) ?_)
      clear hK K
      intro K hK
      go_wp2_with fail
      refine OnlyN.normal (hK _ _ (fun _ => ⟨_, _, _, rfl, rfl, by simp⟩) ?_)
      clear hK K
      intro K hK
      go_wp2_with fail
      refine OnlyN.normal (hK _ _ (fun _ => ⟨_, _, _, rfl, rfl, by simp⟩) ?_)
      clear hK K
      intro K hK
      go_wp2_with fail
      refine OnlyN.normal (hK _ _ (fun _ => ⟨_, _, _, rfl, rfl, by simp⟩) ?_)
      clear hK K
      have gX : Grew w1 (w1.drew.alloc (.cells #[] 22)) := (Chg.refl _ w1).drew.alloc _
      have oL : OE elU (w1.drew.alloc (.cells #[] 22)) w1.heap.size 22 (some ⟨w1.heap.size, 0, none⟩) 0 0 [] := OE.made w1.drew w1.heap.size 22 (Nat.le_refl _)
      intro K hK
      go_wp2_with fail
      refine OnlyN.normal (hK _ _ (hsame.out _ gX) ?_)
      clear hK K
      intro K hK
      go_wp2_with (at_builtin; refine wpList_appE rfl _ _ 23 22 infoU64 rfl Tryz.underlying23 rfl w1.heap.size (some ⟨w1.heap.size, 0, none⟩) 0 0 [] rfl oL gX.size none 0 0 [] rfl (RE.nil _ _) (by unfold maxLen; omega) (by omega) ?_; intro A2 c2 w2 h2)
      have g2 : Grew w1 w2 := h2.grew gX (head_le0 (Nat.le_refl _))
      have hz2 := g2.size
      refine OnlyN.normal (hK _ _ (hsame.out _ g2) ?_)
      clear hK K
      intro K hK
      go_wp2_with fail
      refine OnlyN.normal (hK _ _ (hsame.out _ (g2.alloc _)) ?_)
      clear hK K
      intro K hK
      go_wp2_with fail
      refine OnlyN.normal (hK _ _ ?_ ?_)
      · exact hsame.out _ (g2.alloc _)
      clear hK K
      go_wp2_with fail
      refine OnlyN.normal ?_
      clear h2 oL gX
      go_wp2
      go_meet
      case rel => exact ⟨w2.heap.size, A2, c2, by simp, hz2, by simpa using Blk.new w2 25 #[.int .u64 (id : Int), .int .i64 p.1, .int .i64 p.1, .int .i64 lv, .slice A2 0 c2, .int .i64 (n : Int), .int .i64 0], g2.alloc _⟩
    ·
      intro K hK
      go_wp2_with fail
      refine OnlyN.normal (hK _ _ (fun _ => ⟨_, _, _, rfl, rfl, by simp⟩) ?_)
      clear hK K
      intro K hK
      go_wp2_with fail
      refine OnlyN.normal (hK _ _ (fun _ => ⟨_, _, _, rfl, rfl, by simp⟩) ?_)
      clear hK K
      intro K hK
      go_wp2_with fail
      refine OnlyN.normal (hK _ _ (fun _ => ⟨_, _, _, rfl, rfl, by simp⟩) ?_)
      clear hK K
      intro K hK
      go_wp2_with fail
      refine OnlyN.normal (hK _ _ (fun _ => ⟨_, _, _, rfl, rfl, by simp⟩) ?_)
      clear hK K
      obtain ⟨W, hW⟩ : ∃ W, W = (w1.drew.alloc (.cells #[] 22)).alloc (.cells #[.int .u64 0, .int .i64 0, .int .i64 0, .int .i64 0, .slice none 0 0, .int .i64 0, .int .i64 0] 25) := ⟨_, rfl⟩
      have gX : Grew w1 (w1.drew.alloc (.cells #[] 22)) := (Chg.refl _ w1).drew.alloc _
      have gW : Grew w1 W := by rw [hW]; exact gX.alloc _
      have oW : OE elU W w1.heap.size 22 (some ⟨w1.heap.size, 0, none⟩) 0 0 [] := by
        rw [hW]
        exact OE.grew (OE.made w1.drew w1.heap.size 22 (Nat.le_refl _)) ((Chg.refl _ _).alloc _)
      have bW : Blk W (w1.heap.size + 1) 25 #[.int .u64 0, .int .i64 0, .int .i64 0, .int .i64 0, .slice none 0 0, .int .i64 0, .int .i64 0] := by
        rw [hW]
        have := Blk.new (w1.drew.alloc (.cells #[] 22)) 25 #[.int .u64 0, .int .i64 0, .int .i64 0, .int .i64 0, .slice none 0 0, .int .i64 0, .int .i64 0]
        rwa [World.size_alloc] at this
      intro K hK
      go_wp2_with fail
      refine OnlyN.normal (hK _ _ (hsame.out _ gX) ?_)
      clear hK K
      intro K hK
      go_wp2_with fail
      refine OnlyN.normal (hK _ _ (hsame.out _ (gX.alloc _)) ?_)
      clear hK K
      obtain ⟨gm, hgm⟩ : ∃ gm, w1.heap.size + 1 = gm := ⟨_, rfl⟩
      have hgm2 : w1.heap.size ≤ gm := by omega
      rw [hgm] at bW
      intro K hK
      have gWs := gW.size
      rw [hW] at oW gWs
      go_wp2_with (at_builtin; refine wpList_appE rfl _ _ 23 22 infoU64 rfl Tryz.underlying23 rfl w1.heap.size (some ⟨w1.heap.size, 0, none⟩) 0 0 [] rfl oW gWs none 0 0 [] rfl (RE.nil _ _) (by unfold maxLen; omega) (by omega) ?_; intro A2 c2 w2 h2)
      rw [← hW] at oW
      replace h2 : ApE elU W w1.heap.size 22 (some ⟨w1.heap.size, 0, none⟩) (0 + 0) 0 ([] ++ []) A2 c2 w2 := by rw [hW]; exact h2
      have g2 : Grew w1 w2 := h2.grew gW (fun ad e => (Own.blk_lt oW ad e).1)
      have b2 := bW.chg h2.chg (fun ⟨ad, e, hk⟩ => Own.ne_blk oW bW (by decide) ad e hk.symm)
      refine OnlyN.normal (hK _ _ (hsame.out _ g2) ?_)
      clear hK K
      have r0 := b2.cell 0
      have r1 := b2.cell 1
      have r2 := b2.cell 2
      have r3 := b2.cell 3
      have r4 := b2.cell 4
      have r5 := b2.cell 5
      have r6 := b2.cell 6
      have f0 := b2.frozen 0
      have f1 := b2.frozen 1
      have f2 := b2.frozen 2
      have f3 := b2.frozen 3
      have f4 := b2.frozen 4
      have f5 := b2.frozen 5
      have f6 := b2.frozen 6
      simp only [List.getElem?_toArray, List.getElem?_cons_succ, List.getElem?_cons_zero] at r0 r1 r2 r3 r4 r5 r6
      obtain ⟨b7, g7⟩ := meta_put hgm2 g2 b2 (.int .u64 (id : Int)) (.int .i64 p.1) (.int .i64 p.1) (.int .i64 lv) (.slice A2 0 c2) (.int .i64 (n : Int)) (.int .i64 0)
      clear h2 oW gX gW bW hW b2 gWs
      intro K hK
      go_wp2_with fail
      refine OnlyN.normal (hK _ _ ?_ ?_)
      · exact hsame.out _ g7
      clear hK K
      go_wp2_with fail
      refine OnlyN.normal ?_
      clear r0 r1 r2 r3 r4 r5 r6 f0 f1 f2 f3 f4 f5 f6
      go_wp2
      go_meet
      case rel => exact ⟨gm, A2, c2, by simp, hgm2, b7, g7⟩
    ·
      intro K hK
      go_wp2_with fail
      refine OnlyN.normal (hK _ _ (fun _ => ⟨_, _, _, rfl, rfl, by simp⟩) ?_)
      clear hK K
      intro K hK
      go_wp2_with fail
      refine OnlyN.normal (hK _ _ (fun _ => ⟨_, _, _, rfl, rfl, by simp⟩) ?_)
      clear hK K
      intro K hK
      go_wp2_with fail
      refine OnlyN.normal (hK _ _ (fun _ => ⟨_, _, _, rfl, rfl, by simp⟩) ?_)
      clear hK K
      intro K hK
      go_wp2_with fail
      refine OnlyN.normal (hK _ _ (fun _ => ⟨_, _, _, rfl, rfl, by simp⟩) ?_)
      clear hK K
      obtain ⟨W, hW⟩ : ∃ W, W = (w1.drew.alloc (.cells #[.int .u64 0, .int .i64 0, .int .i64 0, .int .i64 0, .slice none 0 0, .int .i64 0, .int .i64 0] 25)).alloc (.cells #[] 22) := ⟨_, rfl⟩
      have gX : Grew w1 (w1.drew.alloc (.cells #[.int .u64 0, .int .i64 0, .int .i64 0, .int .i64 0, .slice none 0 0, .int .i64 0, .int .i64 0] 25)) := (Chg.refl _ w1).drew.alloc _
      have gW : Grew w1 W := by rw [hW]; exact gX.alloc _
      have oW : OE elU W w1.heap.size 22 (some ⟨w1.heap.size + 1, 0, none⟩) 0 0 [] := by
        rw [hW]
        have := OE.made (E := elU) (w1.drew.alloc (.cells #[.int .u64 0, .int .i64 0, .int .i64 0, .int .i64 0, .slice none 0 0, .int .i64 0, .int .i64 0] 25)) w1.heap.size 22 gX.size
        rwa [World.size_alloc] at this
      have bW : Blk W w1.heap.size 25 #[.int .u64 0, .int .i64 0, .int .i64 0, .int .i64 0, .slice none 0 0, .int .i64 0, .int .i64 0] := by
        rw [hW]
        exact (Blk.new w1.drew _ _).alloc _
      intro K hK
      go_wp2_with fail
      refine OnlyN.normal (hK _ _ (hsame.out _ gX) ?_)
      clear hK K
      intro K hK
      go_wp2_with fail
      refine OnlyN.normal (hK _ _ (hsame.out _ (gX.alloc _)) ?_)
      clear hK K
      obtain ⟨gm, hgm⟩ : ∃ gm, w1.heap.size = gm := ⟨_, rfl⟩
      have hgm2 : w1.heap.size ≤ gm := by omega
      rw [hgm] at bW
      intro K hK
      have gWs := gW.size
      rw [hW] at oW gWs
      go_wp2_with (at_builtin; refine wpList_appE rfl _ _ 23 22 infoU64 rfl Tryz.underlying23 rfl w1.heap.size (some ⟨w1.heap.size + 1, 0, none⟩) 0 0 [] rfl oW gWs none 0 0 [] rfl (RE.nil _ _) (by unfold maxLen; omega) (by omega) ?_; intro A2 c2 w2 h2)
      rw [← hW] at oW
      replace h2 : ApE elU W w1.heap.size 22 (some ⟨w1.heap.size + 1, 0, none⟩) (0 + 0) 0 ([] ++ []) A2 c2 w2 := by rw [hW]; exact h2
      have g2 : Grew w1 w2 := h2.grew gW (fun ad e => (Own.blk_lt oW ad e).1)
      have b2 := bW.chg h2.chg (fun ⟨ad, e, hk⟩ => Own.ne_blk oW bW (by decide) ad e hk.symm)
      refine OnlyN.normal (hK _ _ (hsame.out _ g2) ?_)
      clear hK K
      have r0 := b2.cell 0
      have r1 := b2.cell 1
      have r2 := b2.cell 2
      have r3 := b2.cell 3
      have r4 := b2.cell 4
      have r5 := b2.cell 5
      have r6 := b2.cell 6
      have f0 := b2.frozen 0
      have f1 := b2.frozen 1
      have f2 := b2.frozen 2
      have f3 := b2.frozen 3
      have f4 := b2.frozen 4
      have f5 := b2.frozen 5
      have f6 := b2.frozen 6
      simp only [List.getElem?_toArray, List.getElem?_cons_succ, List.getElem?_cons_zero] at r0 r1 r2 r3 r4 r5 r6
      obtain ⟨b7, g7⟩ := meta_put hgm2 g2 b2 (.int .u64 (id : Int)) (.int .i64 p.1) (.int .i64 p.1) (.int .i64 lv) (.slice A2 0 c2) (.int .i64 (n : Int)) (.int .i64 0)
      clear h2 oW gX gW bW hW b2 gWs
      intro K hK
      go_wp2_with fail
      refine OnlyN.normal (hK _ _ ?_ ?_)
      · exact hsame.out _ g7
      clear hK K
      go_wp2_with fail
      refine OnlyN.normal ?_
      clear r0 r1 r2 r3 r4 r5 r6 f0 f1 f2 f3 f4 f5 f6
      go_wp2
      go_meet
      case rel => exact ⟨gm, A2, c2, by simp, hgm2, b7, g7⟩
  case rest =>
    obtain ⟨g11, D, d, rfl, hg11, hb, hgc⟩ := hcut
    clear hsame hcs p0 x0 x1
    have ht0 : Hid (0 = totK (ss.take 0)) := Lib.hid rfl
    go_wp2
    generalize wc = w2 at *
    go_loopw [44] (fun i wr => ∃ (k t : Nat) (lo hi : Int), k ≤ n ∧ i = .int .i64 (k : Int) ∧ Blk wr g11 25 #[.int .u64 (id : Int), .int .i64 lo, .int .i64 hi, .int .i64 lv, .slice D 0 d, .int .i64 (n : Int), .int .i64 (t : Int)] ∧ Grew w1 wr ∧ -1099511627776 ≤ lo ∧ lo ≤ hi ∧ hi ≤ 1099511627776 ∧ Hid (t = totK (ss.take k)) ∧ t ≤ 8191 * k) (fun i _ => n - (intOf i).toNat)
    case atStart => exact ⟨0, 0, p.1, p.1, by omega, rfl, hb, hgc, hp3.1, by omega, hp3.2, ht0, by omega⟩
    case round =>
      clear hb hgc ht0
      obtain ⟨k, t, lo, hi, hk, rfl, hb, hgc, hlo, hlh, hhi, ht, htb⟩ := hrel
      by_cases hlt : k < n
      · obtain ⟨ad2, ⟨ma, mn, mc, qa, qn, qc⟩, s2, he, hs, hsi, x0, x1⟩ := hR1.at_ hlt
        injection he with he
        subst he
        dsimp only at x0 x1
        replace x0 := hgc.cell x0 (fun e => e)
        replace x1 := hgc.cell x1 (fun e => e)
        obtain ⟨h8, h9, h10⟩ := hall.out s2 (List.mem_of_getElem? hs)
        have hql := hsi.pt.1
        dsimp only at hql
        rw [hql] at h8 h9
        obtain ⟨qm, rfl⟩ : ∃ qm, qn = qm + 1 := ⟨qn - 1, by omega⟩
        obtain ⟨qd, p1, rfl, hp1, y0, _⟩ := hsi.pt.pt0 h8
        obtain ⟨qd2, p2, he, hp2, z0, _⟩ := hsi.pt.pt (show qm < qm + 1 by omega)
        injection he with he
        subst he
        have hb1' := (h10 0 p1 hp1).1
        have hb2' := (h10 qm p2 hp2).1
        have ht2 : Hid (t + (qm + 1) = totK (ss.take (k + 1))) := Lib.hid (by rw [totK_take hs, ht.out, hql])
        obtain ⟨W, hW⟩ : ∃ W, W = wr.alloc (.cells #[.slice ma mn mc, .slice (some qd) (qm + 1) qc] 85) := ⟨_, rfl⟩
        have gW : Grew wr W := by rw [hW]; exact (Chg.refl _ wr).alloc _
        obtain ⟨gx, hgx⟩ : ∃ gx, wr.heap.size = gx := ⟨_, rfl⟩
        have hbx : Blk W gx 85 #[.slice ma mn mc, .slice (some qd) (qm + 1) qc] := by rw [hW, ← hgx]; exact Blk.new wr _ _
        have hbW := hb.grew gW
        have hgW := hgc.trans gW
        have b1 := hbx.cell 1
        have r6 := hbW.cell 6
        have f6 := hbW.frozen 6
        simp only [List.getElem?_toArray, List.getElem?_cons_succ, List.getElem?_cons_zero] at b1 r6
        have hch := Chg.cell1 W g11 6 (.int .i64 ((t : Int) + ((qm : Int) + 1)))
        have b8 := hbW.set 6 (.int .i64 ((t : Int) + ((qm : Int) + 1)))
        simp only [List.setIfInBounds_toArray, List.set_cons_succ, List.set_cons_zero] at b8
        have x8 := hbx.far (p := ⟨g11, 6, none⟩) (Blk.neT hbx hbW (by decide)) (.int .i64 ((t : Int) + ((qm : Int) + 1)))
        have g8 : Grew w1 (W.setCell ⟨g11, 6, none⟩ (.int .i64 ((t : Int) + ((qm : Int) + 1)))) := hgW.setCell (p := ⟨g11, 6, none⟩) (.inl hg11) _
        have htq : t + (qm + 1) ≤ 8191 * (k + 1) := by omega
        clear hs hsi hp1 hp2 h10 hch
        rw [hW] at b1 r6 f6
        go_upto_region 9 with fail
        rw [← hW]
        clear hW b1 r6 f6 x0 x1
        have y8 := g8.cell y0 (fun e => e)
        have z8 := g8.cell z0 (fun e => e)
        generalize W.setCell ⟨g11, 6, none⟩ (.int .i64 ((t : Int) + ((qm : Int) + 1))) = w8 at *
        have hcQ := cellsIn_cell y8
        have hcs : CellsIn [g11, gx, qd.block] w8 := fun i hi => by
          simp only [List.mem_cons, List.not_mem_nil, or_false] at hi
          rcases hi with rfl | rfl | rfl
          · exact ⟨_, _, _, b8⟩
          · exact ⟨_, _, _, x8⟩
          · exact hcQ _ (by simp)
        have c1 := b8.cell 1
        have d1 := x8.cell 1
        have cf := b8.frozen 1
        simp only [List.getElem?_toArray, List.getElem?_cons_succ, List.getElem?_cons_zero] at c1 d1
        refine wp_region_textL [(3, 1), (2, 1)] [g11, gx, qd.block] (by kernel_rfl) (by kernel_rfl) hcs ?_
        simp only [wpUL, tagOf, chk, List.nil_append, List.cons_append]
        intro K hK
        go_wp2_with fail
        refine OnlyN.normal (hK _ _ (fun _ => ⟨_, _, _, rfl, rfl, by simp⟩) ?_)
        clear hK K
        intro K hK
        go_wp2_with fail
        refine OnlyN.normal (hK _ _ (fun _ => ⟨_, _, _, rfl, rfl, by simp⟩) ?_)
        clear hK K
        intro K hK
        go_wp2_with fail
        refine OnlyN.normal (hK _ _ (fun _ => ⟨_, _, _, rfl, rfl, by simp⟩) ?_)
        clear hK K
        intro K hK
        go_wp2_with fail
        refine OnlyN.normal (hK _ _ (sameIn_refl rfl) ?_)
        clear hK K
        go_wp2_with fail
        refine OnlyN.normal ?_
        have b9 := (Blk.drewN b8 1).set 1 (.int .i64 (min lo p1.1))
        simp only [List.setIfInBounds_toArray, List.set_cons_succ, List.set_cons_zero] at b9
        have x9 : Blk ((w8.setCell ⟨g11, 1, none⟩ (.int .i64 (min lo p1.1))).drew) gx 85 #[.slice ma mn mc, .slice (some qd) (qm + 1) qc] := x8.far (w := w8) (p := ⟨g11, 1, none⟩) (Blk.neT x8 b8 (by decide)) (.int .i64 (min lo p1.1))
        have g9 : Grew w1 ((w8.setCell ⟨g11, 1, none⟩ (.int .i64 (min lo p1.1))).drew) := (g8.setCell (p := ⟨g11, 1, none⟩) (.inl hg11) _).drew
        replace b9 : Blk ((w8.setCell ⟨g11, 1, none⟩ (.int .i64 (min lo p1.1))).drew) g11 25 #[.int .u64 (id : Int), .int .i64 (min lo p1.1), .int .i64 hi, .int .i64 lv, .slice D 0 d, .int .i64 (n : Int), .int .i64 ((t : Int) + ((qm : Int) + 1))] := b9
        clear c1 d1 cf hcs hcQ b8 x8 g8
        go_upto_region 10 with fail
        have z9 := g9.cell z0 (fun e => e)
        generalize (w8.setCell ⟨g11, 1, none⟩ (.int .i64 (min lo p1.1))).drew = w9 at *
        have hcQ := cellsIn_cell z9
        rw [block_add] at hcQ
        have hcs : CellsIn [g11, gx, qd.block] w9 := fun i hi => by
          simp only [List.mem_cons, List.not_mem_nil, or_false] at hi
          rcases hi with rfl | rfl | rfl
          · exact ⟨_, _, _, b9⟩
          · exact ⟨_, _, _, x9⟩
          · exact hcQ _ (by simp)
        have c2 := b9.cell 2
        have d1 := x9.cell 1
        have cf := b9.frozen 2
        simp only [List.getElem?_toArray, List.getElem?_cons_succ, List.getElem?_cons_zero] at c2 d1
        refine wp_region_textL [(3, 1), (2, 1)] [g11, gx, qd.block] (by kernel_rfl) (by kernel_rfl) hcs ?_
        simp only [wpUL, tagOf, chk, look, Nat.reduceBEq, Bool.false_eq_true, if_true, if_false, Nat.reduceEqDiff, List.nil_append, List.cons_append]
        intro K hK
        go_wp2_with fail
        refine OnlyN.normal (hK _ _ (fun _ => ⟨_, _, _, rfl, rfl, by simp⟩) ?_)
        clear hK K
        intro K hK
        go_wp2_with fail
        refine OnlyN.normal (hK _ _ (fun _ => ⟨_, _, _, rfl, rfl, by simp⟩) ?_)
        clear hK K
        intro K hK
        go_wp2_with fail
        refine OnlyN.normal (hK _ _ (fun _ => ⟨_, _, _, rfl, rfl, by simp⟩) ?_)
        clear hK K
        intro K hK
        go_wp2_with fail
        refine OnlyN.normal (hK _ _ (fun _ => ⟨_, _, _, rfl, rfl, by simp [block_add]⟩) ?_)
        clear hK K
        intro K hK
        go_wp2_with fail
        refine OnlyN.normal (hK _ _ (sameIn_refl rfl) ?_)
        clear hK K
        go_wp2_with fail
        refine OnlyN.normal ?_
        have b10 := (Blk.drewN b9 1).set 2 (.int .i64 (max hi p2.1))
        simp only [List.setIfInBounds_toArray, List.set_cons_succ, List.set_cons_zero] at b10
        replace b10 : Blk ((w9.setCell ⟨g11, 2, none⟩ (.int .i64 (max hi p2.1))).drew) g11 25 #[.int .u64 (id : Int), .int .i64 (min lo p1.1), .int .i64 (max hi p2.1), .int .i64 lv, .slice D 0 d, .int .i64 (n : Int), .int .i64 ((t : Int) + ((qm : Int) + 1))] := b10
        have g10 : Grew w1 ((w9.setCell ⟨g11, 2, none⟩ (.int .i64 (max hi p2.1))).drew) := (g9.setCell (p := ⟨g11, 2, none⟩) (.inl hg11) _).drew
        clear c2 d1 cf hcs hcQ b9 x9 g9 z9 y8 z8
        go_wp2
        go_roundw
        case rel => exact ⟨k + 1, t + (qm + 1), min lo p1.1, max hi p2.1, by omega, by go_num, b10, g10, by omega, by omega, by omega, ht2, htq⟩
        case measure => simp [intOf] <;> omega
      · obtain rfl : k = n := by omega
        have htf : Hid (t = totK ss) := Lib.hid (by rw [ht.out, List.take_of_length_le (by have := hln.out; omega)])
        have hbe := hb1.grew hgc
        have m0 := hb.cell 0
        have m1 := hb.cell 1
        have m2 := hb.cell 2
        have m3 := hb.cell 3
        have m4 := hb.cell 4
        have m5 := hb.cell 5
        have m6 := hb.cell 6
        simp only [List.getElem?_toArray, List.getElem?_cons_succ, List.getElem?_cons_zero] at m0 m1 m2 m3 m4 m5 m6
        have hM := may_any ⟨id, lo, hi, lv, [], (k : Int), (t : Int)⟩ D 0 d wr (RE.nil _ _) (by omega)
        rw [show metOk ⟨id, lo, hi, lv, [], (k : Int), (t : Int)⟩ = true from (metOk_iff _).2 ⟨hlv, by simp; omega, by simp; omega, rfl, hlh, by simp⟩] at hM
        dsimp only at hM
        clear ht
        go_wp2_with fail
        refine hM.mono ?_
        rintro e w3 ⟨rfl, g3⟩
        have hb3 := hb.grew g3
        have he3 := hbe.grew g3
        have hg3 := gg1.trans (hgc.trans g3)
        replace m0 := g3.cell m0 (fun e => e)
        replace m1 := g3.cell m1 (fun e => e)
        replace m2 := g3.cell m2 (fun e => e)
        replace m3 := g3.cell m3 (fun e => e)
        replace m4 := g3.cell m4 (fun e => e)
        replace m5 := g3.cell m5 (fun e => e)
        replace m6 := g3.cell m6 (fun e => e)
        have r0 := he3.cell 0
        have r1 := he3.cell 1
        have r2 := he3.cell 2
        have r3 := he3.cell 3
        have r4 := he3.cell 4
        have r5 := he3.cell 5
        have r6 := he3.cell 6
        have f0 := he3.frozen 0
        have f1 := he3.frozen 1
        have f2 := he3.frozen 2
        have f3 := he3.frozen 3
        have f4 := he3.frozen 4
        have f5 := he3.frozen 5
        have f6 := he3.frozen 6
        simp only [List.getElem?_toArray, List.getElem?_cons_succ, List.getElem?_cons_zero] at r0 r1 r2 r3 r4 r5 r6
        obtain ⟨hq, hgq⟩ := meta_put (Nat.le_refl _) hg3 he3 (.int .u64 (id : Int)) (.int .i64 lo) (.int .i64 hi) (.int .i64 lv) (.slice D 0 d) (.int .i64 (k : Int)) (.int .i64 (t : Int))
        have q0 := hq.cell 0
        have q1 := hq.cell 1
        have q2 := hq.cell 2
        have q3 := hq.cell 3
        have q4 := hq.cell 4
        have q5 := hq.cell 5
        have q6 := hq.cell 6
        clear hM
        go_wp2
        refine bodyPost_ret (v := .tuple #[.agg #[.int .u64 (id : Int), .int .i64 lo, .int .i64 hi, .int .i64 lv, .slice D 0 d, .int .i64 (k : Int), .int .i64 (t : Int)], .int .i64 0]) ?_ rfl (.inr ⟨hok.out, lo, hi, D, d, hlo, hlh, hhi, by rw [htf.out], hgq⟩)
        simp [results, Tryz.results24, go_sem, q0, q1, q2, q3, q4, q5, q6]
end Go.Proofs.YtlcaaacbookopaaGreatDoor

namespace Go.Proofs.YtlcaaacbookopaaGreatDoor

section
variable {α : Type} (lt : α → α → Bool)
/-- 'not behind': total, and one step after the other -/
structure Wk : Prop where
  irr : ∀ a, lt a a = false
  tr : ∀ a b c, lt b a = false → lt c b = false → lt c a = false
  tot : ∀ a b, lt a b = true → lt b a = false

def swapL (l : List α) (i j : Nat) : List α := match l[i]?, l[j]? with
  | some x, some y => (l.set i y).set j x
  | _, _ => l
theorem swapL_some {l : List α} {i j : Nat} {x y : α} (hi : l[i]? = some x) (hj : l[j]? = some y) : swapL l i j = (l.set i y).set j x := by
  unfold swapL
  rw [hi, hj]
theorem swapL_get {l : List α} {i j : Nat} {x y : α} (hi : l[i]? = some x) (hj : l[j]? = some y) (k : Nat) : (swapL l i j)[k]? = if k = j then some x else if k = i then some y else l[k]? := by
  have h1 := (List.getElem?_eq_some_iff.1 hi).1
  have h2 := (List.getElem?_eq_some_iff.1 hj).1
  rw [swapL_some hi hj, List.getElem?_set, List.getElem?_set]
  by_cases hkj : k = j
  · subst hkj
    simp [h2]
  · rw [if_neg (fun e => hkj e.symm), if_neg hkj]
    by_cases hki : k = i
    · subst hki
      simp [h1]
    · rw [if_neg (fun e => hki e.symm), if_neg hki]
/-- the heap, all of it -/
def IsH (l : List α) : Prop := ∀ i x y, 0 < i → l[i]? = some x → l[(i - 1) / 2]? = some y → lt x y = false
theorem IsH.head {l : List α} {lt : α → α → Bool} (hw : Wk lt) (h : IsH lt l) {x : α} (h0 : l[0]? = some x) : ∀ (i : Nat) (y : α), l[i]? = some y → lt y x = false := by
  intro i
  induction i using Nat.strongRecOn with
  | ind i ih =>
    intro y hy
    rcases Nat.eq_zero_or_pos i with rfl | hi
    · rw [h0] at hy
      injection hy with hy
      rw [hy]
      exact hw.irr _
    · have hil := (List.getElem?_eq_some_iff.1 hy).1
      have hp : (i - 1) / 2 < i := by omega
      obtain ⟨z, hz⟩ : ∃ z, l[(i - 1) / 2]? = some z := ⟨l[(i - 1) / 2]'(by omega), List.getElem?_eq_getElem _⟩
      exact hw.tr _ _ _ (ih _ hp z hz) (h i y z hi hy hz)
/-- .. but at j towards its parent -/
structure UpH (l : List α) (j : Nat) : Prop where
  rest : ∀ i x y, 0 < i → i ≠ j → l[i]? = some x → l[(i - 1) / 2]? = some y → lt x y = false
  over : ∀ i x y, 0 < j → 0 < i → (i - 1) / 2 = j → l[i]? = some x → l[(j - 1) / 2]? = some y → lt x y = false
/-- .. but at i towards its children; of the first n -/
structure DnH (l : List α) (n i : Nat) : Prop where
  rest : ∀ k x y, 0 < k → k < n → (k - 1) / 2 ≠ i → l[k]? = some x → l[(k - 1) / 2]? = some y → lt x y = false
  over : ∀ k x y, 0 < i → 0 < k → k < n → (k - 1) / 2 = i → l[k]? = some x → l[(i - 1) / 2]? = some y → lt x y = false
variable {lt : α → α → Bool}
theorem UpH.done {l : List α} {j : Nat} (h : UpH lt l j) (hj : j = 0 ∨ ∃ x y, l[j]? = some x ∧ l[(j - 1) / 2]? = some y ∧ lt x y = false) : IsH lt l := by
  intro i x y hi hx hy
  by_cases hij : i = j
  · subst hij
    rcases hj with rfl | ⟨x', y', h1, h2, h3⟩
    · omega
    · rw [h1] at hx
      rw [h2] at hy
      injection hx with hx
      injection hy with hy
      rw [← hx, ← hy]
      exact h3
  · exact h.rest i x y hi hij hx hy
theorem UpH.step {l : List α} {j : Nat} (hw : Wk lt) (h : UpH lt l j) (hj : 0 < j) {x y : α} (hx : l[j]? = some x) (hy : l[(j - 1) / 2]? = some y) (hlt : lt x y = true) : UpH lt (swapL l ((j - 1) / 2) j) ((j - 1) / 2) := by
  have hg := swapL_get hy hx
  have hne : (j - 1) / 2 ≠ j := by omega
  refine ⟨fun i a b hi hij ha hb => ?_, fun i a b hj0 hi hij ha hb => ?_⟩
  · rw [hg] at ha hb
    rw [if_neg hij] at ha
    by_cases h1 : i = j
    · subst h1
      rw [if_pos rfl] at ha
      rw [if_neg hne, if_pos rfl] at hb
      injection ha with ha
      injection hb with hb
      rw [← ha, ← hb]
      exact hw.tot _ _ hlt
    · rw [if_neg h1] at ha
      by_cases h2 : (i - 1) / 2 = j
      · rw [if_pos h2] at hb
        injection hb with hb
        rw [← hb]
        exact h.over i a y hj hi h2 ha hy
      · rw [if_neg h2] at hb
        by_cases h3 : (i - 1) / 2 = (j - 1) / 2
        · rw [if_pos h3] at hb
          injection hb with hb
          rw [← hb]
          exact hw.tr _ _ _ (hw.tot _ _ hlt) (h.rest i a y hi h1 ha (h3 ▸ hy))
        · rw [if_neg h3] at hb
          exact h.rest i a b hi h1 ha hb
  · rw [hg] at ha hb
    have hpp : ((j - 1) / 2 - 1) / 2 ≠ (j - 1) / 2 := by omega
    have hpj : ((j - 1) / 2 - 1) / 2 ≠ j := by omega
    rw [if_neg hpj, if_neg hpp] at hb
    have hyb := h.rest ((j - 1) / 2) y b hj0 (by omega) hy hb
    by_cases h1 : i = j
    · subst h1
      rw [if_pos rfl] at ha
      injection ha with ha
      rw [← ha]
      exact hyb
    · rw [if_neg h1, if_neg (by omega)] at ha
      exact hw.tr _ _ _ hyb (h.rest i a y hi h1 ha (hij ▸ hy))
/-- the children of i -/
theorem half_iff {k i : Nat} (hk : 0 < k) : (k - 1) / 2 = i ↔ k = 2 * i + 1 ∨ k = 2 * i + 2 := by omega
theorem DnH.done {l : List α} {n i : Nat} (h : DnH lt l n i) (hj : ∀ k x y, (k = 2 * i + 1 ∨ k = 2 * i + 2) → k < n → l[k]? = some x → l[i]? = some y → lt x y = false) : ∀ k x y, 0 < k → k < n → l[k]? = some x → l[(k - 1) / 2]? = some y → lt x y = false := by
  intro k x y hk hkn hx hy
  by_cases h1 : (k - 1) / 2 = i
  · exact hj k x y ((half_iff hk).1 h1) hkn hx (h1 ▸ hy)
  · exact h.rest k x y hk hkn h1 hx hy
/-- the lesser child of i, j, is less than i: they change places -/
theorem DnH.step {l : List α} {n i j : Nat} (hw : Wk lt) (h : DnH lt l n i) (hj : j = 2 * i + 1 ∨ j = 2 * i + 2) (hjn : j < n) {x y : α} (hy : l[i]? = some y) (hx : l[j]? = some x) (hlt : lt x y = true) (hmin : ∀ k z, (k = 2 * i + 1 ∨ k = 2 * i + 2) → k < n → l[k]? = some z → lt z x = false) : DnH lt (swapL l i j) n j := by
  have hg := swapL_get hy hx
  have hji : (j - 1) / 2 = i := (half_iff (by omega)).2 hj
  refine ⟨fun k a b hk hkn hkj ha hb => ?_, fun k a b hj0 hk hkn hkj ha hb => ?_⟩
  · rw [hg] at ha hb
    rw [if_neg hkj] at hb
    by_cases h1 : k = j
    · subst h1
      rw [if_pos rfl] at ha
      rw [if_pos hji] at hb
      injection ha with ha
      injection hb with hb
      rw [← ha, ← hb]
      exact hw.tot _ _ hlt
    · rw [if_neg h1] at ha
      by_cases h2 : k = i
      · subst h2
        rw [if_pos rfl] at ha
        injection ha with ha
        rw [if_neg (by omega)] at hb
        rw [← ha]
        exact h.over j x b hk (by omega) hjn hji hx hb
      · rw [if_neg h2] at ha
        by_cases h3 : (k - 1) / 2 = i
        · rw [if_pos h3] at hb
          injection hb with hb
          rw [← hb]
          exact hmin k a ((half_iff hk).1 h3) hkn ha
        · rw [if_neg h3] at hb
          exact h.rest k a b hk hkn h3 ha hb
  · rw [hg] at ha hb
    have hkj' : k ≠ j := by omega
    rw [if_neg hkj', if_neg (by omega)] at ha
    rw [hji, if_neg (by omega), if_pos rfl] at hb
    injection hb with hb
    rw [← hb]
    exact h.rest k a x hk hkn (by omega) ha (hkj ▸ hx)
/-- a new one at the end -/
theorem IsH.push {l : List α} (h : IsH lt l) (x : α) : UpH lt (l ++ [x]) l.length := by
  refine ⟨fun i a b hi hij ha hb => ?_, fun i a b hj hi hij ha hb => ?_⟩
  · have hil := (List.getElem?_eq_some_iff.1 ha).1
    simp only [List.length_append, List.length_cons, List.length_nil] at hil
    rw [List.getElem?_append_left (by omega)] at ha hb
    exact h i a b hi ha hb
  · have hil := (List.getElem?_eq_some_iff.1 ha).1
    simp only [List.length_append, List.length_cons, List.length_nil] at hil
    omega
/-- the head turned -/
theorem IsH.turn {l : List α} (h : IsH lt l) (x : α) : DnH lt (l.set 0 x) l.length 0 := by
  refine ⟨fun k a b hk hkn hk0 ha hb => ?_, fun k a b h0 => by omega⟩
  rw [List.getElem?_set, if_neg (by omega)] at ha hb
  exact h k a b hk ha hb
theorem IsH.of {l : List α} (h : ∀ k x y, 0 < k → k < l.length → l[k]? = some x → l[(k - 1) / 2]? = some y → lt x y = false) : IsH lt l := fun k x y hk hx hy => h k x y hk (List.getElem?_eq_some_iff.1 hx).1 hx hy
theorem IsH.take {l : List α} {n : Nat} (h : ∀ k x y, 0 < k → k < n → l[k]? = some x → l[(k - 1) / 2]? = some y → lt x y = false) : IsH lt (l.take n) := by
  intro k x y hk hx hy
  rw [List.getElem?_take] at hx hy
  split at hx
  · rename_i hkn
    rw [if_pos (by omega)] at hy
    exact h k x y hk hkn hx hy
  · cases hx
end
end Go.Proofs.YtlcaaacbookopaaGreatDoor
