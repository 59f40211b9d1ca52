/-
  Several texts in one:
  A list of blocks that are to be compacted: a block added ((*list).add). Conditions: lengths that memory bears; slices.Sort and slices.Compact as premises on the rows that they get.
  (slices.Sort) of numbers: sorted, and the same numbers. Conditions: lengths that a slice has.
-/
import Derived.Test.YtjoaonppaokhhaaGreatPart38
import Derived.Test.YtjoaonppaokhhaaGreatPart39
import Derived.Test.YtjoaonppaokhhaaGreatPart40
import Derived.Test.YtjoaonppaokhhaaGreatPart20

namespace Go.Proofs.YtjoaonppaokhhaaGreat
open Go.RowKit

/-- slices.Sort makes zs of ys -/
def Sorts (ys zs : List Nat) : Prop := ∀ (A : Option Addr) (n c base : Nat) (w : World), OE elU w base 22 A n c ys →
  Calls Tryz.prog 125 #[.slice A n c] w fun e w' => e = .returned (.tuple #[]) ∧ OE elU w' base 22 A n c zs ∧ Chg (fun k => ∃ ad, A = some ad ∧ k = ad.block) w w'
/-- slices.Compact makes zs of ys -/
def Compacts (ys zs : List Nat) : Prop := ∀ (A : Option Addr) (n c base : Nat) (w : World), OE elU w base 22 A n c ys →
  Calls Tryz.prog 126 #[.slice A n c] w fun e w' => e = .returned (.slice A zs.length c) ∧ OE elU w' base 22 A zs.length c zs ∧ Chg (fun k => ∃ ad, A = some ad ∧ k = ad.block) w w'
theorem Sorts.rising {l : List Nat} (hl : Ris l) (hn : l.length ≤ 12) : Sorts l l := fun A n c base w h => by
  have hl2 := OE.len (by decide) h
  refine (usort_rising A n c l w (h.re (by decide)) hl (by omega)).mono ?_
  rintro e w' ⟨rfl, hg⟩
  exact ⟨rfl, h.grew hg, Chg.of_grew hg⟩
theorem Compacts.rising {l : List Nat} (hl : Ris l) : Compacts l l := fun A n c base w h => by
  have hl2 := OE.len (by decide) h
  have hc := h.cap
  refine (ucompact_rising A n c l w (h.re (by decide)) hl (by omega)).mono ?_
  rintro e w' ⟨rfl, hg⟩
  rw [hl2]
  exact ⟨rfl, h.grew hg, Chg.of_grew hg⟩

/-- a list in memory: its IDs, and they and their sources -/
structure LsB (w : World) (g : Nat) (ids all : List Nat) (A : Option Addr) (c : Nat) (B : Option Addr) (k d : Nat) : Prop where
  bk : Blk w g 123 #[.slice A ids.length c, .slice B k d]
  ri : OE elU w g 22 A ids.length c ids
  ra : OE elU w g 22 B k d all
def Lst (w : World) (g : Nat) (ids all : List Nat) : Prop := ∃ A c B k d, LsB w g ids all A c B k d
theorem LsB.grew {w w' : World} {g : Nat} {ids all : List Nat} {A : Option Addr} {c : Nat} {B : Option Addr} {k d : Nat} (h : LsB w g ids all A c B k d) (hg : Grew w w') : LsB w' g ids all A c B k d := ⟨h.bk.grew hg, h.ri.grew hg, h.ra.grew hg⟩
theorem Lst.grew {w w' : World} {g : Nat} {ids all : List Nat} (h : Lst w g ids all) (hg : Grew w w') : Lst w' g ids all := by
  obtain ⟨A, c, B, k, d, h⟩ := h
  exact ⟨A, c, B, k, d, h.grew hg⟩
theorem Lst.new (w : World) : Lst (w.alloc (.cells #[.slice none 0 0, .slice none 0 0] 123)) w.heap.size [] [] := ⟨none, 0, none, 0, 0, ⟨Blk.new _ _ _, OE.nil _ _ _, OE.nil _ _ _⟩⟩

/-- the list behind the two stores -/
theorem LsB.put {w w1 W : World} {g : Nat} {ids all : List Nat} {A A1 B1 : Option Addr} {c c1 k1 d1 n1 : Nat} {B : Option Addr} {k d id : Nat} {ys : List Nat} (h : LsB w g ids all A c B k d) (hg : Grew w w1) (hn : n1 = ids.length + 1)
    (ha : ApE elU w1 g 22 A n1 c (ids ++ [id]) A1 c1 W) (hy : OE elU w1 g 22 B1 k1 d1 ys) (hb : ∀ ad, B1 = some ad → w.heap.size ≤ ad.block) :
    Blk W g 123 #[.slice A ids.length c, .slice B k d] ∧ Blk (W.setCell ⟨g, 0, none⟩ (.slice A1 n1 c1)) g 123 #[.slice A1 n1 c1, .slice B k d] ∧
    LsB ((W.setCell ⟨g, 0, none⟩ (.slice A1 n1 c1)).setCell ⟨g, 1, none⟩ (.slice B1 k1 d1)) g (ids ++ [id]) ys A1 c1 B1 k1 d1 ∧ Chg (fun k => g ≤ k) w ((W.setCell ⟨g, 0, none⟩ (.slice A1 n1 c1)).setCell ⟨g, 1, none⟩ (.slice B1 k1 d1)) := by
  have b0 := ha.ne_blk (h.ri.grew hg) (h.bk.grew hg) (by decide)
  have b1 := b0.set 0 (.slice A1 n1 c1)
  have b2 := b1.set 1 (.slice B1 k1 d1)
  simp only [List.setIfInBounds_toArray, List.set_cons_succ, List.set_cons_zero] at b1 b2
  have hch : Chg (fun k => ∃ ad, A = some ad ∧ k = ad.block) w1 W := ha.chg
  have hyW : OE elU W g 22 B1 k1 d1 ys := hy.chg hch fun ad e ⟨ad2, e2, hk⟩ => by
    have h1 := hb ad e
    have h2 := (Own.blk_lt h.ri ad2 e2).2
    omega
  subst hn
  refine ⟨b0, b1, ⟨?_, ?_, ?_⟩, ?_⟩
  · rw [List.length_append]
    exact b2
  · have h1 := (ha.oe.chg (Chg.cell1 W g 0 (.slice A1 (ids.length + 1) c1)) (fun ad e => Own.ne_blk ha.oe b0 (by decide) ad e))
    have h2 := h1.chg (Chg.cell1 _ g 1 (.slice B1 k1 d1)) (fun ad e => Own.ne_blk ha.oe b0 (by decide) ad e)
    rw [List.length_append]
    exact h2
  · have h1 := (hyW.chg (Chg.cell1 W g 0 (.slice A1 (ids.length + 1) c1)) (fun ad e => Own.ne_blk hyW b0 (by decide) ad e))
    exact h1.chg (Chg.cell1 _ g 1 (.slice B1 k1 d1)) (fun ad e => Own.ne_blk hyW b0 (by decide) ad e)
  · have h0 : Chg (fun k => g ≤ k) w W := (Chg.of_grew hg).step hch fun k _ ⟨ad, e, hk⟩ => by
      have := (Own.blk_lt h.ri ad e).1
      omega
    exact (h0.setCell (p := ⟨g, 0, none⟩) (.inr (Nat.le_refl _)) _).setCell (p := ⟨g, 1, none⟩) (.inr (Nat.le_refl _)) _

/-- what a block brings -/
def addsTo (all : List Nat) (m : Met) : List Nat := all ++ [m.id] ++ m.src

set_option maxRecDepth 100000 in
set_option maxHeartbeats 8000000 in
theorem ladd_any (g : Nat) (ids all zs ys : List Nat) (m : Met) (M : Option Addr) (mn mc : Nat) (w : World) (h : Lst w g ids all) (hm : RE elU w M mn m.src) (hsz : ids.length ≤ 100000) (haz : all.length ≤ 100000) (hmn : mn ≤ 100000)
    (hs : Sorts (addsTo all m) zs) (hcp : Compacts zs ys) (hys : ys.length ≤ 100000) :
    Calls Tryz.prog 106 #[.pointer (some ⟨g, 0, none⟩), .agg #[.int .u64 (m.id : Int), .int .i64 m.lo, .int .i64 m.hi, .int .i64 m.lv, .slice M mn mc, .int .i64 m.sr, .int .i64 m.pt]] w fun e w' =>
      (64 < ys.length ∧ e = .returned (.bool false) ∧ Lst w' g ids all ∧ Grew w w') ∨ (ys.length ≤ 64 ∧ e = .returned (.bool true) ∧ Lst w' g (ids ++ [m.id]) ys ∧ Chg (fun k => g ≤ k) w w') := by
  obtain ⟨A, c, B, k, d, hL⟩ := h
  have hk : all.length = k := OE.len (by decide) hL.ra
  rw [hk] at haz
  obtain ⟨W, hW⟩ : ∃ W, W = w.alloc (.cells #[.int .u64 (m.id : Int), .int .i64 m.lo, .int .i64 m.hi, .int .i64 m.lv, .slice M mn mc, .int .i64 m.sr, .int .i64 m.pt] 28) := ⟨_, rfl⟩
  have gW : Grew w W := by rw [hW]; exact (Chg.refl _ w).alloc _
  have bm : Blk W w.heap.size 28 #[.int .u64 (m.id : Int), .int .i64 m.lo, .int .i64 m.hi, .int .i64 m.lv, .slice M mn mc, .int .i64 m.sr, .int .i64 m.pt] := by rw [hW]; exact Blk.new _ _ _
  have bl := hL.bk.grew gW
  have hlg := hL.bk.lt
  have hzW : w.heap.size < W.heap.size := by rw [hW]; simp
  have hgW : g < W.heap.size := bl.lt
  have i1 : W.cell? ⟨g, 1, none⟩ = some (.slice B k d) := bl.cell 1
  have m0 : W.cell? ⟨w.heap.size, 0, none⟩ = some (.int .u64 (m.id : Int)) := bm.cell 0
  have m4 : W.cell? ⟨w.heap.size, 4, none⟩ = some (.slice M mn mc) := bm.cell 4
  have hcs : CellsIn [g, w.heap.size] W := by
    intro b hb
    simp only [List.mem_cons, List.not_mem_nil, or_false] at hb
    rcases hb with rfl | rfl
    · exact ⟨_, _, _, bl⟩
    · exact ⟨_, _, _, bm⟩
  have hsame : Hid (∀ W1, Grew W W1 → SameIn [g, w.heap.size] W W1) := fun W1 h1 => sameIn_of h1 hcs fun _ _ e => e
  have haR := hL.ra.re (by decide)
  go_enter Tryz.func106, Tryz.ntmps106
  go_wp2_with fail
  rw [← hW]
  clear hW
  refine wp_region_textsD [] [g, w.heap.size] [[0, 1, 2, 3, 4, 5, 6, 7, 8, 9, 10, 11, 12, 13], [0, 1, 2, 3, 4, 6, 7, 8, 5, 9, 10, 11, 12, 13], [6, 7, 8, 0, 1, 2, 3, 4, 5, 9, 10, 11, 12, 13]] (by kernel_rfl) (by kernel_rfl) hcs ?_
  intro t ht
  simp only [List.mem_cons, List.not_mem_nil, or_false] at ht
  rcases ht with rfl | rfl | rfl
  all_goals
    simp only [opsOf, List.filterMap_cons, List.filterMap_nil, List.getElem?_toArray, List.getElem?_cons_zero, List.getElem?_cons_succ]
    simp only [wpU, tagOf, chk, List.cons_append, List.nil_append]
  case' inl =>
    have gX : Grew W (W.drew.alloc (.cells #[] 22)) := (Chg.refl _ W).drew.alloc _
    have oL : OE elU (W.drew.alloc (.cells #[] 22)) W.heap.size 22 (some ⟨W.heap.size, 0, none⟩) 0 0 [] := OE.made W.drew W.heap.size 22 (Nat.le_refl _)
    have rL := (haR.grew gW).grew gX
    intro K hK
    go_wp2_with fail
    refine OnlyN.normal (hK _ _ (hsame.out _ gX) ?_)
    clear hK K
    intro K hK
    go_wp2_with fail
    refine OnlyN.normal (hK _ _ (fun _ => ⟨_, _, _, rfl, rfl, by simp⟩) ?_)
    clear hK K
    intro K hK
    go_wp2_with (at_builtin; go_loud (refine wpList_appE rfl _ _ 26 22 infoU64 rfl Tryz.underlying26 rfl W.heap.size (some ⟨W.heap.size, 0, none⟩) 0 0 [] rfl oL (by first | omega | (simp; done) | (simp; omega)) B k d all rfl rL (by unfold maxLen; omega) (by omega) ?_); intro A2 c2 w2 h2)
    have g2 : Grew W w2 := h2.grew gX (head_le0 (Nat.le_refl _))
    have z2 := g2.size
    have o2 := h2.at00
    refine OnlyN.normal (hK _ _ (hsame.out _ g2) ?_)
    clear hK K
    have m02 : w2.cell? ⟨w.heap.size, 0, none⟩ = some (.int .u64 (m.id : Int)) := (bm.grew g2).cell 0
    intro K hK
    go_wp2_with fail
    refine OnlyN.normal (hK _ _ (fun _ => ⟨_, _, _, rfl, rfl, by simp⟩) ?_)
    clear hK K
    have g23 : Grew w2 (w2.alloc (.cells #[.int .u64 (m.id : Int)] 22)) := (Chg.refl _ w2).alloc _
    have rI : RE elU (w2.alloc (.cells #[.int .u64 (m.id : Int)] 22)) (some ⟨w2.heap.size, 0, none⟩) 1 [m.id] := RE.newAt (by simp) rfl rfl
    intro K hK
    go_wp2_with fail
    refine OnlyN.normal (hK _ _ (hsame.out _ (g2.trans g23)) ?_)
    clear hK K
    have o3 := o2.grew g23
    have g3 := g2.trans g23
    have z3 := g3.size
    intro K hK
    go_wp2_with (at_builtin; go_loud (refine wpList_appE rfl _ _ 26 22 infoU64 rfl Tryz.underlying26 rfl W.heap.size A2 k c2 all rfl o3 (by first | omega | (simp; done) | (simp; omega)) _ 1 1 [m.id] rfl rI (by unfold maxLen; omega) (by omega) ?_); intro A4 c4 w4 h4)
    have g4 : Grew W w4 := h4.grew g3 (fun ad e => (Own.blk_lt o3 ad e).1)
    have o4 := h4.oe
    refine OnlyN.normal (hK _ _ (hsame.out _ g4) ?_)
    clear hK K h4 o3 g3 z3 rI
    have m44 : w4.cell? ⟨w.heap.size, 4, none⟩ = some (.slice M mn mc) := (bm.grew g4).cell 4
    intro K hK
    go_wp2_with fail
    refine OnlyN.normal (hK _ _ (fun _ => ⟨_, _, _, rfl, rfl, by simp⟩) ?_)
    clear hK K
    have z4 := g4.size
    have rM := (hm.grew gW).grew g4
    intro K hK
    go_wp2_with (at_builtin; go_loud (refine wpList_appE rfl _ _ 26 22 infoU64 rfl Tryz.underlying26 rfl W.heap.size A4 (k + 1) c4 (all ++ [m.id]) rfl o4 (by omega) M mn mc m.src rfl rM (by unfold maxLen; omega) (by omega) ?_); intro A9 c9 w9 h9)
    have g9 : Grew W w9 := h9.grew g4 (fun ad e => (Own.blk_lt o4 ad e).1)
    have o9 := h9.oe
    refine OnlyN.normal (hK _ _ (hsame.out _ g9) ?_)
    clear hK K h9 o4 g4 z4 m44 rM
  case' inr.inl =>
    have gX : Grew W (W.drew.alloc (.cells #[] 22)) := (Chg.refl _ W).drew.alloc _
    have oL : OE elU (W.drew.alloc (.cells #[] 22)) W.heap.size 22 (some ⟨W.heap.size, 0, none⟩) 0 0 [] := OE.made W.drew W.heap.size 22 (Nat.le_refl _)
    intro K hK
    go_wp2_with fail
    refine OnlyN.normal (hK _ _ (hsame.out _ gX) ?_)
    clear hK K
    intro K hK
    go_wp2_with fail
    refine OnlyN.normal (hK _ _ (fun _ => ⟨_, _, _, rfl, rfl, by simp⟩) ?_)
    clear hK K
    intro K hK
    go_wp2_with fail
    refine OnlyN.normal (hK _ _ (fun _ => ⟨_, _, _, rfl, rfl, by simp⟩) ?_)
    clear hK K
    have gY : Grew (W.drew.alloc (.cells #[] 22)) ((W.drew.alloc (.cells #[] 22)).alloc (.cells #[.int .u64 (m.id : Int)] 22)) := (Chg.refl _ _).alloc _
    have rI0 : RE elU ((W.drew.alloc (.cells #[] 22)).alloc (.cells #[.int .u64 (m.id : Int)] 22)) (some ⟨W.heap.size + 1, 0, none⟩) 1 [m.id] := RE.newAt (by simp) rfl rfl
    have oY := oL.grew gY
    have rL := ((haR.grew gW).grew gX).grew gY
    have gZ := gX.trans gY
    intro K hK
    go_wp2_with fail
    refine OnlyN.normal (hK _ _ (hsame.out _ gZ) ?_)
    clear hK K
    intro K hK
    go_wp2_with (at_builtin; go_loud (refine wpList_appE rfl _ _ 26 22 infoU64 rfl Tryz.underlying26 rfl W.heap.size (some ⟨W.heap.size, 0, none⟩) 0 0 [] rfl oY (by first | omega | (simp; done) | (simp; omega)) B k d all rfl rL (by unfold maxLen; omega) (by omega) ?_); intro A2 c2 w3 h2)
    have g3 : Grew W w3 := h2.grew gZ (head_le0 (Nat.le_refl _))
    have o3 := h2.at00
    have rI : RE elU w3 (some ⟨W.heap.size + 1, 0, none⟩) 1 [m.id] := rI0.chg h2.chg fun ad e ⟨ad2, e2, hk⟩ => by injection e with e; injection e2 with e2; subst e; subst e2; exact absurd hk (by simp)
    refine OnlyN.normal (hK _ _ (hsame.out _ g3) ?_)
    clear hK K
    have z3 := g3.size
    intro K hK
    go_wp2_with (at_builtin; go_loud (refine wpList_appE rfl _ _ 26 22 infoU64 rfl Tryz.underlying26 rfl W.heap.size A2 k c2 all rfl o3 (by first | omega | (simp; done) | (simp; omega)) _ 1 1 [m.id] rfl rI (by unfold maxLen; omega) (by omega) ?_); intro A4 c4 w4 h4)
    have g4 : Grew W w4 := h4.grew g3 (fun ad e => (Own.blk_lt o3 ad e).1)
    have o4 := h4.oe
    refine OnlyN.normal (hK _ _ (hsame.out _ g4) ?_)
    clear hK K h4 o3 g3 z3 rI
    have m44 : w4.cell? ⟨w.heap.size, 4, none⟩ = some (.slice M mn mc) := (bm.grew g4).cell 4
    intro K hK
    go_wp2_with fail
    refine OnlyN.normal (hK _ _ (fun _ => ⟨_, _, _, rfl, rfl, by simp⟩) ?_)
    clear hK K
    have z4 := g4.size
    have rM := (hm.grew gW).grew g4
    intro K hK
    go_wp2_with (at_builtin; go_loud (refine wpList_appE rfl _ _ 26 22 infoU64 rfl Tryz.underlying26 rfl W.heap.size A4 (k + 1) c4 (all ++ [m.id]) rfl o4 (by omega) M mn mc m.src rfl rM (by unfold maxLen; omega) (by omega) ?_); intro A9 c9 w9 h9)
    have g9 : Grew W w9 := h9.grew g4 (fun ad e => (Own.blk_lt o4 ad e).1)
    have o9 := h9.oe
    refine OnlyN.normal (hK _ _ (hsame.out _ g9) ?_)
    clear hK K h9 o4 g4 z4 m44 rM
  case' inr.inr =>
    have gX : Grew W (W.drew.alloc (.cells #[.int .u64 (m.id : Int)] 22)) := (Chg.refl _ W).drew.alloc _
    have rI0 : RE elU (W.drew.alloc (.cells #[.int .u64 (m.id : Int)] 22)) (some ⟨W.heap.size, 0, none⟩) 1 [m.id] := RE.newAt (by simp) rfl rfl
    intro K hK
    go_wp2_with fail
    refine OnlyN.normal (hK _ _ (fun _ => ⟨_, _, _, rfl, rfl, by simp⟩) ?_)
    clear hK K
    intro K hK
    go_wp2_with fail
    refine OnlyN.normal (hK _ _ (hsame.out _ gX) ?_)
    clear hK K
    have gY : Grew (W.drew.alloc (.cells #[.int .u64 (m.id : Int)] 22)) ((W.drew.alloc (.cells #[.int .u64 (m.id : Int)] 22)).alloc (.cells #[] 22)) := (Chg.refl _ _).alloc _
    have oY : OE elU ((W.drew.alloc (.cells #[.int .u64 (m.id : Int)] 22)).alloc (.cells #[] 22)) W.heap.size 22 (some ⟨W.heap.size + 1, 0, none⟩) 0 0 [] := by have := OE.made (E := elU) (W.drew.alloc (.cells #[.int .u64 (m.id : Int)] 22)) W.heap.size 22 gX.size; simpa using this
    have rL := ((haR.grew gW).grew gX).grew gY
    have gZ := gX.trans gY
    intro K hK
    go_wp2_with fail
    refine OnlyN.normal (hK _ _ (hsame.out _ gZ) ?_)
    clear hK K
    intro K hK
    go_wp2_with fail
    refine OnlyN.normal (hK _ _ (fun _ => ⟨_, _, _, rfl, rfl, by simp⟩) ?_)
    clear hK K
    intro K hK
    go_wp2_with (at_builtin; go_loud (refine wpList_appE rfl _ _ 26 22 infoU64 rfl Tryz.underlying26 rfl W.heap.size (some ⟨W.heap.size + 1, 0, none⟩) 0 0 [] rfl oY (by first | omega | (simp; done) | (simp; omega)) B k d all rfl rL (by unfold maxLen; omega) (by omega) ?_); intro A2 c2 w3 h2)
    have g3 : Grew W w3 := h2.grew gZ (head_le0 (by omega))
    have o3 := h2.at00
    have rI : RE elU w3 (some ⟨W.heap.size, 0, none⟩) 1 [m.id] := (rI0.grew gY).chg h2.chg fun ad e ⟨ad2, e2, hk⟩ => by injection e with e; injection e2 with e2; subst e; subst e2; exact absurd hk (by simp)
    refine OnlyN.normal (hK _ _ (hsame.out _ g3) ?_)
    clear hK K
    have z3 := g3.size
    intro K hK
    go_wp2_with (at_builtin; go_loud (refine wpList_appE rfl _ _ 26 22 infoU64 rfl Tryz.underlying26 rfl W.heap.size A2 k c2 all rfl o3 (by first | omega | (simp; done) | (simp; omega)) _ 1 1 [m.id] rfl rI (by unfold maxLen; omega) (by omega) ?_); intro A4 c4 w4 h4)
    have g4 : Grew W w4 := h4.grew g3 (fun ad e => (Own.blk_lt o3 ad e).1)
    have o4 := h4.oe
    refine OnlyN.normal (hK _ _ (hsame.out _ g4) ?_)
    clear hK K h4 o3 g3 z3 rI
    have m44 : w4.cell? ⟨w.heap.size, 4, none⟩ = some (.slice M mn mc) := (bm.grew g4).cell 4
    intro K hK
    go_wp2_with fail
    refine OnlyN.normal (hK _ _ (fun _ => ⟨_, _, _, rfl, rfl, by simp⟩) ?_)
    clear hK K
    have z4 := g4.size
    have rM := (hm.grew gW).grew g4
    intro K hK
    go_wp2_with (at_builtin; go_loud (refine wpList_appE rfl _ _ 26 22 infoU64 rfl Tryz.underlying26 rfl W.heap.size A4 (k + 1) c4 (all ++ [m.id]) rfl o4 (by omega) M mn mc m.src rfl rM (by unfold maxLen; omega) (by omega) ?_); intro A9 c9 w9 h9)
    have g9 : Grew W w9 := h9.grew g4 (fun ad e => (Own.blk_lt o4 ad e).1)
    have o9 := h9.oe
    refine OnlyN.normal (hK _ _ (hsame.out _ g9) ?_)
    clear hK K h9 o4 g4 z4 m44 rM
  all_goals
    go_wp2_with fail
    refine OnlyN.normal ?_
    go_wp2_with fail
    refine (hs A9 (k + 1 + mn) c9 W.heap.size _ o9).mono ?_
    rintro e wA ⟨rfl, oA, cA⟩
    go_wp2_with fail
    refine (hcp A9 (k + 1 + mn) c9 W.heap.size _ oA).mono ?_
    rintro e wB ⟨rfl, oB, cB⟩
    have hA9 : ∀ ad, A9 = some ad → W.heap.size ≤ ad.block := fun ad e => (Own.blk_lt o9 ad e).1
    have gB : Grew W wB := (g9.step cA fun j hj ⟨ad, e, hk⟩ => by have := hA9 ad e; omega).step cB fun j hj ⟨ad, e, hk⟩ => by have := hA9 ad e; omega
    have gwB := gW.trans gB
    clear cA oA cB g9 o9
    have hLB := hL.grew gwB
    by_cases hlt : 64 < ys.length
    · go_wp2
      go_ret
      exact .inl ⟨hlt, rfl, ⟨_, _, _, _, _, hLB⟩, gwB⟩
    · have hlt2 : ¬ (64 : Int) < (ys.length : Int) := by omega
      have blB := bl.grew gB
      have bmB := bm.grew gB
      have i0 : wB.cell? ⟨g, 0, none⟩ = some (.slice A ids.length c) := blB.cell 0
      have n0 : wB.cell? ⟨w.heap.size, 0, none⟩ = some (.int .u64 (m.id : Int)) := bmB.cell 0
      have zB := gB.size
      have hcsB : CellsIn [g, w.heap.size] wB := by
        intro b hb
        simp only [List.mem_cons, List.not_mem_nil, or_false] at hb
        rcases hb with rfl | rfl
        · exact ⟨_, _, _, blB⟩
        · exact ⟨_, _, _, bmB⟩
      have hsameB : Hid (∀ W1, Grew wB W1 → SameIn [g, w.heap.size] wB W1) := fun W1 h1 => sameIn_of h1 hcsB fun _ _ e => e
      go_wp2_with fail
      refine wp_region_textM [] [g, w.heap.size] (by kernel_rfl) (by kernel_rfl) hcsB ?_
      simp only [wpUM, isSt, tagOf, chk, instr, List.cons_append, List.nil_append]
      intro K hK
      go_wp2_with fail
      refine OnlyN.normal (hK _ _ (fun _ => ⟨_, _, _, rfl, rfl, by simp⟩) ?_)
      clear hK K
      intro K hK
      go_wp2_with fail
      refine OnlyN.normal (hK _ _ (fun _ => ⟨_, _, _, rfl, rfl, by simp⟩) ?_)
      clear hK K
      have gX : Grew wB (wB.drew.alloc (.cells #[.int .u64 (m.id : Int)] 22)) := (Chg.refl _ wB).drew.alloc _
      have rI : RE elU (wB.drew.alloc (.cells #[.int .u64 (m.id : Int)] 22)) (some ⟨wB.heap.size, 0, none⟩) 1 [m.id] := RE.newAt (by simp) rfl rfl
      have oX := hLB.ri.grew gX
      intro K hK
      go_wp2_with fail
      refine OnlyN.normal (hK _ _ (hsameB.out _ gX) ?_)
      clear hK K
      have hbl : ∀ ad, A = some ad → ad.block < w.heap.size := fun ad e => (Own.blk_lt hL.ri ad e).2
      have hne : ∀ ad, A = some ad → ad.block ≠ g := fun ad e => Own.ne_blk hL.ri hL.bk (by decide) ad e
      have oYs : OE elU (wB.drew.alloc (.cells #[.int .u64 (m.id : Int)] 22)) g 22 A9 ys.length c9 ys := Own.mono (OE.grew oB gX) (by omega)
      intro K hK
      go_wp2_with (at_builtin; go_loud (refine wpList_appE rfl _ _ 26 22 infoU64 rfl Tryz.underlying26 rfl g A ids.length c ids rfl oX (by first | omega | (simp; omega)) _ 1 1 [m.id] rfl rI (by unfold maxLen; omega) (by omega) ?_); intro A5 c5 w5 h5)
      obtain ⟨b0, b1, hN, hch⟩ := hL.put (gwB.trans gX) rfl h5 oYs (fun ad e => by have := hA9 ad e; omega)
      have hc5 : Chg (fun j => ∃ ad, A = some ad ∧ j = ad.block) wB w5 := (Chg.of_grew gX).trans h5.chg
      have hs5 : SameIn [g, w.heap.size] wB w5 := sameIn_of hc5 hcsB fun j hj ⟨ad, e, hk⟩ => by
        have h1 := hbl ad e
        have h2 := hne ad e
        simp only [List.mem_cons, List.not_mem_nil, or_false] at hj
        omega
      refine OnlyN.normal (hK _ _ hs5 ?_)
      clear hK K
      have q0 : w5.cell? ⟨g, 0, none⟩ = some (.slice A ids.length c) := b0.cell 0
      have qf0 := b0.frozen 0
      have q1 : (w5.setCell ⟨g, 0, none⟩ (.slice A5 (ids.length + 1) c5)).cell? ⟨g, 1, none⟩ = some (.slice B k d) := b1.cell 1
      have qf1 := b1.frozen 1
      go_wp2
      refine OnlyN.normal ?_
      go_wp2
      go_ret
      exact .inr ⟨by omega, rfl, ⟨_, _, _, _, _, hN⟩, hch⟩
end Go.Proofs.YtjoaonppaokhhaaGreat

namespace Go.Proofs.YtjoaonppaokhhaaGreat
open Go.RowKit

/-- sorted -/
def srtU (l : List Nat) : List Nat := l.mergeSort fun x y => decide (x ≤ y)

set_option maxRecDepth 100000 in
set_option maxHeartbeats 8000000 in
theorem usort_any (base g o n c : Nat) (t : TypeId) (d : Array Nat) (w : World) (ho : o = 0) (h : UA w base t g n c d) (hn0 : 0 < n) (hn : n < 4611686018427387904) :
    Calls Tryz.prog 125 #[.slice (some ⟨g, o, none⟩) n c] w fun e w' => e = .returned (.tuple #[]) ∧ ∃ d', Go.Sort.PermIn 0 n d d' ∧ Go.Sort.SortedIn ltU 0 n d' ∧ SrtTo base t g n c w d' w' := by
  have hx : IntKind.u64.wrap (n : Int) = (n : Int) := by simp only [IntKind.wrap_u64]; omega
  have hB := Tryz.bits_Len (n : Int) w (by omega) (by omega)
  have hl := bitLen_le n hn0 hn
  have hP := updq_any base g o n c t ho hn n 0 n (Lib.bitLen n) d w (by omega) (by omega) h (by omega) (Nat.le_refl _) (.inl rfl)
  replace ho := Lib.hid ho
  replace h := Lib.hid h
  replace hl := Lib.hid hl
  go_enter Tryz.func125, Tryz.ntmps125
  go_wp2_with fail
  refine hB.mono ?_
  rintro e w1 ⟨rfl, rfl⟩
  go_wp2_with fail
  refine hP.mono ?_
  rintro e w2 ⟨rfl, hg⟩
  go_wp2
  first
    | go_end0
    | refine bodyPost_ret (results_none rfl _ _ _) rfl ?_
  exact ⟨rfl, hg⟩
end Go.Proofs.YtjoaonppaokhhaaGreat
