/-
  Several texts in one:
  Compare on label sets, with what its world is: draws and blocks behind. Conditions: none.
  slices.SortFunc at series, laid by the kit's own tool. Conditions: those that the contract names.
  sorted: a list of series by their labels. Conditions: fewer than 2^62; the rows of labels lie elsewhere than the list.
  sorted at rows of series in new memory. Conditions: fewer than 2^62.
-/
import Derived.Test.YtailooldnelecaaGreatDoorPart9
import Derived.Test.YtailooldnelecaaGreatDoorPart12
import Derived.Sort.Grow
import Derived.Deep.Draws
import Derived.Shelf.SlSortCmp.WholeK
import Derived.Test.YtailooldnelecaaGreatDoorPart13
import Derived.Test.YtailooldnelecaaGreatDoorPart14
import Derived.Shelf.SlSortCmp.NoneTotal

namespace Go.Proofs.YtailooldnelecaaGreatDoor
open Go.RowKit

/-- some draws on, some blocks behind -/
def GrX (w w' : World) : Prop := ∃ q os, w' = Go.Sort.grow (w.drewN q) os
theorem GrX.refl (w : World) : GrX w w := ⟨0, #[], by simp [Go.Sort.grow, World.drewN]⟩
theorem GrX.trans {a b c : World} (h : GrX a b) (h' : GrX b c) : GrX a c := by
  obtain ⟨q, os, rfl⟩ := h
  obtain ⟨q', os', rfl⟩ := h'
  exact ⟨q + q', os ++ os', by simp [Go.Sort.grow, World.drewN, Nat.add_assoc]⟩
theorem GrX.drew {a b : World} (h : GrX a b) : GrX a b.drew := h.trans ⟨1, #[], by show b.drew = { b.drewN 1 with heap := b.heap ++ #[] }; rw [Array.append_empty]; rfl⟩
theorem GrX.alloc {a b : World} (h : GrX a b) (o : Obj) : GrX a (b.alloc o) := h.trans ⟨0, #[o], by show b.alloc o = { b with heap := b.heap ++ #[o] }; rw [← Array.push_eq_append]; rfl⟩
theorem GrX.grew {a b : World} (h : GrX a b) : Grew a b := by
  obtain ⟨q, os, rfl⟩ := h
  refine ⟨rfl, rfl, rfl, by simp [Go.Sort.grow, World.drewN], fun k hk _ => ?_⟩
  simp only [Go.Sort.grow, World.drewN]
  rw [Array.getElem?_append_left hk]
theorem two_blkX (w : World) (c1 c2 : Array Value) (t1 t2 : TypeId) : ∃ W, W = (w.alloc (.cells c1 t1)).alloc (.cells c2 t2) ∧ GrX w W ∧ Blk W w.heap.size t1 c1 ∧ Blk W (w.heap.size + 1) t2 c2 ∧ W.heap.size = w.heap.size + 2 := by
  obtain ⟨W, hW, _, h1, h2, h3⟩ := two_blk w c1 c2 t1 t2
  exact ⟨W, hW, by rw [hW]; exact ((GrX.refl w).alloc _).alloc _, h1, h2, h3⟩
set_option maxRecDepth 100000 in
set_option maxHeartbeats 400000 in
theorem cmpOne_x (x y : Lab) (w : World) : Calls Tryz.prog 63 #[lbV x, lbV y] w fun e w' => e = .returned (.int .i64 (cmpLb x y)) ∧ GrX w w' := by
  obtain ⟨x1, x2⟩ := x
  obtain ⟨y1, y2⟩ := y
  unfold lbV cmpLb cmp2
  simp only
  have hC := fun a b w => compare_any a b w
  generalize hc1 : cmpB x1 y1 = c1 at *
  generalize hc2 : cmpB x2 y2 = c2 at *
  have hA := hC x1 y1
  have hB := hC x2 y2
  rw [hc1] at hA
  rw [hc2] at hB
  have hO := fun g w h0 h1 => or_two c1 c2 g w h0 h1
  generalize (if c1 ≠ 0 then c1 else c2) = z at *
  clear hC hc1 hc2
  obtain ⟨W, hW, hgx, b1, b2, hzW⟩ := two_blkX w #[.string x1, .string x2] #[.string y1, .string y2] 72 72
  have p0 : W.cell? ⟨w.heap.size, 0, none⟩ = some (.string x1) := b1.cell 0
  have p1 : W.cell? ⟨w.heap.size, 1, none⟩ = some (.string x2) := b1.cell 1
  have q0 : W.cell? ⟨w.heap.size + 1, 0, none⟩ = some (.string y1) := b2.cell 0
  have q1 : W.cell? ⟨w.heap.size + 1, 1, none⟩ = some (.string y2) := b2.cell 1
  go_enter Tryz.func63, Tryz.ntmps63
  go_wp2_with fail
  rw [← hW]
  clear hW
  refine wp_region_textS [(9, 2), (3, 1)] [w.heap.size, w.heap.size + 1] (by kernel_rfl) (by kernel_rfl) (cellsIn_two b1 b2) ?_
  simp only [wpU, tagOf, chk, List.nil_append, List.cons_append]
  intro K hK
  go_wp2_with fail
  refine OnlyN.normal (hK _ _ (fun _ => ⟨_, _, _, rfl, rfl, by simp⟩) ?_)
  clear hK K
  intro K hK
  go_wp2_with fail
  refine OnlyN.normal (hK _ _ (fun _ => ⟨_, _, _, rfl, rfl, by simp⟩) ?_)
  clear hK K
  intro K hK
  go_wp2_with fail
  refine (hA _).mono ?_
  rintro e w1 ⟨rfl, rfl⟩
  go_wp2_with fail
  refine OnlyN.normal (hK _ _ (sameIn_two (S := fun _ => False) (Chg.refl _ W).drew b1.lt b2.lt (fun e => e) fun e => e) ?_)
  clear hK K
  intro K hK
  go_wp2_with fail
  refine OnlyN.normal (hK _ _ (fun _ => ⟨_, _, _, rfl, rfl, by simp⟩) ?_)
  clear hK K
  intro K hK
  go_wp2_with fail
  refine OnlyN.normal (hK _ _ (fun _ => ⟨_, _, _, rfl, rfl, by simp⟩) ?_)
  clear hK K
  intro K hK
  go_wp2_with fail
  refine (hB _).mono ?_
  rintro e w1 ⟨rfl, rfl⟩
  go_wp2_with fail
  refine OnlyN.normal (hK _ _ (sameIn_two (S := fun _ => False) (Chg.refl _ W).drew b1.lt b2.lt (fun e => e) fun e => e) ?_)
  clear hK K hA hB
  intro K hK
  go_wp2_with fail
  refine OnlyN.normal (hK _ _ (sameIn_two (S := fun _ => False) ((Chg.refl _ W).alloc _).drew b1.lt b2.lt (fun e => e) fun e => e) ?_)
  clear hK K
  intro K hK
  go_wp2_with fail
  refine (hO (w.heap.size + 2) _ (by rw [← hzW]; simp) (by rw [← hzW]; simp)).mono ?_
  rintro e w1 ⟨rfl, rfl⟩
  go_wp2_with fail
  refine OnlyN.normal (hK _ _ (sameIn_two (S := fun _ => False) ((Chg.refl _ W).alloc _).drew b1.lt b2.lt (fun e => e) fun e => e) ?_)
  clear hK K
  go_wp2_with fail
  refine OnlyN.normal ?_
  go_wp2
  go_ret
  exact ⟨by simp, hgx.trans (((GrX.refl W).alloc _).drew)⟩

set_option maxRecDepth 100000 in
set_option maxHeartbeats 400000 in
theorem compareFunc_x (A B : Option Addr) (n c m d : Nat) (la lb : List Lab) (w : World) (ha : RE elLb w A n la) (hb : RE elLb w B m lb) (hn : n ≤ 9223372036854775807) (hm : m ≤ 9223372036854775807) :
    Calls Tryz.prog 62 #[.slice A n c, .slice B m d, .func (.func 63) #[] #[]] w fun e w' => e = .returned (.int .i64 (cmpLs la lb)) ∧ GrX w w' := by
  have hal := ha.1
  have hbl := hb.1
  go_enter Tryz.func62, Tryz.ntmps62
  go_wp2
  go_loopw [13] (fun i wr => ∃ k : Nat, k ≤ n ∧ k ≤ m ∧ i = .int .i64 (k : Int) ∧ Hid (cmpLs la lb = cmpLs (la.drop k) (lb.drop k)) ∧ GrX w wr) (fun i _ => n - (intOf i).toNat)
  case atStart => exact ⟨0, by omega, by omega, rfl, rfl, GrX.refl _⟩
  case round =>
    obtain ⟨k, hk, hkm, rfl, hc, hgx⟩ := hrel
    have hg := hgx.grew
    by_cases hlt : k < n
    · obtain ⟨ad, x, rfl, hx, x0, x1⟩ := (ha.grew hg).lb hlt
      have hxd : la.drop k = x :: la.drop (k + 1) := by
        obtain ⟨h1, h2⟩ := List.getElem?_eq_some_iff.1 hx
        rw [List.drop_eq_getElem_cons h1, h2]
      by_cases hltm : k < m
      · obtain ⟨bd, y, rfl, hy, y0, y1⟩ := ((hb.grew hg).grew ((Chg.refl _ wr).alloc (.cells #[.string x.1, .string x.2] 72))).lb hltm
        have hyd : lb.drop k = y :: lb.drop (k + 1) := by
          obtain ⟨h1, h2⟩ := List.getElem?_eq_some_iff.1 hy
          rw [List.drop_eq_getElem_cons h1, h2]
        have hc' : Hid (cmpLs la lb = if cmpLb x y ≠ 0 then cmpLb x y else cmpLs (la.drop (k + 1)) (lb.drop (k + 1))) := by
          have := hc.out
          rw [hxd, hyd] at this
          rw [this]
          rfl
        have hO := fun w => cmpOne_x x y w
        unfold lbV at hO
        obtain ⟨z, hz⟩ : ∃ z, cmpLb x y = z := ⟨_, rfl⟩
        rw [hz] at hc' hO
        clear hxd hyd hc hz
        go_wp2_with fail
        refine (hO _).mono ?_
        rintro e w1 ⟨rfl, hg1⟩
        have hgg := hgx.trans ((((GrX.refl wr).alloc (.cells #[.string x.1, .string x.2] 72)).alloc (.cells #[.string y.1, .string y.2] 72)).trans hg1)
        clear x0 x1 y0 y1 hx hy hO
        by_cases hz0 : z = 0
        · subst hz0
          rw [if_neg (by simp)] at hc'
          go_wp2
          go_roundw
          case rel => exact ⟨k + 1, by omega, by omega, by go_num, hc', hgg⟩
          case measure => simp [intOf]; omega
        · have e1 : (z != 0) = true := by simpa using hz0
          rw [if_pos hz0] at hc'
          go_wp2
          go_ret
          exact ⟨by rw [hc'.out]; simp, hgg⟩
      · have hyd : lb.drop k = [] := List.drop_of_length_le (by omega)
        have hc' : Hid (cmpLs la lb = 1) := by
          have := hc.out
          rw [hxd, hyd] at this
          exact this
        clear hxd hyd hc hx
        go_wp2
        go_ret
        exact ⟨by rw [hc'.out]; simp, hgx.alloc _⟩
    · obtain rfl : k = n := by omega
      have hxd : la.drop k = [] := List.drop_of_length_le (by omega)
      by_cases hltm : k < m
      · have hc' : Hid (cmpLs la lb = -1) := by
          have := hc.out
          rw [hxd] at this
          cases hyd : lb.drop k with
          | nil =>
            have := congrArg List.length hyd
            rw [List.length_drop] at this
            simp at this
            omega
          | cons y r => rw [hyd] at this; exact this
        clear hxd hc
        go_wp2
        go_ret
        exact ⟨by rw [hc'.out]; simp, hgx⟩
      · obtain rfl : k = m := by omega
        have hc' : Hid (cmpLs la lb = 0) := by
          have := hc.out
          rw [hxd, List.drop_of_length_le (by omega)] at this
          exact this
        clear hxd hc
        go_wp2
        go_ret
        exact ⟨by rw [hc'.out]; simp, hgx⟩
theorem compare_x (A B : Option Addr) (n c m d : Nat) (la lb : List Lab) (w : World) (ha : RE elLb w A n la) (hb : RE elLb w B m lb) (hn : n ≤ 9223372036854775807) (hm : m ≤ 9223372036854775807) :
    Calls Tryz.prog 47 #[.slice A n c, .slice B m d] w fun e w' => e = .returned (.int .i64 (cmpLs la lb)) ∧ GrX w w' := by
  have hC := compareFunc_x A B n c m d la lb w ha hb hn hm
  generalize cmpLs la lb = z at *
  go_enter Tryz.func47, Tryz.ntmps47
  go_wp2_with fail
  refine hC.mono ?_
  rintro e w1 ⟨rfl, hg⟩
  go_wp2
  go_ret
  exact ⟨by simp, hg⟩

/-- two series by their labels -/
def srV (m : SerM) : Value := .agg #[.slice m.la m.ln m.lc, .slice m.pa m.pn m.pc]
set_option maxRecDepth 100000 in
theorem bySeries_x (x y : SerM) (la lb : List Lab) (w : World) (ha : RE elLb w x.la x.ln la) (hb : RE elLb w y.la y.ln lb) (hn : x.ln ≤ 9223372036854775807) (hm : y.ln ≤ 9223372036854775807) :
    Calls Tryz.prog 46 #[srV x, srV y] w fun e w' => e = .returned (.int .i64 (cmpLs la lb)) ∧ GrX w w' := by
  obtain ⟨xa, xn, xc, pa, pn, pc⟩ := x
  obtain ⟨ya, yn, yc, qa, qn, qc⟩ := y
  unfold srV
  dsimp only at *
  obtain ⟨W, hW, hgx, b1, b2, hzW⟩ := two_blkX w #[.slice xa xn xc, .slice pa pn pc] #[.slice ya yn yc, .slice qa qn qc] 61 61
  have p0 := b1.cell 0
  have q0 := b2.cell 0
  have hC := compare_x xa ya xn xc yn yc la lb W (ha.grew hgx.grew) (hb.grew hgx.grew) hn hm
  generalize cmpLs la lb = z at *
  go_enter Tryz.func46, Tryz.ntmps46
  go_wp2_with fail
  rw [← hW]
  clear hW
  refine hC.mono ?_
  rintro e w1 ⟨rfl, hg⟩
  go_wp2
  go_ret
  exact ⟨by simp, hgx.trans hg⟩
end Go.Proofs.YtailooldnelecaaGreatDoor

namespace Go.Proofs
open Go.Shelf
def Tryz.sortSr_ren : Go.Shelf.Ren := ⟨fun | 6 => 45 | 15 => 61 | 14 => 60 | 28 => 83 | 29 => 84 | 20 => 75 | 21 => 76 | 22 => 77 | 23 => 78 | 24 => 79 | 25 => 80 | 26 => 81 | 27 => 82 | 46 => 89 | 47 => 90 | 48 => 91 | 49 => 92 | 50 => 93 | 57 => 99 | n => n, fun | 22 => 36 | 24 => 61 | 25 => 92 | 3 => 3 | 39 => 109 | 0 => 0 | 53 => 127 | 55 => 29 | 4 => 4 | 46 => 121 | 45 => 120 | 50 => 76 | 5 => 5 | 9 => 9 | 66 => 131 | 70 => 135 | 76 => 139 | 77 => 55 | n => n, fun | n => n⟩
theorem Tryz.sortSr : Go.Proofs.SlLaysF0.n6 Tryz.prog Tryz.sortSr_ren := {
  mixed := by kernel_rfl
  f6 := ⟨Tryz.f45.name, by decide, Tryz.func45.trans (congrArg some (by kernel_rfl))⟩
  f14 := ⟨Tryz.f60.name, by decide, Tryz.func60.trans (congrArg some (by kernel_rfl))⟩
  f15 := Tryz.func61.trans (congrArg some (by kernel_rfl))
  f20 := ⟨Tryz.f75.name, by decide, Tryz.func75.trans (congrArg some (by kernel_rfl))⟩
  f21 := ⟨Tryz.f76.name, by decide, Tryz.func76.trans (congrArg some (by kernel_rfl))⟩
  f22 := ⟨Tryz.f77.name, by decide, Tryz.func77.trans (congrArg some (by kernel_rfl))⟩
  f23 := ⟨Tryz.f78.name, by decide, Tryz.func78.trans (congrArg some (by kernel_rfl))⟩
  f24 := ⟨Tryz.f79.name, by decide, Tryz.func79.trans (congrArg some (by kernel_rfl))⟩
  f25 := ⟨Tryz.f80.name, by decide, Tryz.func80.trans (congrArg some (by kernel_rfl))⟩
  f26 := ⟨Tryz.f81.name, by decide, Tryz.func81.trans (congrArg some (by kernel_rfl))⟩
  f27 := ⟨Tryz.f82.name, by decide, Tryz.func82.trans (congrArg some (by kernel_rfl))⟩
  f28 := Tryz.func83.trans (congrArg some (by kernel_rfl))
  f29 := Tryz.func84.trans (congrArg some (by kernel_rfl))
  f46 := ⟨Tryz.f89.name, by decide, Tryz.func89.trans (congrArg some (by kernel_rfl))⟩
  f47 := Tryz.func90.trans (congrArg some (by kernel_rfl))
  f48 := Tryz.func91.trans (congrArg some (by kernel_rfl))
  f49 := ⟨Tryz.f92.name, by decide, Tryz.func92.trans (congrArg some (by kernel_rfl))⟩
  f50 := ⟨Tryz.f93.name, by decide, Tryz.func93.trans (congrArg some (by kernel_rfl))⟩
  f57 := ⟨Tryz.f99.name, by decide, Tryz.func99.trans (congrArg some (by kernel_rfl))⟩
  t0 := Tryz.underlying0
  a0 := Tryz.isAgg0
  z0 := Tryz.sizeOf0
  v0 := Tryz.zeroValue0
  t3 := Tryz.underlying3
  a3 := Tryz.isAgg3
  z3 := Tryz.sizeOf3
  v3 := Tryz.zeroValue3
  t4 := Tryz.underlying4
  a4 := Tryz.isAgg4
  z4 := Tryz.sizeOf4
  v4 := Tryz.zeroValue4
  t5 := Tryz.underlying5
  a5 := Tryz.isAgg5
  z5 := Tryz.sizeOf5
  v5 := Tryz.zeroValue5
  t9 := Tryz.underlying9
  a9 := Tryz.isAgg9
  z9 := Tryz.sizeOf9
  v9 := Tryz.zeroValue9
  t22 := Tryz.underlying36
  a22 := Tryz.isAgg36
  z22 := Tryz.sizeOf36
  v22 := Tryz.zeroValue36
  t25 := Tryz.underlying92
  a25 := Tryz.isAgg92
  z25 := Tryz.sizeOf92
  v25 := Tryz.zeroValue92
  t39 := Tryz.underlying109
  a39 := Tryz.isAgg109
  z39 := Tryz.sizeOf109
  v39 := Tryz.zeroValue109
  t45 := Tryz.underlying120
  a45 := Tryz.isAgg120
  z45 := Tryz.sizeOf120
  v45 := Tryz.zeroValue120
  t46 := Tryz.underlying121
  a46 := Tryz.isAgg121
  z46 := Tryz.sizeOf121
  v46 := Tryz.zeroValue121
  t50 := Tryz.underlying76
  a50 := Tryz.isAgg76
  z50 := Tryz.sizeOf76
  v50 := Tryz.zeroValue76
  t53 := Tryz.underlying127
  a53 := Tryz.isAgg127
  z53 := Tryz.sizeOf127
  v53 := Tryz.zeroValue127
  t55 := Tryz.underlying29
  a55 := Tryz.isAgg29
  z55 := Tryz.sizeOf29
  v55 := Tryz.zeroValue29
  t66 := Tryz.underlying131
  a66 := Tryz.isAgg131
  z66 := Tryz.sizeOf131
  v66 := Tryz.zeroValue131
  t70 := Tryz.underlying135
  a70 := Tryz.isAgg135
  z70 := Tryz.sizeOf135
  v70 := Tryz.zeroValue135
  t76 := Tryz.underlying139
  a76 := Tryz.isAgg139
  z76 := Tryz.sizeOf139
  v76 := Tryz.zeroValue139
  t77 := Tryz.underlying55
  a77 := Tryz.isAgg55
  z77 := Tryz.sizeOf55
  v77 := Tryz.zeroValue55 }
end Go.Proofs

namespace Go.Proofs.YtailooldnelecaaGreatDoor
open Go.RowKit Go.Sort Go.Lib

def encSr (m : SerM) : List Value := [.slice m.la m.ln m.lc, .slice m.pa m.pn m.pc]
/-- a series whose labels may be read at w, elsewhere than in the block blk -/
structure LbAt (w : World) (blk : Nat) (x : SerM × Ser) : Prop where
  lb : RE elLb w x.1.la x.1.ln x.2.lbs
  ne : ∀ ad, x.1.la = some ad → ad.block ≠ blk
  lt : ∀ ad, x.1.la = some ad → ad.block < w.heap.size
  ln : x.1.ln ≤ 9223372036854775807
abbrev LbS (w : World) (blk : Nat) : Type := { x : SerM × Ser // LbAt w blk x }
def encB {w : World} {blk : Nat} (x : LbS w blk) : List Value := encSr x.1.1
def cfB {w : World} {blk : Nat} (x y : LbS w blk) : Int := cmpLs x.1.2.lbs y.1.2.lbs
instance (w : World) (blk : Nat) : Inhabited (LbS w blk) := ⟨⟨(⟨none, 0, 0, none, 0, 0⟩, ⟨[], []⟩), ⟨rfl, Rd.nil _ _⟩, fun _ e => (by cases e), fun _ e => (by cases e), by decide⟩⟩
theorem cmpLays_ser (w : World) (blk off size : Nat) : CmpLays Tryz.prog 46 #[] (encB (w := w) (blk := blk)) 2 cfB blk off size w := fun m os dk hs x y => by
  have key : ∀ z : LbS w blk, RE elLb (sortWorldK encB 2 w blk off m dk os) z.1.1.la z.1.1.ln z.1.2.lbs := fun z => ⟨z.2.lb.1, fun k u hu => by
    obtain ⟨ad, h1, h2⟩ := z.2.lb.2 k u hu
    exact ⟨ad, h1, (cell?_sortWorldK_other encB 2 w blk off m dk os (ad.add k) (by rw [block_add]; exact z.2.ne ad h1) (by rw [block_add]; exact z.2.lt ad h1)).trans h2⟩⟩
  exact (bySeries_x x.1.1 y.1.1 x.1.2.lbs y.1.2.lbs _ (key x) (key y) x.2.ln y.2.ln).mono fun _ _ h => h
theorem ltOf_cfB {w : World} {blk : Nat} (x y : LbS w blk) : ltOf cfB x y = decide (cmpLs x.1.2.lbs y.1.2.lbs < 0) := rfl
theorem swo_ser (w : World) (blk : Nat) : SWO (ltOf (cfB (w := w) (blk := blk))) where
  irrefl x := by
    rw [ltOf_cfB, decide_eq_false_iff_not]
    exact cmpLs_ok.irrefl _
  trans x y z h1 h2 := by
    rw [ltOf_cfB, decide_eq_true_eq] at *
    exact cmpLs_ok.trans _ _ _ h1 h2
  ntrans x y z h1 h2 := by
    rw [ltOf_cfB, decide_eq_false_iff_not] at *
    intro h3
    rcases cmpLs_ok.tri x.1.2.lbs y.1.2.lbs with h | h | h
    · exact h1 h
    · rw [h] at h3
      exact h2 h3
    · exact h2 (cmpLs_ok.trans _ _ _ h h3)
theorem encS_get (m : SerM) (t : Nat) : (encSr m)[t % 2]? = some ((encSr m)[t % 2]!) := by
  rcases Nat.mod_two_eq_zero_or_one t with h | h <;> rw [h] <;> rfl
theorem flatS_get {l : List SerM} {t : Nat} (ht : t / 2 < l.length) : (elSr.flat l)[t]? = some ((encSr l[t / 2])[t % 2]!) := by
  have h1 : l[t / 2]? = some l[t / 2] := List.getElem?_eq_getElem ht
  have h2 : t / 2 * 2 + t % 2 = t := by omega
  have h3 := elSr.flat_get l (j := t % 2) h1 (by show t % 2 < 2; omega)
  rw [show t / 2 * elSr.sz + t % 2 = t from h2] at h3
  rw [h3]
  exact encS_get _ _
def toB {w : World} {g : Nat} {xs : List (SerM × Ser)} (hx : ∀ x ∈ xs, LbAt w g x) : Array (LbS w g) := (xs.attach.map fun x => (⟨x.1, hx x.1 x.2⟩ : LbS w g)).toArray
theorem toB_val {w : World} {g : Nat} {xs : List (SerM × Ser)} (hx : ∀ x ∈ xs, LbAt w g x) : (toB hx).toList.map Subtype.val = xs := by
  unfold toB
  simp only [List.map_map]
  exact List.attach_map_subtype_val xs
theorem toB_size {w : World} {g : Nat} {xs : List (SerM × Ser)} (hx : ∀ x ∈ xs, LbAt w g x) : (toB hx).size = xs.length := by
  have := congrArg List.length (toB_val hx)
  rwa [List.length_map, Array.length_toList] at this
theorem at_add (g j : Nat) : (⟨g, 0, none⟩ : Addr).add j = ⟨g, 0 + j, none⟩ := by
  unfold Addr.add
  split <;> simp_all
/-- a row of series, read as the sort reads it -/
theorem holds_of {w : World} {g n : Nat} {cur : Array Value} (d : Array (LbS w g)) {W : World} (hb : Blk W g 61 cur) (hR : RE elSr W (some ⟨g, 0, none⟩) n (d.toList.map fun x => x.1.1)) : HoldsK encB 2 W g 0 d := fun j hj => by
  rw [size_flatK] at hj
  have hj2 : j / 2 < d.size := by omega
  have h1 := flatS_get (l := d.toList.map fun x => x.1.1) (t := j) (by simpa using hj2)
  obtain ⟨ad, e, hc⟩ := hR.2 j _ h1
  injection e with e
  subst e
  refine ⟨?_, hb.frozen _⟩
  rw [get_flatK encB 2 d j hj]
  have h2 : (d.toList.map fun x => x.1.1)[j / 2]'(by simpa using hj2) = d[j / 2]!.1.1 := by simp [hj2]
  rw [h2, at_add] at hc
  exact hc
theorem re_of {w W : World} {g n : Nat} (d : Array (LbS w g)) (hn : d.size = n) (h : HoldsK encB 2 W g 0 d) : RE elSr W (some ⟨g, 0, none⟩) n (d.toList.map fun x => x.1.1) := by
  refine ⟨by simpa using hn, fun j u hu => ⟨_, rfl, ?_⟩⟩
  have hlt := (List.getElem?_eq_some_iff.1 hu).1
  have hl := elSr.flat_length (d.toList.map fun x => x.1.1)
  rw [show elSr.sz = 2 from rfl] at hl
  simp only [List.length_map, Array.length_toList] at hl
  have hj : j < d.size * 2 := by omega
  have hj2 : j / 2 < d.size := by omega
  rw [flatS_get (by simpa using hj2)] at hu
  injection hu with hu
  have h1 := (h j (by rw [size_flatK]; exact hj)).1
  rw [get_flatK encB 2 d j hj] at h1
  have h2 : (d.toList.map fun x => x.1.1)[j / 2]'(by simpa using hj2) = d[j / 2]!.1.1 := by simp [hj2]
  rw [h2] at hu
  rw [← hu, at_add]
  exact h1
theorem chg_sortW {w : World} {g : Nat} {cur : Array Value} (hb : Blk w g 61 cur) (m : Nat) (d : Array (LbS w g)) (os : Array Obj) : Chg (fun k => k = g) w (sortWorldK encB 2 w g 0 m d os) ∧ ∃ cur', Blk (sortWorldK encB 2 w g 0 m d os) g 61 cur' ∧ cur'.size = cur.size := by
  have hlt := hb.lt
  unfold sortWorldK putRowK putRow mapBlock
  refine ⟨⟨rfl, rfl, rfl, by show w.heap.size ≤ (w.heap.modify g _ ++ os).size; rw [Array.size_append, Array.size_modify]; exact Nat.le_add_right _ _, fun k hk hn => ?_⟩, ?_⟩
  · show (w.heap.modify g _ ++ os)[k]? = w.heap[k]?
    rw [Array.getElem?_append_left (by rw [Array.size_modify]; exact hk), Array.getElem?_modify, if_neg (fun e => hn e.symm)]
  · have h0 : w.heap[g]? = some (.cells cur 61 (0, 0)) := hb
    refine ⟨putCells id 0 (flatK encB 2 d) cur, ?_, by unfold putCells; exact Array.size_mapIdx⟩
    show (w.heap.modify g _ ++ os)[g]? = _
    rw [Array.getElem?_append_left (by simpa using hlt), Array.getElem?_modify, if_pos rfl, h0]
    rfl

set_option maxRecDepth 100000 in
set_option maxHeartbeats 1000000 in
theorem sorted_any (g n c : Nat) (cur : Array Value) (xs : List (SerM × Ser)) (w : World) (hb : Blk w g 61 cur) (hR : RE elSr w (some ⟨g, 0, none⟩) n (xs.map Prod.fst)) (hx : ∀ x ∈ xs, LbAt w g x) (h62 : n < 4611686018427387904) :
    Calls Tryz.prog 29 #[.slice (some ⟨g, 0, none⟩) n c] w fun e w' => e = .returned (.slice (some ⟨g, 0, none⟩) n c) ∧ ∃ ys : List (SerM × Ser), ys.Perm xs ∧ (ys.Pairwise fun a b => ¬ cmpLs b.2.lbs a.2.lbs < 0) ∧ RE elSr w' (some ⟨g, 0, none⟩) n (ys.map Prod.fst) ∧ Chg (fun k => k = g) w w' ∧ ∃ cur', Blk w' g 61 cur' ∧ cur'.size = cur.size := by
  have hn : xs.length = n := by simpa using hR.1
  have hd : (toB hx).size = n := (toB_size hx).trans hn
  have hv : (toB hx).toList.map (fun x => x.1.1) = xs.map Prod.fst := by
    have := congrArg (List.map Prod.fst) (toB_val hx)
    rwa [List.map_map] at this
  have eg : ∀ args w, (callFunc 46 args).run Tryz.prog w = .ok (.enter 46 args) w := enters_of Tryz.func46 (by kernel_rfl) rfl
  have hH : HoldsK encB 2 w g 0 (toB hx) := holds_of (n := n) _ hb (by rw [hv]; exact hR)
  have hcon := AnyQ.slices_SortFunc (α := LbS w g) Tryz.sortSr 2 Tryz.isAgg61 Tryz.sizeOf61 encB (fun _ => rfl) (fun x v hv => by
    simp only [encB, encSr, List.mem_cons, List.not_mem_nil, or_false] at hv
    rcases hv with rfl | rfl <;> rfl) cfB (swo_ser w g) 46 #[] g 0 c (toB hx) w eg (cmpLays_ser w g 0 _) hH hb.lt (by omega)
  rw [hd] at hcon
  change Calls Tryz.prog 45 _ _ _ at hcon
  have hfin : ∀ (d' : Array (LbS w g)) m os, PermIn 0 n (toB hx) d' → SortedIn (ltOf cfB) 0 n d' → ∃ ys : List (SerM × Ser), ys.Perm xs ∧ (ys.Pairwise fun a b => ¬ cmpLs b.2.lbs a.2.lbs < 0) ∧ RE elSr (sortWorldK encB 2 w g 0 m d' os) (some ⟨g, 0, none⟩) n (ys.map Prod.fst) ∧ Chg (fun k => k = g) w (sortWorldK encB 2 w g 0 m d' os) ∧ ∃ cur', Blk (sortWorldK encB 2 w g 0 m d' os) g 61 cur' ∧ cur'.size = cur.size := fun d' m os hp hs => by
    have hsz : d'.size = n := hp.1.trans hd
    obtain ⟨hc, hb'⟩ := chg_sortW hb m d' os
    refine ⟨d'.toList.map Subtype.val, ?_, ?_, ?_, hc, hb'⟩
    · have h2 := hp.2.2
      have e1 : d'.extract 0 n = d' := by rw [← hsz]; exact Array.extract_size
      have e2 : (toB hx).extract 0 n = toB hx := by rw [← hd]; exact Array.extract_size
      rw [e1, e2] at h2
      have h3 := h2.map Subtype.val
      rw [toB_val hx] at h3
      exact h3
    · rw [List.pairwise_map]
      refine List.pairwise_iff_getElem.2 fun i j hi hj hij => ?_
      have := hs i j (Nat.zero_le _) hij (by simpa [hsz] using hj)
      rw [ltOf_cfB, decide_eq_false_iff_not] at this
      rw [Array.length_toList] at hi hj
      rw [getElem!_pos d' j hj, getElem!_pos d' i hi] at this
      simpa using this
    · have h4 : HoldsK encB 2 (sortWorldK encB 2 w g 0 m d' os) g 0 d' := holdsK_grow encB 2 _ os g 0 d' (by rw [size_putRowK]; exact hb.lt) (holdsK_putRowK encB 2 (Go.Sort.ahead w m) g 0 (toB hx) d' (holdsK_ahead encB 2 w m g 0 _ hH) (hsz.trans hd.symm))
      have h5 := re_of (n := n) d' hsz h4
      rw [List.map_map]
      exact h5
  replace hfin := Lib.hid hfin
  clear hH eg hv hb hR
  go_enter Tryz.func29, Tryz.ntmps29
  go_wp2_with fail
  refine hcon.mono ?_
  rintro e w' ⟨rfl, d', m, os, hp, hs, rfl⟩
  go_wp2
  go_ret
  exact ⟨by simp, hfin.out d' m os hp hs⟩
end Go.Proofs.YtailooldnelecaaGreatDoor

namespace Go.Proofs.YtailooldnelecaaGreatDoor
open Go.RowKit Go.Sort Go.Lib

theorem sorted_nil (A : Option Addr) (c : Nat) (w : World) : Calls Tryz.prog 29 #[.slice A 0 c] w fun e w' => e = .returned (.slice A 0 c) ∧ w' = w := by
  have hcon := AnyF.slices_SortFunc_none Tryz.sortSr A c (.func (.func 46) #[] #[]) w
  change Calls Tryz.prog 45 _ _ _ at hcon
  go_enter Tryz.func29, Tryz.ntmps29
  go_wp2_with fail
  refine hcon.mono ?_
  rintro e w' ⟨rfl, rfl⟩
  go_wp2
  go_ret
  exact ⟨by simp, rfl⟩
theorem own_again {w w' : World} {base : Nat} {A : Option Addr} {n c g : Nat} {ms ms' : List SerM} {cur cur' : Array Value} (h : OE elSr w base 61 A n c ms) (hA : A = some ⟨g, 0, none⟩) (hb : Blk w g 61 cur) (hb' : Blk w' g 61 cur') (hs : cur'.size = cur.size) (hR : RE elSr w' A n ms') : OE elSr w' base 61 A n c ms' := by
  subst hA
  have hl := hR.1
  refine ⟨by rw [elSr.flat_length, hl], ?_⟩
  rcases h.2 with ⟨e, h3⟩ | ⟨g', cap, cur0, e, hb0, hg, h3, h4, h5, h6⟩
  · injection e with e1 e2 e3
    cases e1
  · injection e with e1 e2 e3
    injection e1 with e1
    injection e1 with e1 _
    subst e1
    have hcc : cur0 = cur := by
      have := Eq.trans (Eq.symm (show w.heap[g]? = _ from hg)) hb
      injection this with this
      injection this with this
    subst hcc
    refine .inr ⟨g, cap, cur', by rw [e2, e3], hb0, hb', h3, h4, by rw [hs]; exact h5, ?_⟩
    refine List.ext_getElem? fun k => ?_
    rw [List.getElem?_take]
    have hfl := elSr.flat_length ms'
    rw [hl] at hfl
    split
    · rename_i hk
      obtain ⟨ad, e7, h7⟩ := hR.2 k _ (List.getElem?_eq_getElem (by rw [hfl]; exact hk))
      injection e7 with e7
      subst e7
      rw [at_add, hb'.cell] at h7
      rw [Array.getElem?_toList, show k = 0 + k by omega, h7, Nat.zero_add]
      exact (List.getElem?_eq_getElem _).symm
    · rename_i hk
      rw [List.getElem?_eq_none (by rw [hfl]; omega)]
/-- sorted, of such a row -/
theorem sorted_ns {w : World} {base : Nat} {A : Option Addr} {n c : Nat} {ss : List Ser} (h : NS w base A n c ss) (h62 : n < 4611686018427387904) :
    Calls Tryz.prog 29 #[.slice A n c] w fun e w' => e = .returned (.slice A n c) ∧ ∃ ss', ss'.Perm ss ∧ (ss'.Pairwise fun a b => ¬ cmpLs b.lbs a.lbs < 0) ∧ NS w' base A n c ss' ∧ Chg (fun k => base ≤ k) w w' := by
  have hln := h.len
  rcases Nat.eq_zero_or_pos n with h0 | h0
  · subst h0
    obtain rfl : ss = [] := List.eq_nil_of_length_eq_zero hln
    refine (sorted_nil A c w).mono ?_
    rintro e w' ⟨rfl, rfl⟩
    exact ⟨rfl, [], List.Perm.refl _, List.Pairwise.nil, h, Chg.refl _ _⟩
  · obtain ⟨ms, h1, h2, h3⟩ := h
    have hml := h1.len
    obtain ⟨g, rfl, hgb, cur, hb⟩ : ∃ g, A = some ⟨g, 0, none⟩ ∧ base ≤ g ∧ ∃ cur, Blk w g 61 cur := by
      rcases h1.2 with ⟨e, h4⟩ | ⟨g', cap, cur0, e, hb0, hg, _⟩
      · omega
      · injection e with e1 e2 e3
        exact ⟨g', e1, hb0, cur0, hg⟩
    have hz : (ms.zip ss).map Prod.fst = ms := List.map_fst_zip (by omega)
    have hz2 : (ms.zip ss).map Prod.snd = ss := List.map_snd_zip (by omega)
    have hel : ∀ x ∈ ms.zip ss, NsE w base x.1 x.2 := fun x hx => by
      obtain ⟨i, hi⟩ := List.getElem?_of_mem hx
      rw [List.getElem?_zip_eq_some] at hi
      exact h3 i x.1 x.2 hi.1 hi.2
    have hne : ∀ x ∈ ms.zip ss, (∀ ad, x.1.la = some ad → ad.block ≠ g) ∧ ∀ ad, x.1.pa = some ad → ad.block ≠ g := fun x hx =>
      ⟨fun ad e => h1.ne (hel x hx).lb (by decide) _ ad rfl e |>.symm, fun ad e => h1.ne (hel x hx).pt (by decide) _ ad rfl e |>.symm⟩
    have hat : ∀ x ∈ ms.zip ss, LbAt w g x := fun x hx => ⟨(hel x hx).lb.re (by decide), (hne x hx).1, fun ad e => (Own.blk_lt (hel x hx).lb ad e).2, by have := (hel x hx).lb.cap; omega⟩
    refine (sorted_any g n c cur (ms.zip ss) w hb (by rw [hz]; exact h1.re (by decide)) hat h62).mono ?_
    rintro e w' ⟨rfl, ys, hp, hs, hR, hc, cur', hb', hcs⟩
    refine ⟨rfl, ys.map Prod.snd, by rw [← hz2]; exact hp.map _, List.pairwise_map.2 hs, ⟨ys.map Prod.fst, own_again h1 rfl hb hb' hcs hR, by simp, fun i m s hm hs => ?_⟩, hc.mono fun k _ e => by rw [e]; exact hgb⟩
    rw [List.getElem?_map] at hm hs
    cases hy : ys[i]? with
    | none => rw [hy] at hm; cases hm
    | some y =>
      rw [hy] at hm hs
      injection hm with hm
      injection hs with hs
      subst hm
      subst hs
      have hyx := hp.mem_iff.1 (List.mem_of_getElem? hy)
      exact ⟨(hel y hyx).lb.chg hc fun ad e => (hne y hyx).1 ad e, (hel y hyx).pt.chg hc fun ad e => (hne y hyx).2 ad e⟩
end Go.Proofs.YtailooldnelecaaGreatDoor
