/-
  Several texts in one:
  slices.Sort at numbers with a sign, laid by the kit's own tool. Conditions: those that the contract names.
  (slices.Sort) of numbers with a sign, over any row; (index.floor). Conditions: lengths that a slice has.
  (index.level)'s closures: the stretch of a block; what is gathered of one stretch. Conditions: at most 300 metas, of at most 64 sources each.
  (index.level)'s second closure: what is gathered of one stretch. Conditions: at most 300 metas, of at most 64 sources each.
-/
import Derived.Shelf.SortG.Plain
import Derived.Test.YtjoaonppaokhhaaGreatPart48
import Derived.Sort.OwnSortedInts

namespace Go.Proofs
open Go.Shelf
def Tryz.sortI_ren : Go.Shelf.Ren := ⟨fun | 53 => 111 | 64 => 128 | 63 => 127 | 78 => 142 | 79 => 143 | 70 => 133 | 71 => 134 | 72 => 135 | 73 => 136 | 74 => 137 | 75 => 138 | 59 => 139 | 76 => 140 | 77 => 141 | 88 => 154 | 89 => 155 | 90 => 156 | 91 => 157 | 92 => 158 | 68 => 104 | 96 => 162 | n => n, fun | 22 => 126 | 23 => 2 | 3 => 3 | 51 => 104 | 0 => 0 | 67 => 76 | 69 => 22 | 4 => 4 | 61 => 155 | 60 => 154 | 44 => 61 | 5 => 5 | 9 => 9 | 75 => 169 | 79 => 137 | 83 => 175 | 84 => 176 | n => n, fun | n => n⟩
theorem Tryz.sortI : Go.Proofs.SlLaysN.n53 Tryz.prog Tryz.sortI_ren := {
  mixed := by kernel_rfl
  f53 := ⟨Tryz.f111.name, by decide, Tryz.func111.trans (congrArg some (by kernel_rfl))⟩
  f59 := ⟨Tryz.f139.name, by decide, Tryz.func139.trans (congrArg some (by kernel_rfl))⟩
  f63 := ⟨Tryz.f127.name, by decide, Tryz.func127.trans (congrArg some (by kernel_rfl))⟩
  f64 := Tryz.func128.trans (congrArg some (by kernel_rfl))
  f68 := ⟨Tryz.f104.name, by decide, Tryz.func104.trans (congrArg some (by kernel_rfl))⟩
  f70 := ⟨Tryz.f133.name, by decide, Tryz.func133.trans (congrArg some (by kernel_rfl))⟩
  f71 := ⟨Tryz.f134.name, by decide, Tryz.func134.trans (congrArg some (by kernel_rfl))⟩
  f72 := ⟨Tryz.f135.name, by decide, Tryz.func135.trans (congrArg some (by kernel_rfl))⟩
  f73 := ⟨Tryz.f136.name, by decide, Tryz.func136.trans (congrArg some (by kernel_rfl))⟩
  f74 := ⟨Tryz.f137.name, by decide, Tryz.func137.trans (congrArg some (by kernel_rfl))⟩
  f75 := ⟨Tryz.f138.name, by decide, Tryz.func138.trans (congrArg some (by kernel_rfl))⟩
  f76 := ⟨Tryz.f140.name, by decide, Tryz.func140.trans (congrArg some (by kernel_rfl))⟩
  f77 := ⟨Tryz.f141.name, by decide, Tryz.func141.trans (congrArg some (by kernel_rfl))⟩
  f78 := Tryz.func142.trans (congrArg some (by kernel_rfl))
  f79 := Tryz.func143.trans (congrArg some (by kernel_rfl))
  f88 := ⟨Tryz.f154.name, by decide, Tryz.func154.trans (congrArg some (by kernel_rfl))⟩
  f89 := Tryz.func155.trans (congrArg some (by kernel_rfl))
  f90 := Tryz.func156.trans (congrArg some (by kernel_rfl))
  f91 := ⟨Tryz.f157.name, by decide, Tryz.func157.trans (congrArg some (by kernel_rfl))⟩
  f92 := ⟨Tryz.f158.name, by decide, Tryz.func158.trans (congrArg some (by kernel_rfl))⟩
  f96 := ⟨Tryz.f162.name, by decide, Tryz.func162.trans (congrArg some (by kernel_rfl))⟩
  t0 := Tryz.underlying0
  a0 := Tryz.isAgg0
  z0 := Tryz.sizeOf0
  v0 := Tryz.zeroValue0
  t3 := Tryz.underlying3
  a3 := Tryz.isAgg3
  z3 := Tryz.sizeOf3
  v3 := Tryz.zeroValue3
  t4 := Tryz.underlying4
  a4 := Tryz.isAgg4
  z4 := Tryz.sizeOf4
  v4 := Tryz.zeroValue4
  t5 := Tryz.underlying5
  a5 := Tryz.isAgg5
  z5 := Tryz.sizeOf5
  v5 := Tryz.zeroValue5
  t9 := Tryz.underlying9
  a9 := Tryz.isAgg9
  z9 := Tryz.sizeOf9
  v9 := Tryz.zeroValue9
  t22 := Tryz.underlying126
  a22 := Tryz.isAgg126
  z22 := Tryz.sizeOf126
  v22 := Tryz.zeroValue126
  t23 := Tryz.underlying2
  a23 := Tryz.isAgg2
  z23 := Tryz.sizeOf2
  v23 := Tryz.zeroValue2
  t44 := Tryz.underlying61
  a44 := Tryz.isAgg61
  z44 := Tryz.sizeOf61
  v44 := Tryz.zeroValue61
  t51 := Tryz.underlying104
  a51 := Tryz.isAgg104
  z51 := Tryz.sizeOf104
  v51 := Tryz.zeroValue104
  t60 := Tryz.underlying154
  a60 := Tryz.isAgg154
  z60 := Tryz.sizeOf154
  v60 := Tryz.zeroValue154
  t61 := Tryz.underlying155
  a61 := Tryz.isAgg155
  z61 := Tryz.sizeOf155
  v61 := Tryz.zeroValue155
  t67 := Tryz.underlying76
  a67 := Tryz.isAgg76
  z67 := Tryz.sizeOf76
  v67 := Tryz.zeroValue76
  t69 := Tryz.underlying22
  a69 := Tryz.isAgg22
  z69 := Tryz.sizeOf22
  v69 := Tryz.zeroValue22
  t75 := Tryz.underlying169
  a75 := Tryz.isAgg169
  z75 := Tryz.sizeOf169
  v75 := Tryz.zeroValue169
  t79 := Tryz.underlying137
  a79 := Tryz.isAgg137
  z79 := Tryz.sizeOf137
  v79 := Tryz.zeroValue137
  t83 := Tryz.underlying175
  a83 := Tryz.isAgg175
  z83 := Tryz.sizeOf175
  v83 := Tryz.zeroValue175
  t84 := Tryz.underlying176
  a84 := Tryz.isAgg176
  z84 := Tryz.sizeOf176
  v84 := Tryz.zeroValue176 }
end Go.Proofs

namespace Go.Proofs.YtjoaonppaokhhaaGreat
open Go.RowKit Go.Sort

def elZ9 : El Int := ⟨fun z => [.int .i64 z], 1, fun _ => rfl, by
  intro x u hu
  simp at hu
  subst hu
  rfl⟩
theorem infoZ9 : (Tryz.prog.info? 2).map (fun i => (i.zero, i.size, i.bytes)) = some (some (.int .i64 0), 1, 8) := by kernel_rfl
theorem elZ9_flat (l : List Int) : elZ9.flat l = l.map (Value.int .i64) := by
  induction l with
  | nil => rfl
  | cons a l ih => rw [El.flat_cons, ih]; rfl

set_option maxRecDepth 100000 in
set_option maxHeartbeats 4000000 in
theorem iinsert_none (A : Option Addr) (c : Nat) (w : World) :
    Calls Tryz.prog 133 #[.slice A 0 c, .int .i64 0, .int .i64 0] w fun e w' => e = .returned (.tuple #[]) ∧ w' = w := by
  go_enter Tryz.func133, Tryz.ntmps133
  go_wp2
  refine wp_loop_rounds 1 ?_
  rw [rounds_succ]
  go_wp2
  first
    | go_end0
    | refine bodyPost_ret (results_none rfl _ _ _) rfl ?_
  exact ⟨rfl, rfl⟩

set_option maxRecDepth 100000 in
set_option maxHeartbeats 4000000 in
theorem ipdq_none (A : Option Addr) (c : Nat) (z : Int) (w : World) :
    Calls Tryz.prog 127 #[.slice A 0 c, .int .i64 0, .int .i64 0, .int .i64 z] w fun e w' => e = .returned (.tuple #[]) ∧ w' = w := by
  have hI := iinsert_none A c
  go_enter Tryz.func127, Tryz.ntmps127
  go_wp2
  refine wp_loop_rounds 1 ?_
  rw [rounds_succ]
  go_wp2_with fail
  refine (hI _).mono ?_
  rintro e w1 ⟨rfl, rfl⟩
  go_wp2
  first
    | go_end0
    | refine bodyPost_ret (results_none rfl _ _ _) rfl ?_
  exact ⟨rfl, rfl⟩

set_option maxRecDepth 100000 in
set_option maxHeartbeats 4000000 in
theorem isort_none (A : Option Addr) (c : Nat) (w : World) :
    Calls Tryz.prog 111 #[.slice A 0 c] w fun e w' => e = .returned (.tuple #[]) ∧ w' = w := by
  have hP := fun z w => ipdq_none A c z w
  have hB := Tryz.bits_Len 0 w (by omega) (by omega)
  go_enter Tryz.func111, Tryz.ntmps111
  go_wp2_with fail
  refine hB.mono ?_
  rintro e w1 ⟨rfl, rfl⟩
  go_wp2_with fail
  refine (hP _ _).mono ?_
  rintro e w2 ⟨rfl, rfl⟩
  go_wp2
  first
    | go_end0
    | refine bodyPost_ret (results_none rfl _ _ _) rfl ?_
  exact ⟨rfl, rfl⟩

theorem isort_any {w : World} {base : Nat} {A : Option Addr} {n c : Nat} {zs : List Int} (h : OE elZ9 w base 2 A n c zs) (hn : n < 4611686018427387904) :
    Calls Tryz.prog 111 #[.slice A n c] w fun e w' => e = .returned (.tuple #[]) ∧ (∃ ys : List Int, OE elZ9 w' base 2 A n c ys) ∧ Chg (fun k => ∃ ad, A = some ad ∧ k = ad.block) w w' := by
  have hl : zs.length = n := h.len (by decide)
  subst hl
  rcases h.2 with ⟨e, h3⟩ | ⟨g, cap, cur, e, hb, hg, h3, h4, h5, h6⟩
  · have h3' : zs.length = 0 := h3
    rw [h3'] at h ⊢
    refine (isort_none A c w).mono ?_
    rintro e w' ⟨rfl, rfl⟩
    exact ⟨rfl, ⟨zs, h⟩, Chg.refl _ _⟩
  · injection e with e1 e2 e3
    subst e1; subst e3
    have h6' : cur.toList.take zs.length = zs.map (Value.int .i64) := by
      rw [← elZ9_flat, ← h6]
      show _ = cur.toList.take (zs.length * 1)
      rw [Nat.mul_one]
    have hH : Holds (Value.int .i64) w g 0 zs.toArray := holds_of_blockI hg h6'
    refine (AnyG.slices_Sort_int Tryz.sortI g 0 c zs w hH (Array.getElem?_eq_some_iff.1 hg).1 hn).mono ?_
    rintro e w' ⟨rfl, k, os, rfl⟩
    refine ⟨rfl, ⟨zs.mergeSort fun x y => decide (x ≤ y), ?_⟩, (Chg.of_grownBy (grownBy_sortedI (n := k) (os := os) _)).mono fun j _ hj => ⟨⟨g, 0, none⟩, rfl, by simpa using hj⟩⟩
    have := ownsRow_sortedI (n := k) (os := os) (base := base) (g := g) (cap := c) (e := 2) (cur := cur) (ss := zs) (ts := zs.mergeSort fun x y => decide (x ≤ y)) (by simp) hb hg h3 h4 h5
    unfold OE Own
    rw [elZ9_flat]
    exact this

set_option maxRecDepth 100000 in
set_option maxHeartbeats 4000000 in
theorem ifloor_any (a : Int) (w : World) :
    Calls Tryz.prog 110 #[.int .i64 a, .int .i64 21600] w fun e w' => (∃ q : Int, e = .returned (.int .i64 q)) ∧ w' = w := by
  by_cases h : a.tmod 21600 < 0
  · go_enter Tryz.func110, Tryz.ntmps110
    go_wp2
    go_ret
    exact ⟨⟨_, rfl⟩, rfl⟩
  · go_enter Tryz.func110, Tryz.ntmps110
    go_wp2
    go_ret
    exact ⟨⟨_, rfl⟩, rfl⟩
end Go.Proofs.YtjoaonppaokhhaaGreat

namespace Go.Proofs.YtjoaonppaokhhaaGreat
open Go.RowKit

set_option maxRecDepth 100000 in
set_option maxHeartbeats 8000000 in
theorem place_any (x : MtM) (now : Int) (gn : Nat) (w : World) (hn : w.cell? ⟨gn, 0, none⟩ = some (.int .i64 now)) (_hl : gn < w.heap.size) :
    Calls Tryz.prog 109 #[.agg #[.int .u64 (x.m.id : Int), .int .i64 x.m.lo, .int .i64 x.m.hi, .int .i64 x.m.lv, .slice x.A x.n x.c, .int .i64 x.m.sr, .int .i64 x.m.pt], .pointer (some ⟨gn, 0, none⟩)] w fun e w' => (∃ (q : Int) (b : Bool), e = .returned (.tuple #[.int .i64 q, .bool b])) ∧ Grew w w' := by
  have gA : Grew w (w.alloc (.cells #[.int .u64 (x.m.id : Int), .int .i64 x.m.lo, .int .i64 x.m.hi, .int .i64 x.m.lv, .slice x.A x.n x.c, .int .i64 x.m.sr, .int .i64 x.m.pt] 28)) := (Chg.refl _ w).alloc _
  have bA : Blk (w.alloc (.cells #[.int .u64 (x.m.id : Int), .int .i64 x.m.lo, .int .i64 x.m.hi, .int .i64 x.m.lv, .slice x.A x.n x.c, .int .i64 x.m.sr, .int .i64 x.m.pt] 28)) w.heap.size 28 #[.int .u64 (x.m.id : Int), .int .i64 x.m.lo, .int .i64 x.m.hi, .int .i64 x.m.lv, .slice x.A x.n x.c, .int .i64 x.m.sr, .int .i64 x.m.pt] := Blk.new _ _ _
  have n0 := gA.cell hn (fun e => e)
  obtain ⟨W, hW⟩ : ∃ W, W = w.alloc (.cells #[.int .u64 (x.m.id : Int), .int .i64 x.m.lo, .int .i64 x.m.hi, .int .i64 x.m.lv, .slice x.A x.n x.c, .int .i64 x.m.sr, .int .i64 x.m.pt] 28) := ⟨_, rfl⟩
  rw [← hW] at gA bA n0
  have a1 := bA.cell 1
  have a2 := bA.cell 2
  have a3 := bA.cell 3
  simp only [List.getElem?_toArray, List.getElem?_cons_succ, List.getElem?_cons_zero] at a1 a2 a3
  have hF := fun a w => ifloor_any a w
  clear hn
  by_cases hlv : x.m.lv < 2
  · go_enter Tryz.func109, Tryz.ntmps109
    go_wp2_with fail
    rw [← hW]
    clear hW
    refine (hF _ _).mono ?_
    rintro e w1 ⟨⟨q1, rfl⟩, rfl⟩
    go_wp2_with fail
    refine (hF _ _).mono ?_
    rintro e w2 ⟨⟨q2, rfl⟩, rfl⟩
    by_cases hq : q1 = q2
    · have hqb : (q1 == q2) = true := by simp [hq]
      replace hq := Lib.hid hq
      go_wp2_with fail
      refine (hF _ _).mono ?_
      rintro e w3 ⟨⟨q3, rfl⟩, rfl⟩
      go_wp2_with fail
      go_ret2
      exact ⟨⟨_, _, rfl⟩, gA⟩
    · have hqb : (q1 == q2) = false := by simp [hq]
      replace hq := Lib.hid hq
      go_wp2_with fail
      go_ret2
      exact ⟨⟨_, _, rfl⟩, gA⟩
  · go_enter Tryz.func109, Tryz.ntmps109
    go_wp2_with fail
    rw [← hW]
    clear hW
    refine (hF _ _).mono ?_
    rintro e w1 ⟨⟨q1, rfl⟩, rfl⟩
    go_wp2_with fail
    go_ret2
    first
      | exact ⟨⟨_, .inl rfl⟩, gA⟩
      | exact ⟨⟨_, .inr rfl⟩, gA⟩
end Go.Proofs.YtjoaonppaokhhaaGreat

namespace Go.Proofs.YtjoaonppaokhhaaGreat
open Go.RowKit

/-- what is gathered up to place k -/
structure Gtl (d : Array MtM) (n k : Nat) (P : List Nat) : Prop where
  gat : Gat n P
  lt : ∀ p ∈ P, p < k
  len : (allOf (metP d P)).length ≤ 64
theorem Gtl.skip {d : Array MtM} {n k : Nat} {P : List Nat} (h : Gtl d n k P) : Gtl d n (k + 1) P := ⟨h.gat, fun p hp => Nat.lt_succ_of_lt (h.lt p hp), h.len⟩
theorem Gtl.add {d : Array MtM} {n k : Nat} {P : List Nat} (h : Gtl d n k P) (hk : k < n) : Gtl d n (k + 1) (addP d P k) := by
  cases hf : fitB (metP d P) (d[k]!).m
  · have e : addP d P k = P := by unfold addP; rw [hf]; rfl
    rw [e]
    exact h.skip
  · have e : addP d P k = P ++ [k] := by unfold addP; rw [hf]; rfl
    rw [e]
    refine ⟨⟨?_, fun p hp => ?_⟩, fun p hp => ?_, ?_⟩
    · rw [List.nodup_append]
      refine ⟨h.gat.nd, by simp, fun x hx y hy exy => ?_⟩
      rw [List.mem_singleton] at hy
      rw [hy] at exy
      rw [exy] at hx
      have := h.lt k hx
      omega
    · rcases List.mem_append.1 hp with h1 | h1
      · exact h.gat.lt p h1
      · rw [List.mem_singleton.1 h1]; exact hk
    · rcases List.mem_append.1 hp with h1 | h1
      · exact Nat.lt_succ_of_lt (h.lt p h1)
      · rw [List.mem_singleton.1 h1]; exact Nat.lt_succ_self k
    · rw [metP_snoc]
      exact of_decide_eq_true hf

set_option maxRecDepth 100000 in
set_option maxHeartbeats 8000000 in
theorem lev2_any (w0 : World) (gm gp gz gn gb o C n : Nat) (now z : Int) (d : Array MtM) (ho : o = 0) (hr : PlR w0 gb n C d) (bm : Blk w0 gm 54 #[.slice (some ⟨gb, o, none⟩) n C]) (bp : Blk w0 gp 129 #[.func (.func 109) #[] #[.pointer (some ⟨gn, 0, none⟩)]]) (bz : Blk w0 gz 2 #[.int .i64 z]) (bn : Blk w0 gn 2 #[.int .i64 now]) (W : World) (g : Nat) (hW : Grew w0 W) (hg : w0.heap.size ≤ g) (hL : Lst W g [] []) :
    Calls Tryz.prog 112 #[.func (.func 106) #[.pointer (some ⟨g, 0, none⟩)] #[], .pointer (some ⟨gm, 0, none⟩), .pointer (some ⟨gp, 0, none⟩), .pointer (some ⟨gz, 0, none⟩)] W fun e w' =>
      e = .returned (.tuple #[]) ∧ (∃ P, Gtl d n n P ∧ Lst w' g ((metP d P).map Met.id) (allOf (metP d P))) ∧ Chg (fun k => g ≤ k) W w' := by
  obtain ⟨G, hG⟩ : ∃ G : Nat → MtM, ∀ k, G k = d[k]! := ⟨fun k => d[k]!, fun _ => rfl⟩
  have hsz := hr.size
  have hn3 := hr.sz
  have hP0 : Hid (Gtl d n 0 []) := ⟨⟨List.nodup_nil, fun p hp => absurd hp (List.not_mem_nil)⟩, fun p hp => absurd hp (List.not_mem_nil), Nat.zero_le _⟩
  replace hG := Lib.hid hG
  replace ho := Lib.hid ho
  replace hsz := Lib.hid hsz
  replace hL := Lib.hid hL
  have b0 : W.cell? ⟨gm, 0, none⟩ = some (.slice (some ⟨gb, o, none⟩) n C) := (bm.grew hW).cell 0
  go_enter Tryz.func112, Tryz.ntmps112
  go_wp2
  clear b0
  go_loopw [11] (fun i wr => ∃ (k : Nat) (P : List Nat), k ≤ n ∧ i = .int .i64 (k : Int) ∧ Gtl d n k P ∧ Lst wr g ((metP d P).map Met.id) (allOf (metP d P)) ∧ Chg (fun k => g ≤ k) W wr) (fun i _ => n - (intOf i).toNat)
  case atStart => exact ⟨0, [], Nat.zero_le _, rfl, hP0.out, hL.out, Chg.refl _ _⟩
  case round =>
    clear hL hP0
    obtain ⟨k, P, hk, rfl, hP, hLk, hc⟩ := hrel
    replace hP := Lib.hid hP
    by_cases hlt : k < n
    · have hltz : (k : Int) < (n : Int) := by omega
      have h1 : Grew w0 wr := hW.step hc fun k hk e => by omega
      have p0 : wr.cell? ⟨gp, 0, none⟩ = some (.func (.func 109) #[] #[.pointer (some ⟨gn, 0, none⟩)]) := (bp.grew h1).cell 0
      have z0 : wr.cell? ⟨gz, 0, none⟩ = some (.int .i64 z) := (bz.grew h1).cell 0
      have lp := (bp.grew h1).lt
      have lz := (bz.grew h1).lt
      have lb := (hr.grew h1).lt
      obtain ⟨c0, c1, c2, c3, c4, c5, c6, _⟩ := (hr.grew h1).fam ho.out (by omega) G hG.out
      have y0 := c0 k (by omega)
      have y1 := c1 k (by omega)
      have y2 := c2 k (by omega)
      have y3 := c3 k (by omega)
      have y4 := c4 k (by omega)
      have y5 := c5 k (by omega)
      have y6 := c6 k (by omega)
      clear c0 c1 c2 c3 c4 c5 c6
      have gB : Grew wr (wr.alloc (.cells #[.int .u64 ((G k).m.id : Int), .int .i64 (G k).m.lo, .int .i64 (G k).m.hi, .int .i64 (G k).m.lv, .slice (G k).A (G k).n (G k).c, .int .i64 (G k).m.sr, .int .i64 (G k).m.pt] 28)) := (Chg.refl _ wr).alloc _
      have hQ := place_any (G k) now gn _ ((bn.grew (h1.trans gB)).cell 0) (bn.grew (h1.trans gB)).lt
      have bc0 : Blk (wr.alloc (.cells #[.int .u64 ((G k).m.id : Int), .int .i64 (G k).m.lo, .int .i64 (G k).m.hi, .int .i64 (G k).m.lv, .slice (G k).A (G k).n (G k).c, .int .i64 (G k).m.sr, .int .i64 (G k).m.pt] 28)) wr.heap.size 28 #[.int .u64 ((G k).m.id : Int), .int .i64 (G k).m.lo, .int .i64 (G k).m.hi, .int .i64 (G k).m.lv, .slice (G k).A (G k).n (G k).c, .int .i64 (G k).m.sr, .int .i64 (G k).m.pt] := Blk.new _ _ _
      go_wp2_with fail
      refine hQ.mono ?_
      rintro e w2 ⟨⟨q, b, rfl⟩, g2⟩
      have gA : Grew wr w2 := gB.trans g2
      have bc := bc0.grew g2
      have h2 := h1.trans gA
      have hc2 := hc.grow gA
      clear p0 z0 lp lz lb y0 y1 y2 y3 y4 y5 y6 hQ gB bc0 g2 hc
      have z0 : w2.cell? ⟨gz, 0, none⟩ = some (.int .i64 z) := (bz.grew h2).cell 0
      cases b
      · clear z0
        have hN := Lib.hid (hP.out.skip)
        have hLn := Lib.hid (hLk.grew gA)
        clear hLk bc
        go_wp2
        go_roundw
        case rel => exact ⟨k + 1, P, by omega, by go_num, hN.out, hLn.out, hc2⟩
        case measure => simp [intOf]; omega
      · by_cases hqz : q = z
        · have hqb : (q == z) = true := by simp [hqz]
          replace hqz := Lib.hid hqz
          have hN := Lib.hid (hP.out.add hlt)
          have k0 := bc.cell 0
          have k1 := bc.cell 1
          have k2 := bc.cell 2
          have k3 := bc.cell 3
          have k4 := bc.cell 4
          have k5 := bc.cell 5
          have k6 := bc.cell 6
          simp only [List.getElem?_toArray, List.getElem?_cons_succ, List.getElem?_cons_zero] at k0 k1 k2 k3 k4 k5 k6
          have hA2 := ladd_u g (metP d P) (G k) w2 (hLk.grew gA) (by rw [hG.out]; exact (hr.grew h2).el _ (mem_getU (by rw [hsz.out]; exact hlt))) (by unfold metP; rw [List.length_map]; have := hP.out.gat.len; omega) hP.out.len (by rw [hG.out]; exact hr.src _ (mem_getU (by rw [hsz.out]; exact hlt)))
          rw [hG.out k, ← metP_addP, ← hG.out k] at hA2
          clear hLk bc
          go_wp2_with fail
          refine hA2.mono ?_
          rintro e w3 ⟨rfl, hL3, ch3⟩
          replace hL3 := Lib.hid hL3
          have hc3 := hc2.trans ch3
          clear hA2 k0 k1 k2 k3 k4 k5 k6 ch3
          go_wp2
          go_roundw
          case rel => exact ⟨k + 1, addP d P k, by omega, by go_num, hN.out, hL3.out, hc3⟩
          case measure => simp [intOf]; omega
        · have hqb : (q == z) = false := by simp [hqz]
          replace hqz := Lib.hid hqz
          have hN := Lib.hid (hP.out.skip)
          have hLn := Lib.hid (hLk.grew gA)
          clear hLk bc
          go_wp2
          go_roundw
          case rel => exact ⟨k + 1, P, by omega, by go_num, hN.out, hLn.out, hc2⟩
          case measure => simp [intOf]; omega
    · have hltz : ¬ ((k : Int) < (n : Int)) := by omega
      have hPn : Hid (Gtl d n n P) := by
        have e : k = n := by omega
        have h9 := hP.out
        rw [e] at h9
        exact h9
      replace hLk := Lib.hid hLk
      go_wp2
      first
        | go_end0
        | refine bodyPost_ret (results_none rfl _ _ _) rfl ?_
      exact ⟨rfl, ⟨P, hPn.out, hLk.out⟩, hc⟩
end Go.Proofs.YtjoaonppaokhhaaGreat
