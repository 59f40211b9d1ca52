/-
  Several texts in one:
  Rows of IDs, metas, indexes that are alike are said to be; the statements' own index. Conditions: lengths that a slice has.
  (slices.Delete) of one entry, (index.Remove) walked. Conditions: lengths that a slice has.
  (index.Remove) walked. Conditions: lengths that a slice has.
-/
import Derived.Test.YtjoaonppaokhhaaGreatPart24

namespace Go.Proofs.YtjoaonppaokhhaaGreat
open Go.RowKit

set_option maxRecDepth 100000 in
set_option maxHeartbeats 4000000 in
theorem sameIds_eq (A B : Option Addr) (n c d : Nat) (l : List Nat) (w : World) (h : RE elU w A n l) (h2 : RE elU w B n l) (hn : n ≤ 9223372036854775807) :
    Calls Tryz.prog 46 #[.slice A n c, .slice B n d] w fun e w' => e = .returned (.bool true) ∧ Grew w w' := by
  go_enter Tryz.func46, Tryz.ntmps46
  go_wp2
  go_loopw [5] (fun i wr => ∃ k : Nat, k ≤ n ∧ i = .int .i64 (k : Int) ∧ Grew w wr) (fun i _ => n - (intOf i).toNat)
  case atStart => exact ⟨0, by omega, rfl, Chg.refl _ _⟩
  case round =>
    obtain ⟨k, hk, rfl, hg⟩ := hrel
    by_cases hlt : k < n
    · obtain ⟨ad, x, rfl, hx, x0⟩ := (h.grew hg).uat hlt
      obtain ⟨bd, y, rfl, hy, y0⟩ := (h2.grew hg).uat hlt
      rw [hx] at hy
      injection hy with hy
      subst hy
      clear hx
      go_wp2_with fail
      refine wp_region_text [(22, 1), (3, 1)] (by kernel_rfl) (by kernel_rfl) ?_
      simp only [instr, chk, look, Nat.reduceBEq, Bool.false_eq_true, if_true, if_false, Nat.reduceEqDiff, List.cons_append, List.nil_append]
      go_wp2_with fail
      refine OnlyN.normal ?_
      go_wp2
      go_roundw
      case rel => exact ⟨k + 1, by omega, by go_num, hg.drew⟩
      case measure => simp [intOf]; omega
    · obtain rfl : k = n := by omega
      go_wp2
      go_ret
      exact ⟨rfl, hg⟩

set_option maxRecDepth 100000 in
set_option maxHeartbeats 4000000 in
theorem sameMeta_eq (m : Met) (A B : Option Addr) (n c d : Nat) (w : World) (h : RE elU w A n m.src) (h2 : RE elU w B n m.src) (hn : n ≤ 9223372036854775807) :
    Calls Tryz.prog 47 #[.agg #[.int .u64 (m.id : Int), .int .i64 m.lo, .int .i64 m.hi, .int .i64 m.lv, .slice A n c, .int .i64 m.sr, .int .i64 m.pt],
      .agg #[.int .u64 (m.id : Int), .int .i64 m.lo, .int .i64 m.hi, .int .i64 m.lv, .slice B n d, .int .i64 m.sr, .int .i64 m.pt]] w fun e w' => e = .returned (.bool true) ∧ Grew w w' := by
  have hgW : Grew w ((w.alloc (.cells #[.int .u64 (m.id : Int), .int .i64 m.lo, .int .i64 m.hi, .int .i64 m.lv, .slice A n c, .int .i64 m.sr, .int .i64 m.pt] 28)).alloc (.cells #[.int .u64 (m.id : Int), .int .i64 m.lo, .int .i64 m.hi, .int .i64 m.lv, .slice B n d, .int .i64 m.sr, .int .i64 m.pt] 28)) := ((Chg.refl _ w).alloc _).alloc _
  have hS := sameIds_eq A B n c d m.src _ (h.grew hgW) (h2.grew hgW) hn
  have hb1 := (Blk.new w 28 #[.int .u64 (m.id : Int), .int .i64 m.lo, .int .i64 m.hi, .int .i64 m.lv, .slice A n c, .int .i64 m.sr, .int .i64 m.pt]).alloc (.cells #[.int .u64 (m.id : Int), .int .i64 m.lo, .int .i64 m.hi, .int .i64 m.lv, .slice B n d, .int .i64 m.sr, .int .i64 m.pt] 28)
  have hb2 := Blk.new (w.alloc (.cells #[.int .u64 (m.id : Int), .int .i64 m.lo, .int .i64 m.hi, .int .i64 m.lv, .slice A n c, .int .i64 m.sr, .int .i64 m.pt] 28)) 28 #[.int .u64 (m.id : Int), .int .i64 m.lo, .int .i64 m.hi, .int .i64 m.lv, .slice B n d, .int .i64 m.sr, .int .i64 m.pt]
  rw [World.size_alloc] at hb2
  go_enter Tryz.func47, Tryz.ntmps47
  go_wp2_with fail
  refine hS.mono ?_
  rintro e w1 ⟨rfl, hg1⟩
  have p5 := (hb1.grew hg1).cell 5
  have p6 := (hb1.grew hg1).cell 6
  have q5 := (hb2.grew hg1).cell 5
  have q6 := (hb2.grew hg1).cell 6
  simp only [List.getElem?_toArray, List.getElem?_cons_succ, List.getElem?_cons_zero] at p5 p6 q5 q6
  clear hS hb1 hb2
  go_wp2
  go_ret
  exact ⟨by simp, hgW.trans hg1⟩

set_option maxRecDepth 100000 in
set_option maxHeartbeats 8000000 in
theorem sameIndex_eq (v : Nat) (fl : Int) (A B : Option Addr) (n c d : Nat) (es : List Ent) (w : World) (h : RX w A n es) (h2 : RX w B n es) (hn : n ≤ 9223372036854775807) :
    Calls Tryz.prog 15 #[.agg #[.int .u64 (v : Int), .int .i64 fl, .slice A n c], .agg #[.int .u64 (v : Int), .int .i64 fl, .slice B n d]] w fun e w' => e = .returned (.bool true) ∧ Grew w w' := by
  go_enter Tryz.func15, Tryz.ntmps15
  go_wp2
  go_loopw [5] (fun i wr => ∃ k : Nat, k ≤ n ∧ i = .int .i64 (k : Int) ∧ Blk wr w.heap.size 25 #[.int .u64 (v : Int), .int .i64 fl, .slice A n c] ∧ Blk wr (w.heap.size + 1) 25 #[.int .u64 (v : Int), .int .i64 fl, .slice B n d] ∧ Grew w wr) (fun i _ => n - (intOf i).toNat)
  case atStart => exact ⟨0, by omega, rfl, (Blk.new w _ _).alloc _, by have := Blk.new (w.alloc (.cells #[.int .u64 (v : Int), .int .i64 fl, .slice A n c] 25)) 25 #[.int .u64 (v : Int), .int .i64 fl, .slice B n d]; simpa using this, ((Chg.refl _ w).alloc _).alloc _⟩
  case round =>
    obtain ⟨k, hk, rfl, hb1, hb2, hg⟩ := hrel
    have p2 := hb1.cell 2
    have q2 := hb2.cell 2
    simp only [List.getElem?_toArray, List.getElem?_cons_succ, List.getElem?_cons_zero] at p2 q2
    by_cases hlt : k < n
    · obtain ⟨ad, m, rfl, hx, hm, x0, x1, x2, x3, x4, x5, x6, x7, x8⟩ := (h.grew hg).at_ hlt
      obtain ⟨bd, m2, rfl, hy, hm2, y0, y1, y2, y3, y4, y5, y6, y7, y8⟩ := (h2.grew hg).at_ hlt
      rw [hx] at hy
      injection hy with hy
      rw [← hy] at y0 y1 y2 y3 y5 y6 y7 y8
      have hmn : m2.n = m.n := by rw [← hm.row.1, ← hm2.row.1, hy]
      rw [hmn] at y4
      have hr2 := hm2.row
      rw [← hy, hmn] at hr2
      have hS := fun W1 (hW1 : Grew wr W1) => sameMeta_eq m.e.m m.A m2.A m.n m.c m2.c W1 (hm.row.grew hW1) (hr2.grew hW1) (by have := hm.cap; omega)
      replace hS := Lib.hid hS
      clear hx hy hmn
      go_wp2_with fail
      refine wp_region_text [(3, 1), (2, 1)] (by kernel_rfl) (by kernel_rfl) ?_
      simp only [instr, chk, look, Nat.reduceBEq, Bool.false_eq_true, if_true, if_false, Nat.reduceEqDiff, List.cons_append, List.nil_append]
      go_wp2_with fail
      refine (hS.out _ (Chg.refl _ wr).drew).mono ?_
      rintro e w1 ⟨rfl, hg1⟩
      have hgw : Grew wr w1 := (Chg.refl _ wr).drew.trans hg1
      have hb1' := hb1.grew hgw
      have hb2' := hb2.grew hgw
      have p2' := hb1'.cell 2
      have q2' := hb2'.cell 2
      simp only [List.getElem?_toArray, List.getElem?_cons_succ, List.getElem?_cons_zero] at p2' q2'
      have x7' := hgw.cell x7 (fun e => e)
      have x8' := hgw.cell x8 (fun e => e)
      have y7' := hgw.cell y7 (fun e => e)
      have y8' := hgw.cell y8 (fun e => e)
      clear hS x0 x1 x2 x3 x4 x5 x6 x7 x8 y0 y1 y2 y3 y4 y5 y6 y7 y8 p2 q2
      go_wp2_with fail
      refine OnlyN.normal ?_
      go_wp2
      go_roundw
      case rel => exact ⟨k + 1, by omega, by go_num, hb1', hb2', hg.trans hgw⟩
      case measure => simp [intOf]; omega
    · obtain rfl : k = n := by omega
      go_wp2
      go_ret
      exact ⟨rfl, hg⟩
end Go.Proofs.YtjoaonppaokhhaaGreat

namespace Go.Proofs.YtjoaonppaokhhaaGreat
open Go.RowKit

theorem run_app_in {P : Program} (w : World) (t ty e : TypeId) (i : TypeInfo) (sz : Nat) (ht : P.underlying t = some (.slice e)) (hi : P.info? e = some i) (hsize : i.size = sz) (g n c : Nat) (cur : Array Value) (hg : Blk w g e cur)
    (B : Option Addr) (m d : Nat) (news : List Value) (hl : news.length = m * sz) (hr : Rd w B news) (h1 : ∀ u ∈ news, u.oneCell' = true) (hroom : n + m ≤ c) (hfit : n * sz + news.length ≤ cur.size) :
    (Builtin.append_ #[t, t] ty #[.slice (some ⟨g, 0, none⟩) n c, .slice B m d]).run P w = .ok (.slice (some ⟨g, 0, none⟩) (n + m) c) (w.setRow g (cur.toList.take (n * sz) ++ news ++ cur.toList.drop (n * sz + news.length)).toArray) := by
  subst hsize
  have hf := firstCells_rd (P := P) w i.size m d B news hl hr
  have hst := run_storeCells_at P g (n * i.size) e news 0 cur w hg (by simpa using hfit) h1
  simp only [Nat.add_zero] at hst
  simp [Builtin.append_, run_underlying ht, sizeOf, typeInfo, hi, Builtin.lenOf, hroom, hf, Addr.add_lit, hst]
theorem run_clearE {P : Program} (w : World) (t ty e : TypeId) (i : TypeInfo) (z : Value) (ht : P.underlying t = some (.slice e)) (hi : P.info? e = some i) (hz : i.zero = some z) (g o n c : Nat) (hn : 0 < n) (cur : Array Value) (hg : Blk w g e cur)
    (hfit : o + (Builtin.zeroCells z.cells n).toList.length ≤ cur.size) (h1 : ∀ u ∈ (Builtin.zeroCells z.cells n).toList, u.oneCell' = true) :
    (Builtin.clear_ #[t] ty #[.slice (some ⟨g, o, none⟩) n c]).run P w = .ok (.tuple #[]) (w.setRow g (cur.toList.take o ++ (Builtin.zeroCells z.cells n).toList ++ cur.toList.drop (o + (Builtin.zeroCells z.cells n).toList.length)).toArray) := by
  have hst := run_storeCells_at P g o e (Builtin.zeroCells z.cells n).toList 0 cur w hg (by simpa using hfit) h1
  simp only [Nat.add_zero] at hst
  obtain ⟨k, rfl⟩ : ∃ k, n = k + 1 := ⟨n - 1, by omega⟩
  simp [Builtin.clear_, run_underlying ht, zeroValue, typeInfo, hi, hz] at hst ⊢
  simp [hst]
theorem wpList_clear_run {P : Program} (w : World) {ops : Array Oper} {rest : List Oper} {o : Oper} {a : Act} {Q : Exit → Act → World → Prop} (hgd : o.guard = none) (d : Operand) (t : TypeId)
    (ho : o.op = .call { callee := .builtin .clear, args := #[d], argTypes := #[t] }) (v : Value) (hd : a.eval d = v) {v' : Value} {w' : World}
    (hr : (Builtin.clear_ #[t] o.type #[v]).run P w = .ok v' w') (h : wpList P ops Q rest (a.put o.dst v') w') : wpList P ops Q (o :: rest) a w :=
  wpList_plain hgd fun _ hK => by
    unfold Oper.wp execOp
    simp only [ho, resolve, invoke, builtin, Sem.run_bind, Sem.run_pure, Result.andThen_ok, List.map_toArray, List.map_cons, List.map_nil, hd, hr]
    exact hK _ _ h

/-- what a delete leaves -/
def Deld (w : World) (base g p c : Nat) (ms : List EnM) (e : Ending) (w' : World) : Prop :=
  e = .returned (.slice (some ⟨g, 0, none⟩) p c) ∧ OE elEn w' base 51 (some ⟨g, 0, none⟩) p c ms ∧ Chg (fun k => k = g) w w'

set_option maxRecDepth 100000 in
set_option maxHeartbeats 4000000 in
theorem delete_any (g p c base k : Nat) (ms : List EnM) (w : World) (h : OE elEn w base 51 (some ⟨g, 0, none⟩) (p + 1) c ms) (hn : p ≤ 1073741824) (hk : k ≤ p) :
    Calls Tryz.prog 43 #[.slice (some ⟨g, 0, none⟩) (p + 1) c, .int .i64 (k : Int), .int .i64 ((k : Int) + 1)] w (Deld w base g p c (ms.take k ++ ms.drop (k + 1))) := by
  have hc := h.cap
  have hrd := h.re (by decide)
  obtain ⟨i0, hi0, hz0, hzs, hzb⟩ := info_parts infoEn
  have hzs9 : i0.size = 9 := hzs
  have hml : ms.length = p + 1 := hrd.1
  obtain ⟨cur, hbase, b0, hcs, htake⟩ : ∃ cur, base ≤ g ∧ Blk w g 51 cur ∧ cur.size = c * 9 ∧ cur.toList.take ((p + 1) * 9) = elEn.flat ms := by
    rcases h.2 with ⟨e, _⟩ | ⟨g', cap, cur, e, hb1, hb2, h3, h4, h5, h6⟩
    · cases e
    · injection e with e1 e2 e3
      injection e1 with e1
      injection e1 with e1 _ _
      subst e1; subst e3
      exact ⟨cur, hb1, hb2, h5, h6⟩
  have hdl : (elEn.flat (ms.drop (k + 1))).length = (p - k) * 9 := by rw [elEn.flat_length, List.length_drop, hml]; show (p + 1 - (k + 1)) * 9 = _; omega
  have hrB : ∀ B : Option Addr, (B = some ⟨g, (k + 1) * 9, none⟩ ∨ p = k) → Rd w.drew B (elEn.flat (ms.drop (k + 1))) := fun B hB => by
    rcases hB with rfl | hB
    · intro j v hj
      obtain ⟨ad, e, h2⟩ := (hrd.drop (k + 1)).2 j v hj
      injection e with e
      subst e
      rw [add_head] at h2
      exact ⟨_, rfl, h2⟩
    · rw [List.drop_of_length_le (by omega)]
      exact Rd.nil _ _
  have hcA : ∀ ty B d, (B = some ⟨g, (k + 1) * 9, none⟩ ∨ p = k) → (Builtin.append_ #[23, 23] ty #[.slice (some ⟨g, 0, none⟩) k c, .slice B (p - k) d]).run Tryz.prog w.drew = _ := fun ty B d hB =>
    run_app_in w.drew 23 ty 51 i0 9 Tryz.underlying23 hi0 hzs9 g k c cur b0 B (p - k) d (elEn.flat (ms.drop (k + 1))) hdl (hrB B hB) (elEn.flat_one' _) (by omega) (by rw [hdl, hcs]; omega)
  obtain ⟨c1, hc1⟩ : ∃ c1, c1 = (cur.toList.take (k * 9) ++ elEn.flat (ms.drop (k + 1)) ++ cur.toList.drop (k * 9 + (elEn.flat (ms.drop (k + 1))).length)) := ⟨_, rfl⟩
  have hc1l : c1.length = c * 9 := by
    rw [hc1]
    simp only [List.length_append, List.length_take, List.length_drop, Array.length_toList, hcs, hdl]
    omega
  rw [← hc1, show k + (p - k) = p by omega] at hcA
  obtain ⟨W1, hW1⟩ : ∃ W1, W1 = w.drew.setRow g c1.toArray := ⟨_, rfl⟩
  have b1 : Blk W1 g 51 c1.toArray := by rw [hW1]; exact Blk.row (w := w.drew) b0 _
  have g1 : Chg (fun k => k = g) w W1 := by rw [hW1]; exact (Chg.refl _ w).drew.step (Chg.row w.drew g _) fun k hk e => e
  rw [← hW1] at hcA
  clear hW1
  have hzl : (Builtin.zeroCells (Value.agg #[.int .u64 0, .int .i64 0, .int .i64 0, .int .i64 0, .slice none 0 0, .int .i64 0, .int .i64 0, .bool false, .int .i64 0]).cells 1).toList.length = 9 := by rw [Array.length_toList, size_zeroCells]; rfl
  have hz1 : ∀ u ∈ (Builtin.zeroCells (Value.agg #[.int .u64 0, .int .i64 0, .int .i64 0, .int .i64 0, .slice none 0 0, .int .i64 0, .int .i64 0, .bool false, .int .i64 0]).cells 1).toList, u.oneCell' = true := by
    intro u hu
    rw [Array.mem_toList_iff] at hu
    unfold Builtin.zeroCells at hu
    obtain ⟨i, hi, rfl⟩ := Array.mem_map.1 hu
    rw [Array.mem_range] at hi
    have hi9 : i < 9 := hi
    clear hu hi
    match i, hi9 with
    | 0, _ => rfl
    | 1, _ => rfl
    | 2, _ => rfl
    | 3, _ => rfl
    | 4, _ => rfl
    | 5, _ => rfl
    | 6, _ => rfl
    | 7, _ => rfl
    | 8, _ => rfl
  have hcB : ∀ ty d, (Builtin.clear_ #[23] ty #[.slice (some ⟨g, p * 9, none⟩) 1 d]).run Tryz.prog W1 = _ := fun ty d =>
    run_clearE W1 23 ty 51 i0 _ Tryz.underlying23 hi0 hz0 g (p * 9) 1 d (by omega) c1.toArray b1 (by rw [hzl, List.size_toArray, hc1l]; omega) hz1
  rw [hzl] at hcB
  generalize (Builtin.zeroCells (Value.agg #[.int .u64 0, .int .i64 0, .int .i64 0, .int .i64 0, .slice none 0 0, .int .i64 0, .int .i64 0, .bool false, .int .i64 0]).cells 1).toList = Z at *
  obtain ⟨c2, hc2⟩ : ∃ c2, c2 = (c1.toArray.toList.take (p * 9) ++ Z ++ c1.toArray.toList.drop (p * 9 + 9)) := ⟨_, rfl⟩
  rw [← hc2] at hcB
  obtain ⟨W3, hW3⟩ : ∃ W3, W3 = W1.setRow g c2.toArray := ⟨_, rfl⟩
  have b3 : Blk W3 g 51 c2.toArray := by rw [hW3]; exact b1.row _
  have g3 : Chg (fun k => k = g) w W3 := by rw [hW3]; exact g1.step (Chg.row W1 g _) fun k hk e => e
  rw [← hW3] at hcB
  clear hW3
  have hfin : OE elEn W3 base 51 (some ⟨g, 0, none⟩) p c (ms.take k ++ ms.drop (k + 1)) := by
    have hpl : (elEn.flat (ms.take k)).length = k * 9 := by rw [elEn.flat_length, List.length_take, Nat.min_eq_left (by omega)]; rfl
    have hpt : cur.toList.take (k * 9) = elEn.flat (ms.take k) := by
      rw [← elEn.flat_take, ← htake]
      show _ = (cur.toList.take ((p + 1) * 9)).take (k * 9)
      rw [List.take_take, Nat.min_eq_left (by omega)]
    have hc2l : c2.length = c * 9 := by
      rw [hc2]
      simp only [List.length_append, List.length_take, List.length_drop, hc1l, hzl]
      omega
    refine ⟨?_, .inr ⟨g, c, c2.toArray, rfl, hbase, b3, by omega, by unfold maxLen; omega, by rw [List.size_toArray, hc2l]; rfl, ?_⟩⟩
    · rw [elEn.flat_length, List.length_append, List.length_take, List.length_drop, hml]
      show (min k (p + 1) + (p + 1 - (k + 1))) * 9 = p * 9
      omega
    · rw [elEn.flat_append]
      show c2.toArray.toList.take (p * 9) = _
      rw [show c2.toArray.toList = c2 by simp, hc2, List.append_assoc, List.take_append_of_le_length (by rw [List.length_take, Array.length_toList, List.size_toArray, hc1l]; omega), List.take_take, Nat.min_self, show c1.toArray.toList = c1 by simp, hc1, hpt, List.take_left' (by rw [List.length_append, hpl, hdl]; omega)]
  replace hfin := Lib.hid hfin
  clear hc1 hc2 b0 b1 b3 hi0 htake hrB hzl
  have hcp : ¬ (c = p) := by omega
  unfold Deld
  by_cases hkp : p = k
  · subst hkp
    rw [show p - p = 0 by omega] at hcA
    replace hcA := fun ty B d => hcA ty B d (.inr rfl)
    by_cases hcp1 : c = p + 1
    · subst hcp1
      go_enter Tryz.func43, Tryz.ntmps43
      go_wp2_with fail
      refine wp_region_text [(3, 1)] (by kernel_rfl) (by kernel_rfl) ?_
      simp only [instr, chk, List.nil_append]
      go_wp2_with (at_builtin; go_loud (refine Lib.wpList_append_run _ rfl _ _ _ _ rfl _ _ rfl rfl _ _ (hcA _ _ _) ?_))
      refine OnlyN.normal ?_
      go_wp2_with (refine wpList_clear_run _ rfl _ _ rfl _ rfl (hcB _ _) ?_)
      go_ret
      exact ⟨rfl, hfin.out, g3⟩
    · go_enter Tryz.func43, Tryz.ntmps43
      go_wp2_with fail
      refine wp_region_text [(3, 1)] (by kernel_rfl) (by kernel_rfl) ?_
      simp only [instr, chk, List.nil_append]
      go_wp2_with (at_builtin; go_loud (refine Lib.wpList_append_run _ rfl _ _ _ _ rfl _ _ rfl rfl _ _ (hcA _ _ _) ?_))
      refine OnlyN.normal ?_
      go_wp2_with (refine wpList_clear_run _ rfl _ _ rfl _ rfl (hcB _ _) ?_)
      go_ret
      exact ⟨rfl, hfin.out, g3⟩
  · have hk1 : ¬ (c = k + 1) := by omega
    go_enter Tryz.func43, Tryz.ntmps43
    go_wp2_with fail
    refine wp_region_text [(3, 1)] (by kernel_rfl) (by kernel_rfl) ?_
    simp only [instr, chk, List.nil_append]
    go_wp2_with (at_builtin; go_loud (refine Lib.wpList_append_run _ rfl _ _ _ _ rfl _ _ rfl rfl _ _ (hcA _ _ _ (.inl rfl)) ?_))
    refine OnlyN.normal ?_
    go_wp2_with (refine wpList_clear_run _ rfl _ _ rfl _ rfl (hcB _ _) ?_)
    go_ret
    exact ⟨rfl, hfin.out, g3⟩
end Go.Proofs.YtjoaonppaokhhaaGreat

namespace Go.Proofs.YtjoaonppaokhhaaGreat
open Go.RowKit

theorem eraseIdx_take_drop {α : Type} : ∀ (l : List α) (k : Nat), l.eraseIdx k = l.take k ++ l.drop (k + 1)
  | [], k => by simp
  | x :: r, 0 => by simp
  | x :: r, k + 1 => by simp [eraseIdx_take_drop r k]
theorem foundI_lt {es : List Ent} {id : Nat} (h : foundI es id = true) : posI es id < es.length := by
  unfold foundI at h
  cases hx : es[posI es id]? with
  | none => rw [hx] at h; cases h
  | some e => exact (List.getElem?_eq_some_iff.1 hx).1

set_option maxRecDepth 100000 in
set_option maxHeartbeats 4000000 in
theorem remove_no (v : Nat) (fl : Int) (A : Option Addr) (n c : Nat) (es : List Ent) (id : Nat) (w : World) (h : RX w A n es) (hn : n ≤ 9223372036854775807) (hck : chkI fl es = false) :
    Calls Tryz.prog 11 #[.agg #[.int .u64 (v : Int), .int .i64 fl, .slice A n c], .int .u64 (id : Int)] w (IxR w 0 0 [] 140) := by
  have h3 := B2.mk2 w v fl A n c
  obtain ⟨W, hW⟩ : ∃ W, W = ((w.alloc (.cells #[.int .u64 (v : Int), .int .i64 fl, .slice A n c] 25)).alloc (.cells #[.int .u64 0, .int .i64 0, .slice none 0 0] 25)) := ⟨_, rfl⟩
  rw [← hW] at h3
  have hC := check_any v fl A n c es W (h.grew h3.gr) hn
  unfold IxR
  rw [hck] at hC
  go_enter Tryz.func11, Tryz.ntmps11
  go_wp2_with fail
  rw [← hW]
  refine hC.mono ?_
  rintro e w1 ⟨rfl, hg1⟩
  unfold errI
  have h4 := h3.grew hg1
  have k0 := h4.br.cell 0
  have k1 := h4.br.cell 1
  have k2 := h4.br.cell 2
  have f0 := h4.br.frozen 0
  have f1 := h4.br.frozen 1
  have f2 := h4.br.frozen 2
  simp only [List.getElem?_toArray, List.getElem?_cons_succ, List.getElem?_cons_zero] at k0 k1 k2
  clear hC hck hW
  go_wp2
  refine bodyPost_ret (v := .tuple #[.agg #[.int .u64 0, .int .i64 0, .slice none 0 0], .int .i64 140]) ?_ rfl ⟨none, 0, rfl, NX.nil _ _, h4.gr.far3 (by omega) _ _ _⟩
  have q := h4.br.put3 (.int .u64 0) (.int .i64 0) (.slice none 0 0)
  have q0 := q.cell 0
  have q1 := q.cell 1
  have q2 := q.cell 2
  simp [results, Tryz.results11, go_sem, q0, q1, q2]

set_option maxRecDepth 100000 in
set_option maxHeartbeats 4000000 in
theorem remove_ok (v : Nat) (fl : Int) (A : Option Addr) (n c : Nat) (es : List Ent) (id : Nat) (w : World) (h : RX w A n es) (hok : IxOk fl es) :
    Calls Tryz.prog 11 #[.agg #[.int .u64 (v : Int), .int .i64 fl, .slice A n c], .int .u64 (id : Int)] w (IxR w v fl (remE es id) 0) := by
  have h3 := B2.mk2 w v fl A n c
  obtain ⟨W, hW⟩ : ∃ W, W = ((w.alloc (.cells #[.int .u64 (v : Int), .int .i64 fl, .slice A n c] 25)).alloc (.cells #[.int .u64 0, .int .i64 0, .slice none 0 0] 25)) := ⟨_, rfl⟩
  rw [← hW] at h3
  have hln : es.length = n := h.len
  have hn : n ≤ 256 := by rw [← hln]; exact hok.len
  have hC := check_any v fl A n c es W (h.grew h3.gr) (by omega)
  rw [(chkI_iff fl es).2 hok] at hC
  replace hln := Lib.hid hln
  obtain ⟨rs, hrs⟩ : ∃ rs, remE es id = rs := ⟨_, rfl⟩
  rw [hrs]
  replace hrs := Lib.hid hrs
  unfold IxR
  go_enter Tryz.func11, Tryz.ntmps11
  go_wp2_with fail
  rw [← hW]
  refine hC.mono ?_
  rintro e w2 ⟨rfl, hg1⟩
  unfold errI
  have h5 := h3.grew hg1
  have i0 := h5.bi.cell 0
  have i1 := h5.bi.cell 1
  have i2 := h5.bi.cell 2
  simp only [List.getElem?_toArray, List.getElem?_cons_succ, List.getElem?_cons_zero] at i0 i1 i2
  clear hC hW
  go_wp2_with fail
  refine (copyI_any v fl A n c es w2 (h.grew h5.gr) hok.fit).mono ?_
  rintro e w3 ⟨B, C, rfl, hx3, hg3⟩
  obtain ⟨w4, hw4⟩ : ∃ w4, w4 = w3.alloc (.cells #[.int .u64 (v : Int), .int .i64 fl, .slice B n C] 25) := ⟨_, rfl⟩
  have hg4 : Grew w3 w4 := by rw [hw4]; exact (Chg.refl _ w3).alloc _
  have bo4 : Blk w4 w3.heap.size 25 #[.int .u64 (v : Int), .int .i64 fl, .slice B n C] := by rw [hw4]; exact Blk.new _ _ _
  have h6 := (h5.grew hg3).grew hg4
  have hsz := h5.gr.size
  have hsz3 := hg3.size
  have hbl := h5.br.lt
  have hx4 := (hx3.mono (base' := w.heap.size) (by omega)).grew hg4
  clear i0 i1 i2
  have i0 := h6.bi.cell 0
  have i1 := h6.bi.cell 1
  have i2 := h6.bi.cell 2
  simp only [List.getElem?_toArray, List.getElem?_cons_succ, List.getElem?_cons_zero] at i0 i1 i2
  rw [hw4] at i0 i1 i2
  go_wp2_with fail
  rw [← hw4]
  refine (find_any v fl A n c es id w4 (h.grew h6.gr) hok.srt (by omega)).mono ?_
  rintro e w5 ⟨rfl, hg5⟩
  obtain ⟨go, hgo⟩ : ∃ go, w3.heap.size = go := ⟨_, rfl⟩
  rw [hgo] at bo4
  have h7 := h6.grew hg5
  have bo5 := bo4.grew hg5
  have hx5 := hx4.grew hg5
  have hrs := hrs.out
  unfold remE at hrs
  rw [hgo]
  have hgo1 : w.heap.size + 1 < go := by omega
  clear hw4 i0 i1 i2 bo4 hx4 hx3 h6 h5 h3 hgo
  cases hf : foundI es id
  · rw [hf, if_neg (by simp)] at hrs
    subst hrs
    have k0 := bo5.cell 0
    have k1 := bo5.cell 1
    have k2 := bo5.cell 2
    have r0 := h7.br.cell 0
    have r1 := h7.br.cell 1
    have r2 := h7.br.cell 2
    have f0 := h7.br.frozen 0
    have f1 := h7.br.frozen 1
    have f2 := h7.br.frozen 2
    simp only [List.getElem?_toArray, List.getElem?_cons_succ, List.getElem?_cons_zero] at k0 k1 k2 r0 r1 r2
    clear hf
    go_wp2
    refine bodyPost_ret (v := .tuple #[.agg #[.int .u64 (v : Int), .int .i64 fl, .slice B n C], .int .i64 0]) ?_ rfl ⟨B, C, by rw [hln.out], ?_, h7.gr.far3 (by omega) _ _ _⟩
    · have q := h7.br.put3 (.int .u64 (v : Int)) (.int .i64 fl) (.slice B n C)
      have q0 := q.cell 0
      have q1 := q.cell 1
      have q2 := q.cell 2
      simp [results, Tryz.results11, go_sem, q0, q1, q2]
    · rw [hln.out]
      exact hx5.far3 h7.br (by decide) (by decide) _ _ _
  · rw [hf, if_pos rfl, eraseIdx_take_drop] at hrs
    have hpos := foundI_lt hf
    rw [hln.out] at hpos
    obtain ⟨ps, hps⟩ : ∃ ps, posI es id = ps := ⟨_, rfl⟩
    rw [hps] at hpos hrs ⊢
    obtain ⟨p, rfl⟩ : ∃ p, n = p + 1 := ⟨n - 1, by omega⟩
    obtain ⟨ms, hxo, hmap⟩ := hx5
    obtain ⟨gB, rfl, hgB, _⟩ := Own.at_ hxo.row (by omega)
    have hD := delete_any gB p C w.heap.size ps ms w5 hxo.row (by omega) (by omega)
    have k2 := bo5.cell 2
    simp only [List.getElem?_toArray, List.getElem?_cons_succ, List.getElem?_cons_zero] at k2
    have hmrs : (ms.take ps ++ ms.drop (ps + 1)).map EnM.e = rs := by rw [← hrs, ← hmap]; simp
    have hlrs : rs.length = p := by rw [← hrs, List.length_append, List.length_take, List.length_drop, hln.out]; omega
    replace hlrs := Lib.hid hlrs
    clear hf hps hrs hmap
    go_wp2_with fail
    refine hD.mono ?_
    rintro e w9 ⟨rfl, ho9, hc9⟩
    have hx9 : NXo w9 w.heap.size (some ⟨gB, 0, none⟩) p C (ms.take ps ++ ms.drop (ps + 1)) := by
      refine ⟨ho9, fun y hy => ?_⟩
      have hy2 : y ∈ ms := by
        rcases List.mem_append.1 hy with hy | hy
        · exact List.mem_of_mem_take hy
        · exact List.mem_of_mem_drop hy
      exact OE.apartT (h := hxo.el y hy2) hxo.row (by decide) (hc9.mono fun k hk e => ⟨_, rfl, e⟩)
    have bo9 : Blk w9 go 25 #[.int .u64 (v : Int), .int .i64 fl, .slice (some ⟨gB, 0, none⟩) (p + 1) C] := bo5.chg hc9 fun e => Own.ne_blk hxo.row bo5 (by decide) ⟨gB, 0, none⟩ rfl e.symm
    have br9 : Blk w9 (w.heap.size + 1) 25 #[.int .u64 0, .int .i64 0, .slice none 0 0] := h7.br.chg hc9 fun e => Own.ne_blk hxo.row h7.br (by decide) ⟨gB, 0, none⟩ rfl e.symm
    have g9 : Grew w w9 := h7.gr.step hc9 fun k hk e => by omega
    have bo10 := bo9.set 2 (.slice (some ⟨gB, 0, none⟩) p C)
    simp only [List.setIfInBounds_toArray, List.set_cons_succ, List.set_cons_zero] at bo10
    have br10 := br9.far (p := ⟨go, 2, none⟩) (by show w.heap.size + 1 ≠ go; omega) (.slice (some ⟨gB, 0, none⟩) p C)
    have hx10 := hx9.farBlk bo9 (by decide) (by decide) 2 (.slice (some ⟨gB, 0, none⟩) p C)
    have g10 : Grew w (w9.setCell ⟨go, 2, none⟩ (.slice (some ⟨gB, 0, none⟩) p C)) := g9.setCell (p := ⟨go, 2, none⟩) (.inl (by show w.heap.size ≤ go; omega)) _
    clear k2
    have k2 := bo9.cell 2
    have kf := bo9.frozen 2
    have l0 := bo10.cell 0
    have l1 := bo10.cell 1
    have l2 := bo10.cell 2
    have r0 := br10.cell 0
    have r1 := br10.cell 1
    have r2 := br10.cell 2
    have f0 := br10.frozen 0
    have f1 := br10.frozen 1
    have f2 := br10.frozen 2
    simp only [List.getElem?_toArray, List.getElem?_cons_succ, List.getElem?_cons_zero] at k2 l0 l1 l2 r0 r1 r2
    clear bo9 hD
    go_wp2
    refine bodyPost_ret (v := .tuple #[.agg #[.int .u64 (v : Int), .int .i64 fl, .slice (some ⟨gB, 0, none⟩) p C], .int .i64 0]) ?_ rfl ⟨some ⟨gB, 0, none⟩, C, by rw [hlrs.out], ?_, g10.far3 (by omega) _ _ _⟩
    · have q := br10.put3 (.int .u64 (v : Int)) (.int .i64 fl) (.slice (some ⟨gB, 0, none⟩) p C)
      have q0 := q.cell 0
      have q1 := q.cell 1
      have q2 := q.cell 2
      simp [results, Tryz.results11, go_sem, q0, q1, q2]
    · have := hx10.nx
      rw [hmrs] at this
      rw [hlrs.out]
      exact this.far3 br10 (by decide) (by decide) _ _ _
end Go.Proofs.YtjoaonppaokhhaaGreat
