/-
  Several texts in one:
  (slices.Insert) at rows of entries, one entry put in. Conditions: a place within the row; lengths that memory bears.
-/
import Derived.Test.YtjoaonppaokhhaaGreatPart13
import Derived.Shelf.Spec.SlicesInsertGrow
import Derived.Laws.CopyRow

namespace Go.Proofs.YtjoaonppaokhhaaGreat
open Go.RowKit

theorem run_copyE {P : Program} (w : World) (dT sT ty elem : TypeId) (g o dLen dCap : Nat) (a : Addr) (sLen sCap : Nat) (cur : Array Value) (t : TypeId) (cs : List Value) (sz m : Nat)
    (hu : P.underlying dT = some (.slice elem)) (hs : (P.info? elem).map (·.size) = some sz) (hg : Blk w g t cur) (hn : Nat.min sLen dLen = m) (hcl : cs.length = m * sz)
    (hsrc : ∀ j v, cs[j]? = some v → w.cell? (a.add j) = some v) (hfit : o + cs.length ≤ cur.size) (h1 : ∀ v ∈ cs, v.oneCell' = true) :
    (Builtin.copy_ #[dT, sT] ty #[.slice (some ⟨g, o, none⟩) dLen dCap, .slice (some a) sLen sCap]).run P w =
      .ok (.int .i64 (m : Int)) (w.setRow g (cur.toList.take o ++ cs ++ cur.toList.drop (o + cs.length)).toArray) := by
  have hl := run_loadCells_list (P := P) w a cs hsrc
  have hst := run_storeCells_at P g o t cs 0 cur w hg (by simpa using hfit) h1
  rw [hcl] at hl
  cases hq : P.info? elem with
  | none => simp [hq] at hs
  | some i =>
    have hi : i.size = sz := by simpa [hq] using hs
    simp [Builtin.copy_, run_underlying hu, Builtin.lenOf, Builtin.firstCells, sizeOf, typeInfo, hq, hi, hn, hl, hst, goInt]
theorem Blk.row {w : World} {g : Nat} {t : TypeId} {cs : Array Value} (h : Blk w g t cs) (xs : Array Value) : Blk (w.setRow g xs) g t xs := setRow_heap w g cs xs t (0, 0) h
theorem Chg.row (w : World) (g : Nat) (xs : Array Value) : Chg (fun k => k = g) w (w.setRow g xs) := ⟨rfl, rfl, rfl, by simp, fun k _ hk => setRow_other w g k xs hk⟩
/-- two copies over a row: first what stands behind, then the one put in -/
theorem two_over (cur p x d z : List Value) {a b : Nat} (ha : a = p.length) (hx : b = x.length) (h : cur.take a = p) (hz : z = (cur.take (a + b) ++ d ++ cur.drop (a + b + d.length))) (hl : a + b ≤ cur.length) :
    (z.take a ++ x ++ z.drop (a + x.length)).take (a + b + d.length) = p ++ x ++ d := by
  subst hz
  have h1 : (cur.take (a + b) ++ d ++ cur.drop (a + b + d.length)).take a = p := by
    rw [List.append_assoc, List.take_append_of_le_length (by rw [List.length_take]; omega), List.take_take, Nat.min_eq_left (by omega), h]
  have h2 : (cur.take (a + b) ++ d ++ cur.drop (a + b + d.length)).drop (a + x.length) = d ++ cur.drop (a + b + d.length) := by
    rw [List.append_assoc, ← hx, List.drop_left' (by rw [List.length_take]; omega)]
  rw [h1, h2, ← List.append_assoc, List.take_left' (by simp only [List.length_append]; omega)]
/-- .. the one put in first -/
theorem two_over2 (cur p x d z : List Value) {a b : Nat} (ha : a = p.length) (hx : b = x.length) (h : cur.take a = p) (hz : z = (cur.take a ++ x ++ cur.drop (a + x.length))) (_hl : a + b ≤ cur.length) :
    (z.take (a + b) ++ d ++ z.drop (a + b + d.length)).take (a + b + d.length) = p ++ x ++ d := by
  subst hz
  have h1 : (cur.take a ++ x ++ cur.drop (a + x.length)).take (a + b) = p ++ x := by
    rw [h, List.take_left' (by simp only [List.length_append]; omega)]
  rw [h1, List.take_left' (by simp only [List.length_append]; omega)]

/-- what an insert leaves -/
def Insd (w : World) (base : Nat) (A : Option Addr) (n : Nat) (ms : List EnM) (e : Ending) (w' : World) : Prop :=
  ∃ A' c', e = .returned (.slice A' (n + 1) c') ∧ OE elEn w' base 51 A' (n + 1) c' ms ∧ Chg (fun k => ∃ ad, A = some ad ∧ k = ad.block) w w'

set_option maxRecDepth 100000 in
set_option maxHeartbeats 4000000 in
theorem insert_end (A : Option Addr) (n c base V : Nat) (ms : List EnM) (x : EnM) (w : World) (h : OE elEn w base 51 A n c ms) (hn : n ≤ 1073741824) (hb : base ≤ w.heap.size) (hv : RE elEn w (some ⟨V, 0, none⟩) 1 [x]) :
    Calls Tryz.prog 42 #[.slice A n c, .int .i64 (n : Int), .slice (some ⟨V, 0, none⟩) 1 1] w (Insd w base A n (ms ++ [x])) := by
  have hc := h.cap
  unfold Insd
  go_enter Tryz.func42, Tryz.ntmps42
  go_wp2_with (at_builtin; go_loud (refine wpList_appE rfl _ _ 23 51 infoEn rfl Tryz.underlying23 rfl base A n c ms rfl h hb _ 1 1 [x] rfl hv (by unfold maxLen; omega) (by omega) ?_); intro B2 C2 w5 h5)
  all_goals
    go_ret
    exact ⟨B2, C2, rfl, h5.oe, h5.chg⟩

set_option maxRecDepth 100000 in
set_option maxHeartbeats 4000000 in
theorem insert_grow (g n c base V i : Nat) (ms : List EnM) (x : EnM) (w : World) (h : OE elEn w base 51 (some ⟨g, 0, none⟩) n c ms) (hn : n ≤ 1073741824) (hb : base ≤ w.heap.size) (hv : RE elEn w (some ⟨V, 0, none⟩) 1 [x]) (hi : i < n) (hroom : c < n + 1) :
    Calls Tryz.prog 42 #[.slice (some ⟨g, 0, none⟩) n c, .int .i64 (i : Int), .slice (some ⟨V, 0, none⟩) 1 1] w (Insd w base (some ⟨g, 0, none⟩) n (ms.take i ++ [x] ++ ms.drop i)) := by
  have hc := h.cap
  have hrd := h.re (by decide)
  have hz2 : ¬ ((i : Int) = (n : Int)) := by omega
  have hz3 : (c : Int) < (n : Int) + 1 := by omega
  obtain ⟨i0, hi0, hz0, hzs, hzb⟩ := info_parts infoEn
  have hsz : (Tryz.prog.info? 51).map (·.size) = some 9 := by rw [hi0]; simp [hzs]
  have hzs9 : i0.size = 9 := hzs
  obtain ⟨p, hp⟩ : ∃ p, p = elEn.flat (ms.take i) := ⟨_, rfl⟩
  have hml : ms.length = n := hrd.1
  have hpl : p.length = i * 9 := by rw [hp, elEn.flat_length, List.length_take, Nat.min_eq_left (by omega)]; rfl
  have hold : (Builtin.firstCells i0.size i (.slice (some ⟨g, 0, none⟩) i c)).run Tryz.prog w.drew = .ok p.toArray w.drew := by
    rw [hzs9, hp]
    exact firstCells_rd w.drew 9 i c _ _ (by rw [elEn.flat_length, List.length_take, Nat.min_eq_left (by omega)]; rfl) (hrd.take (by omega)).2
  obtain ⟨G, hG⟩ : ∃ G, G = grownCap w (n + 1) c 51 := ⟨_, rfl⟩
  have hGn : n + 1 ≤ G := by rw [hG]; exact grownCap_ge w _ _ _
  have hG63 : G ≤ 9223372036854775807 := by
    have := grownCap_le_maxLen w (n + 1) c 51 (by unfold maxLen; omega)
    rw [← hG] at this
    unfold maxLen at this
    omega
  obtain ⟨Z, hZ⟩ : ∃ Z, Z = (Builtin.zeroCells (Value.agg #[.int .u64 0, .int .i64 0, .int .i64 0, .int .i64 0, .slice none 0 0, .int .i64 0, .int .i64 0, .bool false, .int .i64 0]).cells (n + 1 - i) ++ Builtin.zeroCells (Value.agg #[.int .u64 0, .int .i64 0, .int .i64 0, .int .i64 0, .slice none 0 0, .int .i64 0, .int .i64 0, .bool false, .int .i64 0]).cells (G - (n + 1))) := ⟨_, rfl⟩
  have hZs : Z.size = (G - i) * 9 := by
    rw [hZ, Array.size_append, size_zeroCells, size_zeroCells]
    show (n + 1 - i) * 9 + (G - (n + 1)) * 9 = (G - i) * 9
    omega
  have hrz : ∀ ty, (Builtin.append_ #[23, 3] ty #[.slice (some ⟨g, 0, none⟩) i c, .int .i64 ((n : Int) + 1 - (i : Int))]).run Tryz.prog w =
      .ok (.slice (some ⟨w.heap.size, 0, none⟩) (n + 1) G) (w.drew.alloc (.cells (p.toArray ++ Z) 51)) := fun ty => by
    have h1 := Lib.run_append_grow_zeros w 23 3 ty 51 i0 _ .i64 .i64 Tryz.underlying23 Tryz.underlying3 hi0 hz0 (some ⟨g, 0, none⟩) i c p hold (n + 1 - i) (by omega) (by omega) (by omega) (by omega) (by rw [hzb]; omega) (by rw [hzb, show i + (n + 1 - i) = n + 1 by omega]; exact growslice_fits hroom (by omega))
    rw [show i + (n + 1 - i) = n + 1 by omega, ← hG, Array.append_assoc, ← hZ] at h1
    rw [show (n : Int) + 1 - (i : Int) = ((n + 1 - i : Nat) : Int) by omega]
    exact h1
  clear hold hZ hG hz0
  obtain ⟨W1, hW1⟩ : ∃ W1, W1 = w.drew.alloc (.cells (p.toArray ++ Z) 51) := ⟨_, rfl⟩
  have b1 : Blk W1 w.heap.size 51 (p.toArray ++ Z) := by rw [hW1]; exact Blk.new w.drew _ _
  have g1 : Grew w W1 := by rw [hW1]; exact (Chg.refl _ w).drew.alloc _
  rw [← hW1] at hrz
  clear hW1
  have hV := hv.lt (by decide) ⟨V, 0, none⟩ rfl (by omega)
  have hgl := (Own.blk_lt h _ rfl).2
  have hcA : ∀ ty dc, (Builtin.copy_ #[23, 23] ty #[.slice (some ⟨w.heap.size, i * 9, none⟩) (n + 1 - i) dc, .slice (some ⟨V, 0, none⟩) 1 1]).run Tryz.prog W1 = _ := fun ty dc =>
    run_copyE W1 23 23 ty 51 w.heap.size (i * 9) (n + 1 - i) dc ⟨V, 0, none⟩ 1 1 (p.toArray ++ Z) 51 (elEn.cells x) 9 1 Tryz.underlying23 hsz b1 (by simp only [Nat.min_def]; split <;> omega) rfl
      (fun j v hj => by
        obtain ⟨ad, e, h2⟩ := (hv.grew g1).2 j v (by rw [elEn.flat_one]; exact hj)
        injection e with e
        subst e
        exact h2)
      (by rw [Array.size_append, hZs, List.size_toArray, hpl, elEn.len]; show i * 9 + 9 ≤ _; omega) (elEn.one x)
  obtain ⟨c1, hc1⟩ : ∃ c1, c1 = ((p.toArray ++ Z).toList.take (i * 9) ++ elEn.cells x ++ (p.toArray ++ Z).toList.drop (i * 9 + (elEn.cells x).length)) := ⟨_, rfl⟩
  have hc1l : c1.length = G * 9 := by
    rw [hc1]
    simp only [List.length_append, List.length_take, List.length_drop, Array.length_toList, Array.size_append, hZs, List.size_toArray, hpl, elEn.len]
    show min (i * 9) (i * 9 + (G - i) * 9) + 9 + (i * 9 + (G - i) * 9 - (i * 9 + 9)) = G * 9
    omega
  rw [← hc1] at hcA
  obtain ⟨W2, hW2⟩ : ∃ W2, W2 = W1.setRow w.heap.size c1.toArray := ⟨_, rfl⟩
  have b2 : Blk W2 w.heap.size 51 c1.toArray := by rw [hW2]; exact b1.row _
  have g2 : Grew w W2 := by rw [hW2]; exact g1.step (Chg.row W1 w.heap.size _) fun k hk e => by omega
  rw [← hW2] at hcA
  clear hW2
  have hcB : ∀ ty dc sc, (Builtin.copy_ #[23, 23] ty #[.slice (some ⟨w.heap.size, (i + 1) * 9, none⟩) (n - i) dc, .slice (some ⟨g, i * 9, none⟩) (n - i) sc]).run Tryz.prog W2.drew = _ := fun ty dc sc =>
    run_copyE W2.drew 23 23 ty 51 w.heap.size ((i + 1) * 9) (n - i) dc ⟨g, i * 9, none⟩ (n - i) sc c1.toArray 51 (elEn.flat (ms.drop i)) 9 (n - i) Tryz.underlying23 hsz b2 (by simp) (by rw [elEn.flat_length, List.length_drop, hml]; rfl)
      (fun j v hj => by
        obtain ⟨ad, e, h2⟩ := ((hrd.grew (g2.drew)).drop i).2 j v hj
        injection e with e
        subst e
        rw [add_head] at h2
        exact h2)
      (by rw [elEn.flat_length, List.length_drop, hml, List.size_toArray, hc1l]; show (i + 1) * 9 + (n - i) * 9 ≤ G * 9; omega) (elEn.flat_one' _)
  obtain ⟨c2, hc2⟩ : ∃ c2, c2 = (c1.toArray.toList.take ((i + 1) * 9) ++ elEn.flat (ms.drop i) ++ c1.toArray.toList.drop ((i + 1) * 9 + (elEn.flat (ms.drop i)).length)) := ⟨_, rfl⟩
  rw [← hc2] at hcB
  obtain ⟨W3, hW3⟩ : ∃ W3, W3 = W2.drew.setRow w.heap.size c2.toArray := ⟨_, rfl⟩
  have b3 : Blk W3 w.heap.size 51 c2.toArray := by rw [hW3]; exact Blk.row (w := W2.drew) b2 _
  have g3 : Grew w W3 := by rw [hW3]; exact g2.drew.step (Chg.row W2.drew w.heap.size _) fun k hk e => by omega
  rw [← hW3] at hcB
  clear hW3
  have hfin : OE elEn W3 base 51 (some ⟨w.heap.size, 0, none⟩) (n + 1) G (ms.take i ++ [x] ++ ms.drop i) := by
    have hdl : (elEn.flat (ms.drop i)).length = (n - i) * 9 := by rw [elEn.flat_length, List.length_drop, hml]; rfl
    have hxl : 9 = (elEn.cells x).length := (elEn.len x).symm
    have hpt : (p.toArray ++ Z).toList.take (i * 9) = p := by
      rw [Array.toList_append, List.take_left' (by simpa using hpl)]
    have hq := two_over2 (p.toArray ++ Z).toList p (elEn.cells x) (elEn.flat (ms.drop i)) c1 (a := i * 9) (b := 9) hpl.symm hxl hpt hc1 (by rw [Array.length_toList, Array.size_append, hZs, List.size_toArray, hpl]; omega)
    rw [show i * 9 + 9 = (i + 1) * 9 by omega] at hq
    rw [show c1.toArray.toList = c1 by simp] at hc2
    rw [← hc2, hdl, show (i + 1) * 9 + (n - i) * 9 = (n + 1) * 9 by omega, hp] at hq
    have hc2l : c2.length = G * 9 := by
      rw [hc2]
      simp only [List.length_append, List.length_take, List.length_drop, hc1l, hdl]
      omega
    refine ⟨?_, .inr ⟨w.heap.size, G, c2.toArray, rfl, hb, b3, hGn, by unfold maxLen; omega, by rw [List.size_toArray, hc2l]; rfl, ?_⟩⟩
    · rw [elEn.flat_length, List.length_append, List.length_append, List.length_take, List.length_drop, hml]
      show (min i n + 1 + (n - i)) * 9 = (n + 1) * 9
      omega
    · rw [elEn.flat_append, elEn.flat_append, elEn.flat_one]
      exact hq
  replace hfin := Lib.hid hfin
  clear hc1 hc2 hp b1 b2 b3 hi0
  have hGi : ¬ (G = i) := by omega
  have hGi1 : ¬ (G = i + 1) := by omega
  have hci : ¬ (c = i) := by omega
  unfold Insd
  go_enter Tryz.func42, Tryz.ntmps42
  go_wp2_with (first
    | (at_builtin; go_loud (refine Lib.wpList_append_run _ rfl _ _ _ _ rfl _ _ rfl rfl _ _ (hrz _) ?_))
    | (refine wpList_copy_runI _ rfl _ _ 23 23 rfl _ _ rfl rfl (hcA _ _) ?_))
  refine wp_region_text [(3, 1)] (by kernel_rfl) (by kernel_rfl) ?_
  simp only [instr, chk, look, Nat.reduceBEq, if_true, if_false, Nat.reduceEqDiff, List.cons_append, List.nil_append]
  go_wp2_with (refine wpList_copy_runI _ rfl _ _ 23 23 rfl _ _ rfl rfl (hcB _ _ _) ?_)
  refine OnlyN.normal ?_
  go_wp2
  go_ret
  exact ⟨_, G, rfl, hfin.out, Chg.of_grew g3⟩

set_option maxRecDepth 100000 in
set_option maxHeartbeats 4000000 in
theorem insert_shift (g n c base V i : Nat) (ms : List EnM) (x : EnM) (w : World) (h : OE elEn w base 51 (some ⟨g, 0, none⟩) n c ms) (hn : n ≤ 1073741824) (hv : RE elEn w (some ⟨V, 0, none⟩) 1 [x]) (hbV : Blk w V 51 (elEn.cells x).toArray) (hgV : V ≠ g) (hi : i < n) (hroom : n + 1 ≤ c) :
    Calls Tryz.prog 42 #[.slice (some ⟨g, 0, none⟩) n c, .int .i64 (i : Int), .slice (some ⟨V, 0, none⟩) 1 1] w (Insd w base (some ⟨g, 0, none⟩) n (ms.take i ++ [x] ++ ms.drop i)) := by
  have hc := h.cap
  have hrd := h.re (by decide)
  have hz2 : ¬ ((i : Int) = (n : Int)) := by omega
  have hz3 : ¬ (c : Int) < (n : Int) + 1 := by omega
  obtain ⟨i0, hi0, hz0, hzs, hzb⟩ := info_parts infoEn
  have hsz : (Tryz.prog.info? 51).map (·.size) = some 9 := by rw [hi0]; simp [hzs]
  have hml : ms.length = n := hrd.1
  obtain ⟨p, hp⟩ : ∃ p, p = elEn.flat (ms.take i) := ⟨_, rfl⟩
  have hpl : p.length = i * 9 := by rw [hp, elEn.flat_length, List.length_take, Nat.min_eq_left (by omega)]; rfl
  obtain ⟨cur, hbase, b0, hcs, htake⟩ : ∃ cur, base ≤ g ∧ Blk w g 51 cur ∧ cur.size = c * 9 ∧ cur.toList.take (n * 9) = elEn.flat ms := by
    rcases h.2 with ⟨e, _⟩ | ⟨g', cap, cur, e, hb1, hb2, h3, h4, h5, h6⟩
    · cases e
    · injection e with e1 e2 e3
      injection e1 with e1
      injection e1 with e1 _ _
      subst e1; subst e3
      exact ⟨cur, hb1, hb2, h5, h6⟩
  have hov : ∀ lb cb, (callFunc 84 #[.slice (some ⟨V, 0, none⟩) 1 1, .slice (some ⟨g, (i + 1) * 9, none⟩) lb cb]).run Tryz.prog w = .ok (.value (.bool false)) w := fun lb cb => by
    rw [run_callFunc_extern Tryz.func84 (by kernel_rfl) (by kernel_rfl) (by kernel_rfl) (e := Extern.SlicesOverlaps.overlaps #[23, 23] #[4]) (by kernel_rfl),
      Lib.run_overlaps_apart w 23 4 51 Tryz.underlying23 9 (fun w => by simp [sizeOf, typeInfo, hi0, hzs]) ⟨V, 0, none⟩ ⟨g, (i + 1) * 9, none⟩ 1 1 lb cb hgV 51 51 9 (c * 9) (by have := hbV; unfold Blk at this; simp [World.shape?, this, elEn]) (by have := b0; unfold Blk at this; simp [World.shape?, this, hcs]) (by omega) (hbV.frozen 0) (hbV.frozen 9)]
    rfl
  have hcA : ∀ ty dc sc, (Builtin.copy_ #[23, 23] ty #[.slice (some ⟨g, (i + 1) * 9, none⟩) (n - i) dc, .slice (some ⟨g, i * 9, none⟩) (n + 1 - i) sc]).run Tryz.prog w.drew = _ := fun ty dc sc =>
    run_copyE w.drew 23 23 ty 51 g ((i + 1) * 9) (n - i) dc ⟨g, i * 9, none⟩ (n + 1 - i) sc cur 51 (elEn.flat (ms.drop i)) 9 (n - i) Tryz.underlying23 hsz b0 (by simp only [Nat.min_def]; split <;> omega) (by rw [elEn.flat_length, List.length_drop, hml]; rfl)
      (fun j v hj => by
        obtain ⟨ad, e, h2⟩ := (hrd.drop i).2 j v hj
        injection e with e
        subst e
        rw [add_head] at h2
        exact h2)
      (by rw [elEn.flat_length, List.length_drop, hml, hcs]; show (i + 1) * 9 + (n - i) * 9 ≤ c * 9; omega) (elEn.flat_one' _)
  have hdl : (elEn.flat (ms.drop i)).length = (n - i) * 9 := by rw [elEn.flat_length, List.length_drop, hml]; rfl
  obtain ⟨c1, hc1⟩ : ∃ c1, c1 = (cur.toList.take ((i + 1) * 9) ++ elEn.flat (ms.drop i) ++ cur.toList.drop ((i + 1) * 9 + (elEn.flat (ms.drop i)).length)) := ⟨_, rfl⟩
  have hc1l : c1.length = c * 9 := by
    rw [hc1]
    simp only [List.length_append, List.length_take, List.length_drop, Array.length_toList, hcs, hdl]
    omega
  rw [← hc1] at hcA
  obtain ⟨W1, hW1⟩ : ∃ W1, W1 = w.drew.setRow g c1.toArray := ⟨_, rfl⟩
  have b1 : Blk W1 g 51 c1.toArray := by rw [hW1]; exact Blk.row (w := w.drew) b0 _
  have g1 : Chg (fun k => k = g) w W1 := by rw [hW1]; exact (Chg.refl _ w).drew.step (Chg.row w.drew g _) fun k hk e => e
  rw [← hW1] at hcA
  clear hW1
  have hcB : ∀ ty dc, (Builtin.copy_ #[23, 23] ty #[.slice (some ⟨g, i * 9, none⟩) (n + 1 - i) dc, .slice (some ⟨V, 0, none⟩) 1 1]).run Tryz.prog W1 = _ := fun ty dc =>
    run_copyE W1 23 23 ty 51 g (i * 9) (n + 1 - i) dc ⟨V, 0, none⟩ 1 1 c1.toArray 51 (elEn.cells x) 9 1 Tryz.underlying23 hsz b1 (by simp only [Nat.min_def]; split <;> omega) rfl
      (fun j v hj => by
        obtain ⟨ad, e, h2⟩ := (hv.chg g1 (fun ad e => by injection e with e; subst e; exact hgV)).2 j v (by rw [elEn.flat_one]; exact hj)
        injection e with e
        subst e
        exact h2)
      (by rw [List.size_toArray, hc1l, elEn.len]; show i * 9 + 9 ≤ _; omega) (elEn.one x)
  obtain ⟨c2, hc2⟩ : ∃ c2, c2 = (c1.toArray.toList.take (i * 9) ++ elEn.cells x ++ c1.toArray.toList.drop (i * 9 + (elEn.cells x).length)) := ⟨_, rfl⟩
  rw [← hc2] at hcB
  obtain ⟨W3, hW3⟩ : ∃ W3, W3 = W1.setRow g c2.toArray := ⟨_, rfl⟩
  have b3 : Blk W3 g 51 c2.toArray := by rw [hW3]; exact b1.row _
  have g3 : Chg (fun k => k = g) w W3 := by rw [hW3]; exact g1.step (Chg.row W1 g _) fun k hk e => e
  rw [← hW3] at hcB
  clear hW3
  have hfin : OE elEn W3 base 51 (some ⟨g, 0, none⟩) (n + 1) c (ms.take i ++ [x] ++ ms.drop i) := by
    have hxl : 9 = (elEn.cells x).length := (elEn.len x).symm
    have hpt : cur.toList.take (i * 9) = p := by
      rw [hp, ← elEn.flat_take, ← htake]
      show _ = (cur.toList.take (n * 9)).take (i * 9)
      rw [List.take_take, Nat.min_eq_left (by omega)]
    rw [show (i + 1) * 9 = i * 9 + 9 by omega] at hc1
    have hq := two_over cur.toList p (elEn.cells x) (elEn.flat (ms.drop i)) c1 (a := i * 9) (b := 9) hpl.symm hxl hpt hc1 (by rw [Array.length_toList, hcs]; omega)
    rw [show c1.toArray.toList = c1 by simp] at hc2
    rw [← hc2, hdl, show i * 9 + 9 + (n - i) * 9 = (n + 1) * 9 by omega, hp] at hq
    have hc2l : c2.length = c * 9 := by
      rw [hc2]
      simp only [List.length_append, List.length_take, List.length_drop, hc1l, ← hxl]
      omega
    refine ⟨?_, .inr ⟨g, c, c2.toArray, rfl, hbase, b3, hroom, by unfold maxLen; omega, by rw [List.size_toArray, hc2l]; rfl, ?_⟩⟩
    · rw [elEn.flat_length, List.length_append, List.length_append, List.length_take, List.length_drop, hml]
      show (min i n + 1 + (n - i)) * 9 = (n + 1) * 9
      omega
    · rw [elEn.flat_append, elEn.flat_append, elEn.flat_one]
      exact hq
  replace hfin := Lib.hid hfin
  clear hc1 hc2 hp b0 b1 b3 hi0 htake
  have hci : ¬ (c = i) := by omega
  have hci1 : ¬ (c = i + 1) := by omega
  unfold Insd
  go_enter Tryz.func42, Tryz.ntmps42
  go_wp2_with (simp only [hov])
  refine wp_region_text [(3, 1)] (by kernel_rfl) (by kernel_rfl) ?_
  simp only [instr, chk, look, Nat.reduceBEq, if_true, if_false, Nat.reduceEqDiff, List.cons_append, List.nil_append]
  go_wp2_with (refine wpList_copy_runI _ rfl _ _ 23 23 rfl _ _ rfl rfl (hcA _ _ _) ?_)
  refine OnlyN.normal ?_
  go_wp2_with (refine wpList_copy_runI _ rfl _ _ 23 23 rfl _ _ rfl rfl (hcB _ _) ?_)
  go_ret
  exact ⟨_, c, rfl, hfin.out, g3.mono fun k hk e => ⟨_, rfl, e⟩⟩

theorem insert_any (A : Option Addr) (n c base V i : Nat) (ms : List EnM) (x : EnM) (w : World) (h : OE elEn w base 51 A n c ms) (hn : n ≤ 1073741824) (hb : base ≤ w.heap.size) (hbV : Blk w V 51 (elEn.cells x).toArray) (hgV : ∀ ad, A = some ad → ad.block ≠ V) (hi : i ≤ n) :
    Calls Tryz.prog 42 #[.slice A n c, .int .i64 (i : Int), .slice (some ⟨V, 0, none⟩) 1 1] w (Insd w base A n (ms.take i ++ [x] ++ ms.drop i)) := by
  have hv : RE elEn w (some ⟨V, 0, none⟩) 1 [x] := ⟨rfl, fun k u hu => ⟨_, rfl, by rw [add_head, hbV.cell]; rw [elEn.flat_one] at hu; simpa using hu⟩⟩
  have hml : ms.length = n := (h.re (by decide)).1
  rcases Nat.lt_or_ge i n with h1 | h1
  · obtain ⟨g, rfl, _⟩ := Own.at_ h (by omega)
    rcases Nat.lt_or_ge c (n + 1) with h2 | h2
    · exact insert_grow g n c base V i ms x w h hn hb hv h1 h2
    · exact insert_shift g n c base V i ms x w h hn hv hbV (fun e => hgV _ rfl e.symm) h1 h2
  · obtain rfl : i = n := by omega
    rw [List.take_of_length_le (by omega), List.drop_of_length_le (by omega), List.append_nil]
    exact insert_end A i c base V ms x w h hn hb hv
end Go.Proofs.YtjoaonppaokhhaaGreat
