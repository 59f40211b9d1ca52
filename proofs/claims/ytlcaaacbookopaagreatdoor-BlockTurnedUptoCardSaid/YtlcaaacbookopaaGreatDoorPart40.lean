/-
  Several texts in one:
  The document's (tidewrackref9.DecodeMeta) on any bytes: a meta is read just of its own bytes. Conditions: lengths that memory bears.
-/
import Derived.Test.YtlcaaacbookopaaGreatDoorPart39

namespace Go.Proofs.YtlcaaacbookopaaGreatDoor
open Go.RowKit

theorem encM_nums (m : Met) : encM m = headM ++ ((numsM m).flatMap uv ++ four (crc (metB m))) := by
  unfold encM sealB
  rw [metB_nums, List.append_assoc]
theorem readE {m : Met} (hok : metOk m = true) (hw : MetW m) {k x : Nat} (hx : (numsM m)[k]? = some x) : uintR (encM m) (posM m k : Int) = (x, posM m (k + 1), 0) := by
  have hlt := numsM_lt hok hw x (List.mem_of_getElem? hx)
  have h1 : encM m = (headM ++ ((numsM m).take k).flatMap uv) ++ (uv x ++ (((numsM m).drop (k + 1)).flatMap uv ++ four (crc (metB m)))) := by
    rw [encM_nums, List.append_assoc, ← List.append_assoc (uv x), ← List.flatMap_cons, ← drop_at hx, ← List.append_assoc (((numsM m).take k).flatMap uv), ← List.flatMap_append, List.take_append_drop]
  have h2 : posM m k = (headM ++ ((numsM m).take k).flatMap uv).length := by rw [List.length_append]; rfl
  rw [h1, h2, uintR_at _ _ x hlt]
  have h3 : posM m (k + 1) = (headM ++ ((numsM m).take k).flatMap uv).length + (uv x).length := by
    unfold posM
    rw [List.take_add_one, hx, List.flatMap_append, List.length_append, List.length_append]
    simp only [Option.toList, List.flatMap_cons, List.flatMap_nil, List.append_nil]
    show 4 + _ = 4 + _ + _
    omega
  rw [h3]
/-- a number of a meta's own bytes, read by the document's reader -/
theorem rdU_own {m : Met} (hok : metOk m = true) (hw : MetW m) {l : List UInt8} (hl : l = encM m) {q k x : Nat} {bad : Bool} (hb : bad = false) (hq : q = posM m k) (hx : (numsM m)[k]? = some x) : rdU l q bad = (x, posM m (k + 1), false) := by
  subst hl hb hq
  exact rdU_at (readE hok hw hx)
theorem encM_ge (m : Met) : 4 ≤ (encM m).length := by
  rw [encM_nums, List.length_append]
  show 4 ≤ 4 + _
  omega

/-- a meta's three sizes -/
def szM (m : Met) (k : Nat) : Nat := match k with
  | 0 => m.lv.toNat
  | 1 => m.sr.toNat
  | _ => m.pt.toNat
/-- the document's reading of a meta: its boxes -/
structure DrS (w W : World) (l : List UInt8) (gm gr gs : Nat) (B : Option Addr) (n c q : Nat) (bad : Bool) (cs ss : Array Value) : Prop where
  rd : RrS W gr B n c l q bad
  bm : Blk W gm 25 cs
  b2 : Blk W w.heap.size 25 #[.int .u64 0, .int .i64 0, .int .i64 0, .int .i64 0, .slice none 0 0, .int .i64 0, .int .i64 0]
  bs : Blk W gs 62 ss
  bl : ∀ ad, B = some ad → 0 < n → ad.block < w.heap.size
  gw : Grew w W
  lo : w.heap.size < gm ∧ w.heap.size ≤ gr ∧ w.heap.size ≤ gs
theorem DrS.to {w W W' : World} {l : List UInt8} {gm gr gs : Nat} {B : Option Addr} {n c q q2 : Nat} {bad b2 : Bool} {cs ss : Array Value} (h : DrS w W l gm gr gs B n c q bad cs ss) (ht : RrT W W' gr B n c l q2 b2) : DrS w W' l gm gr gs B n c q2 b2 cs ss :=
  ⟨ht.rd, h.bm.chg ht.ch (fun e => Blk.neT h.bm h.rd.bk (by decide) e), h.b2.chg ht.ch (fun e => Blk.neT h.b2 h.rd.bk (by decide) e), h.bs.chg ht.ch (fun e => Blk.neT h.bs h.rd.bk (by decide) e), h.bl, h.gw.step ht.ch fun j hj e => by have := h.lo; omega, h.lo⟩
theorem DrS.grew {w W W' : World} {l : List UInt8} {gm gr gs : Nat} {B : Option Addr} {n c q : Nat} {bad : Bool} {cs ss : Array Value} (h : DrS w W l gm gr gs B n c q bad cs ss) (hg : Grew W W') : DrS w W' l gm gr gs B n c q bad cs ss :=
  ⟨h.rd.grew hg, h.bm.grew hg, h.b2.grew hg, h.bs.grew hg, h.bl, h.gw.trans hg, h.lo⟩
theorem DrS.setM {w W : World} {l : List UInt8} {gm gr gs : Nat} {B : Option Addr} {n c q : Nat} {bad : Bool} {cs ss : Array Value} (h : DrS w W l gm gr gs B n c q bad cs ss) (i : Nat) (u : Value) : DrS w (W.setCell ⟨gm, i, none⟩ u) l gm gr gs B n c q bad (cs.setIfInBounds i u) ss :=
  ⟨h.rd.chg (Chg.cell1 W gm i u) (fun e => Blk.neT h.rd.bk h.bm (by decide) e) (fun ad e h0 hk => by have := h.bl ad e h0; have := h.lo; omega), h.bm.set i u, h.b2.far (by show w.heap.size ≠ gm; have := h.lo; omega) u, h.bs.far (Blk.neT h.bs h.bm (by decide)) u, h.bl, h.gw.setCell (p := ⟨gm, i, none⟩) (.inl (by show w.heap.size ≤ gm; have := h.lo; omega)) u, h.lo⟩
theorem DrS.setS {w W : World} {l : List UInt8} {gm gr gs : Nat} {B : Option Addr} {n c q : Nat} {bad : Bool} {cs ss : Array Value} (h : DrS w W l gm gr gs B n c q bad cs ss) (i : Nat) (u : Value) : DrS w (W.setCell ⟨gs, i, none⟩ u) l gm gr gs B n c q bad cs (ss.setIfInBounds i u) :=
  ⟨h.rd.chg (Chg.cell1 W gs i u) (fun e => Blk.neT h.rd.bk h.bs (by decide) e) (fun ad e h0 hk => by have := h.bl ad e h0; have := h.lo; omega), h.bm.far (Blk.neT h.bm h.bs (by decide)) u, h.b2.far (Blk.neT h.b2 h.bs (by decide)) u, h.bs.set i u, h.bl, h.gw.setCell (p := ⟨gs, i, none⟩) (.inl (by show w.heap.size ≤ gs; have := h.lo; omega)) u, h.lo⟩
theorem DrS.setB {w W : World} {l : List UInt8} {gm gr gs : Nat} {B : Option Addr} {n c q : Nat} {bad : Bool} {cs ss : Array Value} (h : DrS w W l gm gr gs B n c q bad cs ss) (b : Bool) : DrS w (W.setCell ⟨gr, 2, none⟩ (.bool b)) l gm gr gs B n c q b cs ss :=
  ⟨h.rd.set b, h.bm.far (Blk.neT h.bm h.rd.bk (by decide)) _, h.b2.far (Blk.neT h.b2 h.rd.bk (by decide)) _, h.bs.far (Blk.neT h.bs h.rd.bk (by decide)) _, h.bl, h.gw.setCell (p := ⟨gr, 2, none⟩) (.inl (by show w.heap.size ≤ gr; have := h.lo; omega)) _, h.lo⟩
theorem DrS.append {w W W' : World} {l : List UInt8} {gm gr gs : Nat} {B : Option Addr} {n c q : Nat} {bad : Bool} {cs ss : Array Value} {A A' : Option Addr} {p r d d' : Nat} {ls rs : List Nat} (h : DrS w W l gm gr gs B n c q bad cs ss)
    (ho : OE elU W w.heap.size 22 A p d rs) (ha : ApE elU W w.heap.size 22 A r d ls A' d' W') : DrS w W' l gm gr gs B n c q bad cs ss :=
  ⟨h.rd.chg ha.chg (fun ⟨ad, e, hk⟩ => Own.ne_blk ho h.rd.bk (by decide) ad e hk.symm) (fun ad e h0 ⟨bd, e2, hk⟩ => by have := h.bl ad e h0; have := (Own.blk_lt ho bd e2).1; omega), h.bm.chg ha.chg (fun ⟨ad, e, hk⟩ => Own.ne_blk ho h.bm (by decide) ad e hk.symm), h.b2.chg ha.chg (fun ⟨ad, e, hk⟩ => Own.ne_blk ho h.b2 (by decide) ad e hk.symm), h.bs.chg ha.chg (fun ⟨ad, e, hk⟩ => Own.ne_blk ho h.bs (by decide) ad e hk.symm), h.bl,
    h.gw.step ha.chg fun j hj ⟨ad, e, hk⟩ => by have := (Own.blk_lt ho ad e).1; omega, h.lo⟩
/-- a meta is read just of its own bytes -/
def MdP (w : World) (l : List UInt8) (e : Ending) (w' : World) : Prop := (∃ m, metOk m = true ∧ MetW m ∧ l = encM m ∧ MtR w m 0 e w') ∨ ((∀ m, metOk m = true → MetW m → l ≠ encM m) ∧ MtR w ⟨0, 0, 0, 0, [], 0, 0⟩ 92 e w')

theorem met_eq (m : Met) {x0 v4 v5 : Nat} {lv sr pt : Int} {xs : List Nat} (h : xs = m.src ∧ x0 = m.id ∧ lv = m.lv ∧ sr = m.sr ∧ pt = m.pt ∧ v4 = zz m.lo ∧ v5 = zz m.hi) : (⟨x0, uz v4, uz v5, lv, xs, sr, pt⟩ : Met) = m := by
  obtain ⟨rfl, rfl, rfl, rfl, rfl, rfl, rfl⟩ := h
  rw [uz_zz, uz_zz]

set_option maxRecDepth 100000 in
set_option maxHeartbeats 16000000 in
theorem rdecodeMeta_any (w : World) (B : Option Addr) (n c : Nat) (l : List UInt8) (hr : RB w B n l) (_hc : n ≤ c ∧ c ≤ 9223372036854775807) (hn : n ≤ 17592186040000) :
    Calls Tryz.prog 8 #[.slice B n c] w (MdP w l) := by
  have hll : l.length = n := hr.1
  have hcvB := fun W (hW : Grew w W) => run_conv_RB (P := Tryz.prog) (c := c) Tryz.underlying26 Tryz.underlying5 Tryz.underlying9 (hr.grew hW)
  replace hcvB := Lib.hid hcvB
  obtain ⟨bad0, hbad0⟩ : ∃ b, decide ((n : Int) < 4) = b := ⟨_, rfl⟩
  obtain ⟨W0, hW0⟩ : ∃ W, W = w.alloc (.cells #[.int .u64 0, .int .i64 0, .int .i64 0, .int .i64 0, .slice none 0 0, .int .i64 0, .int .i64 0] 25) := ⟨_, rfl⟩
  have g0 : Grew w W0 := by rw [hW0]; exact (Chg.refl _ w).alloc _
  have s0 : W0.heap.size = w.heap.size + 1 := by rw [hW0, World.size_alloc]
  have b20 : Blk W0 w.heap.size 25 #[.int .u64 0, .int .i64 0, .int .i64 0, .int .i64 0, .slice none 0 0, .int .i64 0, .int .i64 0] := by rw [hW0]; exact Blk.new w _ _
  obtain ⟨W1, hW1⟩ : ∃ W, W = W0.alloc (.cells #[.slice B n c, .int .i64 4, .bool bad0] 60) := ⟨_, rfl⟩
  have g1 : Grew W0 W1 := by rw [hW1]; exact (Chg.refl _ W0).alloc _
  have s1 : W1.heap.size = w.heap.size + 1 + 1 := by rw [hW1, World.size_alloc, s0]
  have hrd1 : RrS W1 (w.heap.size + 1) B n c l 4 bad0 := ⟨by rw [hW1, ← s0]; exact Blk.new W0 _ _, (hr.grew g0).grew g1, fun ad e h0 => by have := hr.lt ad e h0; omega⟩
  have hO0 : Hid (∀ m, metOk m = true → MetW m → l = encM m → bad0 = false ∧ 4 = posM m 0) := Lib.hid (fun m _ _ e => ⟨by rw [← hbad0]; have := encM_ge m; rw [← e] at this; exact decide_eq_false (by omega), rfl⟩)
  have hQ0 : Hid (bad0 = false → 4 ≤ l.length) := Lib.hid (fun e => by rw [← hbad0] at e; have := of_decide_eq_false e; omega)
  have hBl : ∀ ad, B = some ad → 0 < n → ad.block < w.heap.size := fun ad e h0 => hr.lt ad e h0
  replace hll := Lib.hid hll
  have s1' := Lib.hid s1
  clear s0 s1
  unfold MdP MtR
  go_enter Tryz.func8, Tryz.ntmps8
  go_wp2_with fail
  rw [← hW0, ← hW1]
  clear hbad0 hW1 hW0
  refine (rrUint (w.heap.size + 1) B n c l 4 bad0 W1 hrd1 (by omega)).mono ?_
  rintro e w2 ⟨rfl, hT⟩
  have hx0 := rdU_lt l 4 bad0
  have hO1 : Hid (∀ m, metOk m = true → MetW m → l = encM m → (rdU l 4 bad0).2.2 = false ∧ (rdU l 4 bad0).2.1 = posM m 1 ∧ (rdU l 4 bad0).1 = m.id) := Lib.hid (fun m h1 h2 h3 => by
    obtain ⟨e1, e2⟩ := hO0.out m h1 h2 h3
    rw [rdU_own h1 h2 h3 (k := 0) e1 e2 (x := m.id) rfl]
    exact ⟨rfl, rfl, rfl⟩)
  have hQ1 : Hid ((rdU l 4 bad0).2.2 = false → (rdU l 4 bad0).2.1 ≤ l.length) := Lib.hid (fun e => (rdU_go e).2.2)
  generalize (rdU l 4 bad0).1 = x0 at *
  generalize (rdU l 4 bad0).2.1 = q1 at *
  generalize (rdU l 4 bad0).2.2 = bad1 at *
  have g2 := (g0.trans g1).step hT.ch fun k hk e => by omega
  have z2 := hT.ch.size
  rw [s1'.out] at z2
  obtain ⟨gm, hgm⟩ : ∃ g, w2.heap.size = g := ⟨_, rfl⟩
  obtain ⟨W2, hW2⟩ : ∃ W, W = w2.alloc (.cells #[.int .u64 (x0 : Int), .int .i64 0, .int .i64 0, .int .i64 0, .slice none 0 0, .int .i64 0, .int .i64 0] 25) := ⟨_, rfl⟩
  have k2 : Grew w2 W2 := by rw [hW2]; exact (Chg.refl _ w2).alloc _
  have sW2 : W2.heap.size = gm + 1 := by rw [hW2, World.size_alloc, hgm]
  have bm2 : Blk W2 gm 25 #[.int .u64 (x0 : Int), .int .i64 0, .int .i64 0, .int .i64 0, .slice none 0 0, .int .i64 0, .int .i64 0] := by rw [hW2, ← hgm]; exact Blk.new w2 _ _
  obtain ⟨W3, hW3⟩ : ∃ W, W = W2.alloc (.cells #[.int .u64 0, .int .u64 0, .int .u64 0] 62) := ⟨_, rfl⟩
  have k3 : Grew W2 W3 := by rw [hW3]; exact (Chg.refl _ W2).alloc _
  have bs3 : Blk W3 (gm + 1) 62 #[.int .u64 0, .int .u64 0, .int .u64 0] := by rw [hW3, ← sW2]; exact Blk.new W2 _ _
  have hD : DrS w W3 l gm (w.heap.size + 1) (gm + 1) B n c q1 bad1 #[.int .u64 (x0 : Int), .int .i64 0, .int .i64 0, .int .i64 0, .slice none 0 0, .int .i64 0, .int .i64 0] #[.int .u64 0, .int .u64 0, .int .u64 0] :=
    ⟨(hT.rd.grew k2).grew k3, bm2.grew k3, ((((b20.grew g1).chg hT.ch (by omega)).grew k2).grew k3), bs3, hBl, (g2.trans k2).trans k3, ⟨by rw [← hgm]; omega, by omega, by rw [← hgm]; omega⟩⟩
  clear hT hrd1 g0 g1 b20 g2 z2 k2 k3 bm2 bs3 sW2 s1' hO0 hQ0
  have hgm' := Lib.hid hgm
  clear hgm
  go_wp2
  rw [← hW2, ← hW3, hgm'.out]
  clear hW2 hW3 hgm'
  go_loopw [7] (fun i wr => ∃ (k q : Nat) (bad : Bool) (s0 s1 s2 : Nat), k ≤ 3 ∧ i = .int .i64 (k : Int) ∧ DrS w wr l gm (w.heap.size + 1) (gm + 1) B n c q bad #[.int .u64 (x0 : Int), .int .i64 0, .int .i64 0, .int .i64 0, .slice none 0 0, .int .i64 0, .int .i64 0] #[.int .u64 (s0 : Int), .int .u64 (s1 : Int), .int .u64 (s2 : Int)] ∧ (s0 < 18446744073709551616 ∧ s1 < 18446744073709551616 ∧ s2 < 18446744073709551616) ∧ Hid (∀ m, metOk m = true → MetW m → l = encM m → bad = false ∧ q = posM m (1 + k) ∧ x0 = m.id ∧ (0 < k → s0 = m.lv.toNat) ∧ (1 < k → s1 = m.sr.toNat) ∧ (2 < k → s2 = m.pt.toNat)) ∧ Hid (bad = false → q ≤ l.length)) (fun i _ => 3 - (intOf i).toNat)
  case atStart => exact ⟨0, q1, bad1, 0, 0, 0, by omega, rfl, hD, ⟨by omega, by omega, by omega⟩, Lib.hid (fun m h1 h2 h3 => by
    obtain ⟨e1, e2, e3⟩ := hO1.out m h1 h2 h3
    exact ⟨e1, e2, e3, fun h => by omega, fun h => by omega, fun h => by omega⟩), hQ1⟩
  case round =>
    clear hD hO1 hQ1
    obtain ⟨k, q, bad, s0, s1, s2, hk, rfl, hD, ⟨hs0, hs1, hs2⟩, hO, hQ⟩ := hrel
    by_cases hlt : k < 3
    · have hk3 : k = 0 ∨ k = 1 ∨ k = 2 := by omega
      have hx := rdU_lt l q bad
      have hr0 : Hid (∀ m, metOk m = true → MetW m → l = encM m → rdU l q bad = (szM m k, posM m (1 + k + 1), false) ∧ x0 = m.id ∧ (0 < k → s0 = m.lv.toNat) ∧ (1 < k → s1 = m.sr.toNat) ∧ (2 < k → s2 = m.pt.toNat)) := Lib.hid (fun m h1 h2 h3 => by
        obtain ⟨e1, e2, e3⟩ := hO.out m h1 h2 h3
        refine ⟨rdU_own h1 h2 h3 e1 e2 ?_, e3⟩
        rcases hk3 with rfl | rfl | rfl <;> rfl)
      have hq2 : Hid ((rdU l q bad).2.2 = false → (rdU l q bad).2.1 ≤ l.length) := Lib.hid (fun e => (rdU_go e).2.2)
      go_wp2_with fail
      refine (rrUint (w.heap.size + 1) B n c l q bad wr hD.rd (by omega)).mono ?_
      rintro e w3 ⟨rfl, hT⟩
      have hD1 := hD.to hT
      obtain ⟨v, hv⟩ : ∃ v, (rdU l q bad).1 = v := ⟨_, rfl⟩
      obtain ⟨q2, hq2e⟩ : ∃ v, (rdU l q bad).2.1 = v := ⟨_, rfl⟩
      obtain ⟨bd2, hbd2⟩ : ∃ v, (rdU l q bad).2.2 = v := ⟨_, rfl⟩
      have hr1 : Hid (∀ m, metOk m = true → MetW m → l = encM m → (v = szM m k ∧ q2 = posM m (1 + k + 1) ∧ bd2 = false) ∧ x0 = m.id ∧ (0 < k → s0 = m.lv.toNat) ∧ (1 < k → s1 = m.sr.toNat) ∧ (2 < k → s2 = m.pt.toNat)) := Lib.hid (fun m h1 h2 h3 => by
        obtain ⟨e1, e2⟩ := hr0.out m h1 h2 h3
        rw [e1] at hv hq2e hbd2
        exact ⟨⟨hv.symm, hq2e.symm, hbd2.symm⟩, e2⟩)
      rw [hv] at hx ⊢
      rw [hq2e, hbd2] at hD1 hq2
      replace hlt := Lib.hid hlt
      clear hT hD hO hQ hr0 hv hq2e hbd2
      rcases hk3 with rfl | rfl | rfl
      · skip
        have d0 := hD1.bs.cell 0
        have df := hD1.bs.frozen 0
        simp only [List.getElem?_toArray, List.getElem?_cons_zero] at d0
        have hD2 := hD1.setS 0 (.int .u64 (v : Int))
        simp only [List.setIfInBounds_toArray, List.set_cons_zero] at hD2
        have c2 := hD2.rd.bk.cell 2
        have cf := hD2.rd.bk.frozen 2
        have d9 := hD2.bs.cell 0
        simp only [List.getElem?_toArray, List.getElem?_cons_succ, List.getElem?_cons_zero] at c2 d9
        cases bd2
        · skip
          have hD3 := hD2.setB (decide (2147483647 < (v : Int)))
          clear hD1
          go_wp2
          go_roundw
          case rel =>
            refine ⟨1, q2, decide (2147483647 < (v : Int)), v, s1, s2, by omega, by go_num, by first | exact hD3 | simpa using hD3, ⟨hx, hs1, hs2⟩, Lib.hid (fun m h1 h2 h3 => ?_), Lib.hid (fun _ => by first | exact hq2.out | exact hq2.out rfl | exact hq2.out trivial)⟩
            obtain ⟨⟨e1, e2, _⟩, e4, e5, e6, e7⟩ := hr1.out m h1 h2 h3
            obtain ⟨o1, o2, o3, _⟩ := (metOk_iff m).1 h1
            have e1 : v = m.lv.toNat := e1
            have hv : v ≤ 2147483647 := by omega
            exact ⟨decide_eq_false (by omega), e2, e4, fun _ => e1, fun h => by omega, fun h => by omega⟩
          case measure => simp [intOf]
        · skip
          have hD3 := hD2.setB true
          clear hD1
          go_wp2
          go_roundw
          case rel =>
            refine ⟨1, q2, true, v, s1, s2, by omega, by go_num, by first | exact hD3 | simpa using hD3, ⟨hx, hs1, hs2⟩, Lib.hid (fun m h1 h2 h3 => ?_), Lib.hid (fun e => by cases e)⟩
            obtain ⟨⟨_, _, e3⟩, _⟩ := hr1.out m h1 h2 h3
            cases e3
          case measure => simp [intOf]
      · skip
        have d1 := hD1.bs.cell 1
        have df := hD1.bs.frozen 1
        simp only [List.getElem?_toArray, List.getElem?_cons_succ, List.getElem?_cons_zero] at d1
        have hD2 := hD1.setS 1 (.int .u64 (v : Int))
        simp only [List.setIfInBounds_toArray, List.set_cons_succ, List.set_cons_zero] at hD2
        have c2 := hD2.rd.bk.cell 2
        have cf := hD2.rd.bk.frozen 2
        have d9 := hD2.bs.cell 1
        simp only [List.getElem?_toArray, List.getElem?_cons_succ, List.getElem?_cons_zero] at c2 d9
        cases bd2
        · skip
          have hD3 := hD2.setB (decide (2147483647 < (v : Int)))
          clear hD1
          go_wp2
          go_roundw
          case rel =>
            refine ⟨2, q2, decide (2147483647 < (v : Int)), s0, v, s2, by omega, by go_num, by first | exact hD3 | simpa using hD3, ⟨hs0, hx, hs2⟩, Lib.hid (fun m h1 h2 h3 => ?_), Lib.hid (fun _ => by first | exact hq2.out | exact hq2.out rfl | exact hq2.out trivial)⟩
            obtain ⟨⟨e1, e2, _⟩, e4, e5, e6, e7⟩ := hr1.out m h1 h2 h3
            obtain ⟨o1, o2, o3, _⟩ := (metOk_iff m).1 h1
            have e1 : v = m.sr.toNat := e1
            have hv : v ≤ 2147483647 := by omega
            exact ⟨decide_eq_false (by omega), e2, e4, fun _ => e5 (by omega), fun _ => e1, fun h => by omega⟩
          case measure => simp [intOf]
        · skip
          have hD3 := hD2.setB true
          clear hD1
          go_wp2
          go_roundw
          case rel =>
            refine ⟨2, q2, true, s0, v, s2, by omega, by go_num, by first | exact hD3 | simpa using hD3, ⟨hs0, hx, hs2⟩, Lib.hid (fun m h1 h2 h3 => ?_), Lib.hid (fun e => by cases e)⟩
            obtain ⟨⟨_, _, e3⟩, _⟩ := hr1.out m h1 h2 h3
            cases e3
          case measure => simp [intOf]
      · skip
        have d2 := hD1.bs.cell 2
        have df := hD1.bs.frozen 2
        simp only [List.getElem?_toArray, List.getElem?_cons_succ, List.getElem?_cons_zero] at d2
        have hD2 := hD1.setS 2 (.int .u64 (v : Int))
        simp only [List.setIfInBounds_toArray, List.set_cons_succ, List.set_cons_zero] at hD2
        have c2 := hD2.rd.bk.cell 2
        have cf := hD2.rd.bk.frozen 2
        have d9 := hD2.bs.cell 2
        simp only [List.getElem?_toArray, List.getElem?_cons_succ, List.getElem?_cons_zero] at c2 d9
        cases bd2
        · skip
          have hD3 := hD2.setB (decide (2147483647 < (v : Int)))
          clear hD1
          go_wp2
          go_roundw
          case rel =>
            refine ⟨3, q2, decide (2147483647 < (v : Int)), s0, s1, v, by omega, by go_num, by first | exact hD3 | simpa using hD3, ⟨hs0, hs1, hx⟩, Lib.hid (fun m h1 h2 h3 => ?_), Lib.hid (fun _ => by first | exact hq2.out | exact hq2.out rfl | exact hq2.out trivial)⟩
            obtain ⟨⟨e1, e2, _⟩, e4, e5, e6, e7⟩ := hr1.out m h1 h2 h3
            obtain ⟨o1, o2, o3, _⟩ := (metOk_iff m).1 h1
            have e1 : v = m.pt.toNat := e1
            have hv : v ≤ 2147483647 := by omega
            exact ⟨decide_eq_false (by omega), e2, e4, fun _ => e5 (by omega), fun _ => e6 (by omega), fun _ => e1⟩
          case measure => simp [intOf]
        · skip
          have hD3 := hD2.setB true
          clear hD1
          go_wp2
          go_roundw
          case rel =>
            refine ⟨3, q2, true, s0, s1, v, by omega, by go_num, by first | exact hD3 | simpa using hD3, ⟨hs0, hs1, hx⟩, Lib.hid (fun m h1 h2 h3 => ?_), Lib.hid (fun e => by cases e)⟩
            obtain ⟨⟨_, _, e3⟩, _⟩ := hr1.out m h1 h2 h3
            cases e3
          case measure => simp [intOf]
    · obtain rfl : k = 3 := by omega
      have d0 := hD.bs.cell 0
      have d1 := hD.bs.cell 1
      have d2 := hD.bs.cell 2
      simp only [List.getElem?_toArray, List.getElem?_cons_succ, List.getElem?_cons_zero] at d0 d1 d2
      obtain ⟨lv, hlv⟩ : ∃ x : Int, IntKind.i64.wrap (s0 : Int) = x := ⟨_, rfl⟩
      obtain ⟨sr, hsr⟩ : ∃ x : Int, IntKind.i64.wrap (s1 : Int) = x := ⟨_, rfl⟩
      obtain ⟨pt, hpt⟩ : ∃ x : Int, IntKind.i64.wrap (s2 : Int) = x := ⟨_, rfl⟩
      have hO2 : Hid (∀ m, metOk m = true → MetW m → l = encM m → bad = false ∧ q = posM m 4 ∧ x0 = m.id ∧ lv = m.lv ∧ sr = m.sr ∧ pt = m.pt) := Lib.hid (fun m h1 h2 h3 => by
        obtain ⟨e1, e2, e3, e4, e5, e6⟩ := hO.out m h1 h2 h3
        obtain ⟨o1, o2, o3, _⟩ := (metOk_iff m).1 h1
        have e4 := e4 (by omega)
        have e5 := e5 (by omega)
        have e6 := e6 (by omega)
        refine ⟨e1, e2, e3, ?_, ?_, ?_⟩
        · rw [← hlv, IntKind.wrap_i64]; omega
        · rw [← hsr, IntKind.wrap_i64]; omega
        · rw [← hpt, IntKind.wrap_i64]; omega)
      have n0 := hD.bm.cell 3
      have nf0 := hD.bm.frozen 3
      have hE1 := hD.setM 3 (.int .i64 lv)
      simp only [List.setIfInBounds_toArray, List.set_cons_succ, List.set_cons_zero] at hE1
      have n1 := hE1.bm.cell 5
      have nf1 := hE1.bm.frozen 5
      have d1' := hE1.bs.cell 1
      have hE2 := hE1.setM 5 (.int .i64 sr)
      simp only [List.setIfInBounds_toArray, List.set_cons_succ, List.set_cons_zero] at hE2
      have n2 := hE2.bm.cell 6
      have nf2 := hE2.bm.frozen 6
      have d2' := hE2.bs.cell 2
      have hE3 := hE2.setM 6 (.int .i64 pt)
      simp only [List.setIfInBounds_toArray, List.set_cons_succ, List.set_cons_zero] at hE3
      simp only [List.getElem?_toArray, List.getElem?_cons_succ, List.getElem?_cons_zero] at n0 n1 n2 d1' d2'
      go_wp2_with fail
      clear n0 n1 n2 nf0 nf1 nf2 d0 d1 d2 d1' d2' hE1 hE2 hD hO hlv hsr hpt
      obtain ⟨W4, hW4⟩ : ∃ W, W = ((wr.setCell ⟨gm, 3, none⟩ (.int .i64 lv)).setCell ⟨gm, 5, none⟩ (.int .i64 sr)).setCell ⟨gm, 6, none⟩ (.int .i64 pt) := ⟨_, rfl⟩
      rw [← hW4] at hE3 ⊢
      clear hW4
      refine (rrInt (w.heap.size + 1) B n c l q bad W4 hE3.rd (by omega)).mono ?_
      rintro e w5 ⟨rfl, hT⟩
      have hv4 := rdU_lt l q bad
      have hO4 : Hid (∀ m, metOk m = true → MetW m → l = encM m → (rdU l q bad).2.2 = false ∧ (rdU l q bad).2.1 = posM m 5 ∧ (x0 = m.id ∧ lv = m.lv ∧ sr = m.sr ∧ pt = m.pt) ∧ (rdU l q bad).1 = zz m.lo) := Lib.hid (fun m h1 h2 h3 => by
        obtain ⟨e1, e2, e3⟩ := hO2.out m h1 h2 h3
        rw [rdU_own h1 h2 h3 (k := 4) e1 e2 (x := zz m.lo) rfl]
        exact ⟨rfl, rfl, e3, rfl⟩)
      have hQv4 : Hid ((rdU l q bad).2.2 = false → (rdU l q bad).2.1 ≤ l.length) := Lib.hid (fun e => (rdU_go e).2.2)
      have hv4D := hE3.to hT
      generalize (rdU l q bad).1 = v4 at *
      generalize (rdU l q bad).2.1 = q4 at *
      generalize (rdU l q bad).2.2 = bad4 at *
      clear hT hE3 hO2
      have n1 := hv4D.bm.cell 1
      have nf1 := hv4D.bm.frozen 1
      simp only [List.getElem?_toArray, List.getElem?_cons_succ, List.getElem?_cons_zero] at n1
      have hF1 := hv4D.setM 1 (.int .i64 (uz v4))
      simp only [List.setIfInBounds_toArray, List.set_cons_succ, List.set_cons_zero] at hF1
      go_wp2_with fail
      clear n1 nf1 hv4D
      obtain ⟨W5, hW5⟩ : ∃ W, W = w5.setCell ⟨gm, 1, none⟩ (.int .i64 (uz v4)) := ⟨_, rfl⟩
      rw [← hW5] at hF1 ⊢
      clear hW5
      refine (rrInt (w.heap.size + 1) B n c l q4 bad4 W5 hF1.rd (by omega)).mono ?_
      rintro e w6 ⟨rfl, hT⟩
      have hv5 := rdU_lt l q4 bad4
      have hO5 : Hid (∀ m, metOk m = true → MetW m → l = encM m → (rdU l q4 bad4).2.2 = false ∧ (rdU l q4 bad4).2.1 = posM m 6 ∧ ((x0 = m.id ∧ lv = m.lv ∧ sr = m.sr ∧ pt = m.pt) ∧ v4 = zz m.lo) ∧ (rdU l q4 bad4).1 = zz m.hi) := Lib.hid (fun m h1 h2 h3 => by
        obtain ⟨e1, e2, e3⟩ := hO4.out m h1 h2 h3
        rw [rdU_own h1 h2 h3 (k := 5) e1 e2 (x := zz m.hi) rfl]
        exact ⟨rfl, rfl, e3, rfl⟩)
      have hQv5 : Hid ((rdU l q4 bad4).2.2 = false → (rdU l q4 bad4).2.1 ≤ l.length) := Lib.hid (fun e => (rdU_go e).2.2)
      have hv5D := hF1.to hT
      generalize (rdU l q4 bad4).1 = v5 at *
      generalize (rdU l q4 bad4).2.1 = q5 at *
      generalize (rdU l q4 bad4).2.2 = bad5 at *
      clear hT hF1 hO4
      have n2 := hv5D.bm.cell 2
      have nf2 := hv5D.bm.frozen 2
      simp only [List.getElem?_toArray, List.getElem?_cons_succ, List.getElem?_cons_zero] at n2
      have hF2 := hv5D.setM 2 (.int .i64 (uz v5))
      simp only [List.setIfInBounds_toArray, List.set_cons_succ, List.set_cons_zero] at hF2
      go_wp2_with fail
      clear n2 nf2 hv5D
      obtain ⟨W6, hW6⟩ : ∃ W, W = w6.setCell ⟨gm, 2, none⟩ (.int .i64 (uz v5)) := ⟨_, rfl⟩
      rw [← hW6] at hF2 ⊢
      clear hW6
      refine (rrUint (w.heap.size + 1) B n c l q5 bad5 W6 hF2.rd (by omega)).mono ?_
      rintro e w7 ⟨rfl, hT⟩
      have hnn := rdU_lt l q5 bad5
      have hO6 : Hid (∀ m, metOk m = true → MetW m → l = encM m → (rdU l q5 bad5).2.2 = false ∧ (rdU l q5 bad5).2.1 = posM m 7 ∧ (((x0 = m.id ∧ lv = m.lv ∧ sr = m.sr ∧ pt = m.pt) ∧ v4 = zz m.lo) ∧ v5 = zz m.hi) ∧ (rdU l q5 bad5).1 = m.src.length) := Lib.hid (fun m h1 h2 h3 => by
        obtain ⟨e1, e2, e3⟩ := hO5.out m h1 h2 h3
        rw [rdU_own h1 h2 h3 (k := 6) e1 e2 (x := m.src.length) rfl]
        exact ⟨rfl, rfl, e3, rfl⟩)
      have hQnn : Hid ((rdU l q5 bad5).2.2 = false → (rdU l q5 bad5).2.1 ≤ l.length) := Lib.hid (fun e => (rdU_go e).2.2)
      have hnnD := hF2.to hT
      generalize (rdU l q5 bad5).1 = nn at *
      generalize (rdU l q5 bad5).2.1 = q6 at *
      generalize (rdU l q5 bad5).2.2 = bad6 at *
      clear hT hF2 hO5
      clear hQ hQv4 hQv5
      go_wp2
      go_loopw [8] (fun s wr => ∃ (k q j : Nat) (bad : Bool) (A : Option Addr) (d : Nat) (xs : List Nat), s = .int .u64 (k : Int) ∧ k < 18446744073709551616 ∧ j ≤ n + 1 ∧ DrS w wr l gm (w.heap.size + 1) (gm + 1) B n c q bad #[.int .u64 (x0 : Int), .int .i64 (uz v4), .int .i64 (uz v5), .int .i64 lv, .slice A j d, .int .i64 sr, .int .i64 pt] #[.int .u64 (s0 : Int), .int .u64 (s1 : Int), .int .u64 (s2 : Int)] ∧ OE elU wr w.heap.size 22 A j d xs ∧ Hid (∀ x ∈ xs, x < 18446744073709551616) ∧ Hid (bad = false → j ≤ q ∧ q ≤ l.length) ∧ Hid (∀ m, metOk m = true → MetW m → l = encM m → bad = false ∧ q = posM m (7 + j) ∧ xs = m.src.take j ∧ k = m.src.length - j ∧ j ≤ m.src.length ∧ x0 = m.id ∧ lv = m.lv ∧ sr = m.sr ∧ pt = m.pt ∧ v4 = zz m.lo ∧ v5 = zz m.hi)) (fun s _ => (intOf s).toNat)
      case atStart => exact ⟨nn, q6, 0, bad6, none, 0, [], rfl, hnn, by omega, hnnD, OE.nil _ _ _, Lib.hid (fun x hx => by cases hx), Lib.hid (fun e => ⟨by omega, hQnn.out e⟩), Lib.hid (fun m h1 h2 h3 => by
        obtain ⟨e1, e2, ⟨⟨⟨e3, e4, e5, e6⟩, e7⟩, e8⟩, e9⟩ := hO6.out m h1 h2 h3
        exact ⟨e1, e2, by simp, by omega, by omega, e3, e4, e5, e6, e7, e8⟩)⟩
      case round =>
        clear hnnD hO6 hQnn hnn
        obtain ⟨k, q, j, bad, A, d, xs, rfl, hk, hj, hD, hA, hX, hQ, hO⟩ := hrel
        have c2 := hD.rd.bk.cell 2
        simp only [List.getElem?_toArray, List.getElem?_cons_succ, List.getElem?_cons_zero] at c2
        cases bad
        · by_cases hk0 : 0 < k
          · obtain ⟨r, rfl⟩ : ∃ r, k = r + 1 := ⟨k - 1, by omega⟩
            have hwq : IntKind.u64.wrap (r : Int) = (r : Int) := by rw [IntKind.wrap_u64]; omega
            have m4 := hD.bm.cell 4
            simp only [List.getElem?_toArray, List.getElem?_cons_succ, List.getElem?_cons_zero] at m4
            have hcs : CellsIn [gm] wr := cellsIn_one hD.bm
            have hcap := hA.cap
            have hsz := hD.gw.size
            go_wp2_with fail
            refine wp_region_textL [] [gm] (by kernel_rfl) (by kernel_rfl) hcs ?_
            simp only [wpUL, tagOf, chk, List.cons_append, List.nil_append]
            intro K hK
            go_wp2_with fail
            refine OnlyN.normal (hK _ _ (fun _ => ⟨_, _, _, rfl, rfl, by simp⟩) ?_)
            clear hK K
            intro K hK
            go_wp2_with fail
            refine (rrUint (w.heap.size + 1) B n c l q false _ (hD.rd.grew (Chg.refl _ wr).drew) (by omega)).mono ?_
            rintro e W1 ⟨rfl, hT⟩
            have hx := rdU_lt l q false
            have hO1 : Hid (∀ m, metOk m = true → MetW m → l = encM m → (rdU l q false).2.2 = false ∧ (rdU l q false).2.1 = posM m (7 + (j + 1)) ∧ xs ++ [(rdU l q false).1] = m.src.take (j + 1) ∧ r = m.src.length - (j + 1) ∧ j + 1 ≤ m.src.length ∧ x0 = m.id ∧ lv = m.lv ∧ sr = m.sr ∧ pt = m.pt ∧ v4 = zz m.lo ∧ v5 = zz m.hi) := Lib.hid (fun m h1 h2 h3 => by
              obtain ⟨e1, e2, e3, e4, e5, e6⟩ := hO.out m h1 h2 h3
              have hjl : j < m.src.length := by omega
              have hxj : m.src[j]? = some m.src[j] := List.getElem?_eq_getElem hjl
              rw [rdU_own h1 h2 h3 (k := 7 + j) rfl e2 (numsM_src m hxj)]
              exact ⟨rfl, rfl, by rw [e3, List.take_add_one, hxj]; rfl, by omega, by omega, e6⟩)
            have hQ1 : Hid ((rdU l q false).2.2 = false → j + 1 ≤ (rdU l q false).2.1 ∧ (rdU l q false).2.1 ≤ l.length) := Lib.hid (fun e => by
              obtain ⟨_, h2, h3⟩ := rdU_go e
              have := (hQ.out (by trivial)).1
              exact ⟨by omega, h3⟩)
            have hj1 : j + 1 ≤ n + 1 := by
              have h1 := hQ.out (by trivial)
              have := hll.out
              omega
            have h1 := (hD.grew (Chg.refl _ wr).drew).to hT
            generalize (rdU l q false).1 = x at *
            generalize (rdU l q false).2.1 = q2 at *
            generalize (rdU l q false).2.2 = bad2 at *
            have hc1 : Chg (fun k => k = w.heap.size + 1) wr W1 := (Chg.refl _ wr).drew.trans hT.ch
            have hA1 : OE elU W1 w.heap.size 22 A j d xs := OE.chg hA hc1 fun ad e hk => Own.ne_blk hA hD.rd.bk (by decide) ad e hk
            have hng : ∀ k', k' ∈ [gm] → k' ≠ w.heap.size + 1 := fun k' hk' => by
              simp only [List.mem_cons, List.not_mem_nil, or_false] at hk'
              subst hk'
              exact Blk.neT hD.bm hD.rd.bk (by decide)
            go_wp2_with fail
            refine OnlyN.normal (hK _ _ (sameIn_of hc1 hcs hng) ?_)
            clear hK K
            have hga : Grew W1 (W1.alloc (.cells #[.int .u64 (x : Int)] 22)) := (Chg.refl _ W1).alloc _
            have hsrc : RE elU (W1.alloc (.cells #[.int .u64 (x : Int)] 22)) (some ⟨W1.heap.size, 0, none⟩) 1 [x] := RE.newAt rfl rfl rfl
            have hA2 := hA1.grew hga
            have hsz1 := h1.gw.size
            intro K hK
            go_wp2_with fail
            refine OnlyN.normal (hK _ _ (sameIn_of (hc1.trans (Chg.of_grew hga)) hcs hng) ?_)
            clear hK K
            intro K hK
            go_wp2_with (at_builtin; go_loud (refine wpList_appE rfl _ _ 23 22 infoU64 rfl Tryz.underlying23 rfl w.heap.size A j d _ rfl hA2 (by simp; omega) _ 1 1 [x] rfl hsrc (by unfold maxLen; omega) (by omega) ?_); intro A3 d3 W3 h3)
            have h4 := (h1.grew hga).append hA2 h3
            have hng2 : ∀ k', k' ∈ [gm] → ¬ (k' = w.heap.size + 1 ∨ ∃ ad, A = some ad ∧ k' = ad.block) := fun k' hk' => by
              rintro (e | ⟨ad, e, hk⟩)
              · exact hng k' hk' e
              · simp only [List.mem_cons, List.not_mem_nil, or_false] at hk'
                subst hk'
                exact Own.ne_blk hA hD.bm (by decide) ad e hk.symm
            refine OnlyN.normal (hK _ _ (sameIn_of (((hc1.mono fun k _ e => Or.inl e).trans (Chg.of_grew hga)).trans (h3.chg.mono fun k _ e => Or.inr e)) hcs hng2) ?_)
            clear hK K
            have m4' := h4.bm.cell 4
            have mf' := h4.bm.frozen 4
            simp only [List.getElem?_toArray, List.getElem?_cons_succ, List.getElem?_cons_zero] at m4'
            have h5 := h4.setM 4 (.slice A3 (j + 1) d3)
            simp only [List.setIfInBounds_toArray, List.set_cons_succ, List.set_cons_zero] at h5
            have hA5 : OE elU (W3.setCell ⟨gm, 4, none⟩ (.slice A3 (j + 1) d3)) w.heap.size 22 A3 (j + 1) d3 (xs ++ [x]) := OE.farBlk h3.oe h4.bm (by decide) 4 _
            have hX5 : Hid (∀ y ∈ xs ++ [x], y < 18446744073709551616) := Lib.hid (fun y hy => by
              rcases List.mem_append.1 hy with hy | hy
              · exact hX.out y hy
              · rcases List.mem_singleton.1 hy with rfl
                exact hx)
            go_wp2_with fail
            refine OnlyN.normal ?_
            clear hA2 hsrc h3 hA1 hT h1 h4 m4' mf' m4 hcs hD hA hX hQ hO c2 hng hng2 hc1
            go_wp2
            go_roundw
            case rel => exact ⟨r, q2, j + 1, bad2, A3, d3, xs ++ [x], by go_num, by omega, hj1, h5, hA5, hX5, hQ1, hO1⟩
            case measure => simp [intOf]
          · obtain rfl : k = 0 := by omega
            have hO9 : Hid (∀ m, metOk m = true → MetW m → l = encM m → false = false ∧ xs = m.src ∧ x0 = m.id ∧ lv = m.lv ∧ sr = m.sr ∧ pt = m.pt ∧ v4 = zz m.lo ∧ v5 = zz m.hi) := Lib.hid (fun m h1 h2 h3 => by
              obtain ⟨_, _, e3, e4, e5, e6⟩ := hO.out m h1 h2 h3
              exact ⟨rfl, by rw [e3]; exact List.take_of_length_le (by omega), e6⟩)
            have hW1 : MetW ⟨x0, uz v4, uz v5, lv, xs, sr, pt⟩ := ⟨hx0, uz_ge hv4, uz_ge hv5, hX.out⟩
            have hjx : Hid (xs.length = j) := Lib.hid (hA.len (by decide))
            have y0 := hD.bm.cell 0
            have y1 := hD.bm.cell 1
            have y2 := hD.bm.cell 2
            have y3 := hD.bm.cell 3
            have y4 := hD.bm.cell 4
            have y5 := hD.bm.cell 5
            have y6 := hD.bm.cell 6
            simp only [List.getElem?_toArray, List.getElem?_cons_succ, List.getElem?_cons_zero] at y0 y1 y2 y3 y4 y5 y6
            cases hm : metOk ⟨x0, uz v4, uz v5, lv, xs, sr, pt⟩
            · skip
              have hNo : Hid (∀ m, metOk m = true → MetW m → l ≠ encM m) := Lib.hid (fun m h1 h2 h3 => by
                have e := met_eq m (hO9.out m h1 h2 h3).2
                rw [e, h1] at hm
                cases hm)
              have hE := fun W (hW : Grew wr W) => rencodeMeta_no ⟨x0, uz v4, uz v5, lv, xs, sr, pt⟩ A j d W ((OE.re (by decide) hA).grew hW) (by omega) hm
              unfold EncP at hE
              replace hE := Lib.hid hE
              clear hm hO9
              go_wp2_with fail
              refine (hE.out _ (Chg.refl _ _)).mono ?_
              rintro e w8 ⟨C8, c8, rfl, o8, g8⟩
              have hD8 := hD.grew g8
              clear hE y0 y1 y2 y3 y4 y5 y6
              have z2 := hD8.rd.bk.cell 2
              simp only [List.getElem?_toArray, List.getElem?_cons_succ, List.getElem?_cons_zero] at z2
              have r0 := hD8.b2.cell 0
              have r1 := hD8.b2.cell 1
              have r2 := hD8.b2.cell 2
              have r3 := hD8.b2.cell 3
              have r4 := hD8.b2.cell 4
              have r5 := hD8.b2.cell 5
              have r6 := hD8.b2.cell 6
              have f0 := hD8.b2.frozen 0
              have f1 := hD8.b2.frozen 1
              have f2 := hD8.b2.frozen 2
              have f3 := hD8.b2.frozen 3
              have f4 := hD8.b2.frozen 4
              have f5 := hD8.b2.frozen 5
              have f6 := hD8.b2.frozen 6
              simp only [List.getElem?_toArray, List.getElem?_cons_succ, List.getElem?_cons_zero] at r0 r1 r2 r3 r4 r5 r6
              have hq := (((((((hD8.b2).set 0 (.int .u64 0)).set 1 (.int .i64 0)).set 2 (.int .i64 0)).set 3 (.int .i64 0)).set 4 (.slice none 0 0)).set 5 (.int .i64 0)).set 6 (.int .i64 0)
              simp only [List.setIfInBounds_toArray, List.set_cons_succ, List.set_cons_zero] at hq
              have hcc : Chg (fun k => k = w.heap.size) w8 (((((((w8.setCell ⟨w.heap.size, 0, none⟩ (.int .u64 0)).setCell ⟨w.heap.size, 1, none⟩ (.int .i64 0)).setCell ⟨w.heap.size, 2, none⟩ (.int .i64 0)).setCell ⟨w.heap.size, 3, none⟩ (.int .i64 0)).setCell ⟨w.heap.size, 4, none⟩ (.slice none 0 0)).setCell ⟨w.heap.size, 5, none⟩ (.int .i64 0)).setCell ⟨w.heap.size, 6, none⟩ (.int .i64 0)) := (((((((Chg.refl (fun k => k = w.heap.size) w8).setCell (p := ⟨w.heap.size, 0, none⟩) (.inr rfl) _).setCell (p := ⟨w.heap.size, 1, none⟩) (.inr rfl) _).setCell (p := ⟨w.heap.size, 2, none⟩) (.inr rfl) _).setCell (p := ⟨w.heap.size, 3, none⟩) (.inr rfl) _).setCell (p := ⟨w.heap.size, 4, none⟩) (.inr rfl) _).setCell (p := ⟨w.heap.size, 5, none⟩) (.inr rfl) _).setCell (p := ⟨w.heap.size, 6, none⟩) (.inr rfl) _
              have hg9 := hD8.gw.step hcc fun k hk e => by omega
              clear hD hcc
              go_wp2
              refine bodyPost_ret (v := .tuple #[.agg #[.int .u64 0, .int .i64 0, .int .i64 0, .int .i64 0, .slice none 0 0, .int .i64 0, .int .i64 0], .int .i64 92]) ?_ rfl (.inr ⟨hNo.out, none, 0, rfl, OE.nil _ _ _, hg9⟩)
              have q0 := hq.cell 0
              have q1 := hq.cell 1
              have q2 := hq.cell 2
              have q3 := hq.cell 3
              have q4 := hq.cell 4
              have q5 := hq.cell 5
              have q6 := hq.cell 6
              simp [results, Tryz.results8, go_sem, q0, q1, q2, q3, q4, q5, q6]
            · skip
              have hE := fun W (hW : Grew wr W) => rencodeMeta_ok ⟨x0, uz v4, uz v5, lv, xs, sr, pt⟩ A j d W ((OE.re (by decide) hA).grew hW) hm hW1
              unfold EncP at hE
              obtain ⟨R, hR⟩ : ∃ R, encM ⟨x0, uz v4, uz v5, lv, xs, sr, pt⟩ = R := ⟨_, rfl⟩
              rw [hR] at hE
              generalize hnR : R.length = nR at hE
              replace hE := Lib.hid hE
              clear hnR
              go_wp2_with fail
              refine (hE.out _ (Chg.refl _ _)).mono ?_
              rintro e w8 ⟨C8, c8, rfl, o8, g8⟩
              have hD8 := hD.grew g8
              clear hE y0 y1 y2 y3 y4 y5 y6
              have z2 := hD8.rd.bk.cell 2
              simp only [List.getElem?_toArray, List.getElem?_cons_succ, List.getElem?_cons_zero] at z2
              have hcv8 := run_conv_RB (P := Tryz.prog) (c := c8) Tryz.underlying26 Tryz.underlying5 Tryz.underlying9 o8.rb
              have hcvl := hcvB.out w8 hD8.gw
              by_cases hEq : R = l
              · skip
                rw [hEq] at hcv8
                generalize (⟨l.toArray⟩ : ByteArray) = xl at hcv8 hcvl
                rw [← hR] at hEq
                replace hR := Lib.hid hR
                have hD9 := hD8.bm
                have y0 := hD9.cell 0
                have y1 := hD9.cell 1
                have y2 := hD9.cell 2
                have y3 := hD9.cell 3
                have y4 := hD9.cell 4
                have y5 := hD9.cell 5
                have y6 := hD9.cell 6
                simp only [List.getElem?_toArray, List.getElem?_cons_succ, List.getElem?_cons_zero] at y0 y1 y2 y3 y4 y5 y6
                have hEq' := Lib.hid hEq
                clear hEq
                have r0 := hD8.b2.cell 0
                have r1 := hD8.b2.cell 1
                have r2 := hD8.b2.cell 2
                have r3 := hD8.b2.cell 3
                have r4 := hD8.b2.cell 4
                have r5 := hD8.b2.cell 5
                have r6 := hD8.b2.cell 6
                have f0 := hD8.b2.frozen 0
                have f1 := hD8.b2.frozen 1
                have f2 := hD8.b2.frozen 2
                have f3 := hD8.b2.frozen 3
                have f4 := hD8.b2.frozen 4
                have f5 := hD8.b2.frozen 5
                have f6 := hD8.b2.frozen 6
                simp only [List.getElem?_toArray, List.getElem?_cons_succ, List.getElem?_cons_zero] at r0 r1 r2 r3 r4 r5 r6
                have hq := (((((((hD8.b2).set 0 (.int .u64 (x0 : Int))).set 1 (.int .i64 (uz v4))).set 2 (.int .i64 (uz v5))).set 3 (.int .i64 lv)).set 4 (.slice A j d)).set 5 (.int .i64 sr)).set 6 (.int .i64 pt)
                simp only [List.setIfInBounds_toArray, List.set_cons_succ, List.set_cons_zero] at hq
                have hcc : Chg (fun k => k = w.heap.size) w8 (((((((w8.setCell ⟨w.heap.size, 0, none⟩ (.int .u64 (x0 : Int))).setCell ⟨w.heap.size, 1, none⟩ (.int .i64 (uz v4))).setCell ⟨w.heap.size, 2, none⟩ (.int .i64 (uz v5))).setCell ⟨w.heap.size, 3, none⟩ (.int .i64 lv)).setCell ⟨w.heap.size, 4, none⟩ (.slice A j d)).setCell ⟨w.heap.size, 5, none⟩ (.int .i64 sr)).setCell ⟨w.heap.size, 6, none⟩ (.int .i64 pt)) := (((((((Chg.refl (fun k => k = w.heap.size) w8).setCell (p := ⟨w.heap.size, 0, none⟩) (.inr rfl) _).setCell (p := ⟨w.heap.size, 1, none⟩) (.inr rfl) _).setCell (p := ⟨w.heap.size, 2, none⟩) (.inr rfl) _).setCell (p := ⟨w.heap.size, 3, none⟩) (.inr rfl) _).setCell (p := ⟨w.heap.size, 4, none⟩) (.inr rfl) _).setCell (p := ⟨w.heap.size, 5, none⟩) (.inr rfl) _).setCell (p := ⟨w.heap.size, 6, none⟩) (.inr rfl) _
                have hg9 := hD8.gw.step hcc fun k hk e => by omega
                have hA9 := OE.chg (hA.grew g8) hcc fun ad e hk => Own.ne_blk (hA.grew g8) hD8.b2 (by decide) ad e hk
                clear hD hcc
                go_wp2
                refine bodyPost_ret (v := .tuple #[.agg #[.int .u64 (x0 : Int), .int .i64 (uz v4), .int .i64 (uz v5), .int .i64 lv, .slice A j d, .int .i64 sr, .int .i64 pt], .int .i64 0]) ?_ rfl (.inl ⟨⟨x0, uz v4, uz v5, lv, xs, sr, pt⟩, hm, hW1, hEq'.out.symm, A, d, by rw [hjx.out], by rw [hjx.out]; exact hA9, hg9⟩)
                have q0 := hq.cell 0
                have q1 := hq.cell 1
                have q2 := hq.cell 2
                have q3 := hq.cell 3
                have q4 := hq.cell 4
                have q5 := hq.cell 5
                have q6 := hq.cell 6
                simp [results, Tryz.results8, go_sem, q0, q1, q2, q3, q4, q5, q6]
              · skip
                have hne : ((⟨R.toArray⟩ : ByteArray).toList == (⟨l.toArray⟩ : ByteArray).toList) = false := by
                  rw [ByteArray.toList_eq, ByteArray.toList_eq]
                  simpa using hEq
                generalize (⟨R.toArray⟩ : ByteArray) = x8 at hcv8 hne
                generalize (⟨l.toArray⟩ : ByteArray) = xl at hcvl hne
                have hNo : Hid (∀ m, metOk m = true → MetW m → l ≠ encM m) := Lib.hid (fun m h1 h2 h3 => by
                  have e := met_eq m (hO9.out m h1 h2 h3).2
                  exact hEq (by rw [← hR, e, h3]))
                replace hR := Lib.hid hR
                replace hEq := Lib.hid hEq
                have r0 := hD8.b2.cell 0
                have r1 := hD8.b2.cell 1
                have r2 := hD8.b2.cell 2
                have r3 := hD8.b2.cell 3
                have r4 := hD8.b2.cell 4
                have r5 := hD8.b2.cell 5
                have r6 := hD8.b2.cell 6
                have f0 := hD8.b2.frozen 0
                have f1 := hD8.b2.frozen 1
                have f2 := hD8.b2.frozen 2
                have f3 := hD8.b2.frozen 3
                have f4 := hD8.b2.frozen 4
                have f5 := hD8.b2.frozen 5
                have f6 := hD8.b2.frozen 6
                simp only [List.getElem?_toArray, List.getElem?_cons_succ, List.getElem?_cons_zero] at r0 r1 r2 r3 r4 r5 r6
                have hq := (((((((hD8.b2).set 0 (.int .u64 0)).set 1 (.int .i64 0)).set 2 (.int .i64 0)).set 3 (.int .i64 0)).set 4 (.slice none 0 0)).set 5 (.int .i64 0)).set 6 (.int .i64 0)
                simp only [List.setIfInBounds_toArray, List.set_cons_succ, List.set_cons_zero] at hq
                have hcc : Chg (fun k => k = w.heap.size) w8 (((((((w8.setCell ⟨w.heap.size, 0, none⟩ (.int .u64 0)).setCell ⟨w.heap.size, 1, none⟩ (.int .i64 0)).setCell ⟨w.heap.size, 2, none⟩ (.int .i64 0)).setCell ⟨w.heap.size, 3, none⟩ (.int .i64 0)).setCell ⟨w.heap.size, 4, none⟩ (.slice none 0 0)).setCell ⟨w.heap.size, 5, none⟩ (.int .i64 0)).setCell ⟨w.heap.size, 6, none⟩ (.int .i64 0)) := (((((((Chg.refl (fun k => k = w.heap.size) w8).setCell (p := ⟨w.heap.size, 0, none⟩) (.inr rfl) _).setCell (p := ⟨w.heap.size, 1, none⟩) (.inr rfl) _).setCell (p := ⟨w.heap.size, 2, none⟩) (.inr rfl) _).setCell (p := ⟨w.heap.size, 3, none⟩) (.inr rfl) _).setCell (p := ⟨w.heap.size, 4, none⟩) (.inr rfl) _).setCell (p := ⟨w.heap.size, 5, none⟩) (.inr rfl) _).setCell (p := ⟨w.heap.size, 6, none⟩) (.inr rfl) _
                have hg9 := hD8.gw.step hcc fun k hk e => by omega
                clear hD hcc
                go_wp2
                refine bodyPost_ret (v := .tuple #[.agg #[.int .u64 0, .int .i64 0, .int .i64 0, .int .i64 0, .slice none 0 0, .int .i64 0, .int .i64 0], .int .i64 92]) ?_ rfl (.inr ⟨hNo.out, none, 0, rfl, OE.nil _ _ _, hg9⟩)
                have q0 := hq.cell 0
                have q1 := hq.cell 1
                have q2 := hq.cell 2
                have q3 := hq.cell 3
                have q4 := hq.cell 4
                have q5 := hq.cell 5
                have q6 := hq.cell 6
                simp [results, Tryz.results8, go_sem, q0, q1, q2, q3, q4, q5, q6]
        · have hO9 : Hid (∀ m, metOk m = true → MetW m → l = encM m → true = false ∧ xs = m.src ∧ x0 = m.id ∧ lv = m.lv ∧ sr = m.sr ∧ pt = m.pt ∧ v4 = zz m.lo ∧ v5 = zz m.hi) := Lib.hid (fun m h1 h2 h3 => by
            obtain ⟨e1, _⟩ := hO.out m h1 h2 h3
            cases e1)
          by_cases hk0 : 0 < k
          · skip
            have hW1 : MetW ⟨x0, uz v4, uz v5, lv, xs, sr, pt⟩ := ⟨hx0, uz_ge hv4, uz_ge hv5, hX.out⟩
            have hjx : Hid (xs.length = j) := Lib.hid (hA.len (by decide))
            have y0 := hD.bm.cell 0
            have y1 := hD.bm.cell 1
            have y2 := hD.bm.cell 2
            have y3 := hD.bm.cell 3
            have y4 := hD.bm.cell 4
            have y5 := hD.bm.cell 5
            have y6 := hD.bm.cell 6
            simp only [List.getElem?_toArray, List.getElem?_cons_succ, List.getElem?_cons_zero] at y0 y1 y2 y3 y4 y5 y6
            cases hm : metOk ⟨x0, uz v4, uz v5, lv, xs, sr, pt⟩
            · skip
              have hNo : Hid (∀ m, metOk m = true → MetW m → l ≠ encM m) := Lib.hid (fun m h1 h2 h3 => by
                have e := met_eq m (hO9.out m h1 h2 h3).2
                rw [e, h1] at hm
                cases hm)
              have hE := fun W (hW : Grew wr W) => rencodeMeta_no ⟨x0, uz v4, uz v5, lv, xs, sr, pt⟩ A j d W ((OE.re (by decide) hA).grew hW) (by omega) hm
              unfold EncP at hE
              replace hE := Lib.hid hE
              clear hm hO9
              go_wp2_with fail
              refine (hE.out _ (Chg.refl _ _)).mono ?_
              rintro e w8 ⟨C8, c8, rfl, o8, g8⟩
              have hD8 := hD.grew g8
              clear hE y0 y1 y2 y3 y4 y5 y6
              have z2 := hD8.rd.bk.cell 2
              simp only [List.getElem?_toArray, List.getElem?_cons_succ, List.getElem?_cons_zero] at z2
              have r0 := hD8.b2.cell 0
              have r1 := hD8.b2.cell 1
              have r2 := hD8.b2.cell 2
              have r3 := hD8.b2.cell 3
              have r4 := hD8.b2.cell 4
              have r5 := hD8.b2.cell 5
              have r6 := hD8.b2.cell 6
              have f0 := hD8.b2.frozen 0
              have f1 := hD8.b2.frozen 1
              have f2 := hD8.b2.frozen 2
              have f3 := hD8.b2.frozen 3
              have f4 := hD8.b2.frozen 4
              have f5 := hD8.b2.frozen 5
              have f6 := hD8.b2.frozen 6
              simp only [List.getElem?_toArray, List.getElem?_cons_succ, List.getElem?_cons_zero] at r0 r1 r2 r3 r4 r5 r6
              have hq := (((((((hD8.b2).set 0 (.int .u64 0)).set 1 (.int .i64 0)).set 2 (.int .i64 0)).set 3 (.int .i64 0)).set 4 (.slice none 0 0)).set 5 (.int .i64 0)).set 6 (.int .i64 0)
              simp only [List.setIfInBounds_toArray, List.set_cons_succ, List.set_cons_zero] at hq
              have hcc : Chg (fun k => k = w.heap.size) w8 (((((((w8.setCell ⟨w.heap.size, 0, none⟩ (.int .u64 0)).setCell ⟨w.heap.size, 1, none⟩ (.int .i64 0)).setCell ⟨w.heap.size, 2, none⟩ (.int .i64 0)).setCell ⟨w.heap.size, 3, none⟩ (.int .i64 0)).setCell ⟨w.heap.size, 4, none⟩ (.slice none 0 0)).setCell ⟨w.heap.size, 5, none⟩ (.int .i64 0)).setCell ⟨w.heap.size, 6, none⟩ (.int .i64 0)) := (((((((Chg.refl (fun k => k = w.heap.size) w8).setCell (p := ⟨w.heap.size, 0, none⟩) (.inr rfl) _).setCell (p := ⟨w.heap.size, 1, none⟩) (.inr rfl) _).setCell (p := ⟨w.heap.size, 2, none⟩) (.inr rfl) _).setCell (p := ⟨w.heap.size, 3, none⟩) (.inr rfl) _).setCell (p := ⟨w.heap.size, 4, none⟩) (.inr rfl) _).setCell (p := ⟨w.heap.size, 5, none⟩) (.inr rfl) _).setCell (p := ⟨w.heap.size, 6, none⟩) (.inr rfl) _
              have hg9 := hD8.gw.step hcc fun k hk e => by omega
              clear hD hcc
              go_wp2
              refine bodyPost_ret (v := .tuple #[.agg #[.int .u64 0, .int .i64 0, .int .i64 0, .int .i64 0, .slice none 0 0, .int .i64 0, .int .i64 0], .int .i64 92]) ?_ rfl (.inr ⟨hNo.out, none, 0, rfl, OE.nil _ _ _, hg9⟩)
              have q0 := hq.cell 0
              have q1 := hq.cell 1
              have q2 := hq.cell 2
              have q3 := hq.cell 3
              have q4 := hq.cell 4
              have q5 := hq.cell 5
              have q6 := hq.cell 6
              simp [results, Tryz.results8, go_sem, q0, q1, q2, q3, q4, q5, q6]
            · skip
              have hE := fun W (hW : Grew wr W) => rencodeMeta_ok ⟨x0, uz v4, uz v5, lv, xs, sr, pt⟩ A j d W ((OE.re (by decide) hA).grew hW) hm hW1
              unfold EncP at hE
              obtain ⟨R, hR⟩ : ∃ R, encM ⟨x0, uz v4, uz v5, lv, xs, sr, pt⟩ = R := ⟨_, rfl⟩
              rw [hR] at hE
              generalize hnR : R.length = nR at hE
              replace hE := Lib.hid hE
              clear hnR
              go_wp2_with fail
              refine (hE.out _ (Chg.refl _ _)).mono ?_
              rintro e w8 ⟨C8, c8, rfl, o8, g8⟩
              have hD8 := hD.grew g8
              clear hE y0 y1 y2 y3 y4 y5 y6
              have z2 := hD8.rd.bk.cell 2
              simp only [List.getElem?_toArray, List.getElem?_cons_succ, List.getElem?_cons_zero] at z2
              have hNo : Hid (∀ m, metOk m = true → MetW m → l ≠ encM m) := Lib.hid (fun m h1 h2 h3 => by
                have e := (hO9.out m h1 h2 h3).1
                cases e)
              have r0 := hD8.b2.cell 0
              have r1 := hD8.b2.cell 1
              have r2 := hD8.b2.cell 2
              have r3 := hD8.b2.cell 3
              have r4 := hD8.b2.cell 4
              have r5 := hD8.b2.cell 5
              have r6 := hD8.b2.cell 6
              have f0 := hD8.b2.frozen 0
              have f1 := hD8.b2.frozen 1
              have f2 := hD8.b2.frozen 2
              have f3 := hD8.b2.frozen 3
              have f4 := hD8.b2.frozen 4
              have f5 := hD8.b2.frozen 5
              have f6 := hD8.b2.frozen 6
              simp only [List.getElem?_toArray, List.getElem?_cons_succ, List.getElem?_cons_zero] at r0 r1 r2 r3 r4 r5 r6
              have hq := (((((((hD8.b2).set 0 (.int .u64 0)).set 1 (.int .i64 0)).set 2 (.int .i64 0)).set 3 (.int .i64 0)).set 4 (.slice none 0 0)).set 5 (.int .i64 0)).set 6 (.int .i64 0)
              simp only [List.setIfInBounds_toArray, List.set_cons_succ, List.set_cons_zero] at hq
              have hcc : Chg (fun k => k = w.heap.size) w8 (((((((w8.setCell ⟨w.heap.size, 0, none⟩ (.int .u64 0)).setCell ⟨w.heap.size, 1, none⟩ (.int .i64 0)).setCell ⟨w.heap.size, 2, none⟩ (.int .i64 0)).setCell ⟨w.heap.size, 3, none⟩ (.int .i64 0)).setCell ⟨w.heap.size, 4, none⟩ (.slice none 0 0)).setCell ⟨w.heap.size, 5, none⟩ (.int .i64 0)).setCell ⟨w.heap.size, 6, none⟩ (.int .i64 0)) := (((((((Chg.refl (fun k => k = w.heap.size) w8).setCell (p := ⟨w.heap.size, 0, none⟩) (.inr rfl) _).setCell (p := ⟨w.heap.size, 1, none⟩) (.inr rfl) _).setCell (p := ⟨w.heap.size, 2, none⟩) (.inr rfl) _).setCell (p := ⟨w.heap.size, 3, none⟩) (.inr rfl) _).setCell (p := ⟨w.heap.size, 4, none⟩) (.inr rfl) _).setCell (p := ⟨w.heap.size, 5, none⟩) (.inr rfl) _).setCell (p := ⟨w.heap.size, 6, none⟩) (.inr rfl) _
              have hg9 := hD8.gw.step hcc fun k hk e => by omega
              clear hD hcc
              go_wp2
              refine bodyPost_ret (v := .tuple #[.agg #[.int .u64 0, .int .i64 0, .int .i64 0, .int .i64 0, .slice none 0 0, .int .i64 0, .int .i64 0], .int .i64 92]) ?_ rfl (.inr ⟨hNo.out, none, 0, rfl, OE.nil _ _ _, hg9⟩)
              have q0 := hq.cell 0
              have q1 := hq.cell 1
              have q2 := hq.cell 2
              have q3 := hq.cell 3
              have q4 := hq.cell 4
              have q5 := hq.cell 5
              have q6 := hq.cell 6
              simp [results, Tryz.results8, go_sem, q0, q1, q2, q3, q4, q5, q6]
          · obtain rfl : k = 0 := by omega
            have hW1 : MetW ⟨x0, uz v4, uz v5, lv, xs, sr, pt⟩ := ⟨hx0, uz_ge hv4, uz_ge hv5, hX.out⟩
            have hjx : Hid (xs.length = j) := Lib.hid (hA.len (by decide))
            have y0 := hD.bm.cell 0
            have y1 := hD.bm.cell 1
            have y2 := hD.bm.cell 2
            have y3 := hD.bm.cell 3
            have y4 := hD.bm.cell 4
            have y5 := hD.bm.cell 5
            have y6 := hD.bm.cell 6
            simp only [List.getElem?_toArray, List.getElem?_cons_succ, List.getElem?_cons_zero] at y0 y1 y2 y3 y4 y5 y6
            cases hm : metOk ⟨x0, uz v4, uz v5, lv, xs, sr, pt⟩
            · skip
              have hNo : Hid (∀ m, metOk m = true → MetW m → l ≠ encM m) := Lib.hid (fun m h1 h2 h3 => by
                have e := met_eq m (hO9.out m h1 h2 h3).2
                rw [e, h1] at hm
                cases hm)
              have hE := fun W (hW : Grew wr W) => rencodeMeta_no ⟨x0, uz v4, uz v5, lv, xs, sr, pt⟩ A j d W ((OE.re (by decide) hA).grew hW) (by omega) hm
              unfold EncP at hE
              replace hE := Lib.hid hE
              clear hm hO9
              go_wp2_with fail
              refine (hE.out _ (Chg.refl _ _)).mono ?_
              rintro e w8 ⟨C8, c8, rfl, o8, g8⟩
              have hD8 := hD.grew g8
              clear hE y0 y1 y2 y3 y4 y5 y6
              have z2 := hD8.rd.bk.cell 2
              simp only [List.getElem?_toArray, List.getElem?_cons_succ, List.getElem?_cons_zero] at z2
              have r0 := hD8.b2.cell 0
              have r1 := hD8.b2.cell 1
              have r2 := hD8.b2.cell 2
              have r3 := hD8.b2.cell 3
              have r4 := hD8.b2.cell 4
              have r5 := hD8.b2.cell 5
              have r6 := hD8.b2.cell 6
              have f0 := hD8.b2.frozen 0
              have f1 := hD8.b2.frozen 1
              have f2 := hD8.b2.frozen 2
              have f3 := hD8.b2.frozen 3
              have f4 := hD8.b2.frozen 4
              have f5 := hD8.b2.frozen 5
              have f6 := hD8.b2.frozen 6
              simp only [List.getElem?_toArray, List.getElem?_cons_succ, List.getElem?_cons_zero] at r0 r1 r2 r3 r4 r5 r6
              have hq := (((((((hD8.b2).set 0 (.int .u64 0)).set 1 (.int .i64 0)).set 2 (.int .i64 0)).set 3 (.int .i64 0)).set 4 (.slice none 0 0)).set 5 (.int .i64 0)).set 6 (.int .i64 0)
              simp only [List.setIfInBounds_toArray, List.set_cons_succ, List.set_cons_zero] at hq
              have hcc : Chg (fun k => k = w.heap.size) w8 (((((((w8.setCell ⟨w.heap.size, 0, none⟩ (.int .u64 0)).setCell ⟨w.heap.size, 1, none⟩ (.int .i64 0)).setCell ⟨w.heap.size, 2, none⟩ (.int .i64 0)).setCell ⟨w.heap.size, 3, none⟩ (.int .i64 0)).setCell ⟨w.heap.size, 4, none⟩ (.slice none 0 0)).setCell ⟨w.heap.size, 5, none⟩ (.int .i64 0)).setCell ⟨w.heap.size, 6, none⟩ (.int .i64 0)) := (((((((Chg.refl (fun k => k = w.heap.size) w8).setCell (p := ⟨w.heap.size, 0, none⟩) (.inr rfl) _).setCell (p := ⟨w.heap.size, 1, none⟩) (.inr rfl) _).setCell (p := ⟨w.heap.size, 2, none⟩) (.inr rfl) _).setCell (p := ⟨w.heap.size, 3, none⟩) (.inr rfl) _).setCell (p := ⟨w.heap.size, 4, none⟩) (.inr rfl) _).setCell (p := ⟨w.heap.size, 5, none⟩) (.inr rfl) _).setCell (p := ⟨w.heap.size, 6, none⟩) (.inr rfl) _
              have hg9 := hD8.gw.step hcc fun k hk e => by omega
              clear hD hcc
              go_wp2
              refine bodyPost_ret (v := .tuple #[.agg #[.int .u64 0, .int .i64 0, .int .i64 0, .int .i64 0, .slice none 0 0, .int .i64 0, .int .i64 0], .int .i64 92]) ?_ rfl (.inr ⟨hNo.out, none, 0, rfl, OE.nil _ _ _, hg9⟩)
              have q0 := hq.cell 0
              have q1 := hq.cell 1
              have q2 := hq.cell 2
              have q3 := hq.cell 3
              have q4 := hq.cell 4
              have q5 := hq.cell 5
              have q6 := hq.cell 6
              simp [results, Tryz.results8, go_sem, q0, q1, q2, q3, q4, q5, q6]
            · skip
              have hE := fun W (hW : Grew wr W) => rencodeMeta_ok ⟨x0, uz v4, uz v5, lv, xs, sr, pt⟩ A j d W ((OE.re (by decide) hA).grew hW) hm hW1
              unfold EncP at hE
              obtain ⟨R, hR⟩ : ∃ R, encM ⟨x0, uz v4, uz v5, lv, xs, sr, pt⟩ = R := ⟨_, rfl⟩
              rw [hR] at hE
              generalize hnR : R.length = nR at hE
              replace hE := Lib.hid hE
              clear hnR
              go_wp2_with fail
              refine (hE.out _ (Chg.refl _ _)).mono ?_
              rintro e w8 ⟨C8, c8, rfl, o8, g8⟩
              have hD8 := hD.grew g8
              clear hE y0 y1 y2 y3 y4 y5 y6
              have z2 := hD8.rd.bk.cell 2
              simp only [List.getElem?_toArray, List.getElem?_cons_succ, List.getElem?_cons_zero] at z2
              have hNo : Hid (∀ m, metOk m = true → MetW m → l ≠ encM m) := Lib.hid (fun m h1 h2 h3 => by
                have e := (hO9.out m h1 h2 h3).1
                cases e)
              have r0 := hD8.b2.cell 0
              have r1 := hD8.b2.cell 1
              have r2 := hD8.b2.cell 2
              have r3 := hD8.b2.cell 3
              have r4 := hD8.b2.cell 4
              have r5 := hD8.b2.cell 5
              have r6 := hD8.b2.cell 6
              have f0 := hD8.b2.frozen 0
              have f1 := hD8.b2.frozen 1
              have f2 := hD8.b2.frozen 2
              have f3 := hD8.b2.frozen 3
              have f4 := hD8.b2.frozen 4
              have f5 := hD8.b2.frozen 5
              have f6 := hD8.b2.frozen 6
              simp only [List.getElem?_toArray, List.getElem?_cons_succ, List.getElem?_cons_zero] at r0 r1 r2 r3 r4 r5 r6
              have hq := (((((((hD8.b2).set 0 (.int .u64 0)).set 1 (.int .i64 0)).set 2 (.int .i64 0)).set 3 (.int .i64 0)).set 4 (.slice none 0 0)).set 5 (.int .i64 0)).set 6 (.int .i64 0)
              simp only [List.setIfInBounds_toArray, List.set_cons_succ, List.set_cons_zero] at hq
              have hcc : Chg (fun k => k = w.heap.size) w8 (((((((w8.setCell ⟨w.heap.size, 0, none⟩ (.int .u64 0)).setCell ⟨w.heap.size, 1, none⟩ (.int .i64 0)).setCell ⟨w.heap.size, 2, none⟩ (.int .i64 0)).setCell ⟨w.heap.size, 3, none⟩ (.int .i64 0)).setCell ⟨w.heap.size, 4, none⟩ (.slice none 0 0)).setCell ⟨w.heap.size, 5, none⟩ (.int .i64 0)).setCell ⟨w.heap.size, 6, none⟩ (.int .i64 0)) := (((((((Chg.refl (fun k => k = w.heap.size) w8).setCell (p := ⟨w.heap.size, 0, none⟩) (.inr rfl) _).setCell (p := ⟨w.heap.size, 1, none⟩) (.inr rfl) _).setCell (p := ⟨w.heap.size, 2, none⟩) (.inr rfl) _).setCell (p := ⟨w.heap.size, 3, none⟩) (.inr rfl) _).setCell (p := ⟨w.heap.size, 4, none⟩) (.inr rfl) _).setCell (p := ⟨w.heap.size, 5, none⟩) (.inr rfl) _).setCell (p := ⟨w.heap.size, 6, none⟩) (.inr rfl) _
              have hg9 := hD8.gw.step hcc fun k hk e => by omega
              clear hD hcc
              go_wp2
              refine bodyPost_ret (v := .tuple #[.agg #[.int .u64 0, .int .i64 0, .int .i64 0, .int .i64 0, .slice none 0 0, .int .i64 0, .int .i64 0], .int .i64 92]) ?_ rfl (.inr ⟨hNo.out, none, 0, rfl, OE.nil _ _ _, hg9⟩)
              have q0 := hq.cell 0
              have q1 := hq.cell 1
              have q2 := hq.cell 2
              have q3 := hq.cell 3
              have q4 := hq.cell 4
              have q5 := hq.cell 5
              have q6 := hq.cell 6
              simp [results, Tryz.results8, go_sem, q0, q1, q2, q3, q4, q5, q6]
end Go.Proofs.YtlcaaacbookopaaGreatDoor
