/-
  Several texts in one:
  A heap of cursors in memory: what the methods of a list of cursors answer. Conditions: lengths that memory bears.
  A heap of cursors in memory: Swap, Push and Pop of a list of cursors. Conditions: lengths that memory bears.
  A heap of cursors: moving up and down over the library's heap. Conditions: lengths that memory bears.
-/
import Derived.Test.YtjgbdkokcgcpjaaDoorPart15
import Derived.Test.YtjgbdkokcgcpjaaDoorPart17
import Derived.Test.YtjgbdkokcgcpjaaDoorPart10
import Derived.RegionTactic
import Derived.ChangeAlike

namespace Go.Proofs.YtjgbdkokcgcpjaaDoor
open Go.RowKit

theorem cellsIn_nil (W : World) : CellsIn [] W := fun k hk => by cases hk
theorem cellsIn_cons {k : Nat} {bs : List Nat} {W : World} (h : ∃ cs t fr, W.heap[k]? = some (.cells cs t fr)) (h' : CellsIn bs W) : CellsIn (k :: bs) W := fun i hi => by
  rcases List.mem_cons.1 hi with rfl | hi
  · exact h
  · exact h' i hi
theorem Blk.ex {w : World} {g : Nat} {t : TypeId} {cs : Array Value} (h : Blk w g t cs) : ∃ cs t fr, w.heap[g]? = some (.cells cs t fr) := ⟨_, _, _, h⟩
theorem ex_cell {w : World} {ad : Addr} {u : Value} (h : w.cell? ad = some u) : ∃ cs t fr, w.heap[ad.block]? = some (.cells cs t fr) := cellsIn_cell h _ (by simp)
theorem sameIn_of {S : Nat → Prop} {bs : List Nat} {W w : World} (hc : Chg S W w) (h : CellsIn bs W) (hn : ∀ k ∈ bs, ¬ S k) : SameIn bs W w := fun k hk => by
  obtain ⟨cs, t, fr, h1⟩ := h k hk
  exact hc.block k (Array.getElem?_eq_some_iff.1 h1).1 (hn k hk)
theorem RS.at0 {w : World} {A : Option Addr} {n : Nat} {ss : List Ser} (h : RS w A n ss) (hn : 0 < n) :
    ∃ ad m s, A = some ad ∧ ss[0]? = some s ∧ SrIs w m s ∧ w.cell? ad = some (.slice m.la m.ln m.lc) ∧ w.cell? ⟨ad.block, ad.off + 1, none⟩ = some (.slice m.pa m.pn m.pc) := by
  obtain ⟨ad, m, s, e, hs, hi, h1, h2⟩ := h.at_ hn
  have e0 : ad.add (0 * 2) = ad := rfl
  rw [e0] at h1 h2
  exact ⟨ad, m, s, e, hs, hi, h1, h2⟩
theorem RS.tl {w : World} {ad : Addr} {n c : Nat} {ss : List Ser} (h : RS w (some ad) n ss) (hn : 0 < n) (hc : n ≤ c) :
    RS w (if c = 1 then some ad else some { block := ad.block, off := ad.off + 2 }) (n - 1) (ss.drop 1) := by
  obtain ⟨ms, h1, h2, h3⟩ := h
  refine ⟨ms.drop 1, h1.tl (by decide) hn hc, by rw [List.length_drop, List.length_drop, h2], fun j m s hm hs => ?_⟩
  rw [List.getElem?_drop] at hm hs
  exact h3 _ m s hm hs

/-- a cursor: where it lies, and what it has left -/
structure Cur where
  g : Nat
  la : Option Addr
  ln : Nat
  lc : Nat
  ss : List Ser
def elCu : El Cur := ⟨fun x => [.pointer (some ⟨x.g, 0, none⟩)], 1, fun _ => rfl, by
  intro x u hu
  simp only [List.mem_cons, List.not_mem_nil, or_false] at hu
  rcases hu with rfl
  rfl⟩
theorem infoCu : (Tryd.prog.info? 78).map (fun i => (i.zero, i.size, i.bytes)) = some (some (.pointer none), 1, 8) := by kernel_rfl
def hdL (ss : List Ser) : List Lab := match ss with
  | s :: _ => s.lbs
  | [] => []
def ltC (x y : Cur) : Bool := decide (cmpLs (hdL x.ss) (hdL y.ss) < 0)
theorem wkC : Wk ltC where
  irr a := decide_eq_false (cmpLs_ok.irrefl _)
  tr a b c h1 h2 := by
    unfold ltC at *
    rw [decide_eq_false_iff_not] at *
    intro h3
    rcases cmpLs_ok.tri (hdL b.ss) (hdL c.ss) with h | h | h
    · have := cmpLs_ok.trans _ _ _ h h3
      exact h1 this
    · rw [← h] at h3
      exact h1 h3
    · exact h2 h
  tot a b h := by
    unfold ltC at *
    rw [decide_eq_true_iff] at h
    rw [decide_eq_false_iff_not]
    intro h2
    exact cmpLs_ok.irrefl _ (cmpLs_ok.trans _ _ _ h h2)
/-- the cursor's cell holds what it has left; that is read in w0 -/
structure CuAt (w0 w : World) (base : Nat) (x : Cur) : Prop where
  blk : Blk w x.g 80 #[.slice x.la x.ln x.lc]
  lo : base ≤ x.g
  rs : RS w0 x.la x.ln x.ss
  cap : x.ln ≤ x.lc ∧ x.lc ≤ 9223372036854775807
theorem CuAt.hd {w0 w : World} {base : Nat} {x : Cur} (h : CuAt w0 w base x) (hne : 0 < x.ln) : ∃ ad m s r, x.la = some ad ∧ x.ss = s :: r ∧ SrIs w0 m s ∧ w0.cell? ad = some (.slice m.la m.ln m.lc) ∧ w0.cell? ⟨ad.block, ad.off + 1, none⟩ = some (.slice m.pa m.pn m.pc) := by
  obtain ⟨ad, m, s, e, hs, hi, h1, h2⟩ := h.rs.at0 hne
  rcases hx : x.ss with _ | ⟨s', r⟩
  · rw [hx] at hs
    cases hs
  · rw [hx] at hs
    obtain rfl : s' = s := by simpa using hs
    exact ⟨ad, m, s', r, e, rfl, hi, h1, h2⟩
theorem CuAt.chg {S : Nat → Prop} {w0 w w' : World} {base : Nat} {x : Cur} (h : CuAt w0 w base x) (hc : Chg S w w') (hn : ¬ S x.g) : CuAt w0 w' base x := ⟨h.blk.chg hc hn, h.lo, h.rs, h.cap⟩
theorem CuAt.grew {w0 w w' : World} {base : Nat} {x : Cur} (h : CuAt w0 w base x) (hc : Grew w w') : CuAt w0 w' base x := h.chg hc fun e => e

theorem OE.cu {w : World} {base n c : Nat} {t : TypeId} {A : Option Addr} {l : List Cur} (h : OE elCu w base t A n c l) {i : Nat} {x : Cur} (hx : l[i]? = some x) :
    ∃ g, A = some ⟨g, 0, none⟩ ∧ base ≤ g ∧ w.cell? ⟨g, i, none⟩ = some (.pointer (some ⟨x.g, 0, none⟩)) ∧ w.frozen? ⟨g, i, none⟩ = false ∧ i < n := by
  have hl := h.len (by decide)
  have hi := (List.getElem?_eq_some_iff.1 hx).1
  obtain ⟨g, e, hb, _, hc, hf, _⟩ := Own.at_ h (by omega)
  refine ⟨g, e, hb, ?_, hf i, by omega⟩
  rw [hc i (by show i < n * 1; omega)]
  have := elCu.flat_get l (k := i) (j := 0) hx (by decide)
  rw [show i * elCu.sz + 0 = i by show i * 1 + 0 = i; omega] at this
  rw [this]
  rfl

set_option maxHeartbeats 400000 in
theorem len_cu (A : Option Addr) (n c : Nat) (w : World) : Calls Tryd.prog 117 #[.slice A n c] w fun e w' => e = .returned (.int .i64 (n : Int)) ∧ w = w' := by
  go_enter Tryd.func117, Tryd.ntmps117
  go_wp2
  go_ret
  exact ⟨by simp, rfl⟩

set_option maxRecDepth 100000 in
set_option maxHeartbeats 2000000 in
theorem less_cu (A : Option Addr) (n c base b' : Nat) (t : TypeId) (l : List Cur) (i j : Nat) (x y : Cur) (w0 w : World) (h : OE elCu w base t A n c l) (_hn : n ≤ 9223372036854775807) (hi : l[i]? = some x) (hj : l[j]? = some y) (hx : CuAt w0 w b' x) (hy : CuAt w0 w b' y) (hxn : 0 < x.ln) (hyn : 0 < y.ln) (hg : Chg (fun k => w0.heap.size ≤ k) w0 w) :
    Calls Tryd.prog 118 #[.slice A n c, .int .i64 (i : Int), .int .i64 (j : Int)] w fun e w' => e = .returned (.bool (ltC x y)) ∧ Grew w w' := by
  obtain ⟨g, rfl, _, ci, _, hin⟩ := h.cu hi
  obtain ⟨g', e', _, cj, _, hjn⟩ := h.cu hj
  injection e' with e'
  injection e' with e'
  subst e'
  obtain ⟨ax, mx, sx, rx, ex, hsx, hix, x0, x1⟩ := hx.hd hxn
  obtain ⟨ay, my, sy, ry, ey, hsy, hiy, y0, y1⟩ := hy.hd hyn
  have lx := World.block_lt_of_cell? w0 _ x0
  have ly := World.block_lt_of_cell? w0 _ y0
  have x0 := hg.cell x0 (by simpa using lx)
  have y0 := hg.cell y0 (by simpa using ly)
  have bx := hx.blk.cell 0
  have by_ := hy.blk.cell 0
  have hlx : RE elLb w0 mx.la mx.ln sx.lbs := hix.lb
  have hly : RE elLb w0 my.la my.ln sy.lbs := hiy.lb
  have hlx : RE elLb w mx.la mx.ln sx.lbs := hlx.far hg fun ad e h0 => by have := hlx.lt (by decide) ad e h0; omega
  have hly : RE elLb w my.la my.ln sy.lbs := hly.far hg fun ad e h0 => by have := hly.lt (by decide) ad e h0; omega
  have hC := fun W (hW : Grew w W) => compare_labels mx.la my.la mx.ln mx.lc my.ln my.lc sx.lbs sy.lbs W (hlx.grew hW) (hly.grew hW) (by have := hix.lc; omega) (by have := hiy.lc; omega)
  replace hC := Lib.hid hC
  have hcs : CellsIn [g, x.g, y.g, ax.block, ay.block] w := cellsIn_cons (ex_cell ci) (cellsIn_cons hx.blk.ex (cellsIn_cons hy.blk.ex (cellsIn_cons (ex_cell x0) (cellsIn_cons (ex_cell y0) (cellsIn_nil _)))))
  have hsame : Hid (∀ W, Grew w W → SameIn [g, x.g, y.g, ax.block, ay.block] w W) := fun W hW => sameIn_of hW hcs fun _ _ e => e
  rw [ex] at bx
  rw [ey] at by_
  have hlt : ltC x y = decide (cmpLs sx.lbs sy.lbs < 0) := by unfold ltC; rw [hsx, hsy]; rfl
  rw [hlt]
  generalize cmpLs sx.lbs sy.lbs = z at *
  have e1 : Hid (decide (z < 0) = decide (z < 0)) := rfl
  clear hlt hsx hsy hix hiy hlx hly lx ly hi hj hx hy h ex ey x1 y1 hg
  go_enter Tryd.func118, Tryd.ntmps118
  go_wp2_with fail
  refine wp_region_textS [(3, 1)] [g, x.g, y.g, ax.block, ay.block] (by kernel_rfl) (by kernel_rfl) hcs ?_
  simp only [wpU, tagOf, chk, List.nil_append, List.cons_append]
  intro K hK
  go_wp2_with fail
  refine OnlyN.normal (hK _ _ (fun _ => ⟨_, _, _, rfl, rfl, by simp⟩) ?_)
  clear hK K
  intro K hK
  go_wp2_with fail
  refine OnlyN.normal (hK _ _ (fun _ => ⟨_, _, _, rfl, rfl, by simp⟩) ?_)
  clear hK K
  intro K hK
  go_wp2_with fail
  refine OnlyN.normal (hK _ _ (fun _ => ⟨_, _, _, rfl, rfl, by simp⟩) ?_)
  clear hK K
  intro K hK
  go_wp2_with fail
  refine OnlyN.normal (hK _ _ (fun _ => ⟨_, _, _, rfl, rfl, by simp⟩) ?_)
  clear hK K
  intro K hK
  go_wp2_with fail
  refine OnlyN.normal (hK _ _ (fun _ => ⟨_, _, _, rfl, rfl, by simp⟩) ?_)
  clear hK K
  intro K hK
  go_wp2_with fail
  refine OnlyN.normal (hK _ _ (fun _ => ⟨_, _, _, rfl, rfl, by simp⟩) ?_)
  clear hK K
  intro K hK
  go_wp2_with fail
  refine (hC.out _ (Chg.refl _ w).drew).mono ?_
  rintro e w1 ⟨rfl, hg1⟩
  have hgg : Grew w w1 := (Chg.refl _ w).drew.trans hg1
  go_wp2_with fail
  refine OnlyN.normal (hK _ _ (hsame.out _ hgg) ?_)
  clear hK K
  go_wp2_with fail
  refine OnlyN.normal ?_
  go_wp2
  go_ret
  exact ⟨by simp, hgg⟩
end Go.Proofs.YtjgbdkokcgcpjaaDoor

namespace Go.Proofs.YtjgbdkokcgcpjaaDoor
open Go.RowKit

theorem flatCu (l : List Cur) : elCu.flat l = l.map fun x => Value.pointer (some ⟨x.g, 0, none⟩) := by
  induction l with
  | nil => rfl
  | cons x l ih => rw [El.flat_cons, ih]; rfl
theorem OE.setCu {w : World} {base n c g i : Nat} {t : TypeId} {l : List Cur} (h : OE elCu w base t (some ⟨g, 0, none⟩) n c l) (x : Cur) : OE elCu (w.setCell ⟨g, i, none⟩ (.pointer (some ⟨x.g, 0, none⟩))) base t (some ⟨g, 0, none⟩) n c (l.set i x) := by
  have := Own.set h i (.pointer (some ⟨x.g, 0, none⟩))
  unfold OE
  rw [flatCu, List.map_set, ← flatCu]
  exact this
theorem swapL_other {α : Type} {l : List α} {i j : Nat} {x y : α} (hi : l[i]? = some x) (hj : l[j]? = some y) : swapL l i j = (l.set j x).set i y := by
  rw [swapL_some hi hj]
  by_cases h : i = j
  · subst h
    rw [hi] at hj
    injection hj with hj
    rw [hj]
  · exact List.set_comm _ _ h

set_option maxRecDepth 100000 in
set_option maxHeartbeats 2000000 in
theorem swap_cu (A : Option Addr) (n c base : Nat) (t : TypeId) (l : List Cur) (i j : Nat) (x y : Cur) (w : World) (h : OE elCu w base t A n c l) (_hn : n ≤ 9223372036854775807) (hi : l[i]? = some x) (hj : l[j]? = some y) :
    Calls Tryd.prog 119 #[.slice A n c, .int .i64 (i : Int), .int .i64 (j : Int)] w fun e w' => e = .returned (.tuple #[]) ∧ OE elCu w' base t A n c (swapL l i j) ∧ Chg (fun k => ∃ ad, A = some ad ∧ k = ad.block) w w' := by
  obtain ⟨g, rfl, _, ci, fi, hin⟩ := h.cu hi
  obtain ⟨g', e', _, cj, fj, hjn⟩ := h.cu hj
  injection e' with e'
  injection e' with e'
  subst e'
  have r1 : OE elCu ((w.setCell ⟨g, i, none⟩ (.pointer (some ⟨y.g, 0, none⟩))).setCell ⟨g, j, none⟩ (.pointer (some ⟨x.g, 0, none⟩))) base t (some ⟨g, 0, none⟩) n c (swapL l i j) := by
    rw [swapL_some hi hj]
    exact (h.setCu y).setCu x
  have r2 : OE elCu ((w.setCell ⟨g, j, none⟩ (.pointer (some ⟨x.g, 0, none⟩))).setCell ⟨g, i, none⟩ (.pointer (some ⟨y.g, 0, none⟩))) base t (some ⟨g, 0, none⟩) n c (swapL l i j) := by
    rw [swapL_other hi hj]
    exact (h.setCu x).setCu y
  have c1 : Chg (fun k => ∃ ad, some (⟨g, 0, none⟩ : Addr) = some ad ∧ k = ad.block) w ((w.setCell ⟨g, i, none⟩ (.pointer (some ⟨y.g, 0, none⟩))).setCell ⟨g, j, none⟩ (.pointer (some ⟨x.g, 0, none⟩))) :=
    ((Chg.refl _ w).setCell (p := ⟨g, i, none⟩) (.inr ⟨_, rfl, rfl⟩) _).setCell (p := ⟨g, j, none⟩) (.inr ⟨_, rfl, rfl⟩) _
  have c2 : Chg (fun k => ∃ ad, some (⟨g, 0, none⟩ : Addr) = some ad ∧ k = ad.block) w ((w.setCell ⟨g, j, none⟩ (.pointer (some ⟨x.g, 0, none⟩))).setCell ⟨g, i, none⟩ (.pointer (some ⟨y.g, 0, none⟩))) :=
    ((Chg.refl _ w).setCell (p := ⟨g, j, none⟩) (.inr ⟨_, rfl, rfl⟩) _).setCell (p := ⟨g, i, none⟩) (.inr ⟨_, rfl, rfl⟩) _
  have R1 := Lib.hid r1
  have R2 := Lib.hid r2
  have C1 := Lib.hid c1
  have C2 := Lib.hid c2
  obtain ⟨v1, k1⟩ := cell?_setCell_some (w := w) (p := ⟨g, i, none⟩) (x := .pointer (some ⟨y.g, 0, none⟩)) (q := ⟨g, j, none⟩) cj
  obtain ⟨v2, k2⟩ := cell?_setCell_some (w := w) (p := ⟨g, j, none⟩) (x := .pointer (some ⟨x.g, 0, none⟩)) (q := ⟨g, i, none⟩) ci
  clear r1 r2 c1 c2 h hi hj
  go_enter Tryd.func119, Tryd.ntmps119
  go_wp2
  go_region
  all_goals (go_end0; first | exact ⟨by simp, R1.out, C1.out.drew⟩ | exact ⟨by simp, R2.out, C2.out.drew⟩)

set_option maxRecDepth 100000 in
set_option maxHeartbeats 2000000 in
theorem assert_cu (a : Addr) (w : World) : (Instr.typeAssert (.iface 78 (.pointer (some a))) 20 78 false).run Tryd.prog w = .ok (.pointer (some a)) w := by kernel_rfl
set_option maxRecDepth 100000 in
set_option maxHeartbeats 2000000 in
theorem push_cu (A : Option Addr) (n c base hb : Nat) (l : List Cur) (x : Cur) (w : World) (h : OE elCu w base 78 A n c l) (hn : n ≤ 1099511627776) (hbox : Blk w hb 75 #[.slice A n c]) (hbase : base ≤ w.heap.size) :
    Calls Tryd.prog 121 #[.pointer (some ⟨hb, 0, none⟩), .iface 78 (.pointer (some ⟨x.g, 0, none⟩))] w fun e w' => e = .returned (.tuple #[]) ∧
      ∃ A' c', Blk w' hb 75 #[.slice A' (n + 1) c'] ∧ OE elCu w' base 78 A' (n + 1) c' (l ++ [x]) ∧ Chg (fun k => k = hb ∨ ∃ ad, A = some ad ∧ k = ad.block) w w' := by
  have b0 := hbox.cell 0
  have hlb := hbox.lt
  have hne : ∀ ad, A = some ad → ad.block ≠ hb := fun ad e => Own.ne_blk h hbox (by decide) ad e
  replace hne := Lib.hid hne
  have ha := fun w => assert_cu ⟨x.g, 0, none⟩ w
  go_enter Tryd.func121, Tryd.ntmps121
  go_wp2_with fail
  refine wp_region_textL [(3, 1)] [hb] (by kernel_rfl) (by kernel_rfl) (cellsIn_one hbox) ?_
  simp only [wpUL, tagOf, chk, List.cons_append, List.nil_append]
  intro K hK
  go_wp2_with fail
  refine OnlyN.normal (hK _ _ (fun _ => ⟨_, _, _, rfl, rfl, by simp⟩) ?_)
  clear hK K
  intro K hK
  go_wp2_with fail
  refine OnlyN.normal (hK _ _ (sameIn_one hbox (hbox.drewN 1)) ?_)
  clear hK K
  have h3 : OE elCu (w.drew.alloc (.cells #[.pointer (some ⟨x.g, 0, none⟩)] 78)) base 78 A n c l := (h.drewN 1).grew ((Chg.refl _ w.drew).alloc _)
  have hbox3 : Blk (w.drew.alloc (.cells #[.pointer (some ⟨x.g, 0, none⟩)] 78)) hb 75 #[.slice A n c] := (hbox.drewN 1).alloc _
  have hsrc : RE elCu (w.drew.alloc (.cells #[.pointer (some ⟨x.g, 0, none⟩)] 78)) (some ⟨w.heap.size, 0, none⟩) 1 [x] := RE.newAt rfl rfl rfl
  intro K hK
  go_wp2_with fail
  refine OnlyN.normal (hK _ _ (sameIn_one hbox hbox3) ?_)
  clear hK K
  intro K hK
  go_wp2_with (at_builtin; refine wpList_appE rfl _ _ 75 78 infoCu rfl Tryd.underlying75 rfl base A n c l rfl h3 (by simp; omega) _ 1 1 [x] rfl hsrc (by unfold maxLen; omega) (by omega) ?_; intro A2 c2 w2 h2)
  have hbox4 := hbox3.chg h2.chg (fun ⟨ad, e1, e2⟩ => hne.out ad e1 e2.symm)
  have b4 := hbox4.cell 0
  have f4 := hbox4.frozen 0
  refine OnlyN.normal (hK _ _ (sameIn_one hbox hbox4) ?_)
  clear hK K
  go_wp2_with fail
  refine OnlyN.normal ?_
  have hch : Chg (fun k => k = hb) w2 (w2.setCell ⟨hb, 0, none⟩ (.slice A2 (n + 1) c2)) := Chg.one _ _ _ _
  have hbox5 : Blk (w2.setCell ⟨hb, 0, none⟩ (.slice A2 (n + 1) c2)) hb 75 #[.slice A2 (n + 1) c2] := by simpa using hbox4.set 0 (.slice A2 (n + 1) c2)
  have ho5 : OE elCu (w2.setCell ⟨hb, 0, none⟩ (.slice A2 (n + 1) c2)) base 78 A2 (n + 1) c2 (l ++ [x]) := OE.chg h2.oe hch (fun ad e => Own.ne_blk h2.oe hbox4 (by decide) ad e)
  have hc5 : Chg (fun k => k = hb ∨ ∃ ad, A = some ad ∧ k = ad.block) w (w2.setCell ⟨hb, 0, none⟩ (.slice A2 (n + 1) c2)) :=
    (((Chg.refl _ w).drew.alloc _).trans (h2.chg.mono fun k _ e => .inr e)).trans (hch.mono fun k _ e => .inl e)
  go_wp2
  go_end0
  exact ⟨by simp, A2, c2, hbox5, ho5, hc5⟩

theorem OE.cuAt {w : World} {base n c : Nat} {t : TypeId} {A : Option Addr} {l : List Cur} {x : Cur} (h : OE elCu w base t A (n + 1) c (l ++ [x])) : OE elCu w base t A n c l ∧ l.length = n ∧ n ≤ c := by
  have hl := h.len (by decide)
  simp only [List.length_append, List.length_cons, List.length_nil] at hl
  have h2 := Own.shrink h (m := n) (by omega)
  rw [elCu.flat_take, List.take_left' (by omega)] at h2
  exact ⟨h2, by omega, h2.cap.1⟩
set_option maxRecDepth 100000 in
set_option maxHeartbeats 2000000 in
theorem pop_cu (A : Option Addr) (n c base hb : Nat) (l : List Cur) (x : Cur) (w : World) (h : OE elCu w base 78 A (n + 1) c (l ++ [x])) (hn : n ≤ 1099511627776) (hbox : Blk w hb 75 #[.slice A (n + 1) c]) :
    Calls Tryd.prog 120 #[.pointer (some ⟨hb, 0, none⟩)] w fun e w' => (∃ v, e = .returned v) ∧
      Blk w' hb 75 #[.slice A n c] ∧ OE elCu w' base 78 A n c l ∧ Chg (fun k => k = hb) w w' := by
  obtain ⟨h2, hln, hnc⟩ := h.cuAt
  have hcap := h.cap
  obtain ⟨g, rfl, _, cx, _, _⟩ := h.cu (i := n) (x := x) (by rw [← hln]; simp)
  have b0 := hbox.cell 0
  have f0 := hbox.frozen 0
  replace hln := Lib.hid hln
  go_enter Tryd.func120, Tryd.ntmps120
  go_wp2
  go_quiet (fail)
  have hq : Chg (fun k => k = hb) w (w.drewN nq) := (Chg.refl _ w).drewN nq
  have hbox := hbox.drewN nq
  have h2 := h2.drewN nq
  generalize w.drewN nq = w1 at *
  clear nq h cx b0 f0
  have b0 := hbox.cell 0
  have f0 := hbox.frozen 0
  have hch : Chg (fun k => k = hb) w (w1.setCell ⟨hb, 0, none⟩ (.slice (some ⟨g, 0, none⟩) n c)) := hq.setCell (p := ⟨hb, 0, none⟩) (.inr rfl) _
  have hch1 : Chg (fun k => k = hb) w1 (w1.setCell ⟨hb, 0, none⟩ (.slice (some ⟨g, 0, none⟩) n c)) := Chg.one _ _ _ _
  have hbox2 : Blk (w1.setCell ⟨hb, 0, none⟩ (.slice (some ⟨g, 0, none⟩) n c)) hb 75 #[.slice (some ⟨g, 0, none⟩) n c] := by simpa using hbox.set 0 (.slice (some ⟨g, 0, none⟩) n c)
  have ho2 : OE elCu (w1.setCell ⟨hb, 0, none⟩ (.slice (some ⟨g, 0, none⟩) n c)) base 78 (some ⟨g, 0, none⟩) n c l := OE.chg h2 hch1 (fun ad e => Own.ne_blk h2 hbox (by decide) ad e)
  clear h2 hbox hq hch1
  go_wp2
  go_region
  go_wp2
  go_ret
  exact ⟨⟨_, rfl⟩, hbox2.drewN 1, ho2.drewN 1, hch.drew⟩
end Go.Proofs.YtjgbdkokcgcpjaaDoor

namespace Go.Proofs.YtjgbdkokcgcpjaaDoor
open Go.RowKit

/-- the list of cursors as it lies -/
structure HpAt (w0 w : World) (base hb : Nat) (A : Option Addr) (n c : Nat) (l : List Cur) : Prop where
  box : Blk w hb 75 #[.slice A n c]
  row : OE elCu w base 78 A n c l
  cu : ∀ x ∈ l, CuAt w0 w base x
  far : Chg (fun k => w0.heap.size ≤ k) w0 w
  lo : w0.heap.size ≤ base
  hi : base ≤ w.heap.size
  blo : base ≤ hb

theorem load_box (a : Addr) (v : Value) (w : World) (h : w.cell? a = some v) : (loadVar 75 a).run Tryd.prog w = .ok v w := by
  have h1 : (isAgg 75).run Tryd.prog w = .ok false w := by kernel_rfl
  unfold loadVar
  rw [Sem.run_bind, h1, Result.andThen_ok]
  simp [load, h, Sem.run]
theorem wrap_box (a : Addr) (s t : String) (w : World) : (Builtin.ssaWrapNilChk_ #[77] 77 #[.pointer (some a), strVal s, strVal t]).run Tryd.prog w = .ok (.pointer (some a)) w := by kernel_rfl
theorem meth_at (f : Nat) (nm : String) (k : Nat) (b : Bool) (a : Addr) (w : World)
    (h2 : ((((Tryd.prog.info? 77).getD default).methods.find? (·.name == nm)).map fun m => (m.path, m.func)) = some (#[], some (k, b))) :
    (method (f + 1) 77 (.pointer (some a)) nm).run Tryd.prog w = if b then .ok (k, .pointer (some a)) w else ((loadVar 75 a).run Tryd.prog w).andThen fun v w' => .ok (k, v) w' := by
  have h1 : (typeInfo 77).run Tryd.prog w = .ok ((Tryd.prog.info? 77).getD default) w := by kernel_rfl
  unfold method
  rw [Sem.run_bind, h1, Result.andThen_ok]
  cases h3 : ((Tryd.prog.info? 77).getD default).methods.find? (·.name == nm) with
  | none => rw [h3] at h2; cases h2
  | some m =>
    rw [h3] at h2
    simp only [Option.map_some, Option.some.injEq, Prod.mk.injEq] at h2
    obtain ⟨h4, h5⟩ := h2
    simp only [h4, h5]
    cases b
    · simp [follow, receiverAt, Place.get, go_sem, run_underlying Tryd.underlying77, wrap_box, asAddr]
    · simp [follow, receiverAt, Place.get, go_sem, run_underlying Tryd.underlying77]
theorem meth_len (f : Nat) (a : Addr) (v : Value) (w : World) (h : w.cell? a = some v) : (method (f + 1) 77 (.pointer (some a)) "Len").run Tryd.prog w = .ok (117, v) w := by
  rw [meth_at f "Len" 117 false a w (by kernel_rfl), if_neg (by decide), load_box a v w h, Result.andThen_ok]
theorem meth_less (f : Nat) (a : Addr) (v : Value) (w : World) (h : w.cell? a = some v) : (method (f + 1) 77 (.pointer (some a)) "Less").run Tryd.prog w = .ok (118, v) w := by
  rw [meth_at f "Less" 118 false a w (by kernel_rfl), if_neg (by decide), load_box a v w h, Result.andThen_ok]
theorem meth_swap (f : Nat) (a : Addr) (v : Value) (w : World) (h : w.cell? a = some v) : (method (f + 1) 77 (.pointer (some a)) "Swap").run Tryd.prog w = .ok (119, v) w := by
  rw [meth_at f "Swap" 119 false a w (by kernel_rfl), if_neg (by decide), load_box a v w h, Result.andThen_ok]
theorem meth_push (f : Nat) (a : Addr) (w : World) : (method (f + 1) 77 (.pointer (some a)) "Push").run Tryd.prog w = .ok (121, .pointer (some a)) w := by
  rw [meth_at f "Push" 121 true a w (by kernel_rfl), if_pos rfl]
theorem meth_pop (f : Nat) (a : Addr) (w : World) : (method (f + 1) 77 (.pointer (some a)) "Pop").run Tryd.prog w = .ok (120, .pointer (some a)) w := by
  rw [meth_at f "Pop" 120 true a w (by kernel_rfl), if_pos rfl]
end Go.Proofs.YtjgbdkokcgcpjaaDoor
