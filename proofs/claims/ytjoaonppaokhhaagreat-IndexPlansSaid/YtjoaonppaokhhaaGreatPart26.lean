/-
  Several texts in one:
  (index.Live) walked. Conditions: lengths that a slice has.
  (index.Due), (index.overlap), (index.Overlaps) walked. Conditions: lengths that a slice has; moments of 64 bits.
-/
import Derived.Test.YtjoaonppaokhhaaGreatPart25

namespace Go.Proofs.YtjoaonppaokhhaaGreat
open Go.RowKit

/-- a meta, and where its sources lie -/
structure MtM where
  m : Met
  A : Option Addr
  n : Nat
  c : Nat
def elMt : El MtM := ⟨fun x => [.int .u64 (x.m.id : Int), .int .i64 x.m.lo, .int .i64 x.m.hi, .int .i64 x.m.lv, .slice x.A x.n x.c, .int .i64 x.m.sr, .int .i64 x.m.pt], 7, fun _ => rfl, by
  intro x u hu
  simp only [List.mem_cons, List.not_mem_nil, or_false] at hu
  rcases hu with rfl | rfl | rfl | rfl | rfl | rfl | rfl <;> rfl⟩
theorem infoMt : (Tryz.prog.info? 28).map (fun i => (i.zero, i.size, i.bytes)) = some (some (.agg #[.int .u64 0, .int .i64 0, .int .i64 0, .int .i64 0, .slice none 0 0, .int .i64 0, .int .i64 0]), 7, 72) := by kernel_rfl
/-- metas in a row of the call's own -/
structure MXo (w : World) (base : Nat) (A : Option Addr) (n c : Nat) (ms : List MtM) : Prop where
  row : OE elMt w base 28 A n c ms
  el : ∀ m ∈ ms, OE elU w base 22 m.A m.n m.c m.m.src
theorem MXo.grew {w w' : World} {base : Nat} {A : Option Addr} {n c : Nat} {ms : List MtM} (h : MXo w base A n c ms) (hc : Grew w w') : MXo w' base A n c ms := ⟨h.row.grew hc, fun m hm => OE.grew (h.el m hm) hc⟩
theorem MXo.mono {w : World} {base base' : Nat} {A : Option Addr} {n c : Nat} {ms : List MtM} (h : MXo w base A n c ms) (hb : base' ≤ base) : MXo w base' A n c ms := ⟨Own.mono h.row hb, fun m hm => Own.mono (h.el m hm) hb⟩
theorem MXo.app {w w' : World} {base : Nat} {A A' : Option Addr} {n k c c' : Nat} {ms : List MtM} {m : MtM} (h : MXo w base A n c ms) (hm : OE elU w base 22 m.A m.n m.c m.m.src) (ha : ApE elMt w base 28 A k c (ms ++ [m]) A' c' w') : MXo w' base A' k c' (ms ++ [m]) := by
  refine ⟨ha.oe, fun m' hm' => ?_⟩
  rcases List.mem_append.1 hm' with h1 | h1
  · exact OE.apartT (h.el m' h1) h.row (by decide) ha.chg
  · rcases List.mem_singleton.1 h1 with rfl
    exact OE.apartT hm h.row (by decide) ha.chg
theorem MXo.at_ {w : World} {base : Nat} {A : Option Addr} {n c : Nat} {ms : List MtM} (h : MXo w base A n c ms) {k : Nat} (hk : k < n) :
    ∃ ad m, A = some ad ∧ ms[k]? = some m ∧ OE elU w base 22 m.A m.n m.c m.m.src ∧ w.cell? (ad.add (k * 7)) = some (.int .u64 (m.m.id : Int)) ∧ w.cell? ⟨(ad.add (k * 7)).block, (ad.add (k * 7)).off + 1, none⟩ = some (.int .i64 m.m.lo) ∧
      w.cell? ⟨(ad.add (k * 7)).block, (ad.add (k * 7)).off + 2, none⟩ = some (.int .i64 m.m.hi) ∧ w.cell? ⟨(ad.add (k * 7)).block, (ad.add (k * 7)).off + 3, none⟩ = some (.int .i64 m.m.lv) ∧
      w.cell? ⟨(ad.add (k * 7)).block, (ad.add (k * 7)).off + 4, none⟩ = some (.slice m.A m.n m.c) ∧ w.cell? ⟨(ad.add (k * 7)).block, (ad.add (k * 7)).off + 5, none⟩ = some (.int .i64 m.m.sr) ∧
      w.cell? ⟨(ad.add (k * 7)).block, (ad.add (k * 7)).off + 6, none⟩ = some (.int .i64 m.m.pt) := by
  obtain ⟨ad, m, e, hm, hc⟩ := (h.row.re (by decide)).at_ hk (by decide)
  exact ⟨ad, m, e, hm, h.el m (List.mem_of_getElem? hm), hc 0 _ rfl, cell_off (by decide) (hc 1 _ rfl), cell_off (by decide) (hc 2 _ rfl), cell_off (by decide) (hc 3 _ rfl), cell_off (by decide) (hc 4 _ rfl), cell_off (by decide) (hc 5 _ rfl), cell_off (by decide) (hc 6 _ rfl)⟩
/-- the metas at some places -/
def metsAt (es : List Ent) (js : List Nat) : List Met := js.filterMap fun k => (es[k]?).map Ent.m
theorem metsAt_snoc {es : List Ent} {js : List Nat} {k : Nat} {e : Ent} (h : es[k]? = some e) : metsAt es (js ++ [k]) = metsAt es js ++ [e.m] := by
  unfold metsAt
  rw [List.filterMap_append]
  congr 1
  simp [h]
theorem livF_len : ∀ (es : List Ent) (k : Nat), (livF k es).length ≤ es.length
  | [], _ => by simp [livF]
  | e :: r, k => by
    have := livF_len r (k + 1)
    rw [livF]
    split
    · simp only [List.length_cons]
      omega
    · simp only [List.length_cons]
      omega
/-- the live entries' metas -/
def livM (es : List Ent) : List Met := metsAt es (livI es)

set_option maxRecDepth 100000 in
set_option maxHeartbeats 4000000 in
theorem liveM_no (v : Nat) (fl : Int) (A : Option Addr) (n c : Nat) (es : List Ent) (w : World) (h : RX w A n es) (hn : n ≤ 9223372036854775807) (hck : chkI fl es = false) :
    Calls Tryz.prog 33 #[.agg #[.int .u64 (v : Int), .int .i64 fl, .slice A n c]] w fun e w' => e = .returned (.slice none 0 0) ∧ Grew w w' := by
  have hgb : Grew w (w.alloc (.cells #[.int .u64 (v : Int), .int .i64 fl, .slice A n c] 25)) := (Chg.refl _ w).alloc _
  have hC := check_any v fl A n c es _ (h.grew hgb) hn
  rw [hck] at hC
  go_enter Tryz.func33, Tryz.ntmps33
  go_wp2_with fail
  refine hC.mono ?_
  rintro e w1 ⟨rfl, hg1⟩
  unfold errI
  clear hC
  go_wp2
  go_ret
  exact ⟨rfl, hgb.trans hg1⟩

/-- a list's state while it is being made -/
structure LvS (w wr : World) (v : Nat) (fl : Int) (A : Option Addr) (n c go : Nat) (B : Option Addr) (C : Nat) (Bl : Option Addr) (L D : Nat) (es : List Ent) : Prop where
  bi : Blk wr w.heap.size 25 #[.int .u64 (v : Int), .int .i64 fl, .slice A n c]
  bo : Blk wr go 25 #[.int .u64 (v : Int), .int .i64 fl, .slice B n C]
  hx : NX wr w.heap.size B n C es
  hl : OE elI wr w.heap.size 3 Bl L D ((livI es).map fun k : Nat => (k : Int))
  gr : Grew w wr
theorem LvS.grew {w wr W : World} {v : Nat} {fl : Int} {A : Option Addr} {n c go : Nat} {B : Option Addr} {C : Nat} {Bl : Option Addr} {L D : Nat} {es : List Ent} (h : LvS w wr v fl A n c go B C Bl L D es) (hg : Grew wr W) : LvS w W v fl A n c go B C Bl L D es :=
  ⟨h.bi.grew hg, h.bo.grew hg, h.hx.grew hg, h.hl.grew hg, h.gr.trans hg⟩
theorem LvS.app {w wr W : World} {v : Nat} {fl : Int} {A : Option Addr} {n c go : Nat} {B : Option Addr} {C : Nat} {Bl : Option Addr} {L D : Nat} {es : List Ent} {α : Type} {E : El α} {t : TypeId} {P P' : Option Addr} {p q d d' : Nat} {l r : List α}
    (h : LvS w wr v fl A n c go B C Bl L D es) (ho : OE E wr w.heap.size t P p d r) (ha : ApE E wr w.heap.size t P q d l P' d' W) (h1 : t ≠ 25) (h2 : t ≠ 51) (h3 : t ≠ 22) (h4 : t ≠ 3) : LvS w W v fl A n c go B C Bl L D es := by
  obtain ⟨ms, hxo, hmap⟩ := h.hx
  exact ⟨ha.ne_blk ho h.bi h1, ha.ne_blk ho h.bo h1, ⟨ms, ⟨hxo.row.apartT ho (Ne.symm h2) ha.chg, fun m hm => OE.apartT (h := hxo.el m hm) ho (Ne.symm h3) ha.chg⟩, hmap⟩, h.hl.apartT ho (Ne.symm h4) ha.chg, ha.grew h.gr (fun ad e => (Own.blk_lt ho ad e).1)⟩
theorem LvS.at_ {w wr : World} {v : Nat} {fl : Int} {A : Option Addr} {n c go : Nat} {B : Option Addr} {C : Nat} {Bl : Option Addr} {L D : Nat} {es : List Ent} (h : LvS w wr v fl A n c go B C Bl L D es) {j : Nat} (hj : j < L) :
    ∃ g k, Bl = some ⟨g, 0, none⟩ ∧ (livI es)[j]? = some k ∧ wr.cell? ⟨g, j, none⟩ = some (.int .i64 (k : Int)) := by
  obtain ⟨g, e, _⟩ := Own.at_ h.hl (by omega)
  obtain ⟨ad, x, e2, hx, hc⟩ := (OE.re (by decide) h.hl).iat hj
  rw [e] at e2
  injection e2 with e2
  subst e2
  rw [List.getElem?_map] at hx
  rw [add_head] at hc
  cases hk : (livI es)[j]? with
  | none => rw [hk] at hx; cases hx
  | some k =>
    rw [hk] at hx
    injection hx with hx
    subst hx
    exact ⟨g, k, e, rfl, hc⟩

set_option maxRecDepth 100000 in
set_option maxHeartbeats 4000000 in
theorem liveM_ok (v : Nat) (fl : Int) (A : Option Addr) (n c : Nat) (es : List Ent) (w : World) (h : RX w A n es) (hok : IxOk fl es) :
    Calls Tryz.prog 33 #[.agg #[.int .u64 (v : Int), .int .i64 fl, .slice A n c]] w fun e w' => ∃ B p C ms, e = .returned (.slice B p C) ∧ MXo w' w.heap.size B p C ms ∧ ms.map MtM.m = livM es ∧ Grew w w' := by
  have hgb : Grew w (w.alloc (.cells #[.int .u64 (v : Int), .int .i64 fl, .slice A n c] 25)) := (Chg.refl _ w).alloc _
  have hbi := Blk.new w 25 #[.int .u64 (v : Int), .int .i64 fl, .slice A n c]
  obtain ⟨W, hW⟩ : ∃ W, W = w.alloc (.cells #[.int .u64 (v : Int), .int .i64 fl, .slice A n c] 25) := ⟨_, rfl⟩
  rw [← hW] at hgb hbi
  have hln : es.length = n := h.len
  have hn : n ≤ 256 := by rw [← hln]; exact hok.len
  have hC := check_any v fl A n c es W (h.grew hgb) (by omega)
  rw [(chkI_iff fl es).2 hok] at hC
  replace hln := Lib.hid hln
  go_enter Tryz.func33, Tryz.ntmps33
  go_wp2_with fail
  rw [← hW]
  refine hC.mono ?_
  rintro e w2 ⟨rfl, hg1⟩
  unfold errI
  have g2 := hgb.trans hg1
  have bi2 := hbi.grew hg1
  have i0 := bi2.cell 0
  have i1 := bi2.cell 1
  have i2 := bi2.cell 2
  simp only [List.getElem?_toArray, List.getElem?_cons_succ, List.getElem?_cons_zero] at i0 i1 i2
  clear hC hW
  go_wp2_with fail
  refine (copyI_any v fl A n c es w2 (h.grew g2) hok.fit).mono ?_
  rintro e w3 ⟨B, C, rfl, hx3, hg3⟩
  obtain ⟨w4, hw4⟩ : ∃ w4, w4 = w3.alloc (.cells #[.int .u64 (v : Int), .int .i64 fl, .slice B n C] 25) := ⟨_, rfl⟩
  have hg4 : Grew w3 w4 := by rw [hw4]; exact (Chg.refl _ w3).alloc _
  have bo4 : Blk w4 w3.heap.size 25 #[.int .u64 (v : Int), .int .i64 fl, .slice B n C] := by rw [hw4]; exact Blk.new _ _ _
  have g4 := (g2.trans hg3).trans hg4
  have bi4 := (bi2.grew hg3).grew hg4
  have hsz := g2.size
  have hx4 := (hx3.mono (base' := w.heap.size) (by omega)).grew hg4
  clear i0 i1 i2
  have i0 := bi4.cell 0
  have i1 := bi4.cell 1
  have i2 := bi4.cell 2
  simp only [List.getElem?_toArray, List.getElem?_cons_succ, List.getElem?_cons_zero] at i0 i1 i2
  rw [hw4] at i0 i1 i2
  go_wp2_with fail
  rw [← hw4]
  refine (live_any v fl A n c es w4 (h.grew g4) hn).mono ?_
  rintro e w5 ⟨Bl, L, D, rfl, hl5, hg5⟩
  obtain ⟨go, hgo⟩ : ∃ go, w3.heap.size = go := ⟨_, rfl⟩
  rw [hgo] at bo4 ⊢
  have hsz4 := g4.size
  have hS : LvS w w5 v fl A n c go B C Bl L D es := ⟨bi4.grew hg5, bo4.grew hg5, hx4.grew hg5, Own.mono hl5 (by omega), g4.trans hg5⟩
  have hL : (livI es).length = L := by
    have := OE.len (by decide) hS.hl
    rwa [List.length_map] at this
  have hLn : L ≤ 9223372036854775807 := by have := hS.hl.cap; omega
  have hL256 : L ≤ 256 := by
    have : (livI es).length ≤ es.length := livF_len es 0
    have := hln.out
    omega
  replace hL := Lib.hid hL
  clear hw4 i0 i1 i2 bo4 hx4 hx3 hl5 hg4 hg3 hg1 hgo hsz4 bi4 bi2 hbi hgb g2 g4 hg5 hsz
  go_wp2
  go_loopw [4, 15] (fun s i wr => ∃ (j : Nat) (P : Option Addr) (d : Nat) (ms : List MtM), j ≤ L ∧ i = .int .i64 (j : Int) ∧ s = .slice P j d ∧ MXo wr w.heap.size P j d ms ∧ ms.map MtM.m = metsAt es ((livI es).take j) ∧ LvS w wr v fl A n c go B C Bl L D es) (fun _ i _ => L - (intOf i).toNat)
  case atStart => exact ⟨0, none, 0, [], by omega, rfl, rfl, ⟨OE.nil _ _ _, fun m hm => by simp at hm⟩, rfl, hS⟩
  case round =>
    clear hS
    obtain ⟨j, P, d, ms, hj, rfl, rfl, hm, hmap, hS⟩ := hrel
    by_cases hlt : j < L
    · obtain ⟨gl, k, rfl, hk, l0⟩ := hS.at_ hlt
      obtain ⟨e, he, hem⟩ := mem_livI.1 (List.mem_of_getElem? hk)
      have hkn : k < n := by
        have := (List.getElem?_eq_some_iff.1 he).1
        have := hln.out
        omega
      obtain ⟨xs, hxo, hxm⟩ := hS.hx
      obtain ⟨ad, x, rfl, hx, hc⟩ := (hxo.row.re (by decide)).at_ hkn (by decide)
      have hxe : x.e = e := by
        rw [← hxm, List.getElem?_map, hx] at he
        injection he
      have x0 := hc 0 _ rfl
      have x1 := cell_off (by decide) (hc 1 _ rfl)
      have x2 := cell_off (by decide) (hc 2 _ rfl)
      have x3 := cell_off (by decide) (hc 3 _ rfl)
      have x4 := cell_off (by decide) (hc 4 _ rfl)
      have x5 := cell_off (by decide) (hc 5 _ rfl)
      have x6 := cell_off (by decide) (hc 6 _ rfl)
      change wr.cell? (ad.add (k * 9)) = _ at x0
      change wr.cell? ⟨(ad.add (k * 9)).block, (ad.add (k * 9)).off + 1, none⟩ = _ at x1
      change wr.cell? ⟨(ad.add (k * 9)).block, (ad.add (k * 9)).off + 2, none⟩ = _ at x2
      change wr.cell? ⟨(ad.add (k * 9)).block, (ad.add (k * 9)).off + 3, none⟩ = _ at x3
      change wr.cell? ⟨(ad.add (k * 9)).block, (ad.add (k * 9)).off + 4, none⟩ = _ at x4
      change wr.cell? ⟨(ad.add (k * 9)).block, (ad.add (k * 9)).off + 5, none⟩ = _ at x5
      change wr.cell? ⟨(ad.add (k * 9)).block, (ad.add (k * 9)).off + 6, none⟩ = _ at x6
      have o2 := hS.bo.cell 2
      simp only [List.getElem?_toArray, List.getElem?_cons_succ, List.getElem?_cons_zero] at o2
      have hxE : OE elU wr w.heap.size 22 x.A x.n x.c x.e.m.src := hxo.el x (List.mem_of_getElem? hx)
      have hmt : (ms ++ [(⟨x.e.m, x.A, x.n, x.c⟩ : MtM)]).map MtM.m = metsAt es ((livI es).take (j + 1)) := by
        rw [List.map_append, hmap, show (livI es).take (j + 1) = (livI es).take j ++ [k] by rw [List.take_add_one, hk]; rfl, metsAt_snoc he, ← hxe]
        rfl
      replace hmt := Lib.hid hmt
      have hgr : Grew wr (wr.alloc (.cells #[.int .u64 (x.e.m.id : Int), .int .i64 x.e.m.lo, .int .i64 x.e.m.hi, .int .i64 x.e.m.lv, .slice x.A x.n x.c, .int .i64 x.e.m.sr, .int .i64 x.e.m.pt] 28)) := (Chg.refl _ wr).alloc _
      have hsrc : RE elMt (wr.alloc (.cells #[.int .u64 (x.e.m.id : Int), .int .i64 x.e.m.lo, .int .i64 x.e.m.hi, .int .i64 x.e.m.lv, .slice x.A x.n x.c, .int .i64 x.e.m.sr, .int .i64 x.e.m.pt] 28)) (some ⟨wr.heap.size, 0, none⟩) 1 [⟨x.e.m, x.A, x.n, x.c⟩] := RE.newAt rfl rfl rfl
      have hro := hm.row.grew hgr
      have hsz := hS.gr.size
      have hcap := hm.row.cap
      clear hk he hem hxm hx hxe hc hmap hxo
      go_wp2_with (at_builtin; go_loud (refine wpList_appE rfl _ _ 54 28 infoMt rfl Tryz.underlying54 rfl w.heap.size P j d ms rfl hro (by simp; omega) _ 1 1 [⟨x.e.m, x.A, x.n, x.c⟩] rfl hsrc (by unfold maxLen; omega) (by omega) ?_); intro P2 d2 w9 h9; have hS9 := (hS.grew hgr).app hro h9 (by decide) (by decide) (by decide) (by decide); have hm9 := (hm.grew hgr).app (OE.grew hxE hgr) h9)
      go_roundw
      case rel => exact ⟨j + 1, P2, d2, _, by omega, by go_num, rfl, hm9, hmt.out, hS9⟩
      case measure => simp [intOf]; omega
    · obtain rfl : j = L := by omega
      rw [List.take_of_length_le (by have := hL.out; omega)] at hmap
      go_wp2
      go_ret
      exact ⟨P, j, d, ms, rfl, hm, hmap, hS.gr⟩
end Go.Proofs.YtjoaonppaokhhaaGreat

namespace Go.Proofs.YtjoaonppaokhhaaGreat
open Go.RowKit

/-- may a marked entry go? -/
def dueB (now delay : Int) (e : Ent) : Bool := e.mkd && (decide (e.tm ≤ now) && decide (max delay 0 ≤ now - e.tm))
def dueL (es : List Ent) (now delay : Int) : List Nat := (es.filter (dueB now delay)).map fun e => e.m.id
theorem dueL_snoc {es : List Ent} {now delay : Int} {k : Nat} {e : Ent} (h : es[k]? = some e) : dueL (es.take (k + 1)) now delay = dueL (es.take k) now delay ++ if dueB now delay e = true then [e.m.id] else [] := by
  unfold dueL
  rw [List.take_add_one, h, List.filter_append, List.map_append]
  congr 1
  by_cases hd : dueB now delay e = true
  · simp [hd]
  · simp [hd]
theorem u64_sub {a b : Int} (ha : -9223372036854775808 ≤ a ∧ a ≤ 9223372036854775807) (hb : -9223372036854775808 ≤ b ∧ b ≤ 9223372036854775807) (h : b ≤ a) : IntKind.u64.wrap (IntKind.u64.wrap a - IntKind.u64.wrap b) = a - b := by
  simp only [IntKind.wrap_u64]
  omega
theorem u64_max {a : Int} (ha : -9223372036854775808 ≤ a ∧ a ≤ 9223372036854775807) : IntKind.u64.wrap (max a 0) = max a 0 := by
  simp only [IntKind.wrap_u64]
  omega

set_option maxRecDepth 100000 in
set_option maxHeartbeats 4000000 in
theorem due_ok (v : Nat) (fl : Int) (A : Option Addr) (n c : Nat) (es : List Ent) (now delay : Int) (w : World) (h : RX w A n es) (hok : IxOk fl es) (hb : ∀ e ∈ es, -9223372036854775808 ≤ e.tm ∧ e.tm ≤ 9223372036854775807) (hnow : -9223372036854775808 ≤ now ∧ now ≤ 9223372036854775807) (hdel : -9223372036854775808 ≤ delay ∧ delay ≤ 9223372036854775807) :
    Calls Tryz.prog 37 #[.agg #[.int .u64 (v : Int), .int .i64 fl, .slice A n c], .int .i64 now, .int .i64 delay] w fun e w' => ∃ B p C, e = .returned (.slice B p C) ∧ OE elU w' w.heap.size 22 B p C (dueL es now delay) ∧ Grew w w' := by
  have hgb : Grew w (w.alloc (.cells #[.int .u64 (v : Int), .int .i64 fl, .slice A n c] 25)) := (Chg.refl _ w).alloc _
  have hbi := Blk.new w 25 #[.int .u64 (v : Int), .int .i64 fl, .slice A n c]
  obtain ⟨W, hW⟩ : ∃ W, W = w.alloc (.cells #[.int .u64 (v : Int), .int .i64 fl, .slice A n c] 25) := ⟨_, rfl⟩
  rw [← hW] at hgb hbi
  have hln : es.length = n := h.len
  have hn : n ≤ 256 := by rw [← hln]; exact hok.len
  have hC := check_any v fl A n c es W (h.grew hgb) (by omega)
  rw [(chkI_iff fl es).2 hok] at hC
  replace hln := Lib.hid hln
  have hmx := u64_max hdel
  go_enter Tryz.func37, Tryz.ntmps37
  go_wp2_with fail
  rw [← hW]
  refine hC.mono ?_
  rintro e w2 ⟨rfl, hg1⟩
  unfold errI
  have g2 := hgb.trans hg1
  have bi2 := hbi.grew hg1
  have i2 := bi2.cell 2
  simp only [List.getElem?_toArray, List.getElem?_cons_succ, List.getElem?_cons_zero] at i2
  clear hC hW
  go_wp2
  go_loopw [7, 16] (fun s i wr => ∃ (k : Nat) (B : Option Addr) (p C : Nat), k ≤ n ∧ p ≤ k ∧ i = .int .i64 (k : Int) ∧ s = .slice B p C ∧ OE elU wr w.heap.size 22 B p C (dueL (es.take k) now delay) ∧ Grew w wr) (fun _ i _ => n - (intOf i).toNat)
  case atStart => exact ⟨0, none, 0, 0, by omega, by omega, rfl, rfl, OE.nil _ _ _, g2⟩
  case round =>
    clear i2 bi2 g2 hg1 hbi hgb
    obtain ⟨k, B, p, C, hk, hpk, rfl, rfl, ho, hg⟩ := hrel
    by_cases hlt : k < n
    · obtain ⟨ad, m, rfl, hx, hm, x0, x1, x2, x3, x4, x5, x6, x7, x8⟩ := (h.grew hg).at_ hlt
      have hst := dueL_snoc (now := now) (delay := delay) hx
      have hbm := hb m.e (List.mem_of_getElem? hx)
      have hgW : Grew wr (wr.alloc (.cells #[.int .u64 (m.e.m.id : Int), .int .i64 m.e.m.lo, .int .i64 m.e.m.hi, .int .i64 m.e.m.lv, .slice m.A m.n m.c, .int .i64 m.e.m.sr, .int .i64 m.e.m.pt, .bool m.e.mkd, .int .i64 m.e.tm] 51)) := (Chg.refl _ wr).alloc _
      have hcap := ho.cap
      have hsz := hg.size
      clear hx
      cases hmk : m.e.mkd
      · rw [show dueB now delay m.e = false by unfold dueB; rw [hmk]; rfl, if_neg (by simp), List.append_nil] at hst
        replace hst := Lib.hid hst
        rw [hmk] at x7 hgW
        clear hmk
        go_wp2
        go_roundw
        case rel => exact ⟨k + 1, B, p, C, by omega, by omega, by go_num, rfl, by rw [hst.out]; exact ho.grew hgW, hg.trans hgW⟩
        case measure => simp [intOf]; omega
      · rw [show dueB now delay m.e = (decide (m.e.tm ≤ now) && decide (max delay 0 ≤ now - m.e.tm)) by unfold dueB; rw [hmk]; rfl] at hst
        rw [hmk] at x7 hgW
        clear hmk
        by_cases hle : m.e.tm ≤ now
        · have hsb := u64_sub hnow hbm hle
          rw [decide_eq_true hle, Bool.true_and] at hst
          by_cases hdl : max delay 0 ≤ now - m.e.tm
          · rw [decide_eq_true hdl, if_pos rfl] at hst
            replace hst := Lib.hid hst
            have hsrc : RE elU ((wr.alloc (.cells #[.int .u64 (m.e.m.id : Int), .int .i64 m.e.m.lo, .int .i64 m.e.m.hi, .int .i64 m.e.m.lv, .slice m.A m.n m.c, .int .i64 m.e.m.sr, .int .i64 m.e.m.pt, .bool true, .int .i64 m.e.tm] 51)).alloc (.cells #[.int .u64 (m.e.m.id : Int)] 22)) (some ⟨wr.heap.size + 1, 0, none⟩) 1 [m.e.m.id] := RE.newAt (by simp) rfl rfl
            have hro := (ho.grew hgW).grew ((Chg.refl _ _).alloc (.cells #[.int .u64 (m.e.m.id : Int)] 22))
            go_wp2_with (at_builtin; go_loud (refine wpList_appE rfl _ _ 26 22 infoU64 rfl Tryz.underlying26 rfl w.heap.size B p C _ rfl hro (by simp; omega) _ 1 1 [m.e.m.id] rfl hsrc (by unfold maxLen; omega) (by omega) ?_); intro B2 C2 w5 h5)
            go_roundw
            case rel => exact ⟨k + 1, B2, p + 1, C2, by omega, by omega, by go_num, rfl, by rw [hst.out]; exact h5.oe, h5.grew ((hg.trans hgW).alloc _) (fun ad e => (Own.blk_lt ho ad e).1)⟩
            case measure => simp [intOf]; omega
          · rw [decide_eq_false hdl, if_neg (by simp), List.append_nil] at hst
            replace hst := Lib.hid hst
            go_wp2
            go_roundw
            case rel => exact ⟨k + 1, B, p, C, by omega, by omega, by go_num, rfl, by rw [hst.out]; exact ho.grew hgW, hg.trans hgW⟩
            case measure => simp [intOf]; omega
        · rw [decide_eq_false hle, Bool.false_and, if_neg (by simp), List.append_nil] at hst
          replace hst := Lib.hid hst
          go_wp2
          go_roundw
          case rel => exact ⟨k + 1, B, p, C, by omega, by omega, by go_num, rfl, by rw [hst.out]; exact ho.grew hgW, hg.trans hgW⟩
          case measure => simp [intOf]; omega
    · obtain rfl : k = n := by omega
      rw [List.take_of_length_le (by have := hln.out; omega)] at ho
      go_wp2
      go_ret
      exact ⟨B, p, C, rfl, ho, hg⟩

/-- do two blocks overlap? -/
def ovB (a b : Met) : Bool := decide (a.lo ≤ b.hi) && decide (b.lo ≤ a.hi)
def ovG : List Met → List Met → Bool
  | _, [] => false
  | p, a :: r => p.any (ovB a) || ovG (p ++ [a]) r
theorem ovG_cons (p : List Met) (a : Met) (r : List Met) : ovG p (a :: r) = (p.any (ovB a) || ovG (p ++ [a]) r) := rfl
/-- do some of them? -/
def ovL (ms : List Met) : Bool := ovG [] ms

set_option maxRecDepth 100000 in
set_option maxHeartbeats 4000000 in
theorem overlap_any (a b : Met) (A B : Option Addr) (n c m d : Nat) (w : World) :
    Calls Tryz.prog 81 #[.agg #[.int .u64 (a.id : Int), .int .i64 a.lo, .int .i64 a.hi, .int .i64 a.lv, .slice A n c, .int .i64 a.sr, .int .i64 a.pt],
      .agg #[.int .u64 (b.id : Int), .int .i64 b.lo, .int .i64 b.hi, .int .i64 b.lv, .slice B m d, .int .i64 b.sr, .int .i64 b.pt]] w fun e w' => e = .returned (.bool (ovB a b)) ∧ Grew w w' := by
  obtain ⟨z, hz⟩ : ∃ z, ovB a b = z := ⟨_, rfl⟩
  rw [hz]
  unfold ovB at hz
  by_cases h1 : a.lo ≤ b.hi
  · rw [decide_eq_true h1, Bool.true_and] at hz
    replace hz := Lib.hid hz
    go_enter Tryz.func81, Tryz.ntmps81
    go_wp2
    go_ret
    exact ⟨by rw [← hz.out]; simp, ((Chg.refl _ w).alloc _).alloc _⟩
  · rw [decide_eq_false h1, Bool.false_and] at hz
    replace hz := Lib.hid hz
    go_enter Tryz.func81, Tryz.ntmps81
    go_wp2
    go_ret
    exact ⟨by rw [← hz.out]; simp, ((Chg.refl _ w).alloc _).alloc _⟩
end Go.Proofs.YtjoaonppaokhhaaGreat
