/-
  Several texts in one:
  (block.read)'s closures: a pair of labels' numbers read out of any bytes, or given up. Conditions: lengths that memory bears.
  (block.read)'s closures: a series' labels read out of any bytes, or given up; all texts, all series. Conditions: lengths that memory bears.
  Points stored into a series of a new row. Conditions: none.
-/
import Derived.Test.YtlcaaacbookopaaGreatDoorPart29
import Derived.Shelf.Abstract
import Derived.Test.YtlcaaacbookopaaGreatDoorPart20
import Derived.Lib.SmallJoins

namespace Go.Proofs.YtlcaaacbookopaaGreatDoor
open Go.RowKit

theorem NS.far {w w' : World} {base : Nat} {A : Option Addr} {n c : Nat} {ss : List Ser} {g : Nat} {t : TypeId} {cs : Array Value} (h : NS w base A n c ss) (hb : Blk w g t cs) (h1 : 85 ≠ t) (h2 : 79 ≠ t) (h3 : 82 ≠ t) (hc : Chg (fun k => k = g) w w') : NS w' base A n c ss := by
  obtain ⟨ms, h4, h5, h6⟩ := h
  exact ⟨ms, OE.chg h4 hc (fun ad e hk => Own.ne_blk h4 hb h1 ad e hk), h5, fun i m s hm hs => ⟨OE.chg (h6 i m s hm hs).lb hc (fun ad e hk => Own.ne_blk (h6 i m s hm hs).lb hb h2 ad e hk), OE.chg (h6 i m s hm hs).pt hc (fun ad e hk => Own.ne_blk (h6 i m s hm hs).pt hb h3 ad e hk)⟩⟩
/-- the texts are read; series, as far as they are read -/
structure P2 (w W : World) (l : List UInt8) (g gv ga go : Nat) (B : Option Addr) (n c q : Nat) (A : Option Addr) (p d : Nat) (al : List ByteArray) (O : Option Addr) (k oc : Nat) (out : List Ser) : Prop where
  tx : TxI w W l g gv ga B n c q A p d al
  bo : Blk W go 39 #[.slice O k oc]
  ns : NS W w.heap.size O k oc out
  lo : w.heap.size ≤ go
theorem P2.chgG {w W W' : World} {l : List UInt8} {g gv ga go : Nat} {B : Option Addr} {n c q q2 : Nat} {A : Option Addr} {p d : Nat} {al : List ByteArray} {O : Option Addr} {k oc : Nat} {out : List Ser} (h : P2 w W l g gv ga go B n c q A p d al O k oc out)
    (hc : Chg (fun k => k = g) W W') (hr : RdS W' g B n c l q2) : P2 w W' l g gv ga go B n c q2 A p d al O k oc out :=
  ⟨h.tx.to ⟨hr, hc⟩, h.bo.chg hc (fun e => Blk.neT h.bo h.tx.kr.rd.bk (by decide) e), h.ns.far h.tx.kr.rd.bk (by decide) (by decide) (by decide) hc, h.lo⟩
theorem P2.grew {w W W' : World} {l : List UInt8} {g gv ga go : Nat} {B : Option Addr} {n c q : Nat} {A : Option Addr} {p d : Nat} {al : List ByteArray} {O : Option Addr} {k oc : Nat} {out : List Ser} (h : P2 w W l g gv ga go B n c q A p d al O k oc out) (hg : Grew W W') : P2 w W' l g gv ga go B n c q A p d al O k oc out :=
  ⟨h.tx.grew hg, h.bo.grew hg, h.ns.grew hg, h.lo⟩

/-- a series' labels, as far as they are read, since a world W0 -/
structure LbI (W0 W : World) (l : List UInt8) (g gs : Nat) (B : Option Addr) (n c q : Nat) (D : Option Addr) (j d2 : Nat) (lb : List Lab) : Prop where
  rd : RdS W g B n c l q
  ch : Chg (fun k => k = g) W0 W
  bs : Blk W gs 85 #[.slice D j d2, .slice none 0 0]
  ll : OE elLb W W0.heap.size 79 D j d2 lb
  ls : W0.heap.size ≤ gs
theorem LbI.to {W0 W W' : World} {l : List UInt8} {g gs : Nat} {B : Option Addr} {n c q q2 : Nat} {D : Option Addr} {j d2 : Nat} {lb : List Lab} (h : LbI W0 W l g gs B n c q D j d2 lb) (ht : RdT W W' g B n c l q2) : LbI W0 W' l g gs B n c q2 D j d2 lb :=
  ⟨ht.rd, h.ch.trans ht.ch, h.bs.chg ht.ch (fun e => Blk.neT h.bs h.rd.bk (by decide) e), OE.chg h.ll ht.ch (fun ad e hk => Own.ne_blk h.ll h.rd.bk (by decide) ad e hk), h.ls⟩
theorem LbI.grew {W0 W W' : World} {l : List UInt8} {g gs : Nat} {B : Option Addr} {n c q : Nat} {D : Option Addr} {j d2 : Nat} {lb : List Lab} (h : LbI W0 W l g gs B n c q D j d2 lb) (hg : Grew W W') : LbI W0 W' l g gs B n c q D j d2 lb :=
  ⟨h.rd.chg hg (fun e => e) (fun _ _ _ e => e), h.ch.trans (Chg.of_grew hg), h.bs.grew hg, h.ll.grew hg, h.ls⟩
/-- no pair of numbers below p stands here -/
def NoPr (l : List UInt8) (p : Nat) : Prop := ∀ a b r, a < p → b < p → l ≠ uv a ++ (uv b ++ r)

set_option maxRecDepth 100000 in
set_option maxHeartbeats 8000000 in
theorem elab_any (w W0 W : World) (l : List UInt8) (g gv ga go gs : Nat) (B : Option Addr) (n c q0 q : Nat) (A : Option Addr) (p d : Nat) (al : List ByteArray) (O : Option Addr) (k oc : Nat) (out : List Ser) (D : Option Addr) (j d2 : Nat) (lb : List Lab)
    (h0 : P2 w W0 l g gv ga go B n c q0 A p d al O k oc out) (h : LbI W0 W l g gs B n c q D j d2 lb) (hn : n ≤ 140737488355328) (hp : p ≤ 1099511627776) (hj : j ≤ 1024) :
    Calls Tryz.prog 85 #[.pointer (some ⟨gv, 0, none⟩), .pointer (some ⟨ga, 0, none⟩), .pointer (some ⟨gs, 0, none⟩)] W fun e W' =>
      (∃ a b x y q2 D2 d3, a < p ∧ b < p ∧ al[a]? = some x ∧ al[b]? = some y ∧ l.drop q = uv a ++ (uv b ++ l.drop q2) ∧ e = .returned (.tuple #[]) ∧ LbI W0 W' l g gs B n c q2 D2 (j + 1) d3 (lb ++ [(x, y)])) ∨ (GvU e ∧ Chg (fun k => k = g) W0 W' ∧ NoPr (l.drop q) p) := by
  have hP := h0.chgG h.ch h.rd
  have v0 := hP.tx.kr.bv.cell 0
  simp only [List.getElem?_toArray, List.getElem?_cons_zero] at v0
  have hcs : CellsIn [gv] W := cellsIn_one hP.tx.kr.bv
  have hngv : ∀ k', k' ∈ [gv] → k' ≠ g := fun k' hk' => by
    simp only [List.mem_cons, List.not_mem_nil, or_false] at hk'
    rw [hk']
    exact Blk.neT hP.tx.kr.bv hP.tx.kr.rd.bk (by decide)
  unfold GvU
  by_cases hr4 : (uintR l (q : Int)).2.2 = 0
  rotate_left
  · have hno := uintR_none hr4
    go_enter Tryz.func85, Tryz.ntmps85
    go_wp2_with fail
    refine wp_region_die [] [0, 2] 1 (by kernel_rfl) rfl (by kernel_rfl) (fun c a d v w h => ⟨by have h1 := h.1; rwa [put_defers] at h1, h.2⟩) (by decide) ?_
    simp only [List.filterMap_cons, List.filterMap_nil, List.getElem?_cons_zero, List.getElem?_cons_succ, instr, chk, List.nil_append]
    go_wp2_with fail
    refine OnlyN.normal (dieQ_of ?_)
    go_wp2_with fail
    refine (rnumber_no g B n c l q _ (h.grew (Chg.refl _ W).drew).rd hn hr4).mono ?_
    rintro e wz ⟨he, hg9⟩
    unfold GvU at he
    subst he
    exact ⟨rfl, .inr ⟨rfl, h.ch.trans (Chg.of_grew ((Chg.refl _ W).drew.trans hg9)), fun a b r ha hb e => no_num hno (by omega) e⟩⟩
  obtain ⟨v4, q5, hu4, hv4, hq5, _, hl5⟩ := uintR_part hr4
  have hd4 := drop_of_take hl5
  clear hr4 hl5
  replace hu4 := Lib.hid hu4
  replace hd4 := Lib.hid hd4
  by_cases hr5 : (uintR l (q5 : Int)).2.2 = 0
  rotate_left
  · have hno := uintR_none hr5
    go_enter Tryz.func85, Tryz.ntmps85
    go_wp2_with fail
    refine wp_region_dieS [] [gv] [0, 1, 2] 3 (by kernel_rfl) rfl (by kernel_rfl) (fun c a d v w h => ⟨by have h1 := h.1; rwa [put_defers] at h1, h.2⟩) (by decide) hcs ?_
    simp only [List.filterMap_cons, List.filterMap_nil, List.getElem?_cons_zero, List.getElem?_cons_succ, wpU, tagOf, List.cons_append, List.nil_append]
    intro K hK
    go_wp2_with fail
    refine OnlyN.normal (hK _ _ (fun _ => ⟨_, _, _, rfl, rfl, by simp⟩) ?_)
    clear hK K
    intro K hK
    go_wp2_with fail
    refine (rnumber_ok g B n c l q v4 q5 _ (h.grew (Chg.refl _ W).drew).rd hn hu4.out).mono ?_
    rintro e w20 ⟨rfl, hT3⟩
    have hG1 := (h.grew (Chg.refl _ W).drew).to hT3
    have hC1 : Chg (fun k => k = g) W w20 := (Chg.refl _ W).drew.trans hT3.ch
    have v9 := ((h0.chgG hG1.ch hG1.rd).tx.kr.bv).cell 0
    simp only [List.getElem?_toArray, List.getElem?_cons_zero] at v9
    go_wp2_with fail
    refine OnlyN.normal (hK _ _ (sameIn_of hC1 hcs hngv) ?_)
    clear hK K hT3
    intro K hK
    go_wp2_with fail
    refine OnlyN.normal (hK _ _ (fun _ => ⟨_, _, _, rfl, rfl, by simp⟩) ?_)
    clear hK K
    go_wp2_with fail
    refine OnlyN.normal (dieQ_of ?_)
    go_wp2_with fail
    refine (rnumber_no g B n c l q5 _ hG1.rd hn hr5).mono ?_
    rintro e wz ⟨he, hg9⟩
    unfold GvU at he
    subst he
    exact ⟨rfl, .inr ⟨rfl, hG1.ch.trans (Chg.of_grew hg9), fun a b r ha hb e => by
      rw [hd4.out] at e
      exact no_num hno (by omega) (uv_cut hv4 (by omega) e).2⟩⟩
  obtain ⟨v5, q6, hu5, hv5, hq6, _, hl6⟩ := uintR_part hr5
  have hd5 := drop_of_take hl6
  clear hr5 hl6
  replace hu5 := Lib.hid hu5
  replace hd5 := Lib.hid hd5
  have hpw : IntKind.u64.wrap (p : Int) = (p : Int) := by rw [IntKind.wrap_u64]; omega
  go_enter Tryz.func85, Tryz.ntmps85
  go_wp2_with fail
  refine wp_region_textS [] [gv] (by kernel_rfl) (by kernel_rfl) hcs ?_
  simp only [wpU, tagOf, chk, List.cons_append, List.nil_append]
  intro K hK
  go_wp2_with fail
  refine OnlyN.normal (hK _ _ (fun _ => ⟨_, _, _, rfl, rfl, by simp⟩) ?_)
  clear hK K
  intro K hK
  go_wp2_with fail
  refine (rnumber_ok g B n c l q v4 q5 _ (h.grew (Chg.refl _ W).drew).rd hn hu4.out).mono ?_
  rintro e w20 ⟨rfl, hT3⟩
  have hG1 := (h.grew (Chg.refl _ W).drew).to hT3
  have hC1 : Chg (fun k => k = g) W w20 := (Chg.refl _ W).drew.trans hT3.ch
  have v9 := ((h0.chgG hG1.ch hG1.rd).tx.kr.bv).cell 0
  simp only [List.getElem?_toArray, List.getElem?_cons_zero] at v9
  go_wp2_with fail
  refine OnlyN.normal (hK _ _ (sameIn_of hC1 hcs hngv) ?_)
  clear hK K hT3
  intro K hK
  go_wp2_with fail
  refine OnlyN.normal (hK _ _ (fun _ => ⟨_, _, _, rfl, rfl, by simp⟩) ?_)
  clear hK K
  intro K hK
  go_wp2_with fail
  refine (rnumber_ok g B n c l q5 v5 q6 w20 hG1.rd hn hu5.out).mono ?_
  rintro e w21 ⟨rfl, hT4⟩
  have hG2 := hG1.to hT4
  have hC2 : Chg (fun k => k = g) W w21 := hC1.trans hT4.ch
  have hP2 := h0.chgG hG2.ch hG2.rd
  have a9 := hP2.tx.ba.cell 0
  simp only [List.getElem?_toArray, List.getElem?_cons_zero] at a9
  go_wp2_with fail
  refine OnlyN.normal (hK _ _ (sameIn_of hC2 hcs hngv) ?_)
  clear hK K hT4 v9 hG1 hC1 v0 hcs hngv hC2 hP h
  go_wp2_with fail
  refine OnlyN.normal ?_
  by_cases c1 : v4 < p
  rotate_left
  · have e1 : ¬ (v4 : Int) < (p : Int) := by omega
    go_wp2_with fail
    refine (must_no _).mono ?_
    rintro e wz ⟨he, rfl⟩
    unfold GvU at he
    subst he
    go_wp2
    exact ⟨rfl, .inr ⟨rfl, hG2.ch, fun a b r ha hb e => by
      rw [hd4.out] at e
      have := (uv_cut hv4 (by omega) e).1
      omega⟩⟩
  have e1 : (v4 : Int) < (p : Int) := by omega
  by_cases c2 : v5 < p
  rotate_left
  · have e2 : ¬ (v5 : Int) < (p : Int) := by omega
    go_wp2_with fail
    refine (must_no _).mono ?_
    rintro e wz ⟨he, rfl⟩
    unfold GvU at he
    subst he
    go_wp2
    exact ⟨rfl, .inr ⟨rfl, hG2.ch, fun a b r ha hb e => by
      rw [hd4.out] at e
      have e := (uv_cut hv4 (by omega) e).2
      rw [hd5.out] at e
      have := (uv_cut hv5 (by omega) e).1
      omega⟩⟩
  have e2 : (v5 : Int) < (p : Int) := by omega
  go_wp2_with fail
  refine (must_yes _).mono ?_
  rintro e wz ⟨rfl, rfl⟩
  have hre := OE.re (by decide) hP2.tx.al
  obtain ⟨ad, x, rfl, hx, hcx⟩ := hre.at_ c1 (by decide)
  obtain ⟨ad', y, he, hy, hcy⟩ := hre.at_ c2 (by decide)
  injection he with he
  subst he
  have x0 : wz.cell? (ad.add v4) = some (.string x) := by
    have h0 := hcx 0 _ rfl
    rw [show v4 * elNm.sz = v4 from Nat.mul_one v4] at h0
    exact h0
  have y0 : wz.cell? (ad.add v5) = some (.string y) := by
    have h0 := hcy 0 _ rfl
    rw [show v5 * elNm.sz = v5 from Nat.mul_one v5] at h0
    exact h0
  have hcA := cellsIn_cell x0
  rw [block_add] at hcA
  have hcs : CellsIn [gs, ga, ad.block] wz := fun i hi => by
    simp only [List.mem_cons, List.not_mem_nil, or_false] at hi
    rcases hi with rfl | rfl | rfl
    · exact ⟨_, _, _, hG2.bs⟩
    · exact ⟨_, _, _, hP2.tx.ba⟩
    · exact hcA _ (by simp)
  have b0 := hG2.bs.cell 0
  simp only [List.getElem?_toArray, List.getElem?_cons_zero] at b0
  have hls := hG2.ls
  have hsz := hG2.ch.size
  have hcap := hG2.ll.cap
  have hw0 := h0.tx.kr.gr.size
  clear hre hcx hcy hcA
  go_wp2_with fail
  refine wp_region_textL [] [gs, ga, ad.block] (by kernel_rfl) (by kernel_rfl) hcs ?_
  simp only [wpUL, tagOf, chk, List.cons_append, List.nil_append]
  intro K hK
  go_wp2_with fail
  refine OnlyN.normal (hK _ _ (fun _ => ⟨_, _, _, rfl, rfl, by simp⟩) ?_)
  clear hK K
  intro K hK
  go_wp2_with fail
  refine OnlyN.normal (hK _ _ (fun _ => ⟨_, _, _, rfl, rfl, by simp⟩) ?_)
  clear hK K
  intro K hK
  go_wp2_with fail
  refine OnlyN.normal (hK _ _ (fun _ => ⟨_, _, _, rfl, rfl, by simp [block_add]⟩) ?_)
  clear hK K
  intro K hK
  go_wp2_with fail
  refine OnlyN.normal (hK _ _ (fun _ => ⟨_, _, _, rfl, rfl, by simp⟩) ?_)
  clear hK K
  intro K hK
  go_wp2_with fail
  refine OnlyN.normal (hK _ _ (fun _ => ⟨_, _, _, rfl, rfl, by simp [block_add]⟩) ?_)
  clear hK K
  have hga : Grew wz.drew (wz.drew.alloc (.cells #[.string x, .string y] 79)) := (Chg.refl _ wz.drew).alloc _
  have hsrc : RE elLb (wz.drew.alloc (.cells #[.string x, .string y] 79)) (some ⟨wz.heap.size, 0, none⟩) 1 [(x, y)] := RE.newAt rfl rfl rfl
  have hG3 := (hG2.grew (Chg.refl _ wz).drew).grew hga
  have hgg : Grew wz (wz.drew.alloc (.cells #[.string x, .string y] 79)) := (Chg.refl _ wz).drew.trans hga
  intro K hK
  go_wp2_with fail
  refine OnlyN.normal (hK _ _ (sameIn_of hgg hcs fun _ _ e => e) ?_)
  clear hK K
  intro K hK
  go_wp2_with (at_builtin; go_loud (refine wpList_appE rfl _ _ 80 79 infoLab rfl Tryz.underlying80 rfl W0.heap.size D j d2 lb rfl hG3.ll (by simp; omega) _ 1 1 [(x, y)] rfl hsrc (by unfold maxLen; omega) (by omega) ?_); intro A3 d3 W3 h3)
  have hne3 : ∀ t cs k', Blk (wz.drew.alloc (.cells #[.string x, .string y] 79)) k' t cs → 79 ≠ t → ¬ ∃ ad, D = some ad ∧ k' = ad.block := fun t cs k' hb ht ⟨ad, e, hk⟩ => Own.ne_blk hG3.ll hb ht ad e hk.symm
  have hc3 : Chg (fun k => k = g) W0 W3 := hG3.ch.step h3.chg fun k hk ⟨ad, e, he⟩ => by have := (Own.blk_lt hG3.ll ad e).1; omega
  have r3 : RdS W3 g B n c l q6 := hG3.rd.chg h3.chg (hne3 _ _ _ hG3.rd.bk (by decide)) fun ad e h9 ⟨bd, e2, hk⟩ => by
    have h7 := h0.tx.kr.bb ad e h9
    have h8 := (Own.blk_lt hG3.ll bd e2).1
    omega
  have b3 := hG3.bs.chg h3.chg (hne3 _ _ _ hG3.bs (by decide))
  refine OnlyN.normal (hK _ _ (sameIn_of ((Chg.of_grew hgg).trans h3.chg) hcs fun k' hk' => by
    simp only [List.mem_cons, List.not_mem_nil, or_false] at hk'
    rcases hk' with rfl | rfl | rfl
    · exact hne3 _ _ _ hG3.bs (by decide)
    · exact hne3 _ _ _ (hP2.tx.ba.grew hgg) (by decide)
    · rintro ⟨bd, e, hk⟩
      have hO := OE.neT hG3.ll (hP2.tx.al.grew hgg) (by decide) bd ad e rfl
      exact hO hk.symm) ?_)
  clear hK K
  have m4' := b3.cell 0
  have mf' := b3.frozen 0
  simp only [List.getElem?_toArray, List.getElem?_cons_zero] at m4'
  have b5 := b3.set 0 (.slice A3 (j + 1) d3)
  simp only [List.setIfInBounds_toArray, List.set_cons_zero] at b5
  have hk5 : Chg (fun k => k = gs) W3 (W3.setCell ⟨gs, 0, none⟩ (.slice A3 (j + 1) d3)) := Chg.cell1 W3 gs 0 _
  have k5 : LbI W0 (W3.setCell ⟨gs, 0, none⟩ (.slice A3 (j + 1) d3)) l g gs B n c q6 A3 (j + 1) d3 (lb ++ [(x, y)]) :=
    ⟨r3.chg hk5 (fun e => Blk.neT r3.bk b3 (by decide) e) (fun ad e h9 e2 => by
      have e2 : ad.block = gs := e2
      have h7 := h0.tx.kr.bb ad e h9
      omega), hc3.step hk5 (fun k hk e => by
      have e : k = gs := e
      omega), b5, OE.farBlk h3.oe b3 (by decide) 0 _, hls⟩
  go_wp2_with fail
  refine OnlyN.normal ?_
  clear hG2 hsrc h3 hG3 m4' mf' hcs hP2 b0 a9
  go_wp2
  go_end0
  exact .inl ⟨v4, v5, x, y, q6, A3, d3, c1, c2, hx, hy, by rw [hd4.out, hd5.out], rfl, k5⟩
end Go.Proofs.YtlcaaacbookopaaGreatDoor

namespace Go.Proofs.YtlcaaacbookopaaGreatDoor
open Go.RowKit

theorem entT1 : ∀ args w, (callFunc 82 args).run Tryz.prog w = .ok (.enter 82 args) w := Go.Proofs.enters_of Tryz.func82 (by kernel_rfl) rfl
theorem entT2 : ∀ args w, (callFunc 84 args).run Tryz.prog w = .ok (.enter 84 args) w := Go.Proofs.enters_of Tryz.func84 (by kernel_rfl) rfl
theorem entT3 : ∀ args w, (callFunc 85 args).run Tryz.prog w = .ok (.enter 85 args) w := Go.Proofs.enters_of Tryz.func85 (by kernel_rfl) rfl

/-- the bytes are this block's, and this is what is left of them and what is read -/
structure OwnL (ss0 : List Ser) (l : List UInt8) (q : Nat) (al : List ByteArray) (k : Nat) : Prop where
  v : BkV ss0
  al : al = tabT ss0
  at_ : l.drop q = remL (tabT ss0) ss0 k
theorem take_all {α : Type} {l r : List α} {n : Nat} (h : l = r.take n) (hn : n = r.length) : l = r := by rw [h, hn, List.take_length]

/-- a series' labels, all of them, or given up -/
theorem rlabs_any (own : Prop) (ss0 : List Ser) (s0 : Ser) (w W : World) (l : List UInt8) (g gv ga go gs : Nat) (B : Option Addr) (n c q : Nat) (A : Option Addr) (p d : Nat) (al : List ByteArray) (O : Option Addr) (k oc : Nat) (out : List Ser) (W1 : World)
    (h0 : P2 w W l g gv ga go B n c q A p d al O k oc out) (h : LbI W W1 l g gs B n c q none 0 0 []) (hn : n ≤ 140737488355328) (hp : p ≤ 1099511627776)
    (hown : own → OwnL ss0 l q al k ∧ ss0[k]? = some s0) :
    Calls Tryz.prog 46 #[.pointer (some ⟨g, 0, none⟩), .int .u64 16, .func (.func 85) #[] #[.pointer (some ⟨gv, 0, none⟩), .pointer (some ⟨ga, 0, none⟩), .pointer (some ⟨gs, 0, none⟩)]] W1
      fun e W' => (∃ q2 D j d2 lb, e = .returned (.tuple #[]) ∧ j ≤ 16 ∧ LbI W W' l g gs B n c q2 D j d2 lb ∧ (own → lb = s0.lbs ∧ l.drop q2 = remL (tabT ss0) ss0 (k + 1))) ∨ (GvU e ∧ Chg (fun k => k = g) W W' ∧ ¬ own) := by
  have hpl : al.length = p := (OE.re (by decide) h0.tx.al).1
  have hlen : own → s0.lbs.length ≤ 16 ∧ ∀ x ∈ s0.lbs, x.1 ∈ tabT ss0 ∧ x.2 ∈ tabT ss0 := fun ho => by
    obtain ⟨h1, h2⟩ := hown ho
    have hm := List.mem_of_getElem? h2
    exact ⟨(h1.v.bks.lb s0 hm).1, fun x hx => mem_tabT hm hx⟩
  have hst : own → l.drop q = uv s0.lbs.length ++ remB (tabT ss0) s0.lbs 0 (remL (tabT ss0) ss0 (k + 1)) := fun ho => by
    obtain ⟨h1, h2⟩ := hown ho
    rw [h1.at_, remL_step h2]
  have hX : RowsX g B n c l q 16 85 #[.pointer (some ⟨gv, 0, none⟩), .pointer (some ⟨ga, 0, none⟩), .pointer (some ⟨gs, 0, none⟩)] W1
      (fun pp j V => ∃ q2 D d2 lb, LbI W V l g gs B n c q2 D j d2 lb ∧ (own → pp = s0.lbs.length ∧ lb = s0.lbs.take j ∧ l.drop q2 = remB (tabT ss0) s0.lbs j (remL (tabT ss0) ss0 (k + 1))))
      (fun V => Chg (fun k => k = g) W V ∧ ¬ own) := {
    en := entT3
    rd := h.rd
    nb := hn
    m := by decide
    st := fun pp q2 V hT hd hle => ⟨q2, none, 0, [], h.to hT, fun ho => by
      have e := (hst ho).symm.trans hd
      obtain ⟨e1, e2⟩ := uv_cut (by have := (hlen ho).1; omega) (by omega) e
      exact ⟨e1.symm, rfl, e2.symm⟩⟩
    gn := fun V hg hno => ⟨h.ch.trans (Chg.of_grew hg), fun ho => no_num hno (by have := (hlen ho).1; omega) (hst ho)⟩
    gm := fun pp q2 V hT hd hpp hlt => ⟨h.ch.trans hT.ch, fun ho => by
      have e := (hst ho).symm.trans hd
      have := (uv_cut (by have := (hlen ho).1; omega) hpp e).1
      have := (hlen ho).1
      omega⟩
    ea := fun pp j V hj hle ⟨q2, D, d2, lb, hL, hh⟩ => by
      refine (elab_any w W V l g gv ga go gs B n c q q2 A p d al O k oc out D j d2 lb h0 hL hn hp (by omega)).mono ?_
      rintro e W' (⟨a, b, x, y, q3, D3, d3, ha, hb, hx, hy, hd, rfl, hL3⟩ | ⟨he, hc, hno⟩)
      · refine .inl ⟨rfl, q3, D3, d3, _, hL3, fun ho => ?_⟩
        obtain ⟨h1, h2, h3⟩ := hh ho
        have hjl : j < s0.lbs.length := by omega
        have hz : s0.lbs[j]? = some s0.lbs[j] := List.getElem?_eq_getElem hjl
        generalize s0.lbs[j] = z at hz
        obtain ⟨m1, m2⟩ := (hlen ho).2 z (List.mem_of_getElem? hz)
        have hal := (hown ho).1.al
        have hTl := (hown ho).1.v.bks.tab
        have e := hd.symm.trans (h3.trans (remB_step hz))
        have l1 := plc_lt m1
        have l2 := plc_lt m2
        obtain ⟨e1, e⟩ := uv_cut (by omega) (by omega) e
        obtain ⟨e2, e⟩ := uv_cut (by omega) (by omega) e
        subst hal
        rw [e1, plc_get m1] at hx
        rw [e2, plc_get m2] at hy
        injection hx with hx
        injection hy with hy
        subst hx
        subst hy
        exact ⟨h1, by rw [h2, List.take_add_one, hz]; rfl, e⟩
      · refine .inr ⟨he, hc, fun ho => ?_⟩
        obtain ⟨h1, h2, h3⟩ := hh ho
        have hjl : j < s0.lbs.length := by omega
        have hz : s0.lbs[j]? = some s0.lbs[j] := List.getElem?_eq_getElem hjl
        generalize s0.lbs[j] = z at hz
        obtain ⟨m1, m2⟩ := (hlen ho).2 z (List.mem_of_getElem? hz)
        have hal := (hown ho).1.al
        have l1 := plc_lt m1
        have l2 := plc_lt m2
        rw [← hal, hpl] at l1 l2
        exact hno _ _ _ (by rw [← hal]; exact l1) (by rw [← hal]; exact l2) (h3.trans (remB_step hz)) }
  refine (rows_gen g B n c l q 16 _ _ W1 _ _ hX).mono ?_
  rintro e W' (⟨pp, hle, rfl, q2, D, d2, lb, hL, hh⟩ | ⟨he, hc, hno⟩)
  · refine .inl ⟨q2, D, pp, d2, lb, rfl, hle, hL, fun ho => ?_⟩
    obtain ⟨h1, h2, h3⟩ := hh ho
    refine ⟨take_all h2 h1, ?_⟩
    rw [h3, h1, remB_end]
  · exact .inr ⟨he, hc, hno⟩

set_option maxRecDepth 100000 in
set_option maxHeartbeats 8000000 in
theorem eser_any (own : Prop) (ss0 : List Ser) (w W : World) (l : List UInt8) (g gv ga go : Nat) (B : Option Addr) (n c q : Nat) (A : Option Addr) (p d : Nat) (al : List ByteArray) (O : Option Addr) (k oc : Nat) (out : List Ser)
    (h : P2 w W l g gv ga go B n c q A p d al O k oc out) (hn : n ≤ 140737488355328) (hp : p ≤ 1099511627776) (hk : k ≤ 1024) (hown : own → OwnL ss0 l q al k ∧ k < ss0.length) :
    Calls Tryz.prog 84 #[.pointer (some ⟨gv, 0, none⟩), .pointer (some ⟨ga, 0, none⟩), .pointer (some ⟨go, 0, none⟩)] W fun e W' =>
      (∃ q2 O2 oc2 lb, e = .returned (.tuple #[]) ∧ P2 w W' l g gv ga go B n c q2 A p d al O2 (k + 1) oc2 (out ++ [⟨lb, []⟩]) ∧ (own → (ss0[k]?).map Ser.lbs = some lb ∧ l.drop q2 = remL (tabT ss0) ss0 (k + 1))) ∨ (GvU e ∧ Grew w W' ∧ ¬ own) := by
  obtain ⟨s0, hs0⟩ : ∃ s0 : Ser, own → ss0[k]? = some s0 := by
    by_cases hkl : k < ss0.length
    · exact ⟨ss0[k], fun _ => List.getElem?_eq_getElem hkl⟩
    · exact ⟨⟨[], []⟩, fun ho => absurd (hown ho).2 hkl⟩
  obtain ⟨W1, hW1⟩ : ∃ W1, W1 = W.alloc (.cells #[.slice none 0 0, .slice none 0 0] 85) := ⟨_, rfl⟩
  have g1 : Grew W W1 := by rw [hW1]; exact (Chg.refl _ W).alloc _
  have bs1 : Blk W1 W.heap.size 85 #[.slice none 0 0, .slice none 0 0] := by rw [hW1]; exact Blk.new W _ _
  have hL1 : LbI W W1 l g W.heap.size B n c q none 0 0 [] := ⟨h.tx.kr.rd.chg g1 (fun e => e) (fun _ _ _ e => e), Chg.of_grew g1, bs1, OE.nil _ _ _, Nat.le_refl _⟩
  have hR := rlabs_any own ss0 s0 w W l g gv ga go W.heap.size B n c q A p d al O k oc out W1 h hL1 hn hp fun ho => ⟨(hown ho).1, hs0 ho⟩
  have v0 := h.tx.kr.bv.cell 0
  simp only [List.getElem?_toArray, List.getElem?_cons_zero] at v0
  replace v0 := g1.cell v0 (fun e => e)
  rw [hW1] at v0
  have hmf : ∀ (fn : Fn) (first cap : Array Value) (w : World), (Instr.makeFunc fn first cap).run Tryz.prog w = .ok (.func fn first cap) w := fun _ _ _ _ => rfl
  have hsw := h.tx.kr.gr.size
  have hcap := h.ns.cap
  replace hs0 := Lib.hid hs0
  replace hown := Lib.hid hown
  clear hL1 bs1
  unfold GvU
  go_enter Tryz.func84, Tryz.ntmps84
  go_wp2_with fail
  rw [← hW1]
  clear hW1
  refine hR.mono ?_
  rintro e W2 (⟨q2, D, j, d2, lb, rfl, hj, hL, hh⟩ | ⟨he, hc, hno⟩)
  rotate_left
  · unfold GvU at he
    subst he
    go_wp2
    exact ⟨rfl, .inr ⟨rfl, h.tx.kr.gr.step hc (fun k hk e => by
      have e : k = g := e
      have := h.tx.kr.lo
      omega), hno⟩⟩
  have hP := h.chgG hL.ch hL.rd
  have b0 := hL.bs.cell 0
  have b1 := hL.bs.cell 1
  have o0 := hP.bo.cell 0
  simp only [List.getElem?_toArray, List.getElem?_cons_succ, List.getElem?_cons_zero] at b0 b1 o0
  obtain ⟨ms, hms⟩ := hP.ns.op
  have hE5 : OE elSr (W2.alloc (.cells #[.slice D j d2, .slice none 0 0] 85)) w.heap.size 85 O k oc ms := hms.row.grew ((Chg.refl _ W2).alloc _)
  have hsrc : RE elSr (W2.alloc (.cells #[.slice D j d2, .slice none 0 0] 85)) (some ⟨W2.heap.size, 0, none⟩) 1 [⟨D, j, d2, none, 0, 0⟩] := RE.newAt rfl rfl rfl
  have hsz2 := hP.tx.kr.gr.size
  have hms' := hms.grew ((Chg.refl _ W2).alloc (.cells #[.slice D j d2, .slice none 0 0] 85))
  have hN : NsE (W2.alloc (.cells #[.slice D j d2, .slice none 0 0] 85)) w.heap.size ⟨D, j, d2, none, 0, 0⟩ ⟨lb, []⟩ := ⟨Own.mono (OE.grew hL.ll ((Chg.refl _ W2).alloc _)) hsw, OE.nil _ _ _⟩
  have hPg := hP.grew ((Chg.refl _ W2).alloc (.cells #[.slice D j d2, .slice none 0 0] 85))
  have hfin : Hid (∀ W3 A3 d3, ApE elSr (W2.alloc (.cells #[.slice D j d2, .slice none 0 0] 85)) w.heap.size 85 O (k + 1) oc (ms ++ [⟨D, j, d2, none, 0, 0⟩]) A3 d3 W3 → Blk W3 go 39 #[.slice O k oc] ∧ P2 w (W3.setCell ⟨go, 0, none⟩ (.slice A3 (k + 1) d3)) l g gv ga go B n c q2 A p d al A3 (k + 1) d3 (out ++ [⟨lb, []⟩])) := Lib.hid fun W3 A3 d3 h3 => by
    have hne3 : ∀ t cs k', Blk (W2.alloc (.cells #[.slice D j d2, .slice none 0 0] 85)) k' t cs → 85 ≠ t → ¬ ∃ ad, O = some ad ∧ k' = ad.block := fun t cs k' hb ht ⟨ad, e, hk⟩ => Own.ne_blk hE5 hb ht ad e hk.symm
    have b3 := hPg.bo.chg h3.chg (hne3 _ _ _ hPg.bo (by decide))
    have b5 := b3.set 0 (.slice A3 (k + 1) d3)
    simp only [List.setIfInBounds_toArray, List.set_cons_zero] at b5
    have kr3 : KrS w W3 l g gv B n c q2 := hPg.tx.kr.chg h3.chg (hne3 _ _ _ hPg.tx.kr.rd.bk (by decide)) (hne3 _ _ _ hPg.tx.kr.bv (by decide)) fun k' hk' ⟨ad, e, he⟩ => by have := (Own.blk_lt hE5 ad e).1; omega
    have ba3 := hPg.tx.ba.chg h3.chg (hne3 _ _ _ hPg.tx.ba (by decide))
    have al3 : OE elNm W3 w.heap.size 9 A p d al := OE.chg hPg.tx.al h3.chg fun ad e ⟨bd, e2, hk⟩ => OE.neT hPg.tx.al hE5 (by decide) ad bd e e2 hk
    have ns3 : NS W3 w.heap.size A3 (k + 1) d3 (out ++ [⟨lb, []⟩]) := hms'.app hN h3
    have hlo := hP.lo
    have hk5 : Chg (fun k => k = go) W3 (W3.setCell ⟨go, 0, none⟩ (.slice A3 (k + 1) d3)) := Chg.cell1 W3 go 0 _
    refine ⟨b3, ⟨⟨kr3.chg hk5 (fun e => Blk.neT kr3.rd.bk b3 (by decide) e) (fun e => Blk.neT kr3.bv b3 (by decide) e) (fun k' hk' e => by
      have e : k' = go := e
      omega), ba3.far (Blk.neT ba3 b3 (by decide)) _, OE.farBlk al3 b3 (by decide) 0 _, hP.tx.la⟩, b5, ns3.far b3 (by decide) (by decide) (by decide) hk5, hlo⟩⟩
  have hhk : Hid (own → (ss0[k]?).map Ser.lbs = some lb ∧ l.drop q2 = remL (tabT ss0) ss0 (k + 1)) := Lib.hid fun ho => by
    obtain ⟨h1, h2⟩ := hh ho
    rw [hs0.out ho, h1]
    exact ⟨rfl, h2⟩
  clear hh hL hms hms' hN hPg hP h hR hs0 hown
  go_wp2_with (at_builtin; go_loud (refine wpList_appE rfl _ _ 39 85 infoSr rfl Tryz.underlying39 rfl w.heap.size O k oc ms rfl hE5 (by simp; omega) _ 1 1 [⟨D, j, d2, none, 0, 0⟩] rfl hsrc (by unfold maxLen; omega) (by omega) ?_); intro A3 d3 W3 h3; obtain ⟨b3, hP3⟩ := hfin.out W3 A3 d3 h3; have m4' := b3.cell 0; have mf' := b3.frozen 0; simp only [List.getElem?_toArray, List.getElem?_cons_zero] at m4')
  first
    | go_end0
    | refine bodyPost_ret (results_none rfl _ _ _) rfl ?_
  exact .inl ⟨q2, A3, d3, lb, rfl, hP3, hhk.out⟩
end Go.Proofs.YtlcaaacbookopaaGreatDoor

namespace Go.Proofs.YtlcaaacbookopaaGreatDoor
open Go.RowKit

theorem sealB_inj {a b : List UInt8} (h : sealB a = sealB b) : a = b := by
  unfold sealB at h
  have hl : a.length = b.length := by
    have := congrArg List.length h
    rw [List.length_append, List.length_append] at this
    have h4 : ∀ z, (four z).length = 4 := fun z => rfl
    rw [h4, h4] at this
    omega
  exact (List.append_inj h hl).1
theorem ser_ext {a b : List Ser} (h1 : a.map Ser.lbs = b.map Ser.lbs) (h2 : ∀ m : Nat, (a[m]?).map Ser.pts = (b[m]?).map Ser.pts) : a = b := by
  refine List.ext_getElem? fun i => ?_
  have k1 := congrArg (fun l => l[i]?) h1
  have k2 := h2 i
  simp only [List.getElem?_map] at k1
  cases hx : a[i]? with
  | none => rw [hx] at k1; cases hy : b[i]? with
    | none => rfl
    | some y => rw [hy] at k1; cases k1
  | some x => rw [hx] at k1 k2; cases hy : b[i]? with
    | none => rw [hy] at k1; cases k1
    | some y =>
      rw [hy] at k1 k2
      simp only [Option.map_some, Option.some.injEq] at k1 k2
      cases x
      cases y
      simp only at k1 k2
      rw [k1, k2]
theorem flat_setP {ms : List SerM} {i : Nat} {m : SerM} {pa : Option Addr} {pn pc : Nat} (h : ms[i]? = some m) : (elSr.flat ms).set (i * 2 + 1) (.slice pa pn pc) = elSr.flat (ms.set i ⟨m.la, m.ln, m.lc, pa, pn, pc⟩) := by
  refine List.ext_getElem? fun j => ?_
  have h1 := flat_set_cells elSr ms i ⟨m.la, m.ln, m.lc, pa, pn, pc⟩ m h j
  rw [h1]
  have hsz : elSr.sz = 2 := rfl
  rw [hsz]
  have hil := (List.getElem?_eq_some_iff.1 h).1
  have hfl := elSr.flat_length ms
  rw [hsz] at hfl
  by_cases hj : j = i * 2 + 1
  · subst hj
    rw [List.getElem?_set_self (by omega), if_pos ⟨by omega, by omega⟩, show i * 2 + 1 - i * 2 = 1 by omega]
    rfl
  · rw [List.getElem?_set_ne (by omega)]
    by_cases hj2 : j = i * 2
    · subst hj2
      rw [if_pos ⟨by omega, by omega⟩, Nat.sub_self]
      have h3 := elSr.flat_get ms h (j := 0) (by decide)
      rw [hsz, Nat.add_zero] at h3
      rw [h3]
      rfl
    · rw [if_neg (by omega)]
theorem NS.setP {w : World} {base b' gO n c i : Nat} {ss : List Ser} {s : Ser} {pa : Option Addr} {pn pc : Nat} {ps : List Ptn} (h : NS w base (some ⟨gO, 0, none⟩) n c ss) (hi : ss[i]? = some s) (hp : OE elPt w b' 82 pa pn pc ps) (hb : base ≤ b') :
    NS (w.setCell ⟨gO, i * 2 + 1, none⟩ (.slice pa pn pc)) base (some ⟨gO, 0, none⟩) n c (ss.set i ⟨s.lbs, ps⟩) := by
  obtain ⟨ms, h1, h2, h3⟩ := h
  have hil := (List.getElem?_eq_some_iff.1 hi).1
  have hm : ms[i]? = some (ms[i]'(by omega)) := List.getElem?_eq_getElem _
  generalize ms[i]'(by omega) = m at hm
  have hch := Chg.cell1 w gO (i * 2 + 1) (.slice pa pn pc)
  have hr := Own.set h1 (i * 2 + 1) (.slice pa pn pc)
  rw [flat_setP hm] at hr
  have hne : ∀ {α : Type} {E : El α} {t : TypeId} {b2 k d : Nat} {D : Option Addr} {r : List α}, OE E w b2 t D k d r → t ≠ 85 → OE E (w.setCell ⟨gO, i * 2 + 1, none⟩ (.slice pa pn pc)) b2 t D k d r := fun hO ht => OE.chg hO hch fun ad e hk => OE.ne hO h1 ht ad _ e rfl hk
  refine ⟨ms.set i ⟨m.la, m.ln, m.lc, pa, pn, pc⟩, hr, by rw [List.length_set, List.length_set, h2], fun j m' s' hm' hs' => ?_⟩
  by_cases hj : j = i
  · subst hj
    rw [List.getElem?_set_self (by omega)] at hm' hs'
    injection hm' with hm'
    injection hs' with hs'
    subst hm'
    subst hs'
    exact ⟨hne (h3 j m s hm hi).lb (by decide), hne (Own.mono hp hb) (by decide)⟩
  · rw [List.getElem?_set_ne (by omega)] at hm' hs'
    exact ⟨hne (h3 j m' s' hm' hs').lb (by decide), hne (h3 j m' s' hm' hs').pt (by decide)⟩
theorem P2.setP {w W : World} {l : List UInt8} {g gv ga go : Nat} {B : Option Addr} {n c q : Nat} {A : Option Addr} {p d : Nat} {al : List ByteArray} {k oc gO i b' : Nat} {out : List Ser} {s : Ser} {pa : Option Addr} {pn pc : Nat} {ps : List Ptn} (h : P2 w W l g gv ga go B n c q A p d al (some ⟨gO, 0, none⟩) k oc out)
    (hi : out[i]? = some s) (hp : OE elPt W b' 82 pa pn pc ps) (hb : w.heap.size ≤ b') : P2 w (W.setCell ⟨gO, i * 2 + 1, none⟩ (.slice pa pn pc)) l g gv ga go B n c q A p d al (some ⟨gO, 0, none⟩) k oc (out.set i ⟨s.lbs, ps⟩) := by
  obtain ⟨ms, h1, h2, h3⟩ := id h.ns
  have hlo := h.ns.blk _ rfl
  have hch := Chg.cell1 W gO (i * 2 + 1) (.slice pa pn pc)
  have hne : ∀ {t cs k'}, Blk W k' t cs → 85 ≠ t → ¬ k' = gO := fun hb ht e => Own.ne_blk h1 hb ht _ rfl e.symm
  refine ⟨⟨h.tx.kr.chg hch (hne h.tx.kr.rd.bk (by decide)) (hne h.tx.kr.bv (by decide)) (fun k' hk' e => ?_), h.tx.ba.chg hch (hne h.tx.ba (by decide)), OE.chg h.tx.al hch (fun ad e hk => OE.ne h.tx.al h1 (by decide) ad _ e rfl hk), h.tx.la⟩, h.bo.chg hch (hne h.bo (by decide)), h.ns.setP hi hp hb, h.lo⟩
  have e : k' = gO := e
  have := hlo.1
  simp only at this
  omega
end Go.Proofs.YtlcaaacbookopaaGreatDoor
