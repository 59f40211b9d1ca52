/-
  Several texts in one:
  Lists of series that may not be merged; the series of a stretch; the series that matchers say yes of. Conditions: lengths that memory bears.
  The series that matchers say yes of. Conditions: lengths that memory bears.
-/
import Derived.Test.YtjgbdkokcgcpjaaDoorPart28
import Derived.Test.YtjgbdkokcgcpjaaDoorPart32

namespace Go.Proofs.YtjgbdkokcgcpjaaDoor
open Go.RowKit

set_option maxHeartbeats 2000000 in
theorem merge_no (La : Option Addr) (Ln Lc : Nat) (ls : List Lst) (w : World) (hls : RE elLs w La Ln ls) (hin : ∀ x ∈ ls, LsIn w x) (hbad : ¬ ∀ x ∈ ls, OkL x.ss) (hn : Ln ≤ 1048576) :
    Calls Tryd.prog 11 #[.slice La Ln Lc] w fun e w' => e = .returned (.tuple #[.slice none 0 0, .int .i64 100]) ∧ Grew w w' := by
  have hlen := hls.1
  replace hbad := Lib.hid hbad
  go_enter Tryd.func11, Tryd.ntmps11
  go_wp2
  go_loopw [12] (fun i wr => ∃ k : Nat, k ≤ Ln ∧ i = .int .i64 (k : Int) ∧ Hid (∀ x ∈ ls.take k, OkL x.ss) ∧ Grew w wr) (fun i _ => Ln - (intOf i).toNat)
  case atStart => exact ⟨0, Nat.zero_le _, rfl, (fun x hx => by simp at hx), Chg.refl _ _⟩
  case round =>
    obtain ⟨k, hk, rfl, hall, hg⟩ := hrel
    by_cases hlt : k < Ln
    · obtain ⟨ad, x, rfl, hx, x0⟩ := (RE.grew hls hg).ls hlt
      have hC := checkS_any x.a x.n x.c x.ss wr ((hin x (List.mem_of_getElem? hx)).grew hg).rs (by have := (hin x (List.mem_of_getElem? hx)).cap; omega)
      by_cases hok : OkL x.ss
      · rw [errS_ok hok] at hC
        have hall2 : Hid (∀ x ∈ ls.take (k + 1), OkL x.ss) := fun y hy => by
          rw [take_snoc hx] at hy
          rcases List.mem_append.1 hy with hy | hy
          · exact hall.out y hy
          · obtain rfl : y = x := by simpa using hy
            exact hok
        clear hx hall hok
        go_wp2_with fail
        refine hC.mono ?_
        rintro e w1 ⟨rfl, hg1⟩
        go_wp2
        go_roundw
        case rel => exact ⟨k + 1, by omega, by go_num, hall2, hg.trans hg1⟩
        case measure => simp [intOf] <;> omega
      · rw [errS_no hok] at hC
        clear hx hall hok
        go_wp2_with fail
        refine hC.mono ?_
        rintro e w1 ⟨rfl, hg1⟩
        go_wp2
        refine bodyPost_ret (v := .tuple #[.slice none 0 0, .int .i64 100]) ?_ rfl ⟨rfl, hg.trans hg1⟩
        simp [results, Tryd.results11, go_sem]
    · obtain rfl : k = Ln := by omega
      refine absurd (fun x hx => hall.out x ?_) hbad.out
      rw [List.take_of_length_le (by omega)]
      exact hx

/-! ### Clip -/
def clipS (f t : Int) : List Ser → List Ser
  | [] => []
  | s :: r => if clipP f t s.pts = [] then clipS f t r else ⟨s.lbs, clipP f t s.pts⟩ :: clipS f t r
theorem clipS_snoc {f t : Int} {ss : List Ser} {s : Ser} : clipS f t (ss ++ [s]) = clipS f t ss ++ if clipP f t s.pts = [] then [] else [⟨s.lbs, clipP f t s.pts⟩] := by
  induction ss with
  | nil => simp [clipS]
  | cons x r ih =>
    rw [List.cons_append, clipS, clipS, ih]
    split <;> simp
theorem clipS_len (f t : Int) (ss : List Ser) : (clipS f t ss).length ≤ ss.length := by
  induction ss with
  | nil => simp [clipS]
  | cons x r ih =>
    rw [clipS]
    split <;> simp <;> omega

theorem clip_ab {w W w2 w3 : World} {ln k m C c2 pc : Nat} {A2 P B : Option Addr} {ss : List Ser} {lbs : List Lab} {cp : List Ptn} (h3 : ApE elLb (w2.alloc (.cells #[] 67)) W.heap.size 67 (some ⟨w2.heap.size, 0, none⟩) (0 + ln) 0 ([] ++ lbs) A2 c2 w3) (g : Grew W w2)
    (hP : OE elPt w2 W.heap.size 49 P k pc cp) (ho : NS W w.heap.size B m C ss) (hgw : Grew w W) :
    ∃ ms, OE elSr (w3.alloc (.cells #[.slice A2 ln c2, .slice P k pc] 46)) w.heap.size 46 B m C ms ∧ w.heap.size ≤ (w3.alloc (.cells #[.slice A2 ln c2, .slice P k pc] 46)).heap.size ∧ RE elSr (w3.alloc (.cells #[.slice A2 ln c2, .slice P k pc] 46)) (some ⟨w3.heap.size, 0, none⟩) 1 [⟨A2, ln, c2, P, k, pc⟩] ∧
      ∀ B2 C2 w4, ApE elSr (w3.alloc (.cells #[.slice A2 ln c2, .slice P k pc] 46)) w.heap.size 46 B (m + 1) C (ms ++ [⟨A2, ln, c2, P, k, pc⟩]) B2 C2 w4 → NS w4 w.heap.size B2 (m + 1) C2 (ss ++ [⟨lbs, cp⟩]) ∧ Grew w w4 := by
  have g3 : Grew W w3 := h3.grew (g.alloc _) (head_le g.size)
  obtain ⟨ms, ho3⟩ := (ho.grew g3).op
  have hl : OE elLb (w2.alloc (.cells #[] 67)) W.heap.size 67 (some ⟨w2.heap.size, 0, none⟩) 0 0 [] := OE.made w2 W.heap.size 67 g.size
  have hP3 : OE elPt w3 W.heap.size 49 P k pc cp := OE.apart (hP.grew ((Chg.refl _ w2).alloc _)) hl (by decide) h3.chg
  have hE : NsE w3 W.heap.size ⟨A2, ln, c2, P, k, pc⟩ ⟨lbs, cp⟩ := ⟨h3.at0, hP3⟩
  have hga : Grew w3 (w3.alloc (.cells #[.slice A2 ln c2, .slice P k pc] 46)) := (Chg.refl _ w3).alloc _
  exact ⟨ms, ho3.row.grew hga, (hgw.trans (g3.trans hga)).size, RE.newAt rfl rfl rfl, fun B2 C2 w4 h4 => ⟨(ho3.grew hga).app ((NsE.mono hE hgw.size).grew hga) h4, h4.grew (hgw.trans (g3.trans hga)) (fun ad e => (Own.blk_lt ho3.row ad e).1)⟩⟩

set_option maxRecDepth 100000 in
set_option maxHeartbeats 4000000 in
theorem clip_yes (A : Option Addr) (n c : Nat) (ss : List Ser) (f t : Int) (w : World) (h : RS w A n ss) (hc : n ≤ 9223372036854775807) (hok : OkL ss) (hs : Small ss) :
    Calls Tryd.prog 18 #[.slice A n c, .int .i64 f, .int .i64 t] w fun e w' => ∃ B d, e = .returned (.tuple #[.slice B (clipS f t ss).length d, .int .i64 0]) ∧ NS w' w.heap.size B (clipS f t ss).length d (clipS f t ss) ∧ Grew w w' := by
  have hln := h.len
  have hn : n ≤ 1073741824 := by rw [← hln]; exact hs.n
  replace hln := Lib.hid hln
  replace hs := Lib.hid hs
  have hC := checkS_any A n c ss w h hc
  rw [errS_ok hok] at hC
  clear hok
  go_enter Tryd.func18, Tryd.ntmps18
  go_wp2_with fail
  refine hC.mono ?_
  rintro e w1 ⟨rfl, hg1⟩
  go_wp2
  go_loopw [9, 20] (fun o i wr => ∃ (k m : Nat) (B : Option Addr) (C : Nat), k ≤ n ∧ m ≤ k ∧ i = .int .i64 (k : Int) ∧ o = .slice B m C ∧ NS wr w.heap.size B m C (clipS f t (ss.take k)) ∧ Grew w wr) (fun o i _ => n - (intOf i).toNat)
  case atStart => exact ⟨0, 0, none, 0, by omega, Nat.le_refl _, rfl, rfl, NS.nil _ _, hg1⟩
  case round =>
    clear hg1 hC w1
    obtain ⟨k, m, B, C, hk, hmk, rfl, rfl, ho, hg⟩ := hrel
    by_cases hlt : k < n
    · obtain ⟨ad, mm, s, rfl, hx, hsi, x0, x1⟩ := (h.grew hg).at_ hlt
      have hel := hs.out.el s (List.mem_of_getElem? hx)
      have hl1 : mm.ln ≤ 1048576 := by rw [← hsi.lb.1]; exact hel.1
      have hp1 : mm.pn ≤ 1099511627776 := by rw [← hsi.pt.1]; exact hel.2
      have hsn : clipS f t (ss.take (k + 1)) = clipS f t (ss.take k) ++ if clipP f t s.pts = [] then [] else [⟨s.lbs, clipP f t s.pts⟩] := by rw [take_snoc hx, clipS_snoc]
      obtain ⟨W, hW⟩ : ∃ W, W = wr.alloc (.cells #[.slice mm.la mm.ln mm.lc, .slice mm.pa mm.pn mm.pc] 46) := ⟨_, rfl⟩
      have hgW : Grew wr W := by rw [hW]; exact (Chg.refl _ wr).alloc _
      have hbx : Blk W wr.heap.size 46 #[.slice mm.la mm.ln mm.lc, .slice mm.pa mm.pn mm.pc] := by rw [hW]; exact Blk.new wr _ _
      have b1 := hbx.cell 1
      have hsW := hsi.grew hgW
      have hK := clip_any mm.pa mm.pn mm.pc s.pts f t W hsW.pt (by omega)
      have hoW := ho.grew hgW
      have hg0 := hg.trans hgW
      have hsz0 := hg0.size
      clear hx hel hsi ho hg hgW
      go_wp2_with fail
      rw [← hW]
      clear hW x0 x1
      refine hK.mono ?_
      rintro e w2 ⟨P, pc, rfl, hP, hg2⟩
      by_cases hnil : clipP f t s.pts = []
      · rw [if_pos hnil, List.append_nil] at hsn
        have e1 : decide (0 < (clipP f t s.pts).length) = false := by rw [hnil]; rfl
        have ho2 := hoW.grew hg2
        rw [← hsn] at ho2
        clear hsn hnil
        generalize clipP f t s.pts = cp at *
        go_wp2
        go_roundw
        case rel => exact ⟨k + 1, m, B, C, by omega, by omega, by go_num, rfl, ho2, hg0.trans hg2⟩
        case measure => simp [intOf] <;> omega
      · rw [if_neg hnil] at hsn
        have e1 : decide (0 < (clipP f t s.pts).length) = true := by
          rw [decide_eq_true_iff]
          exact List.length_pos_iff.2 hnil
        clear hnil
        generalize clipP f t s.pts = cp at *
        replace hsn := Lib.hid hsn
        have c20 := (hbx.grew hg2).cell 0
        have gX : Grew W (w2.alloc (.cells #[] 67)) := hg2.alloc _
        have c21 : (w2.alloc (.cells #[] 67)).cell? ⟨wr.heap.size, 0, none⟩ = some (.slice mm.la mm.ln mm.lc) := (hbx.grew gX).cell 0
        have hszW := hg2.size
        have oL : OE elLb (w2.alloc (.cells #[] 67)) W.heap.size 67 (some ⟨w2.heap.size, 0, none⟩) 0 0 [] := OE.made w2 W.heap.size 67 hszW
        have rL := hsW.lb.grew gX
        have hPX := hP.grew ((Chg.refl _ w2).alloc (.cells #[] 67))
        go_wp2_with (first | (at_builtin; refine wpList_appE rfl _ _ 43 67 infoLab rfl Tryd.underlying43 rfl W.heap.size (some ⟨w2.heap.size, 0, none⟩) 0 0 [] rfl oL (gX.size) mm.la mm.ln mm.lc s.lbs rfl rL (by unfold maxLen; omega) (by omega) ?_; intro A2 c2 w3 h3; obtain ⟨ms, k1, k2, k3, k4⟩ := clip_ab h3 hg2 hP hoW hg0) | (at_builtin; refine wpList_appE rfl _ _ 22 46 infoSer rfl Tryd.underlying22 rfl w.heap.size B m C ms rfl k1 k2 _ 1 1 [⟨A2, mm.ln, c2, P, cp.length, pc⟩] rfl k3 (by unfold maxLen; omega) (by omega) ?_; intro B2 C2 w5 h5; obtain ⟨hNS, hg5⟩ := k4 B2 C2 w5 h5))
        rw [← hsn.out] at hNS
        clear k1 k2 k3 k4 h5 h3 rL oL hPX gX hsW hoW hP
        go_roundw
        case rel => exact ⟨k + 1, m + 1, B2, C2, by omega, by omega, by go_num, rfl, hNS, hg5⟩
        case measure => simp [intOf] <;> omega
    · obtain rfl : k = n := by omega
      rw [List.take_of_length_le (by have := hln.out; omega)] at ho
      have hl := ho.len
      go_wp2
      refine bodyPost_ret (v := .tuple #[.slice B m C, .int .i64 0]) ?_ rfl ⟨B, C, by rw [hl], by rw [hl]; exact ho, hg⟩
      simp [results, Tryd.results18, go_sem]
set_option maxHeartbeats 2000000 in
theorem clip_no (A : Option Addr) (n c : Nat) (ss : List Ser) (f t : Int) (w : World) (h : RS w A n ss) (hc : n ≤ 9223372036854775807) (hok : ¬ OkL ss) :
    Calls Tryd.prog 18 #[.slice A n c, .int .i64 f, .int .i64 t] w fun e w' => e = .returned (.tuple #[.slice none 0 0, .int .i64 100]) ∧ Grew w w' := by
  have hC := checkS_any A n c ss w h hc
  rw [errS_no hok] at hC
  clear hok
  go_enter Tryd.func18, Tryd.ntmps18
  go_wp2_with fail
  refine hC.mono ?_
  rintro e w1 ⟨rfl, hg1⟩
  go_wp2
  refine bodyPost_ret (v := .tuple #[.slice none 0 0, .int .i64 100]) ?_ rfl ⟨rfl, hg1⟩
  simp [results, Tryd.results18, go_sem]
end Go.Proofs.YtjgbdkokcgcpjaaDoor

namespace Go.Proofs.YtjgbdkokcgcpjaaDoor
open Go.RowKit

def pickS (ms : List Mat) (ss : List Ser) : List Ser := ss.filter fun s => saysB ms s.lbs
theorem pickS_yes {ms : List Mat} {ss : List Ser} {k : Nat} {s : Ser} (h : ss[k]? = some s) (h1 : saysB ms s.lbs = true) : pickS ms (ss.take (k + 1)) = pickS ms (ss.take k) ++ [s] := by
  rw [take_snoc h, pickS, List.filter_append]
  simp [pickS, h1]
theorem pickS_no {ms : List Mat} {ss : List Ser} {k : Nat} {s : Ser} (h : ss[k]? = some s) (h1 : saysB ms s.lbs = false) : pickS ms (ss.take (k + 1)) = pickS ms (ss.take k) := by
  rw [take_snoc h, pickS, List.filter_append]
  simp [pickS, h1]
theorem pickS_small {ms : List Mat} {ss : List Ser} (h : Small ss) : Small (pickS ms ss) := ⟨Nat.le_trans (List.length_filter_le _ _) h.n, fun s hs => h.el s (List.mem_filter.1 hs).1⟩
/-- a row of series that came in -/
structure PkR (w W : World) (A : Option Addr) (n c : Nat) (ms : List SerM) (ss : List Ser) : Prop where
  row : OE elSr W w.heap.size 46 A n c ms
  len : ms.length = ss.length
  el : ∀ (i : Nat) (m : SerM) (s : Ser), ms[i]? = some m → ss[i]? = some s → SrIs w m s
theorem PkR.grew {w W W' : World} {A : Option Addr} {n c : Nat} {ms : List SerM} {ss : List Ser} (h : PkR w W A n c ms ss) (hg : Grew W W') : PkR w W' A n c ms ss := ⟨h.row.grew hg, h.len, h.el⟩
theorem PkR.rs {w W : World} {A : Option Addr} {n c : Nat} {ms : List SerM} {ss : List Ser} (h : PkR w W A n c ms ss) (hg : Grew w W) : RS W A n ss := ⟨ms, h.row.re (by decide), h.len, fun i m s hm hs => (h.el i m s hm hs).grew hg⟩
theorem PkR.app {w W W' : World} {A A' : Option Addr} {n k c c' : Nat} {ms : List SerM} {ss : List Ser} {m : SerM} {s : Ser} (h : PkR w W A n c ms ss) (hm : SrIs w m s) (ha : ApE elSr W w.heap.size 46 A k c (ms ++ [m]) A' c' W') : PkR w W' A' k c' (ms ++ [m]) (ss ++ [s]) := by
  refine ⟨ha.oe, by rw [List.length_append, List.length_append, h.len]; rfl, fun i m' s' hm' hs' => ?_⟩
  rcases snoc_get hm' with h1 | ⟨h1, rfl⟩
  · rcases snoc_get hs' with h2 | ⟨h2, rfl⟩
    · exact h.el i m' s' h1 h2
    · have := (List.getElem?_eq_some_iff.1 h1).1
      have := h.len
      omega
  · rcases snoc_get hs' with h2 | ⟨h2, rfl⟩
    · have := (List.getElem?_eq_some_iff.1 h2).1
      have := h.len
      omega
    · exact hm

set_option maxRecDepth 100000 in
set_option maxHeartbeats 4000000 in
theorem pick_yes (A : Option Addr) (n c : Nat) (ss : List Ser) (M : Option Addr) (mn mc : Nat) (mt : List Mat) (w : World) (h : RS w A n ss) (hc : n ≤ 9223372036854775807) (hok : OkL ss) (hs : Small ss) (hM : RE elMa w M mn mt) (hmn : mn ≤ 9223372036854775807)
    (hmt : ∀ x ∈ mt, x.2.2.size ≤ 16777216) (hlb : ∀ s ∈ ss, ∀ x ∈ s.lbs, x.2.size ≤ 16777216) (hx : MaxL w) :
    Calls Tryd.prog 19 #[.slice A n c, .slice M mn mc] w fun e w' => ∃ B d, e = .returned (.tuple #[.slice B (pickS mt ss).length d, .int .i64 0]) ∧ NS w' w.heap.size B (pickS mt ss).length d (pickS mt ss) ∧ Grew w w' := by
  have hln := h.len
  have hn : n ≤ 1073741824 := by rw [← hln]; exact hs.n
  replace hln := Lib.hid hln
  replace hs := Lib.hid hs
  have hC := checkS_any A n c ss w h hc
  rw [errS_ok hok] at hC
  replace hmt := Lib.hid hmt
  replace hlb := Lib.hid hlb
  clear hok
  go_enter Tryd.func19, Tryd.ntmps19
  go_wp2_with fail
  refine hC.mono ?_
  rintro e w1 ⟨rfl, hg1⟩
  go_wp2
  go_loopw [7, 17] (fun o i wr => ∃ (k m : Nat) (B : Option Addr) (C : Nat) (ms : List SerM), k ≤ n ∧ m ≤ k ∧ i = .int .i64 (k : Int) ∧ o = .slice B m C ∧ PkR w wr B m C ms (pickS mt (ss.take k)) ∧ Grew w wr) (fun o i _ => n - (intOf i).toNat)
  case atStart => exact ⟨0, 0, none, 0, [], by omega, Nat.le_refl _, rfl, rfl, ⟨OE.nil _ _ _, rfl, fun i m s hm => by simp at hm⟩, hg1⟩
  case round =>
    clear hg1 hC w1
    obtain ⟨k, m, B, C, ms, hk, hmk, rfl, rfl, ho, hg⟩ := hrel
    by_cases hlt : k < n
    · obtain ⟨ad, mm, s, rfl, hx1, hsi0, y0, y1⟩ := h.at_ hlt
      have x0 := hg.cell y0 (fun e => e)
      have x1 := hg.cell y1 (fun e => e)
      have hsi := hsi0.grew hg
      have hyes := pickS_yes (ms := mt) hx1
      have hno := pickS_no (ms := mt) hx1
      have hl16 := hlb.out s (List.mem_of_getElem? hx1)
      obtain ⟨W, hW⟩ : ∃ W, W = wr.alloc (.cells #[.slice mm.la mm.ln mm.lc, .slice mm.pa mm.pn mm.pc] 46) := ⟨_, rfl⟩
      have hgW : Grew wr W := by rw [hW]; exact (Chg.refl _ wr).alloc _
      have hbx : Blk W wr.heap.size 46 #[.slice mm.la mm.ln mm.lc, .slice mm.pa mm.pn mm.pc] := by rw [hW]; exact Blk.new wr _ _
      have b0 := hbx.cell 0
      have hsW := hsi.grew hgW
      have hg0 := hg.trans hgW
      have hS := says_any M mn mc mt mm.la mm.ln mm.lc s.lbs W (hM.grew hg0) hsW.lb hmn (by have := hsW.lc; omega) hmt.out hl16 (hx.grew hg0)
      have hoW := ho.grew hgW
      clear hx1 hsi ho hg hgW hl16 y0 y1 hsW
      generalize saysB mt s.lbs = z at *
      go_wp2_with fail
      rw [← hW]
      clear hW x0 x1
      refine hS.mono ?_
      rintro e w2 ⟨rfl, hg2⟩
      have hg02 := hg0.trans hg2
      have ho2 := hoW.grew hg2
      have hsz2 := hg02.size
      cases z
      · have hno := hno rfl
        rw [← hno] at ho2
        clear hno hyes
        go_wp2
        go_roundw
        case rel => exact ⟨k + 1, m, B, C, ms, by omega, by omega, by go_num, rfl, ho2, hg02⟩
        case measure => simp [intOf] <;> omega
      · have HY := Lib.hid (hyes rfl)
        have hbx2 := hbx.grew hg2
        have c0 := hbx2.cell 0
        have c1 := hbx2.cell 1
        have hrow2 := (ho2.grew ((Chg.refl _ w2).alloc (.cells #[.slice mm.la mm.ln mm.lc, .slice mm.pa mm.pn mm.pc] 46)))
        have hrow3 := hrow2.row
        have hsrc : RE elSr (w2.alloc (.cells #[.slice mm.la mm.ln mm.lc, .slice mm.pa mm.pn mm.pc] 46)) (some ⟨w2.heap.size, 0, none⟩) 1 [mm] := RE.newAt rfl rfl rfl
        clear hno hyes
        go_wp2_with (at_builtin; refine wpList_appE rfl _ _ 22 46 infoSer rfl Tryd.underlying22 rfl w.heap.size B m C ms rfl hrow3 (by simp; omega) _ 1 1 [mm] rfl hsrc (by unfold maxLen; omega) (by omega) ?_; intro B2 C2 w4 h4)
        have hP := hrow2.app hsi0 h4
        rw [← HY.out] at hP
        have hg4 : Grew w w4 := h4.grew (hg02.alloc _) (fun ad e => (Own.blk_lt hrow3 ad e).1)
        clear h4 hrow2 hrow3 hsrc
        go_roundw
        case rel => exact ⟨k + 1, m + 1, B2, C2, _, by omega, by omega, by go_num, rfl, hP, hg4⟩
        case measure => simp [intOf] <;> omega
    · obtain rfl : k = n := by omega
      rw [List.take_of_length_le (by have := hln.out; omega)] at ho
      have hCp := copyS_any B m C (pickS mt ss) wr (ho.rs hg) (pickS_small hs.out)
      have hszw := hg.size
      go_wp2_with fail
      refine hCp.mono ?_
      rintro e w2 ⟨B2, d, rfl, hNS, hg2⟩
      go_wp2
      refine bodyPost_ret (v := .tuple #[.slice B2 (pickS mt ss).length d, .int .i64 0]) ?_ rfl ⟨B2, d, rfl, hNS.mono hszw, hg.trans hg2⟩
      simp [results, Tryd.results19, go_sem]
set_option maxHeartbeats 2000000 in
theorem pick_no (A : Option Addr) (n c : Nat) (ss : List Ser) (M : Option Addr) (mn mc : Nat) (w : World) (h : RS w A n ss) (hc : n ≤ 9223372036854775807) (hok : ¬ OkL ss) :
    Calls Tryd.prog 19 #[.slice A n c, .slice M mn mc] w fun e w' => e = .returned (.tuple #[.slice none 0 0, .int .i64 100]) ∧ Grew w w' := by
  have hC := checkS_any A n c ss w h hc
  rw [errS_no hok] at hC
  clear hok
  go_enter Tryd.func19, Tryd.ntmps19
  go_wp2_with fail
  refine hC.mono ?_
  rintro e w1 ⟨rfl, hg1⟩
  go_wp2
  refine bodyPost_ret (v := .tuple #[.slice none 0 0, .int .i64 100]) ?_ rfl ⟨rfl, hg1⟩
  simp [results, Tryd.results19, go_sem]
end Go.Proofs.YtjgbdkokcgcpjaaDoor
