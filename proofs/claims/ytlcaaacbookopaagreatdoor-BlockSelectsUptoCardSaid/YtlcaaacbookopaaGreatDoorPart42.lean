/-
  Several texts in one:
  The document's two lists of series as one. Conditions: lengths that memory bears.
  The document's form of a label's name. Conditions: none.
-/
import Derived.Test.YtlcaaacbookopaaGreatDoorPart38
import Derived.Test.YtlcaaacbookopaaGreatDoorPart41
import Derived.Test.YtlcaaacbookopaaGreatDoorPart40
import Derived.Test.YtlcaaacbookopaaGreatDoorPart16

namespace Go.Proofs.YtlcaaacbookopaaGreatDoor
open Go.RowKit

theorem twoM_r (a : List Ser) : twoM a [] = a := by cases a <;> rw [twoM]
theorem twoM_l (b : List Ser) : twoM [] b = b := by rw [twoM]
theorem twoM_lt {p q : Ser} {a b : List Ser} (h : cmpLs p.lbs q.lbs < 0) : twoM (p :: a) (q :: b) = p :: twoM a (q :: b) := by rw [twoM, if_pos h]
theorem twoM_gt {p q : Ser} {a b : List Ser} (h : 0 < cmpLs p.lbs q.lbs) : twoM (p :: a) (q :: b) = q :: twoM (p :: a) b := by rw [twoM, if_neg (by omega), if_pos h]
theorem twoM_eq {p q : Ser} {a b : List Ser} (h : cmpLs p.lbs q.lbs = 0) : twoM (p :: a) (q :: b) = ⟨p.lbs, ptsM p.pts q.pts⟩ :: twoM a b := by rw [twoM, if_neg (by omega), if_neg (by omega)]
theorem push_s {out r l : List Ser} {x : Ser} (h : out ++ x :: r = l) : (out ++ [x]) ++ r = l := by rw [← h]; simp
theorem small_at {w : World} {ss : List Ser} {m : SerM} {s : Ser} (h : Small ss) (hs : s ∈ ss) (hi : SrIs w m s) : m.ln ≤ 1048576 ∧ m.pn ≤ 1099511627776 := by
  have hel := h.el s hs
  exact ⟨by rw [← hi.lb.1]; exact hel.1, by rw [← hi.pt.1]; exact hel.2⟩

set_option maxRecDepth 100000 in
set_option maxHeartbeats 16000000 in
theorem two10_any (A B : Option Addr) (n c m0 d : Nat) (sa sb : List Ser) (w : World) (h : RS w A n sa) (hb : RS w B m0 sb) (hsa : Small sa) (hsb : Small sb) :
    Calls Tryz.prog 62 #[.slice A n c, .slice B m0 d] w (NewS w (twoM sa sb)) := by
  obtain ⟨l, hl⟩ : ∃ l, twoM sa sb = l := ⟨_, rfl⟩
  rw [hl]
  have hz0 : Hid ([] ++ twoM (sa.drop 0) (sb.drop 0) = l) := hl
  have hln : Hid (sa.length = n) := h.len
  have hlm : Hid (sb.length = m0) := hb.len
  have hn : n ≤ 1073741824 := by rw [← hln.out]; exact hsa.n
  have hm : m0 ≤ 1073741824 := by rw [← hlm.out]; exact hsb.n
  replace hsa := Lib.hid hsa
  replace hsb := Lib.hid hsb
  clear hl
  go_enter Tryz.func62, Tryz.ntmps62
  go_wp2
  go_loopw [5, 6, 7] (fun o i j wr => ∃ (k q s0 e0 : Nat) (D : Option Addr) (out : List Ser), o = .slice D s0 e0 ∧ i = .int .i64 (k : Int) ∧ j = .int .i64 (q : Int) ∧ k ≤ n ∧ q ≤ m0 ∧ s0 ≤ k + q ∧ Hid (out ++ twoM (sa.drop k) (sb.drop q) = l) ∧ NS wr w.heap.size D s0 e0 out ∧ Grew w wr) (fun _ i j _ => n + m0 - ((intOf i).toNat + (intOf j).toNat))
  case atStart => exact ⟨0, 0, 0, 0, none, [], rfl, rfl, rfl, by omega, by omega, by omega, hz0, NS.nil _ _, Chg.refl _ _⟩
  case round =>
    clear hz0
    obtain ⟨k, q, s0, e0, D, out, rfl, rfl, rfl, hk, hq, hse, hv, ho, hg⟩ := hrel
    have hA : Hid (∀ ad, D = some ad → w.heap.size ≤ ad.block) := fun ad e => (ho.blk ad e).1
    by_cases hkn : k < n
    · obtain ⟨ad, m, s, rfl, hs, hsi, p0, p1⟩ := h.at_ hkn
      have hsm := small_at hsa.out (List.mem_of_getElem? hs) hsi
      have hadO := World.block_lt_of_cell? w _ p0
      rw [block_add] at hadO
      have x0 := hg.cell p0 (fun e => e)
      have x1 := hg.cell p1 (fun e => e)
      have hsd := udrop_at hs
      have ek : decide ((k : Int) < (n : Int)) = true := decide_eq_true (by omega)
      have ek2 : ((k : Int) == (n : Int)) = false := by simp; omega
      by_cases hqm : q < m0
      · obtain ⟨bd, mr, r, rfl, hr, hri, q0, q1⟩ := hb.at_ hqm
        have hrm := small_at hsb.out (List.mem_of_getElem? hr) hri
        have hbdO := World.block_lt_of_cell? w _ q0
        rw [block_add] at hbdO
        have y0 := hg.cell q0 (fun e => e)
        have y1 := hg.cell q1 (fun e => e)
        have hrd := udrop_at hr
        have eq2 : ((q : Int) == (m0 : Int)) = false := by simp; omega
        have hv := hv.out
        rw [hsd, hrd] at hv
        have hcA := ex_cell x0
        have hcB := ex_cell y0
        rw [block_add] at hcA hcB
        have hcs : CellsIn [ad.block, bd.block] wr := cellsIn_cons hcA (cellsIn_cons hcB (qcellsIn_nil _))
        have hsame : Hid (∀ W1, Grew wr W1 → SameIn [ad.block, bd.block] wr W1) := fun W1 h1 => qsameIn_of h1 hcs fun _ _ e => e
        have hslc := hsi.lc
        have hrlc := hri.lc
        have hM := fun W1 (hg1 : Grew wr W1) => compare3_any m.la mr.la m.ln m.lc mr.ln mr.lc s.lbs r.lbs W1 ((hsi.lb.grew hg).grew hg1) ((hri.lb.grew hg).grew hg1) (by omega) (by omega)
        replace hM := Lib.hid hM
        have f1 := fun hh => twoM_lt (a := sa.drop (k + 1)) (b := sb.drop (q + 1)) (p := s) (q := r) hh
        have f2 := fun hh => twoM_gt (a := sa.drop (k + 1)) (b := sb.drop (q + 1)) (p := s) (q := r) hh
        have f3 := fun hh => twoM_eq (a := sa.drop (k + 1)) (b := sb.drop (q + 1)) (p := s) (q := r) hh
        generalize cmpLs s.lbs r.lbs = cz at *
        clear hcA hcB hs hr
        rcases Int.lt_trichotomy cz 0 with h1 | h1 | h1
        · rw [f1 h1, ← hrd] at hv
          replace hv := Lib.hid (push_s hv)
          have e3 : decide (cz < 0) = true := decide_eq_true h1
          clear f1 f2 f3 h1 hsd hrd
          go_wp2_with fail
          refine wp_region_textS [(3, 1)] [ad.block, bd.block] (by kernel_rfl) (by kernel_rfl) hcs ?_
          simp only [wpU, tagOf, chk, List.nil_append, List.cons_append]
          intro K hK
          go_wp2_with fail
          refine OnlyN.normal (hK _ _ (fun _ => ⟨_, _, _, rfl, rfl, by simp [block_add]⟩) ?_)
          clear hK K
          intro K hK
          go_wp2_with fail
          refine OnlyN.normal (hK _ _ (fun _ => ⟨_, _, _, rfl, rfl, by simp [block_add]⟩) ?_)
          clear hK K
          intro K hK
          go_wp2_with fail
          refine (hM.out _ (Chg.refl _ wr).drew).mono ?_
          rintro e wc ⟨rfl, hgc⟩
          have hgg : Grew wr wc := (Chg.refl _ wr).drew.trans hgc
          go_wp2_with fail
          refine OnlyN.normal (hK _ _ (hsame.out _ hgg) ?_)
          clear hK K
          go_wp2_with fail
          refine OnlyN.normal ?_
          have x2 := (hgg).cell x0 (fun e => e)
          have x3 := (hgg).cell x1 (fun e => e)
          have hszb : w.heap.size ≤ (wc).heap.size := (hg.grow hgg).size
          go_wp2_with fail
          refine (copied10_any m.la m.ln m.lc m.pa m.pn m.pc s _ (hsi.grew (hg.grow hgg)) hsm.1 hsm.2).mono ?_
          rintro e wx ⟨A2, c2, A4, c4, rfl, hN, hg1⟩
          have hgx : Grew wr wx := (hgg).trans hg1
          clear hg1
          obtain ⟨ms, ho4⟩ := (ho.grew hgx).op
          have hgw := hg.grow hgx
          have hszw := hgw.size
          have hc4 := ho4.row.cap
          have hE5 : OE elSr (wx.alloc (.cells #[.slice A2 m.ln c2, .slice A4 m.pn c4] 85)) w.heap.size 85 D s0 e0 ms := ho4.row.grew ((Chg.refl _ wx).alloc _)
          have hsrc : RE elSr (wx.alloc (.cells #[.slice A2 m.ln c2, .slice A4 m.pn c4] 85)) (some ⟨wx.heap.size, 0, none⟩) 1 [⟨A2, m.ln, c2, A4, m.pn, c4⟩] := RE.newAt rfl rfl rfl
          go_wp2_with (at_builtin; refine wpList_appE rfl _ _ 39 85 infoSer rfl Tryz.underlying39 rfl w.heap.size D s0 e0 ms rfl hE5 (by simp; omega) _ 1 1 [⟨A2, m.ln, c2, A4, m.pn, c4⟩] rfl hsrc (by unfold maxLen; omega) (by omega) ?_; intro D2 e2 w5 h5)
          have hNS := (ho4.grew ((Chg.refl _ wx).alloc (.cells #[.slice A2 m.ln c2, .slice A4 m.pn c4] 85))).app ((NsE.mono hN (by exact hszb)).grew ((Chg.refl _ wx).alloc _)) h5
          have hg5 : Grew w w5 := h5.grew (hgw.alloc _) (fun ad e => (Own.blk_lt ho4.row ad e).1)
          clear ho4 hE5 hsrc h5 hN hgx hgw ho hg
          go_roundw
          case rel => exact ⟨k + 1, q, s0 + 1, e2, D2, out ++ [s], rfl, by go_num, rfl, by omega, by omega, by omega, hv, hNS, hg5⟩
          case measure => simp [intOf] <;> omega
        · rw [f3 h1] at hv
          replace hv := Lib.hid (push_s hv)
          have hcs2 : ∀ W1, Grew wr W1 → CellsIn [ad.block, bd.block] W1 := fun W1 h1 => by
            have hcA := ex_cell (h1.cell x0 (fun e => e))
            have hcB := ex_cell (h1.cell y0 (fun e => e))
            rw [block_add] at hcA hcB
            exact cellsIn_cons hcA (cellsIn_cons hcB (qcellsIn_nil _))
          replace hcs2 := Lib.hid hcs2
          subst h1
          clear f1 f2 f3 hsd hrd
          go_wp2_with fail
          refine wp_region_textS [(3, 1)] [ad.block, bd.block] (by kernel_rfl) (by kernel_rfl) hcs ?_
          simp only [wpU, tagOf, chk, List.nil_append, List.cons_append]
          intro K hK
          go_wp2_with fail
          refine OnlyN.normal (hK _ _ (fun _ => ⟨_, _, _, rfl, rfl, by simp [block_add]⟩) ?_)
          clear hK K
          intro K hK
          go_wp2_with fail
          refine OnlyN.normal (hK _ _ (fun _ => ⟨_, _, _, rfl, rfl, by simp [block_add]⟩) ?_)
          clear hK K
          intro K hK
          go_wp2_with fail
          refine (hM.out _ (Chg.refl _ wr).drew).mono ?_
          rintro e wc ⟨rfl, hgc⟩
          have hgg : Grew wr wc := (Chg.refl _ wr).drew.trans hgc
          go_wp2_with fail
          refine OnlyN.normal (hK _ _ (hsame.out _ hgg) ?_)
          clear hK K
          go_wp2_with fail
          refine OnlyN.normal ?_
          have hcs3 := hcs2.out wc hgg
          have hsame3 : Hid (∀ W1, Chg (fun k => w.heap.size ≤ k) wc W1 → SameIn [ad.block, bd.block] wc W1) := fun W1 h1 => qsameIn_of h1 hcs3 fun k hk e => by
            simp only [List.mem_cons, List.not_mem_nil, or_false] at hk
            omega
          have hgwc := hg.grow hgg
          have hszb : w.heap.size ≤ wc.heap.size := hgwc.size
          have gX : Grew wc (wc.drew.alloc (.cells #[] 79)) := (Chg.refl _ wc).drew.alloc _
          have oL : OE elLb (wc.drew.alloc (.cells #[] 79)) wc.heap.size 79 (some ⟨wc.heap.size, 0, none⟩) 0 0 [] := OE.made wc.drew wc.heap.size 79 (Nat.le_refl _)
          have rL := hsi.lb.grew (hgwc.trans gX)
          have x0' := (hgg.trans ((Chg.refl _ wc).alloc (.cells #[] 79))).cell x0 (fun e => e)
          go_wp2_with fail
          refine wp_region_textS [(3, 1)] [ad.block, bd.block] (by kernel_rfl) (by kernel_rfl) hcs3 ?_
          simp only [wpU, tagOf, chk, List.nil_append, List.cons_append]
          intro K hK
          go_wp2_with fail
          refine OnlyN.normal (hK _ _ (hsame3.out _ (Chg.of_grew gX)) ?_)
          clear hK K
          intro K hK
          go_wp2_with fail
          refine OnlyN.normal (hK _ _ (fun _ => ⟨_, _, _, rfl, rfl, by simp [block_add]⟩) ?_)
          clear hK K
          intro K hK
          go_wp2_with (at_builtin; refine wpList_appE rfl _ _ 80 79 infoLab rfl Tryz.underlying80 rfl wc.heap.size (some ⟨wc.heap.size, 0, none⟩) 0 0 [] rfl oL (gX.size) m.la m.ln m.lc s.lbs rfl rL (by unfold maxLen; omega) (by omega) ?_; intro A2 c2 w2 h2)
          have g2 : Grew wc w2 := h2.grew gX (head_le (Nat.le_refl _))
          have hz2 := g2.size
          refine OnlyN.normal (hK _ _ (hsame3.out _ (Chg.of_grew g2)) ?_)
          clear hK K
          have x1' := (hgg.trans g2).cell x1 (fun e => e)
          have y1' := (hgg.trans g2).cell y1 (fun e => e)
          intro K hK
          go_wp2_with fail
          refine OnlyN.normal (hK _ _ (fun _ => ⟨_, _, _, rfl, rfl, by simp [block_add]⟩) ?_)
          clear hK K
          intro K hK
          go_wp2_with fail
          refine OnlyN.normal (hK _ _ (fun _ => ⟨_, _, _, rfl, rfl, by simp [block_add]⟩) ?_)
          clear hK K
          intro K hK
          go_wp2_with fail
          refine (points10_any m.pa mr.pa m.pn m.pc mr.pn mr.pc s.pts r.pts w2 (hsi.pt.grew (hgwc.trans g2)) (hri.pt.grew (hgwc.trans g2)) (by omega)).mono ?_
          rintro e wx ⟨A4, c4, rfl, h4, g3⟩
          have hN : NsE wx wc.heap.size ⟨A2, m.ln, c2, A4, (ptsM s.pts r.pts).length, c4⟩ ⟨s.lbs, ptsM s.pts r.pts⟩ := ⟨h2.at0.grew g3, Own.mono h4 g2.size⟩
          have hgx : Grew wc wx := g2.trans g3
          generalize hpl : (ptsM s.pts r.pts).length = pl at *
          clear hpl h4 h2 oL rL gX g2 g3
          go_wp2_with fail
          refine OnlyN.normal (hK _ _ (hsame3.out _ (Chg.of_grew hgx)) ?_)
          clear hK K
          obtain ⟨ms, ho4⟩ := ((ho.grew hgg).grew hgx).op
          have hgw := hgwc.trans hgx
          have hszw := hgw.size
          have hc4 := ho4.row.cap
          have hE5 : OE elSr (wx.alloc (.cells #[.slice A2 m.ln c2, .slice A4 pl c4] 85)) w.heap.size 85 D s0 e0 ms := ho4.row.grew ((Chg.refl _ wx).alloc _)
          have hsrc : RE elSr (wx.alloc (.cells #[.slice A2 m.ln c2, .slice A4 pl c4] 85)) (some ⟨wx.heap.size, 0, none⟩) 1 [⟨A2, m.ln, c2, A4, pl, c4⟩] := RE.newAt rfl rfl rfl
          intro K hK
          go_wp2_with fail
          refine OnlyN.normal (hK _ _ (hsame3.out _ (Chg.of_grew (hgx.alloc _))) ?_)
          clear hK K
          intro K hK
          go_wp2_with (at_builtin; refine wpList_appE rfl _ _ 39 85 infoSer rfl Tryz.underlying39 rfl w.heap.size D s0 e0 ms rfl hE5 (by simp; omega) _ 1 1 [⟨A2, m.ln, c2, A4, pl, c4⟩] rfl hsrc (by unfold maxLen; omega) (by omega) ?_; intro D2 e2 w5 h5)
          have hNS := (ho4.grew ((Chg.refl _ wx).alloc (.cells #[.slice A2 m.ln c2, .slice A4 pl c4] 85))).app ((NsE.mono hN (by exact hszb)).grew ((Chg.refl _ wx).alloc _)) h5
          have hg5 : Grew w w5 := h5.grew (hgw.alloc _) (fun ad e => (Own.blk_lt ho4.row ad e).1)
          refine OnlyN.normal (hK _ _ (hsame3.out _ ((Chg.of_grew (hgx.alloc _)).trans (h5.chg.mono fun x _ ⟨ad2, e5, e6⟩ => by rw [e6]; exact hA.out ad2 e5))) ?_)
          clear hK K
          go_wp2_with fail
          refine OnlyN.normal ?_
          clear ho4 hE5 hsrc h5 hN hgx hgw ho hg
          go_wp2
          go_roundw
          case rel => exact ⟨k + 1, q + 1, s0 + 1, e2, D2, out ++ [⟨s.lbs, ptsM s.pts r.pts⟩], rfl, by go_num, by go_num, by omega, by omega, by omega, hv, hNS, hg5⟩
          case measure => simp [intOf] <;> omega
        · rw [f2 h1, ← hsd] at hv
          replace hv := Lib.hid (push_s hv)
          have e3 : decide (cz < 0) = false := decide_eq_false (by omega)
          have e4 : decide (0 < cz) = true := decide_eq_true h1
          clear f1 f2 f3 h1 hsd hrd
          go_wp2_with fail
          refine wp_region_textS [(3, 1)] [ad.block, bd.block] (by kernel_rfl) (by kernel_rfl) hcs ?_
          simp only [wpU, tagOf, chk, List.nil_append, List.cons_append]
          intro K hK
          go_wp2_with fail
          refine OnlyN.normal (hK _ _ (fun _ => ⟨_, _, _, rfl, rfl, by simp [block_add]⟩) ?_)
          clear hK K
          intro K hK
          go_wp2_with fail
          refine OnlyN.normal (hK _ _ (fun _ => ⟨_, _, _, rfl, rfl, by simp [block_add]⟩) ?_)
          clear hK K
          intro K hK
          go_wp2_with fail
          refine (hM.out _ (Chg.refl _ wr).drew).mono ?_
          rintro e wc ⟨rfl, hgc⟩
          have hgg : Grew wr wc := (Chg.refl _ wr).drew.trans hgc
          go_wp2_with fail
          refine OnlyN.normal (hK _ _ (hsame.out _ hgg) ?_)
          clear hK K
          go_wp2_with fail
          refine OnlyN.normal ?_
          have y2 := (hgg).cell y0 (fun e => e)
          have y3 := (hgg).cell y1 (fun e => e)
          have hszb : w.heap.size ≤ (wc).heap.size := (hg.grow hgg).size
          go_wp2_with fail
          refine (copied10_any mr.la mr.ln mr.lc mr.pa mr.pn mr.pc r _ (hri.grew (hg.grow hgg)) hrm.1 hrm.2).mono ?_
          rintro e wx ⟨A2, c2, A4, c4, rfl, hN, hg1⟩
          have hgx : Grew wr wx := (hgg).trans hg1
          clear hg1
          obtain ⟨ms, ho4⟩ := (ho.grew hgx).op
          have hgw := hg.grow hgx
          have hszw := hgw.size
          have hc4 := ho4.row.cap
          have hE5 : OE elSr (wx.alloc (.cells #[.slice A2 mr.ln c2, .slice A4 mr.pn c4] 85)) w.heap.size 85 D s0 e0 ms := ho4.row.grew ((Chg.refl _ wx).alloc _)
          have hsrc : RE elSr (wx.alloc (.cells #[.slice A2 mr.ln c2, .slice A4 mr.pn c4] 85)) (some ⟨wx.heap.size, 0, none⟩) 1 [⟨A2, mr.ln, c2, A4, mr.pn, c4⟩] := RE.newAt rfl rfl rfl
          go_wp2_with (at_builtin; refine wpList_appE rfl _ _ 39 85 infoSer rfl Tryz.underlying39 rfl w.heap.size D s0 e0 ms rfl hE5 (by simp; omega) _ 1 1 [⟨A2, mr.ln, c2, A4, mr.pn, c4⟩] rfl hsrc (by unfold maxLen; omega) (by omega) ?_; intro D2 e2 w5 h5)
          have hNS := (ho4.grew ((Chg.refl _ wx).alloc (.cells #[.slice A2 mr.ln c2, .slice A4 mr.pn c4] 85))).app ((NsE.mono hN (by exact hszb)).grew ((Chg.refl _ wx).alloc _)) h5
          have hg5 : Grew w w5 := h5.grew (hgw.alloc _) (fun ad e => (Own.blk_lt ho4.row ad e).1)
          clear ho4 hE5 hsrc h5 hN hgx hgw ho hg
          go_roundw
          case rel => exact ⟨k, q + 1, s0 + 1, e2, D2, out ++ [r], rfl, rfl, by go_num, by omega, by omega, by omega, hv, hNS, hg5⟩
          case measure => simp [intOf] <;> omega
      · obtain rfl : q = m0 := by omega
        have eq2 : ((q : Int) == (q : Int)) = true := by simp
        have hv := hv.out
        rw [List.drop_of_length_le (l := sb) (by have := hlm.out; omega), twoM_r, hsd] at hv
        have hv2 : out ++ s :: twoM (sa.drop (k + 1)) (sb.drop q) = l := by
          rw [List.drop_of_length_le (l := sb) (by have := hlm.out; omega), twoM_r]
          exact hv
        replace hv := Lib.hid (push_s hv2)
        clear hv2 hsd hs
        have hgg : Grew wr wr := Chg.refl _ _
        have x2 := (hgg).cell x0 (fun e => e)
        have x3 := (hgg).cell x1 (fun e => e)
        have hszb : w.heap.size ≤ (wr).heap.size := (hg.grow hgg).size
        go_wp2_with fail
        refine (copied10_any m.la m.ln m.lc m.pa m.pn m.pc s _ (hsi.grew (hg.grow hgg)) hsm.1 hsm.2).mono ?_
        rintro e wx ⟨A2, c2, A4, c4, rfl, hN, hg1⟩
        have hgx : Grew wr wx := (hgg).trans hg1
        clear hg1
        obtain ⟨ms, ho4⟩ := (ho.grew hgx).op
        have hgw := hg.grow hgx
        have hszw := hgw.size
        have hc4 := ho4.row.cap
        have hE5 : OE elSr (wx.alloc (.cells #[.slice A2 m.ln c2, .slice A4 m.pn c4] 85)) w.heap.size 85 D s0 e0 ms := ho4.row.grew ((Chg.refl _ wx).alloc _)
        have hsrc : RE elSr (wx.alloc (.cells #[.slice A2 m.ln c2, .slice A4 m.pn c4] 85)) (some ⟨wx.heap.size, 0, none⟩) 1 [⟨A2, m.ln, c2, A4, m.pn, c4⟩] := RE.newAt rfl rfl rfl
        go_wp2_with (at_builtin; refine wpList_appE rfl _ _ 39 85 infoSer rfl Tryz.underlying39 rfl w.heap.size D s0 e0 ms rfl hE5 (by simp; omega) _ 1 1 [⟨A2, m.ln, c2, A4, m.pn, c4⟩] rfl hsrc (by unfold maxLen; omega) (by omega) ?_; intro D2 e2 w5 h5)
        have hNS := (ho4.grew ((Chg.refl _ wx).alloc (.cells #[.slice A2 m.ln c2, .slice A4 m.pn c4] 85))).app ((NsE.mono hN (by exact hszb)).grew ((Chg.refl _ wx).alloc _)) h5
        have hg5 : Grew w w5 := h5.grew (hgw.alloc _) (fun ad e => (Own.blk_lt ho4.row ad e).1)
        clear ho4 hE5 hsrc h5 hN hgx hgw ho hg
        go_roundw
        case rel => exact ⟨k + 1, q, s0 + 1, e2, D2, out ++ [s], rfl, by go_num, rfl, by omega, by omega, by omega, hv, hNS, hg5⟩
        case measure => simp [intOf] <;> omega
    · obtain rfl : k = n := by omega
      have ek : decide ((k : Int) < (k : Int)) = false := decide_eq_false (by omega)
      have ek2 : ((k : Int) == (k : Int)) = true := by simp
      by_cases hqm : q < m0
      · obtain ⟨bd, mr, r, rfl, hr, hri, q0, q1⟩ := hb.at_ hqm
        have hrm := small_at hsb.out (List.mem_of_getElem? hr) hri
        have y0 := hg.cell q0 (fun e => e)
        have y1 := hg.cell q1 (fun e => e)
        have hrd := udrop_at hr
        have eq2 : ((q : Int) == (m0 : Int)) = false := by simp; omega
        have hv := hv.out
        rw [List.drop_of_length_le (l := sa) (by have := hln.out; omega), twoM_l, hrd] at hv
        have hv2 : out ++ r :: twoM (sa.drop k) (sb.drop (q + 1)) = l := by
          rw [List.drop_of_length_le (l := sa) (by have := hln.out; omega), twoM_l]
          exact hv
        replace hv := Lib.hid (push_s hv2)
        clear hv2 hrd hr
        have hgg : Grew wr wr := Chg.refl _ _
        have y2 := (hgg).cell y0 (fun e => e)
        have y3 := (hgg).cell y1 (fun e => e)
        have hszb : w.heap.size ≤ (wr).heap.size := (hg.grow hgg).size
        go_wp2_with fail
        refine (copied10_any mr.la mr.ln mr.lc mr.pa mr.pn mr.pc r _ (hri.grew (hg.grow hgg)) hrm.1 hrm.2).mono ?_
        rintro e wx ⟨A2, c2, A4, c4, rfl, hN, hg1⟩
        have hgx : Grew wr wx := (hgg).trans hg1
        clear hg1
        obtain ⟨ms, ho4⟩ := (ho.grew hgx).op
        have hgw := hg.grow hgx
        have hszw := hgw.size
        have hc4 := ho4.row.cap
        have hE5 : OE elSr (wx.alloc (.cells #[.slice A2 mr.ln c2, .slice A4 mr.pn c4] 85)) w.heap.size 85 D s0 e0 ms := ho4.row.grew ((Chg.refl _ wx).alloc _)
        have hsrc : RE elSr (wx.alloc (.cells #[.slice A2 mr.ln c2, .slice A4 mr.pn c4] 85)) (some ⟨wx.heap.size, 0, none⟩) 1 [⟨A2, mr.ln, c2, A4, mr.pn, c4⟩] := RE.newAt rfl rfl rfl
        go_wp2_with (at_builtin; refine wpList_appE rfl _ _ 39 85 infoSer rfl Tryz.underlying39 rfl w.heap.size D s0 e0 ms rfl hE5 (by simp; omega) _ 1 1 [⟨A2, mr.ln, c2, A4, mr.pn, c4⟩] rfl hsrc (by unfold maxLen; omega) (by omega) ?_; intro D2 e2 w5 h5)
        have hNS := (ho4.grew ((Chg.refl _ wx).alloc (.cells #[.slice A2 mr.ln c2, .slice A4 mr.pn c4] 85))).app ((NsE.mono hN (by exact hszb)).grew ((Chg.refl _ wx).alloc _)) h5
        have hg5 : Grew w w5 := h5.grew (hgw.alloc _) (fun ad e => (Own.blk_lt ho4.row ad e).1)
        clear ho4 hE5 hsrc h5 hN hgx hgw ho hg
        go_roundw
        case rel => exact ⟨k, q + 1, s0 + 1, e2, D2, out ++ [r], rfl, rfl, by go_num, by omega, by omega, by omega, hv, hNS, hg5⟩
        case measure => simp [intOf] <;> omega
      · obtain rfl : q = m0 := by omega
        have hv := hv.out
        rw [List.drop_of_length_le (l := sa) (by have := hln.out; omega), twoM_l, List.drop_of_length_le (l := sb) (by have := hlm.out; omega), List.append_nil] at hv
        replace hv := Lib.hid hv
        have hlen : Hid (out.length = s0) := ho.len
        go_wp2
        go_ret
        exact ⟨D, e0, by rw [← hv.out, hlen.out]; simp, by rw [← hv.out, hlen.out]; exact ho, hg⟩
end Go.Proofs.YtlcaaacbookopaaGreatDoor

namespace Go.Proofs.YtlcaaacbookopaaGreatDoor
open Go.RowKit

set_option maxHeartbeats 4000000 in
theorem name3_any (x : ByteArray) (w : World) : Calls Tryz.prog 115 #[.string x] w fun e w' => e = .returned (.bool (nameL x)) ∧ w = w' := by
  obtain ⟨n, hn⟩ : ∃ n, x.size = n := ⟨_, rfl⟩
  by_cases h0 : n = 0
  · obtain rfl : n = 0 := h0
    obtain rfl : x = ⟨#[]⟩ := data_inj (List.eq_nil_of_length_eq_zero (by rw [data_len]; omega))
    go_enter Tryz.func115, Tryz.ntmps115
    go_wp2
    go_ret
    exact ⟨by simp [nameL], rfl⟩
  have hne : (x.toList == ([] : List UInt8)) = false := by
    rw [beq_eq_false_iff_ne, ByteArray.toList_eq]
    intro e
    have := data_len x
    rw [e] at this
    simp at this
    omega
  have hnil : ¬ x.toList = [] := by simpa using hne
  have hem : x.toList.isEmpty = false := by
    cases h : x.toList with
    | nil => exact absurd h hnil
    | cons a b => rfl
  by_cases h64 : 64 < n
  · have e1 : decide ((n : Int) < 1) = false := decide_eq_false (by omega)
    have hF : nameL x = false := by
      unfold nameL
      rw [hn, decide_eq_false (p := n ≤ 64) (by omega)]
      simp
    rw [hF]
    have e64 : decide ((64 : Int) < (n : Int)) = true := decide_eq_true (by omega)
    clear hF h0 h64
    go_enter Tryz.func115, Tryz.ntmps115
    go_wp2
    go_ret
    exact ⟨by simp, rfl⟩
  have e64 : decide ((64 : Int) < (n : Int)) = false := decide_eq_false (by omega)
  obtain ⟨fn, hfn⟩ : ∃ fn : Nat, (x[0]'(by omega)).toNat = fn := ⟨_, rfl⟩
  have hf0 : ∀ h, ((x[0]'h).toNat : Int) = (fn : Int) := fun h => by rw [← hfn]
  have hfb : fn ≤ 255 := by
    have := (x[0]'(by omega)).toNat_lt
    omega
  have h64' : n ≤ 64 := by omega
  have hn0 : 0 < n := by omega
  have e1 : decide ((n : Int) < 1) = false := decide_eq_false (by omega)
  have hB : Hid (nameL x = true ↔ ¬(48 ≤ fn ∧ fn ≤ 57) ∧ ∀ (i : Nat) (h : i < x.size), nmc (x[i]'h).toNat) := by
    have hh : nameL x = (decide (0 < x.size) && decide (x.size ≤ 64) && decide ¬(48 ≤ fn ∧ fn ≤ 57) && x.data.toList.all fun c => decide (nmc c.toNat)) := by
      have h9 := data_get x 0 (by omega)
      unfold nameL
      cases hd : x.data.toList with
      | nil => rw [hd] at h9; cases h9
      | cons c r =>
        rw [hd] at h9
        injection h9 with h9
        rw [← hfn, ← h9]
    show _ ↔ _
    rw [hh]
    have p1 : decide (0 < x.size) = true := decide_eq_true (by omega)
    have p2 : decide (x.size ≤ 64) = true := decide_eq_true (by omega)
    rw [p1, p2]
    simp only [Bool.true_and, Bool.and_eq_true, decide_eq_true_eq, List.all_eq_true]
    refine and_congr_right fun _ => ⟨fun h i hi => h _ (List.mem_of_getElem? (data_get x i hi)), fun h c hc => ?_⟩
    obtain ⟨i, hi⟩ := List.getElem?_of_mem hc
    have hil : i < x.size := by
      have := (List.getElem?_eq_some_iff.1 hi).1
      rwa [data_len] at this
    rw [data_get x i hil] at hi
    injection hi with hi
    subst hi
    exact h i hil
  obtain ⟨b, hb⟩ : ∃ b, nameL x = b := ⟨_, rfl⟩
  rw [hb] at hB ⊢
  clear h0 h64 hb hfn
  by_cases hdig : 48 ≤ fn ∧ fn ≤ 57
  · have d1 : decide ((48 : Int) ≤ (fn : Int)) = true := decide_eq_true (by omega)
    have d2 : decide ((fn : Int) ≤ 57) = true := decide_eq_true (by omega)
    have hbf : b = false := by
      cases b with
      | false => rfl
      | true => exact absurd hdig (hB.out.1 rfl).1
    subst hbf
    clear hdig
    go_enter Tryz.func115, Tryz.ntmps115
    go_wp2
    go_ret
    exact ⟨by simp, rfl⟩
  have hnd : Hid (¬(48 ≤ fn ∧ fn ≤ 57)) := hdig
  have hdd : decide ((48 : Int) ≤ (fn : Int)) = false ∨ (decide ((48 : Int) ≤ (fn : Int)) = true ∧ decide ((fn : Int) ≤ 57) = false) := by
    by_cases h1 : 48 ≤ fn
    · exact .inr ⟨decide_eq_true (by omega), decide_eq_false (by omega)⟩
    · exact .inl (decide_eq_false (by omega))
  clear hdig
  go_enter Tryz.func115, Tryz.ntmps115
  rcases hdd with d1 | ⟨d1, d2⟩
  all_goals
    go_wp2
    go_loopw [3] (fun si wr => ∃ j : Nat, si = .int .i64 (j : Int) ∧ j ≤ n ∧ w = wr ∧ Hid (∀ (i : Nat) (h : i < x.size), i < j → nmc (x[i]'h).toNat)) (fun si _ => n - (intOf si).toNat)
    case atStart => exact ⟨0, rfl, by omega, rfl, fun i h h' => by omega⟩
    case round =>
      obtain ⟨j, rfl, hj, rfl, Hok⟩ := hrel
      by_cases hlt : j < n
      · obtain ⟨zn, hzn⟩ : ∃ zn : Nat, (x[j]'(by omega)).toNat = zn := ⟨_, rfl⟩
        have hzb : zn ≤ 255 := by
          have := (x[j]'(by omega)).toNat_lt
          omega
        have hz : ∀ h, ((x[j]'h).toNat : Int) = (zn : Int) := fun h => by rw [← hzn]
        clear hf0 d1
        by_cases hc : nmc zn
        · have Hok' : Hid (∀ (i : Nat) (h : i < x.size), i < j + 1 → nmc (x[i]'h).toNat) := fun i h h' => by
            by_cases hij : i = j
            · subst hij
              rw [hzn]
              exact hc
            · exact Hok.out i h (by omega)
          unfold nmc at hc
          clear hzn
          rcases hc with rfl | ⟨k1, k2⟩ | ⟨k1, k2⟩ | ⟨k1, k2⟩
          · go_wp2
            go_roundw
            case rel => exact ⟨j + 1, by go_num, by omega, trivial, Hok'⟩
            case measure => simp [intOf]; omega
          · have t1 : decide ((65 : Int) ≤ (zn : Int)) = false := decide_eq_false (by omega)
            have t2 : decide ((97 : Int) ≤ (zn : Int)) = false := decide_eq_false (by omega)
            have t3 : decide ((48 : Int) ≤ (zn : Int)) = true := decide_eq_true (by omega)
            have t4 : decide ((zn : Int) ≤ 57) = true := decide_eq_true (by omega)
            go_wp2
            go_roundw
            case rel => exact ⟨j + 1, by go_num, by omega, trivial, Hok'⟩
            case measure => simp [intOf]; omega
          · have t1 : decide ((65 : Int) ≤ (zn : Int)) = true := decide_eq_true (by omega)
            have t2 : decide ((zn : Int) ≤ 90) = true := decide_eq_true (by omega)
            go_wp2
            go_roundw
            case rel => exact ⟨j + 1, by go_num, by omega, trivial, Hok'⟩
            case measure => simp [intOf]; omega
          · have t1 : decide ((65 : Int) ≤ (zn : Int)) = true := decide_eq_true (by omega)
            have t2 : decide ((zn : Int) ≤ 90) = false := decide_eq_false (by omega)
            have t3 : decide ((97 : Int) ≤ (zn : Int)) = true := decide_eq_true (by omega)
            have t4 : decide ((zn : Int) ≤ 122) = true := decide_eq_true (by omega)
            go_wp2
            go_roundw
            case rel => exact ⟨j + 1, by go_num, by omega, trivial, Hok'⟩
            case measure => simp [intOf]; omega
        · have hbf : b = false := by
            cases b with
            | false => rfl
            | true => exact absurd (hzn ▸ (hB.out.1 rfl).2 j (by omega)) hc
          subst hbf
          unfold nmc at hc
          have t0 : ((zn : Int) == 95) = false := by simp; omega
          clear hzn
          have hcase : zn < 48 ∨ (57 < zn ∧ zn < 65) ∨ (90 < zn ∧ zn < 97) ∨ 122 < zn := by omega
          rcases hcase with h1 | h1 | h1 | h1
          · have t1 : decide ((65 : Int) ≤ (zn : Int)) = false := decide_eq_false (by omega)
            have t2 : decide ((97 : Int) ≤ (zn : Int)) = false := decide_eq_false (by omega)
            have t3 : decide ((48 : Int) ≤ (zn : Int)) = false := decide_eq_false (by omega)
            clear hc h1
            go_wp2
            go_ret
            exact ⟨by simp, rfl⟩
          · have t1 : decide ((65 : Int) ≤ (zn : Int)) = false := decide_eq_false (by omega)
            have t2 : decide ((97 : Int) ≤ (zn : Int)) = false := decide_eq_false (by omega)
            have t3 : decide ((48 : Int) ≤ (zn : Int)) = true := decide_eq_true (by omega)
            have t4 : decide ((zn : Int) ≤ 57) = false := decide_eq_false (by omega)
            clear hc h1
            go_wp2
            go_ret
            exact ⟨by simp, rfl⟩
          · have t1 : decide ((65 : Int) ≤ (zn : Int)) = true := decide_eq_true (by omega)
            have t2 : decide ((zn : Int) ≤ 90) = false := decide_eq_false (by omega)
            have t3 : decide ((97 : Int) ≤ (zn : Int)) = false := decide_eq_false (by omega)
            have t4 : decide ((48 : Int) ≤ (zn : Int)) = true := decide_eq_true (by omega)
            have t5 : decide ((zn : Int) ≤ 57) = false := decide_eq_false (by omega)
            clear hc h1
            go_wp2
            go_ret
            exact ⟨by simp, rfl⟩
          · have t1 : decide ((65 : Int) ≤ (zn : Int)) = true := decide_eq_true (by omega)
            have t2 : decide ((zn : Int) ≤ 90) = false := decide_eq_false (by omega)
            have t3 : decide ((97 : Int) ≤ (zn : Int)) = true := decide_eq_true (by omega)
            have t4 : decide ((zn : Int) ≤ 122) = false := decide_eq_false (by omega)
            have t5 : decide ((48 : Int) ≤ (zn : Int)) = true := decide_eq_true (by omega)
            have t6 : decide ((zn : Int) ≤ 57) = false := decide_eq_false (by omega)
            clear hc h1
            go_wp2
            go_ret
            exact ⟨by simp, rfl⟩
      · obtain rfl : j = n := by omega
        have hbt : b = true := hB.out.2 ⟨hnd.out, fun i h => Hok.out i h (by omega)⟩
        subst hbt
        go_wp2
        go_ret
        exact ⟨by simp, rfl⟩
end Go.Proofs.YtlcaaacbookopaaGreatDoor
