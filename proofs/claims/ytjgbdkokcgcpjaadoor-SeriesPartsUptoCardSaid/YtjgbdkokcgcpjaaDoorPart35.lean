/-
  Several texts in one:
  Has a list of series all points of another one? Conditions: lengths that memory bears.
-/
import Derived.Test.YtjgbdkokcgcpjaaDoorPart33
import Derived.Test.YtjgbdkokcgcpjaaDoorPart34

namespace Go.Proofs.YtjgbdkokcgcpjaaDoor
open Go.RowKit

def coversS : List Ser → List Ser → Bool
  | _, [] => true
  | [], _ :: _ => false
  | p :: a, q :: b => if cmpLs p.lbs q.lbs < 0 then coversS a (q :: b) else decide (cmpLs p.lbs q.lbs = 0) && (holdsP p.pts q.pts && coversS (p :: a) b)
termination_by a b => a.length + b.length
theorem coversS_nil (a : List Ser) : coversS a [] = true := by cases a <;> simp [coversS]
theorem coversS_none (q : Ser) (b : List Ser) : coversS [] (q :: b) = false := by simp [coversS]
theorem coversS_lt {p q : Ser} {a b : List Ser} (h : cmpLs p.lbs q.lbs < 0) : coversS (p :: a) (q :: b) = coversS a (q :: b) := by rw [coversS, if_pos h]
theorem coversS_ge {p q : Ser} {a b : List Ser} (h : ¬ cmpLs p.lbs q.lbs < 0) : coversS (p :: a) (q :: b) = (decide (cmpLs p.lbs q.lbs = 0) && (holdsP p.pts q.pts && coversS (p :: a) b)) := by rw [coversS, if_neg h]
theorem errB (ss : List Ser) : (errS ss : Int) = if okS none ss = true then 0 else 100 := by
  unfold errS
  split <;> rfl

set_option maxRecDepth 100000 in
set_option maxHeartbeats 8000000 in
theorem covers_yes (A B : Option Addr) (n c m d : Nat) (sa sb : List Ser) (w : World) (h : RS w A n sa) (hb : RS w B m sb) (hn : n ≤ c ∧ c ≤ 9223372036854775807) (hm : m ≤ 9223372036854775807) (h1 : okS none sa = true) (h2 : okS none sb = true) :
    Calls Tryd.prog 21 #[.slice A n c, .slice B m d] w fun e w' => e = .returned (.bool (coversS sa sb)) ∧ Grew w w' := by
  have hlm := hb.len
  have hC1 := checkS_any A n c sa w h (by omega)
  rw [errB, if_pos h1] at hC1
  have hC2 := fun W (hW : Grew w W) => checkS_any B m d sb W (hb.grew hW) hm
  rw [errB, if_pos h2] at hC2
  replace hC2 := Lib.hid hC2
  clear h1 h2
  obtain ⟨z, hz⟩ : ∃ z, coversS sa sb = z := ⟨_, rfl⟩
  rw [hz]
  have hz0 : Hid (z = coversS sa (sb.drop 0)) := hz.symm
  clear hz
  go_enter Tryd.func21, Tryd.ntmps21
  go_wp2_with fail
  refine hC1.mono ?_
  rintro e w1 ⟨rfl, hg1⟩
  go_wp2_with fail
  refine (hC2.out _ hg1).mono ?_
  rintro e w2 ⟨rfl, hg2⟩
  have hg := hg1.trans hg2
  clear hC1 hC2 hg1 hg2 w1
  go_wp2
  go_loopw [0, 17] (fun a i wr => ∃ (k n c : Nat) (A : Option Addr) (sa : List Ser), k ≤ m ∧ i = .int .i64 (k : Int) ∧ a = .slice A n c ∧ RS w A n sa ∧ (n ≤ c ∧ c ≤ 9223372036854775807) ∧ Hid (z = coversS sa (sb.drop k)) ∧ Grew w wr) (fun a i _ => m - (intOf i).toNat)
  case atStart => exact ⟨0, n, c, A, sa, by omega, rfl, rfl, h, hn, hz0, hg⟩
  case round =>
    clear h hn hz0 hg w2
    obtain ⟨k, n, c, A, sa, hk, rfl, rfl, h, hn, hv, hg⟩ := hrel
    by_cases hlt : k < m
    · obtain ⟨bd, mq, q, rfl, hq, hqi, q0, q1⟩ := (hb.grew hg).at_ hlt
      have hqd : sb.drop k = q :: sb.drop (k + 1) := by
        obtain ⟨h1, h2⟩ := List.getElem?_eq_some_iff.1 hq
        rw [List.drop_eq_getElem_cons h1, h2]
      rw [hqd] at hv
      obtain ⟨bd', mq', q', e', hq', hqiw, q0', q1'⟩ := hb.at_ hlt
      injection e' with e'
      subst e'
      rw [hq] at hq'
      injection hq' with hq'
      subst hq'
      rw [hg.cell q0' (fun e => e)] at q0
      rw [hg.cell q1' (fun e => e)] at q1
      have em : mq' = mq := by
        injection q0 with q0
        injection q0 with e1 e2 e3
        injection q1 with q1
        injection q1 with e4 e5 e6
        cases mq
        cases mq'
        simp only at *
        subst e1 e2 e3 e4 e5 e6
        rfl
      subst em
      clear hq hqd hqi q0 q1
      have q0 := hg.cell q0' (fun e => e)
      have q1 := hg.cell q1' (fun e => e)
      clear q0' q1'
      go_wp2
      have hbx : Blk (wr.alloc (.cells #[.slice mq'.la mq'.ln mq'.lc, .slice mq'.pa mq'.pn mq'.pc] 46)) wr.heap.size 46 #[.slice mq'.la mq'.ln mq'.lc, .slice mq'.pa mq'.pn mq'.pc] := Blk.new wr _ _
      have hg1 := hg.alloc (.cells #[.slice mq'.la mq'.ln mq'.lc, .slice mq'.pa mq'.pn mq'.pc] 46)
      generalize hbk : wr.heap.size = bk at *
      obtain ⟨W, hW⟩ : ∃ W, W = wr.alloc (.cells #[.slice mq'.la mq'.ln mq'.lc, .slice mq'.pa mq'.pn mq'.pc] 46) := ⟨_, rfl⟩
      rw [← hW] at hbx hg1 ⊢
      clear hg q0 q1 hW hbk
      go_loopw [0] (fun a wr => ∃ (n c : Nat) (A : Option Addr) (sa : List Ser), a = .slice A n c ∧ RS w A n sa ∧ (n ≤ c ∧ c ≤ 9223372036854775807) ∧ Hid (z = coversS sa (q :: sb.drop (k + 1))) ∧ Blk wr bk 46 #[.slice mq'.la mq'.ln mq'.lc, .slice mq'.pa mq'.pn mq'.pc] ∧ Grew w wr) (fun a _ => lenS a)
      case atStart => exact ⟨n, c, A, sa, rfl, h, hn, hv, hbx, hg1⟩
      case round =>
        clear h hn hv hbx hg1
        obtain ⟨n, c, A, sa, rfl, h, hn, hv, hbx, hg⟩ := hrel
        have hln := h.len
        have b0 := hbx.cell 0
        have b1 := hbx.cell 1
        rcases sa with _ | ⟨p, r⟩
        · obtain rfl : n = 0 := hln.symm
          rw [coversS_none] at hv
          replace hv := Lib.hid hv
          have hcs := cellsIn_one hbx
          go_wp2_with fail
          refine wp_region_textS [(3, 1)] [bk] (by kernel_rfl) (by kernel_rfl) hcs ?_
          simp only [wpU, tagOf, chk, look, List.getElem?_toArray, List.getElem?_cons_zero, Nat.reduceBEq, Bool.false_eq_true, if_true, if_false, Nat.reduceEqDiff, List.nil_append, List.cons_append]
          intro K hK
          go_wp2_with fail
          refine OnlyN.normal (hK _ _ (fun hw => by cases (show false = true from hw)) ?_)
          clear hK K
          intro K hK
          go_wp2_with fail
          refine OnlyN.normal (hK _ _ (fun hw => by cases (show false = true from hw)) ?_)
          clear hK K
          intro K hK
          go_wp2_with fail
          refine OnlyN.normal (hK _ _ (fun _ _ => rfl) ?_)
          clear hK K
          go_wp2_with fail
          refine OnlyN.normal ?_
          go_wp2_with fail
          refine wp_region_textS [(3, 1)] [bk] (by kernel_rfl) (by kernel_rfl) hcs ?_
          simp only [wpU, tagOf, chk, look, List.getElem?_toArray, List.getElem?_cons_zero, Nat.reduceBEq, Bool.false_eq_true, if_true, if_false, Nat.reduceEqDiff, List.nil_append, List.cons_append]
          intro K hK
          go_wp2_with fail
          refine OnlyN.normal (hK _ _ (fun hw => by cases (show false = true from hw)) ?_)
          clear hK K
          intro K hK
          go_wp2_with fail
          refine OnlyN.normal (hK _ _ (fun hw => by cases (show false = true from hw)) ?_)
          clear hK K
          intro K hK
          go_wp2_with fail
          refine OnlyN.normal (hK _ _ (fun _ _ => rfl) ?_)
          clear hK K
          intro K hK
          go_wp2_with fail
          refine OnlyN.normal (hK _ _ (fun hw => by cases (show false = true from hw)) ?_)
          clear hK K
          intro K hK
          go_wp2_with fail
          refine OnlyN.normal (hK _ _ (fun hw => by cases (show false = true from hw)) ?_)
          clear hK K
          intro K hK
          go_wp2_with fail
          refine OnlyN.normal (hK _ _ (fun _ _ => rfl) ?_)
          clear hK K
          go_wp2_with fail
          refine OnlyN.normal ?_
          go_wp2
          go_ret
          exact ⟨by rw [hv.out.out]; simp, hg.drew.drew⟩
        · have hn0 : 0 < n := by rw [← hln]; simp
          replace hln := Lib.hid hln
          obtain ⟨ad, mp, p', rfl, hp, hpi, p0, p1⟩ := h.at0 hn0
          obtain rfl : p = p' := by simpa using hp
          have p0 := hg.cell p0 (fun e => e)
          have p1 := hg.cell p1 (fun e => e)
          have e2 : decide (0 < n) = true := decide_eq_true hn0
          have hcs : CellsIn [ad.block, bk] wr := cellsIn_cons (ex_cell p0) (cellsIn_cons hbx.ex (cellsIn_nil _))
          have hsame : Hid (∀ W1, Grew wr W1 → SameIn [ad.block, bk] wr W1) := fun W1 h1 => sameIn_of h1 hcs fun _ _ e => e
          have hL := fun W1 (hW1 : Grew w W1) => compare_labels mp.la mq'.la mp.ln mp.lc mq'.ln mq'.lc p.lbs q.lbs W1 (hpi.lb.grew hW1) (hqiw.lb.grew hW1) (by have := hpi.lc; omega) (by have := hqiw.lc; omega)
          have hH := fun W1 (hW1 : Grew w W1) => holds_any mp.pa mq'.pa mp.pn mp.pc mq'.pn mq'.pc p.pts q.pts W1 (hpi.pt.grew hW1) (hqiw.pt.grew hW1) hpi.pc (by have := hqiw.pc; omega)
          have hcl := coversS_lt (p := p) (q := q) (a := r) (b := sb.drop (k + 1))
          have hcg := coversS_ge (p := p) (q := q) (a := r) (b := sb.drop (k + 1))
          generalize cmpLs p.lbs q.lbs = y at *
          generalize holdsP p.pts q.pts = hp2 at *
          replace hL := Lib.hid hL
          replace hH := Lib.hid hH
          clear hp
          by_cases hy : y < 0
          · rw [hcl hy] at hv
            replace hv := Lib.hid hv
            have hdr := h.tl hn0 hn.1
            have e1 : decide (y < 0) = true := decide_eq_true hy
            clear hy hcl hcg
            go_wp2_with fail
            refine wp_region_textS [(3, 1)] [ad.block, bk] (by kernel_rfl) (by kernel_rfl) hcs ?_
            simp only [wpU, tagOf, chk, look, List.getElem?_toArray, List.getElem?_cons_zero, Nat.reduceBEq, Bool.false_eq_true, if_true, if_false, Nat.reduceEqDiff, List.nil_append, List.cons_append]
            intro K hK
            go_wp2_with fail
            refine OnlyN.normal (hK _ _ (fun _ => ⟨_, _, _, rfl, rfl, by simp⟩) ?_)
            clear hK K
            intro K hK
            go_wp2_with fail
            refine OnlyN.normal (hK _ _ (fun _ => ⟨_, _, _, rfl, rfl, by simp⟩) ?_)
            clear hK K
            intro K hK
            go_wp2_with fail
            refine (hL.out _ (hg.drew)).mono ?_
            rintro e w1 ⟨rfl, hg1⟩
            have hgg : Grew wr w1 := (Chg.refl _ wr).drew.trans hg1
            go_wp2_with fail
            refine OnlyN.normal (hK _ _ (hsame.out _ hgg) ?_)
            clear hK K
            go_wp2_with fail
            refine OnlyN.normal ?_
            have hbx1 := hbx.grew hgg
            have hg0 := hg.trans hgg
            clear hgg hg1 hsame hcs hbx hg
            go_wp2
            go_roundw
            case rel => exact ⟨n - 1, c - 1, _, r, rfl, hdr, by omega, hv.out, hbx1, hg0⟩
            case measure => simp [lenS] <;> omega
          · rw [hcg hy] at hv
            have e1 : decide (y < 0) = false := decide_eq_false hy
            have e3 : (n == 0) = false := by simpa using (by omega : ¬ n = 0)
            have hs2 : Hid (∀ W1 W2, Grew wr W1 → Grew W1 W2 → SameIn [ad.block, bk] W1 W2) := fun W1 W2 h1 h2 => sameIn_of h2 (fun k' hk' => by
              obtain ⟨cs, t, fr, hc⟩ := hcs k' hk'
              exact ⟨cs, t, fr, (h1.block k' (Array.getElem?_eq_some_iff.1 hc).1 (fun e => e)).trans hc⟩) fun _ _ e => e
            by_cases hy0 : y = 0
            · subst hy0
              rw [decide_eq_true rfl, Bool.true_and] at hv
              cases hp2
              · rw [Bool.false_and] at hv
                replace hv := Lib.hid hv
                clear hy hcl hcg
                go_wp2_with fail
                refine wp_region_textS [(3, 1)] [ad.block, bk] (by kernel_rfl) (by kernel_rfl) hcs ?_
                simp only [wpU, tagOf, chk, look, List.getElem?_toArray, List.getElem?_cons_zero, Nat.reduceBEq, Bool.false_eq_true, if_true, if_false, Nat.reduceEqDiff, List.nil_append, List.cons_append]
                intro K hK
                go_wp2_with fail
                refine OnlyN.normal (hK _ _ (fun _ => ⟨_, _, _, rfl, rfl, by simp⟩) ?_)
                clear hK K
                intro K hK
                go_wp2_with fail
                refine OnlyN.normal (hK _ _ (fun _ => ⟨_, _, _, rfl, rfl, by simp⟩) ?_)
                clear hK K
                intro K hK
                go_wp2_with fail
                refine (hL.out _ (hg.drew)).mono ?_
                rintro e w1 ⟨rfl, hg1⟩
                have hgg : Grew wr w1 := (Chg.refl _ wr).drew.trans hg1
                go_wp2_with fail
                refine OnlyN.normal (hK _ _ (hsame.out _ hgg) ?_)
                clear hK K
                go_wp2_with fail
                refine OnlyN.normal ?_
                have hg01 := hg.trans hgg
                have p0 := hgg.cell p0 (fun e => e)
                have p1 := hgg.cell p1 (fun e => e)
                have hbx1 := hbx.grew hgg
                have b0 := hbx1.cell 0
                have b1 := hbx1.cell 1
                have hcs1 : CellsIn [ad.block, bk] w1 := cellsIn_cons (ex_cell p0) (cellsIn_cons hbx1.ex (cellsIn_nil _))
                have hs3 : Hid (∀ W2, Grew w1 W2 → SameIn [ad.block, bk] w1 W2) := fun W2 h2 => hs2.out _ _ hgg h2
                clear hsame hcs hbx hg hg1 hgg hs2
                go_wp2_with fail
                refine wp_region_textS [(3, 1)] [ad.block, bk] (by kernel_rfl) (by kernel_rfl) hcs1 ?_
                simp only [wpU, tagOf, chk, look, List.getElem?_toArray, List.getElem?_cons_zero, Nat.reduceBEq, Bool.false_eq_true, if_true, if_false, Nat.reduceEqDiff, List.nil_append, List.cons_append]
                intro K hK
                go_wp2_with fail
                refine OnlyN.normal (hK _ _ (fun _ => ⟨_, _, _, rfl, rfl, by simp⟩) ?_)
                clear hK K
                intro K hK
                go_wp2_with fail
                refine OnlyN.normal (hK _ _ (fun _ => ⟨_, _, _, rfl, rfl, by simp⟩) ?_)
                clear hK K
                intro K hK
                go_wp2_with fail
                refine (hL.out _ (hg01.drew)).mono ?_
                rintro e w2 ⟨rfl, hg2⟩
                have hgg2 : Grew w1 w2 := (Chg.refl _ w1).drew.trans hg2
                have p1 := hgg2.cell p1 (fun e => e)
                have b1 := (hbx1.grew hgg2).cell 1
                have hg02 := hg01.trans hgg2
                go_wp2_with fail
                refine OnlyN.normal (hK _ _ (hs3.out _ hgg2) ?_)
                clear hK K
                intro K hK
                go_wp2_with fail
                refine OnlyN.normal (hK _ _ (fun _ => ⟨_, _, _, rfl, rfl, by simp⟩) ?_)
                clear hK K
                intro K hK
                go_wp2_with fail
                refine OnlyN.normal (hK _ _ (fun _ => ⟨_, _, _, rfl, rfl, by simp⟩) ?_)
                clear hK K
                intro K hK
                go_wp2_with fail
                refine (hH.out _ hg02).mono ?_
                rintro e w3 ⟨rfl, hg3⟩
                go_wp2_with fail
                refine OnlyN.normal (hK _ _ (hs3.out _ (hgg2.trans hg3)) ?_)
                clear hK K
                go_wp2_with fail
                refine OnlyN.normal ?_
                have hg03 := hg02.trans hg3
                have hbx3 := (hbx1.grew hgg2).grew hg3
                go_wp2
                go_ret
                exact ⟨by rw [hv.out.out]; simp, hg03⟩
              · rw [Bool.true_and] at hv
                replace hv := Lib.hid hv
                clear hy hcl hcg
                go_wp2_with fail
                refine wp_region_textS [(3, 1)] [ad.block, bk] (by kernel_rfl) (by kernel_rfl) hcs ?_
                simp only [wpU, tagOf, chk, look, List.getElem?_toArray, List.getElem?_cons_zero, Nat.reduceBEq, Bool.false_eq_true, if_true, if_false, Nat.reduceEqDiff, List.nil_append, List.cons_append]
                intro K hK
                go_wp2_with fail
                refine OnlyN.normal (hK _ _ (fun _ => ⟨_, _, _, rfl, rfl, by simp⟩) ?_)
                clear hK K
                intro K hK
                go_wp2_with fail
                refine OnlyN.normal (hK _ _ (fun _ => ⟨_, _, _, rfl, rfl, by simp⟩) ?_)
                clear hK K
                intro K hK
                go_wp2_with fail
                refine (hL.out _ (hg.drew)).mono ?_
                rintro e w1 ⟨rfl, hg1⟩
                have hgg : Grew wr w1 := (Chg.refl _ wr).drew.trans hg1
                go_wp2_with fail
                refine OnlyN.normal (hK _ _ (hsame.out _ hgg) ?_)
                clear hK K
                go_wp2_with fail
                refine OnlyN.normal ?_
                have hg01 := hg.trans hgg
                have p0 := hgg.cell p0 (fun e => e)
                have p1 := hgg.cell p1 (fun e => e)
                have hbx1 := hbx.grew hgg
                have b0 := hbx1.cell 0
                have b1 := hbx1.cell 1
                have hcs1 : CellsIn [ad.block, bk] w1 := cellsIn_cons (ex_cell p0) (cellsIn_cons hbx1.ex (cellsIn_nil _))
                have hs3 : Hid (∀ W2, Grew w1 W2 → SameIn [ad.block, bk] w1 W2) := fun W2 h2 => hs2.out _ _ hgg h2
                clear hsame hcs hbx hg hg1 hgg hs2
                go_wp2_with fail
                refine wp_region_textS [(3, 1)] [ad.block, bk] (by kernel_rfl) (by kernel_rfl) hcs1 ?_
                simp only [wpU, tagOf, chk, look, List.getElem?_toArray, List.getElem?_cons_zero, Nat.reduceBEq, Bool.false_eq_true, if_true, if_false, Nat.reduceEqDiff, List.nil_append, List.cons_append]
                intro K hK
                go_wp2_with fail
                refine OnlyN.normal (hK _ _ (fun _ => ⟨_, _, _, rfl, rfl, by simp⟩) ?_)
                clear hK K
                intro K hK
                go_wp2_with fail
                refine OnlyN.normal (hK _ _ (fun _ => ⟨_, _, _, rfl, rfl, by simp⟩) ?_)
                clear hK K
                intro K hK
                go_wp2_with fail
                refine (hL.out _ (hg01.drew)).mono ?_
                rintro e w2 ⟨rfl, hg2⟩
                have hgg2 : Grew w1 w2 := (Chg.refl _ w1).drew.trans hg2
                have p1 := hgg2.cell p1 (fun e => e)
                have b1 := (hbx1.grew hgg2).cell 1
                have hg02 := hg01.trans hgg2
                go_wp2_with fail
                refine OnlyN.normal (hK _ _ (hs3.out _ hgg2) ?_)
                clear hK K
                intro K hK
                go_wp2_with fail
                refine OnlyN.normal (hK _ _ (fun _ => ⟨_, _, _, rfl, rfl, by simp⟩) ?_)
                clear hK K
                intro K hK
                go_wp2_with fail
                refine OnlyN.normal (hK _ _ (fun _ => ⟨_, _, _, rfl, rfl, by simp⟩) ?_)
                clear hK K
                intro K hK
                go_wp2_with fail
                refine (hH.out _ hg02).mono ?_
                rintro e w3 ⟨rfl, hg3⟩
                go_wp2_with fail
                refine OnlyN.normal (hK _ _ (hs3.out _ (hgg2.trans hg3)) ?_)
                clear hK K
                go_wp2_with fail
                refine OnlyN.normal ?_
                have hg03 := hg02.trans hg3
                have hbx3 := (hbx1.grew hgg2).grew hg3
                go_wp2
                go_roundw
                case rel => exact ⟨k + 1, n, c, _, p :: r, by omega, by go_num, rfl, h, hn, hv.out, hg03⟩
                case measure => simp [intOf] <;> omega
            · have e4 : (y != 0) = true := by simpa using hy0
              rw [decide_eq_false hy0, Bool.false_and] at hv
              replace hv := Lib.hid hv
              clear hy hcl hcg hy0
              go_wp2_with fail
              refine wp_region_textS [(3, 1)] [ad.block, bk] (by kernel_rfl) (by kernel_rfl) hcs ?_
              simp only [wpU, tagOf, chk, look, List.getElem?_toArray, List.getElem?_cons_zero, Nat.reduceBEq, Bool.false_eq_true, if_true, if_false, Nat.reduceEqDiff, List.nil_append, List.cons_append]
              intro K hK
              go_wp2_with fail
              refine OnlyN.normal (hK _ _ (fun _ => ⟨_, _, _, rfl, rfl, by simp⟩) ?_)
              clear hK K
              intro K hK
              go_wp2_with fail
              refine OnlyN.normal (hK _ _ (fun _ => ⟨_, _, _, rfl, rfl, by simp⟩) ?_)
              clear hK K
              intro K hK
              go_wp2_with fail
              refine (hL.out _ (hg.drew)).mono ?_
              rintro e w1 ⟨rfl, hg1⟩
              have hgg : Grew wr w1 := (Chg.refl _ wr).drew.trans hg1
              go_wp2_with fail
              refine OnlyN.normal (hK _ _ (hsame.out _ hgg) ?_)
              clear hK K
              go_wp2_with fail
              refine OnlyN.normal ?_
              have hg01 := hg.trans hgg
              have p0 := hgg.cell p0 (fun e => e)
              have p1 := hgg.cell p1 (fun e => e)
              have hbx1 := hbx.grew hgg
              have b0 := hbx1.cell 0
              have b1 := hbx1.cell 1
              have hcs1 : CellsIn [ad.block, bk] w1 := cellsIn_cons (ex_cell p0) (cellsIn_cons hbx1.ex (cellsIn_nil _))
              have hs3 : Hid (∀ W2, Grew w1 W2 → SameIn [ad.block, bk] w1 W2) := fun W2 h2 => hs2.out _ _ hgg h2
              clear hsame hcs hbx hg hg1 hgg hs2
              go_wp2_with fail
              refine wp_region_textS [(3, 1)] [ad.block, bk] (by kernel_rfl) (by kernel_rfl) hcs1 ?_
              simp only [wpU, tagOf, chk, look, List.getElem?_toArray, List.getElem?_cons_zero, Nat.reduceBEq, Bool.false_eq_true, if_true, if_false, Nat.reduceEqDiff, List.nil_append, List.cons_append]
              intro K hK
              go_wp2_with fail
              refine OnlyN.normal (hK _ _ (fun _ => ⟨_, _, _, rfl, rfl, by simp⟩) ?_)
              clear hK K
              intro K hK
              go_wp2_with fail
              refine OnlyN.normal (hK _ _ (fun _ => ⟨_, _, _, rfl, rfl, by simp⟩) ?_)
              clear hK K
              intro K hK
              go_wp2_with fail
              refine (hL.out _ (hg01.drew)).mono ?_
              rintro e w2 ⟨rfl, hg2⟩
              have hgg2 : Grew w1 w2 := (Chg.refl _ w1).drew.trans hg2
              have p1 := hgg2.cell p1 (fun e => e)
              have b1 := (hbx1.grew hgg2).cell 1
              have hg02 := hg01.trans hgg2
              go_wp2_with fail
              refine OnlyN.normal (hK _ _ (hs3.out _ hgg2) ?_)
              clear hK K
              intro K hK
              go_wp2_with fail
              refine OnlyN.normal (hK _ _ (fun hw => by cases (show false = true from hw)) ?_)
              clear hK K
              intro K hK
              go_wp2_with fail
              refine OnlyN.normal (hK _ _ (fun hw => by cases (show false = true from hw)) ?_)
              clear hK K
              intro K hK
              go_wp2_with fail
              refine OnlyN.normal (hK _ _ (hs3.out _ hgg2) ?_)
              clear hK K
              go_wp2_with fail
              refine OnlyN.normal ?_
              go_wp2
              go_ret
              exact ⟨by rw [hv.out.out]; simp, hg02⟩
    · obtain rfl : k = m := by omega
      rw [List.drop_of_length_le (by omega), coversS_nil] at hv
      replace hv := Lib.hid hv
      go_wp2
      go_ret
      exact ⟨by rw [hv.out.out]; simp, hg⟩

set_option maxHeartbeats 2000000 in
theorem covers_no (A B : Option Addr) (n c m d : Nat) (sa sb : List Ser) (w : World) (h : RS w A n sa) (hb : RS w B m sb) (hn : n ≤ 9223372036854775807) (hm : m ≤ 9223372036854775807) (hno : ¬ (OkL sa ∧ OkL sb)) :
    Calls Tryd.prog 21 #[.slice A n c, .slice B m d] w fun e w' => e = .returned (.bool false) ∧ Grew w w' := by
  have hC1 := checkS_any A n c sa w h hn
  have hC2 := fun W (hW : Grew w W) => checkS_any B m d sb W (hb.grew hW) hm
  by_cases h1 : OkL sa
  · have h2 : ¬ OkL sb := fun h2 => hno ⟨h1, h2⟩
    rw [errS_ok h1] at hC1
    rw [errS_no h2] at hC2
    replace hC2 := Lib.hid hC2
    clear h1 h2 hno
    go_enter Tryd.func21, Tryd.ntmps21
    go_wp2_with fail
    refine hC1.mono ?_
    rintro e w1 ⟨rfl, hg1⟩
    go_wp2_with fail
    refine (hC2.out _ hg1).mono ?_
    rintro e w2 ⟨rfl, hg2⟩
    go_wp2
    go_ret
    exact ⟨by simp, hg1.trans hg2⟩
  · rw [errS_no h1] at hC1
    clear h1 hno hC2
    go_enter Tryd.func21, Tryd.ntmps21
    go_wp2_with fail
    refine hC1.mono ?_
    rintro e w1 ⟨rfl, hg1⟩
    go_wp2
    go_ret
    exact ⟨by simp, hg1⟩
/-- has a list all points of another one? -/
def covB' (sa sb : List Ser) : Bool := okS none sa && (okS none sb && coversS sa sb)
theorem covers_any (A B : Option Addr) (n c m d : Nat) (sa sb : List Ser) (w : World) (h : RS w A n sa) (hb : RS w B m sb) (hn : n ≤ c ∧ c ≤ 9223372036854775807) (hm : m ≤ 9223372036854775807) :
    Calls Tryd.prog 21 #[.slice A n c, .slice B m d] w fun e w' => e = .returned (.bool (covB' sa sb)) ∧ Grew w w' := by
  by_cases hok : OkL sa ∧ OkL sb
  · have := covers_yes A B n c m d sa sb w h hb hn hm (okS_iff.2 hok.1) (okS_iff.2 hok.2)
    unfold covB'
    rw [okS_iff.2 hok.1, okS_iff.2 hok.2]
    exact this
  · have := covers_no A B n c m d sa sb w h hb (by omega) hm hok
    have e : covB' sa sb = false := by
      unfold covB'
      rw [Bool.and_eq_false_iff, Bool.and_eq_false_iff]
      by_cases h1 : OkL sa
      · right
        left
        rw [Bool.eq_false_iff]
        exact fun h2 => hok ⟨h1, okS_iff.1 h2⟩
      · left
        rw [Bool.eq_false_iff]
        exact fun h2 => h1 (okS_iff.1 h2)
    rw [e]
    exact this
end Go.Proofs.YtjgbdkokcgcpjaaDoor
