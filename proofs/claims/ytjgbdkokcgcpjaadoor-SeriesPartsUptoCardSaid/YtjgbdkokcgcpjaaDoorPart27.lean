/-
  Several texts in one:
  Two rows of points as one. Conditions: lengths that memory bears.
-/
import Derived.Test.YtjgbdkokcgcpjaaDoorPart15
import Derived.Test.YtjgbdkokcgcpjaaDoorPart16

namespace Go.Proofs.YtjgbdkokcgcpjaaDoor
open Go.RowKit

/-- two new blocks -/
theorem boxes (w : World) (t : TypeId) (X Y : Array Value) : Blk ((w.alloc (.cells X t)).alloc (.cells Y t)).drew w.heap.size t X ∧ Blk ((w.alloc (.cells X t)).alloc (.cells Y t)).drew (w.heap.size + 1) t Y ∧ Grew w ((w.alloc (.cells X t)).alloc (.cells Y t)).drew := by
  have n1 : Blk (w.alloc (.cells X t)) w.heap.size t X := Blk.new w t X
  have n3 : Blk ((w.alloc (.cells X t)).alloc (.cells Y t)) (w.heap.size + 1) t Y := by
    have := Blk.new (w.alloc (.cells X t)) t Y
    rwa [World.size_alloc] at this
  exact ⟨(n1.alloc _).drewN 1, n3.drewN 1, (((Chg.refl _ w).alloc _).alloc _).drew⟩
theorem mergeP_lt {p q : Ptn} {a b : List Ptn} (h : p.1 < q.1) : mergeP (p :: a) (q :: b) = p :: mergeP a (q :: b) := by rw [mergeP, if_pos h]
theorem mergeP_gt {p q : Ptn} {a b : List Ptn} (h : q.1 < p.1) : mergeP (p :: a) (q :: b) = q :: mergeP (p :: a) b := by rw [mergeP, if_neg (by omega), if_pos h]
theorem mergeP_eq {p q : Ptn} {a b : List Ptn} (h : p.1 = q.1) : mergeP (p :: a) (q :: b) = (p.1, max p.2 q.2) :: mergeP a b := by rw [mergeP, if_neg (by omega), if_neg (by omega)]
theorem push_l {out r l : List Ptn} {x : Ptn} (h : out ++ x :: r = l) : (out ++ [x]) ++ r = l := by rw [← h]; simp

theorem fin_app {w wr : World} {t : TypeId} {D A B : Option Addr} {k e n m : Nat} {out ps qs : List Ptn} (ho : OE elPt wr w.heap.size t D k e out) (h : RE elPt wr A n ps) (hb : RE elPt w B m qs) (hg : Grew w wr) (_ : (1 : Nat) = 1 ∨ True) :
    OE elPt wr w.heap.size t D k e out ∧ RE elPt wr A n ps ∧ ∀ D2 e2 w2, ApE elPt wr w.heap.size t D (k + n) e (out ++ ps) D2 e2 w2 → OE elPt w2 w.heap.size t D2 (k + n) e2 (out ++ ps) ∧ RE elPt w2 B m qs ∧ w.heap.size ≤ w2.heap.size ∧ Grew w w2 := by
  refine ⟨ho, h, fun D2 e2 w2 h2 => ?_⟩
  have hg2 : Grew w w2 := h2.grew hg (fun ad e => (Own.blk_lt ho ad e).1)
  exact ⟨h2.oe, hb.grew hg2, hg2.size, hg2⟩

set_option maxHeartbeats 8000000 in
theorem points_any (A B : Option Addr) (n c m d : Nat) (ps qs : List Ptn) (w : World) (h : RE elPt w A n ps) (hb : RE elPt w B m qs) (hn : n ≤ c ∧ c ≤ 9223372036854775807) (hm : m ≤ d ∧ d ≤ 9223372036854775807) (hs : n + m ≤ 8796093022208) :
    Calls Tryd.prog 32 #[.slice A n c, .slice B m d] w (NewPt w (mergeP ps qs).length (mergeP ps qs)) := by
  obtain ⟨l, hl⟩ : ∃ l, mergeP ps qs = l := ⟨_, rfl⟩
  rw [hl]
  have hz0 : Hid ([] ++ mergeP ps qs = l) := hl
  clear hl
  go_enter Tryd.func32, Tryd.ntmps32
  go_wp2
  go_loopw [0, 1, 5] (fun a b o wr => ∃ (n c m d k e : Nat) (A B D : Option Addr) (ps qs out : List Ptn), a = .slice A n c ∧ b = .slice B m d ∧ o = .slice D k e ∧ RE elPt w A n ps ∧ RE elPt w B m qs ∧ (n ≤ c ∧ c ≤ 9223372036854775807) ∧ (m ≤ d ∧ d ≤ 9223372036854775807) ∧ k + n + m ≤ 8796093022208 ∧ Hid (out ++ mergeP ps qs = l) ∧ OE elPt wr w.heap.size 49 D k e out ∧ Grew w wr) (fun a b o _ => lenS a + lenS b)
  case atStart => exact ⟨n, c, m, d, 0, 0, A, B, none, ps, qs, [], rfl, rfl, rfl, h, hb, hn, hm, by omega, hz0, OE.nil _ _ _, Chg.refl _ _⟩
  case round =>
    clear h hb hn hm hs hz0
    obtain ⟨n, c, m, d, k, e, A, B, D, ps, qs, out, rfl, rfl, rfl, h, hb, hn, hm, hs, hv, ho, hg⟩ := hrel
    have hln := h.1
    have hlm := hb.1
    have hsz := hg.size
    rcases ps with _ | ⟨p, ps⟩
    · obtain rfl : n = 0 := hln.symm
      rw [show mergeP [] qs = qs by rw [mergeP]] at hv
      replace hv := Lib.hid hv
      have HF := Lib.hid (fin_app ho (h.grew hg) hb hg (.inl rfl))
      clear h hb ho
      go_wp2_with (first | (at_builtin; refine wpList_appE rfl _ _ 44 49 infoPt rfl Tryd.underlying44 rfl w.heap.size D k e out rfl HF.out.1 (by omega) A 0 c [] rfl HF.out.2.1 (by unfold maxLen; omega) (by omega) ?_; intro D2 e2 w2 h2; obtain ⟨k1, k2, k3, k4⟩ := HF.out.2.2 D2 e2 w2 h2) | (at_builtin; refine wpList_appE rfl _ _ 44 49 infoPt rfl Tryd.underlying44 rfl w.heap.size D2 (k + 0) e2 (out ++ []) rfl k1 k3 B m d qs rfl k2 (by unfold maxLen; omega) (by omega) ?_; intro D3 e3 w3 h3))
      have hlk : l.length = k + 0 + m := by rw [← hv.out.out, List.length_append, hlm, HF.out.1.len (by decide)]; rfl
      have hl3 : l = out ++ [] ++ qs := by rw [← hv.out.out]; simp
      go_ret
      exact ⟨D3, e3, by rw [hlk]; simp, by rw [hlk, hl3]; exact h3.oe, h3.grew k4 (fun ad e => (Own.blk_lt k1 ad e).1)⟩
    · rcases qs with _ | ⟨q, qs⟩
      · obtain rfl : m = 0 := hlm.symm
        rw [mergeP_nil] at hv
        replace hv := Lib.hid hv
        have hn0 : 0 < n := by rw [← hln]; simp
        have e1 : decide (0 < n) = true := decide_eq_true hn0
        replace hln := Lib.hid hln
        have HF := Lib.hid (fin_app ho (h.grew hg) hb hg (.inl rfl))
        clear h hb ho
        go_wp2_with (first | (at_builtin; refine wpList_appE rfl _ _ 44 49 infoPt rfl Tryd.underlying44 rfl w.heap.size D k e out rfl HF.out.1 (by omega) A n c (p :: ps) rfl HF.out.2.1 (by unfold maxLen; omega) (by omega) ?_; intro D2 e2 w2 h2; obtain ⟨k1, k2, k3, k4⟩ := HF.out.2.2 D2 e2 w2 h2) | (at_builtin; refine wpList_appE rfl _ _ 44 49 infoPt rfl Tryd.underlying44 rfl w.heap.size D2 (k + n) e2 (out ++ p :: ps) rfl k1 k3 B 0 d [] rfl k2 (by unfold maxLen; omega) (by omega) ?_; intro D3 e3 w3 h3))
        have hlk : l.length = k + n + 0 := by rw [← hv.out.out, List.length_append, hln.out, HF.out.1.len (by decide)]; rfl
        have hl3 : l = out ++ p :: ps ++ [] := by rw [← hv.out.out]; simp
        go_ret
        exact ⟨D3, e3, by rw [hlk]; simp, by rw [hlk, hl3]; exact h3.oe, h3.grew k4 (fun ad e => (Own.blk_lt k1 ad e).1)⟩
      · have hn0 : 0 < n := by rw [← hln]; simp
        have hm0 : 0 < m := by rw [← hlm]; simp
        replace hln := Lib.hid hln
        replace hlm := Lib.hid hlm
        obtain ⟨ad, p', rfl, hp, p0, p1⟩ := (h.grew hg).pt0 hn0
        obtain rfl : p = p' := by simpa using hp
        obtain ⟨bd, q', rfl, hq, q0, q1⟩ := (hb.grew hg).pt0 hm0
        obtain rfl : q = q' := by simpa using hq
        clear hp hq
        have e1 : decide (0 < n) = true := decide_eq_true hn0
        have e2 : decide (0 < m) = true := decide_eq_true hm0
        have hcA := cellsIn_cell p0
        have hcB := cellsIn_cell q0
        have hcs : CellsIn [ad.block, bd.block] wr := fun i hi => by
          simp only [List.mem_cons, List.not_mem_nil, or_false] at hi
          rcases hi with rfl | rfl
          · exact hcA _ (by simp)
          · exact hcB _ (by simp)
        have hadW := World.block_lt_of_cell? wr _ p0
        have hbdW := World.block_lt_of_cell? wr _ q0
        have hsame : Hid (∀ W1, Grew wr W1 → SameIn [ad.block, bd.block] wr W1) := fun W1 h1 i hi => by
          simp only [List.mem_cons, List.not_mem_nil, or_false] at hi
          rcases hi with rfl | rfl
          · exact h1.block _ hadW (fun e => e)
          · exact h1.block _ hbdW (fun e => e)
        clear hcA hcB hadW hbdW
        go_wp2_with fail
        refine wp_region_texts [(3, 1)] [ad.block, bd.block] [[0, 1, 2, 3, 4, 5, 6, 7, 8, 9], [0, 1, 2, 3, 4, 5, 7, 6, 8, 9]] (by kernel_rfl) (by kernel_rfl) hcs ?_
        intro t ht
        simp only [List.mem_cons, List.not_mem_nil, or_false] at ht
        rcases ht with rfl | rfl
        all_goals
          simp only [opsOf, List.filterMap_cons, List.filterMap_nil, List.getElem?_toArray, List.getElem?_cons_zero, List.getElem?_cons_succ]
          simp only [wpU, tagOf, chk, List.cons_append, List.nil_append]
          intro K hK
          go_wp2_with fail
          refine OnlyN.normal (hK _ _ (fun _ => ⟨_, _, _, rfl, rfl, by simp⟩) ?_)
          clear hK K
          intro K hK
          go_wp2_with fail
          refine OnlyN.normal (hK _ _ (fun _ => ⟨_, _, _, rfl, rfl, by simp⟩) ?_)
          clear hK K
          intro K hK
          go_wp2_with fail
          refine OnlyN.normal (hK _ _ (hsame.out _ ((Chg.refl _ wr).drew.alloc _)) ?_)
          clear hK K
          intro K hK
          go_wp2_with fail
          refine OnlyN.normal (hK _ _ (hsame.out _ (((Chg.refl _ wr).drew.alloc _).alloc _)) ?_)
          clear hK K
          intro K hK
          go_wp2_with fail
          refine OnlyN.normal (hK _ _ (hsame.out _ (((Chg.refl _ wr).alloc _).alloc _).drew) ?_)
          clear hK K
          intro K hK
          go_wp2_with fail
          refine OnlyN.normal (hK _ _ (hsame.out _ (((Chg.refl _ wr).alloc _).alloc _).drew) ?_)
          clear hK K
          go_wp2_with fail
          refine OnlyN.normal ?_
        obtain ⟨bp, bq, hgW⟩ := boxes wr 49 #[.int .i64 p.1, .int .u64 (p.2 : Int)] #[.int .i64 q.1, .int .u64 (q.2 : Int)]
        generalize ((wr.alloc (.cells #[.int .i64 p.1, .int .u64 (p.2 : Int)] 49)).alloc (.cells #[.int .i64 q.1, .int .u64 (q.2 : Int)] 49)).drew = W at *
        rotate_left
        obtain ⟨bq, bp, hgW⟩ := boxes wr 49 #[.int .i64 q.1, .int .u64 (q.2 : Int)] #[.int .i64 p.1, .int .u64 (p.2 : Int)]
        generalize ((wr.alloc (.cells #[.int .i64 q.1, .int .u64 (q.2 : Int)] 49)).alloc (.cells #[.int .i64 p.1, .int .u64 (p.2 : Int)] 49)).drew = W at *

        all_goals
          have hoW := ho.grew hgW
          have hGW := hg.trans hgW
          have hszW := hgW.size
          have hA : Hid (∀ ad, D = some ad → w.heap.size ≤ ad.block) := fun ad e => (Own.blk_lt ho ad e).1
          have hDl : Hid (∀ ad, D = some ad → ad.block < wr.heap.size) := fun ad e => (Own.blk_lt ho ad e).2
          clear ho hg hgW hsame hcs
          have x0 := bp.cell 0
          have x1 := bp.cell 1
          have y0 := bq.cell 0
          have y1 := bq.cell 1
          have hta : RE elPt w (if c = 1 then some ad else some { block := ad.block, off := ad.off + 2 }) (n - 1) ps := h.tl (by decide) hn0 hn.1
          have htb : RE elPt w (if d = 1 then some bd else some { block := bd.block, off := bd.off + 2 }) (m - 1) qs := hb.tl (by decide) hm0 hm.1
          obtain ⟨ta, ea⟩ : ∃ ta, (if c = 1 then some ad else some { block := ad.block, off := ad.off + 2 }) = ta := ⟨_, rfl⟩
          obtain ⟨tb, eb⟩ : ∃ tb, (if d = 1 then some bd else some { block := bd.block, off := bd.off + 2 }) = tb := ⟨_, rfl⟩
          rw [ea] at hta
          rw [eb] at htb
          rcases Int.lt_trichotomy p.1 q.1 with h1 | h1 | h1
          · have e3 : decide (p.1 < q.1) = true := decide_eq_true h1
            have hv := Lib.hid (push_l (mergeP_lt h1 ▸ hv.out))
            have ho1 : OE elPt (W.drew.alloc (.cells #[.int .i64 p.1, .int .u64 (p.2 : Int)] 49)) w.heap.size 49 D k e out := (hoW.drewN 1).grew ((Chg.refl _ _).alloc _)
            have hg1 : Grew w (W.drew.alloc (.cells #[.int .i64 p.1, .int .u64 (p.2 : Int)] 49)) := hGW.drew.alloc _
            have hsrc : RE elPt (W.drew.alloc (.cells #[.int .i64 p.1, .int .u64 (p.2 : Int)] 49)) (some ⟨W.heap.size, 0, none⟩) 1 [p] := RE.newAt rfl rfl rfl
            clear h1
            go_wp2_with fail
            refine wp_region_text [] (by kernel_rfl) (by kernel_rfl) ?_
            simp only [instr, chk, List.nil_append]
            go_wp2_with (at_builtin; refine wpList_appE rfl _ _ 44 49 infoPt rfl Tryd.underlying44 rfl w.heap.size D k e out rfl ho1 (by simp; omega) _ 1 1 [p] rfl hsrc (by unfold maxLen; omega) (by omega) ?_; intro D2 e2 w2 h2)
            refine OnlyN.normal ?_
            go_wp2
            go_roundw
            case rel => exact ⟨n - 1, c - 1, m, d, k + 1, e2, _, _, D2, _, _, out ++ [p], rfl, rfl, rfl, hta, hb, by omega, hm, by omega, hv.out, h2.oe, h2.grew hg1 hA.out⟩
            case measure => simp [lenS] <;> omega
          · have e3 : decide (p.1 < q.1) = false := decide_eq_false (by omega)
            have e4 : decide (q.1 < p.1) = false := decide_eq_false (by omega)
            have hv := Lib.hid (push_l (mergeP_eq h1 ▸ hv.out))
            have ho1 : OE elPt (W.drew.alloc (.cells #[.int .i64 p.1, .int .u64 ((max p.2 q.2 : Nat) : Int)] 49)) w.heap.size 49 D k e out := (hoW.drewN 1).grew ((Chg.refl _ _).alloc _)
            have hg1 : Grew w (W.drew.alloc (.cells #[.int .i64 p.1, .int .u64 ((max p.2 q.2 : Nat) : Int)] 49)) := hGW.drew.alloc _
            have hsrc : RE elPt (W.drew.alloc (.cells #[.int .i64 p.1, .int .u64 ((max p.2 q.2 : Nat) : Int)] 49)) (some ⟨W.heap.size, 0, none⟩) 1 [(p.1, max p.2 q.2)] := RE.newAt rfl rfl rfl
            have hc2 : CellsIn [wr.heap.size, wr.heap.size + 1] W := by first | exact cellsIn_two bp bq | exact cellsIn_two bq bp
            have hl2 : wr.heap.size + 1 < W.heap.size := by first | exact bp.lt | exact bq.lt
            have hs2 : Hid (∀ W1, Chg (fun k => k < wr.heap.size) W W1 → SameIn [wr.heap.size, wr.heap.size + 1] W W1) := fun W1 h1 i hi => by
              simp only [List.mem_cons, List.not_mem_nil, or_false] at hi
              exact h1.block _ (by omega) (fun e => by omega)
            have hmx : (max (p.2 : Int) (q.2 : Int)) = ((max p.2 q.2 : Nat) : Int) := by omega
            clear h1
            go_wp2_with fail
            refine wp_region_textS [] [wr.heap.size, wr.heap.size + 1] (by kernel_rfl) (by kernel_rfl) hc2 ?_
            simp only [wpU, tagOf, chk, List.nil_append, List.cons_append]
            intro K hK
            go_wp2_with fail
            refine OnlyN.normal (hK _ _ (fun _ => ⟨_, _, _, rfl, rfl, by simp⟩) ?_)
            clear hK K
            intro K hK
            go_wp2_with fail
            refine OnlyN.normal (hK _ _ (fun _ => ⟨_, _, _, rfl, rfl, by simp⟩) ?_)
            clear hK K
            intro K hK
            go_wp2_with fail
            refine OnlyN.normal (hK _ _ (fun _ => ⟨_, _, _, rfl, rfl, by simp⟩) ?_)
            clear hK K
            intro K hK
            go_wp2_with fail
            refine OnlyN.normal (hK _ _ (hs2.out _ (Chg.refl _ W).drew) ?_)
            clear hK K
            intro K hK
            go_wp2_with fail
            refine OnlyN.normal (hK _ _ (hs2.out _ ((Chg.refl _ W).drew.alloc _)) ?_)
            clear hK K
            intro K hK
            go_wp2_with (at_builtin; refine wpList_appE rfl _ _ 44 49 infoPt rfl Tryd.underlying44 rfl w.heap.size D k e out rfl ho1 (by simp; omega) _ 1 1 [(p.1, max p.2 q.2)] rfl hsrc (by unfold maxLen; omega) (by omega) ?_; intro D2 e2 w2 h2)
            refine OnlyN.normal (hK _ _ (hs2.out _ (((Chg.refl _ W).drew.alloc _).trans (h2.chg.mono fun x _ ⟨ad2, e5, e6⟩ => by rw [e6]; exact hDl.out ad2 e5))) ?_)
            clear hK K
            go_wp2_with fail
            refine OnlyN.normal ?_
            go_wp2
            go_roundw
            case rel => exact ⟨n - 1, c - 1, m - 1, d - 1, k + 1, e2, _, _, D2, _, _, out ++ [(p.1, max p.2 q.2)], rfl, rfl, rfl, hta, htb, by omega, by omega, by omega, hv.out, h2.oe, h2.grew hg1 hA.out⟩
            case measure => simp [lenS] <;> omega
          · have e3 : decide (p.1 < q.1) = false := decide_eq_false (by omega)
            have e4 : decide (q.1 < p.1) = true := decide_eq_true h1
            have hv := Lib.hid (push_l (mergeP_gt h1 ▸ hv.out))
            have ho1 : OE elPt (W.drew.alloc (.cells #[.int .i64 q.1, .int .u64 (q.2 : Int)] 49)) w.heap.size 49 D k e out := (hoW.drewN 1).grew ((Chg.refl _ _).alloc _)
            have hg1 : Grew w (W.drew.alloc (.cells #[.int .i64 q.1, .int .u64 (q.2 : Int)] 49)) := hGW.drew.alloc _
            have hsrc : RE elPt (W.drew.alloc (.cells #[.int .i64 q.1, .int .u64 (q.2 : Int)] 49)) (some ⟨W.heap.size, 0, none⟩) 1 [q] := RE.newAt rfl rfl rfl
            clear h1
            go_wp2_with fail
            refine wp_region_text [] (by kernel_rfl) (by kernel_rfl) ?_
            simp only [instr, chk, List.nil_append]
            go_wp2_with (at_builtin; refine wpList_appE rfl _ _ 44 49 infoPt rfl Tryd.underlying44 rfl w.heap.size D k e out rfl ho1 (by simp; omega) _ 1 1 [q] rfl hsrc (by unfold maxLen; omega) (by omega) ?_; intro D2 e2 w2 h2)
            refine OnlyN.normal ?_
            go_wp2
            go_roundw
            case rel => exact ⟨n, c, m - 1, d - 1, k + 1, e2, _, _, D2, _, _, out ++ [q], rfl, rfl, rfl, h, htb, hn, by omega, by omega, hv.out, h2.oe, h2.grew hg1 hA.out⟩
            case measure => simp [lenS] <;> omega
end Go.Proofs.YtjgbdkokcgcpjaaDoor
