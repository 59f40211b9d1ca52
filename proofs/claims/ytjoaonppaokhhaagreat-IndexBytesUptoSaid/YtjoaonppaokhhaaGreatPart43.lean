/-
  Several texts in one:
  The document's (tidewrackref14.Copy) walked. Conditions: lengths that memory bears.
  The document's (tidewrackref14.Raise) walked. Conditions: lengths that a slice has.
  The document's (tidewrackref14.find), (tidewrackref14.In) walked. Conditions: IDs that rise; lengths that a slice has.
  The document's (tidewrackref14.Remove) walked. Conditions: lengths that a slice has.
-/
import Derived.Test.YtjoaonppaokhhaaGreatPart42

namespace Go.Proofs.YtjoaonppaokhhaaGreat
open Go.RowKit

set_option maxRecDepth 100000 in
set_option maxHeartbeats 4000000 in
theorem rcopyI_any (v : Nat) (fl : Int) (A : Option Addr) (n c : Nat) (es : List Ent) (w : World) (h : RX w A n es) (hf : Fit es) :
    Calls Tryz.prog 50 #[.agg #[.int .u64 (v : Int), .int .i64 fl, .slice A n c]] w fun e w' => ∃ B C, e = .returned (.agg #[.int .u64 (v : Int), .int .i64 fl, .slice B n C]) ∧ NX w' w.heap.size B n C es ∧ Grew w w' := by
  have hln : es.length = n := h.len
  have hn : n ≤ 1599289640354 := by rw [← hln]; exact hf.n
  replace hln := Lib.hid hln
  replace hf := Lib.hid hf
  go_enter Tryz.func50, Tryz.ntmps50
  go_wp2
  go_loopw [4] (fun i wr => ∃ (k : Nat) (B : Option Addr) (C : Nat), k ≤ n ∧ i = .int .i64 (k : Int) ∧ Blk wr w.heap.size 25 #[.int .u64 (v : Int), .int .i64 fl, .slice A n c] ∧ Blk wr (w.heap.size + 2) 25 #[.int .u64 (v : Int), .int .i64 fl, .slice B k C] ∧
    (∃ x y z, Blk wr (w.heap.size + 1) 25 #[x, y, z]) ∧ NX wr w.heap.size B k C (es.take k) ∧ Grew w wr) (fun i _ => n - (intOf i).toNat)
  case atStart => 
    obtain ⟨w1, hw1⟩ : ∃ w1, w1 = w.alloc (.cells #[.int .u64 (v : Int), .int .i64 fl, .slice A n c] 25) := ⟨_, rfl⟩
    have k0 : Blk w1 w.heap.size 25 #[.int .u64 (v : Int), .int .i64 fl, .slice A n c] := by rw [hw1]; exact Blk.new _ _ _
    have s1 : w1.heap.size = w.heap.size + 1 := by rw [hw1]; simp
    obtain ⟨w2, hw2⟩ : ∃ w2, w2 = w1.alloc (.cells #[.int .u64 0, .int .i64 0, .slice none 0 0] 25) := ⟨_, rfl⟩
    have s2 : w2.heap.size = w.heap.size + 2 := by rw [hw2]; simp [s1]
    have k1 : Blk w2 (w.heap.size + 1) 25 #[.int .u64 0, .int .i64 0, .slice none 0 0] := by rw [hw2, ← s1]; exact Blk.new _ _ _
    have k00 : Blk w2 w.heap.size 25 #[.int .u64 (v : Int), .int .i64 fl, .slice A n c] := by rw [hw2]; exact k0.alloc _
    have g2 : Grew w w2 := by rw [hw2, hw1]; exact ((Chg.refl _ w).alloc _).alloc _
    have k2 := Blk.new w2 25 #[.int .u64 (v : Int), .int .i64 fl, .slice none 0 0]
    rw [s2] at k2
    rw [← hw1, ← hw2]
    exact ⟨0, none, 0, by omega, rfl, k00.alloc _, k2, ⟨_, _, _, k1.alloc _⟩, NX.nil _ _, g2.alloc _⟩
  case round =>
    obtain ⟨k, B, C, hk, rfl, hbi, hbo, ⟨r0, r1, r2, hbr⟩, ho, hg⟩ := hrel
    have i2 := hbi.cell 2
    simp only [List.getElem?_toArray, List.getElem?_cons_succ, List.getElem?_cons_zero] at i2
    have hli := hbi.lt
    by_cases hlt : k < n
    · obtain ⟨ad, m, rfl, hx, hm, x0, x1, x2, x3, x4, x5, x6, x7, x8⟩ := (h.grew hg).at_ hlt
      obtain ⟨W, hW⟩ : ∃ W, W = wr.alloc (.cells #[.int .u64 (m.e.m.id : Int), .int .i64 m.e.m.lo, .int .i64 m.e.m.hi, .int .i64 m.e.m.lv, .slice m.A m.n m.c, .int .i64 m.e.m.sr, .int .i64 m.e.m.pt, .bool m.e.mkd, .int .i64 m.e.tm] 51) := ⟨_, rfl⟩
      have hgW : Grew wr W := by rw [hW]; exact (Chg.refl _ wr).alloc _
      have hbW : Blk W wr.heap.size 51 #[.int .u64 (m.e.m.id : Int), .int .i64 m.e.m.lo, .int .i64 m.e.m.hi, .int .i64 m.e.m.lv, .slice m.A m.n m.c, .int .i64 m.e.m.sr, .int .i64 m.e.m.pt, .bool m.e.mkd, .int .i64 m.e.tm] := by rw [hW]; exact Blk.new wr _ _
      have hgg : Grew w W := hg.trans hgW
      have hsz := hg.size
      have hsW : W.heap.size = wr.heap.size + 1 := by rw [hW]; simp
      have oL : OE elU (W.alloc (.cells #[] 22)) w.heap.size 22 (some ⟨wr.heap.size + 1, 0, none⟩) 0 0 [] := by
        have := OE.made (E := elU) W w.heap.size 22 (by omega)
        rwa [hsW] at this
      have rL := hm.row.grew (hgW.alloc (.cells #[] 22))
      have hns : m.n ≤ 17592186043904 := by rw [← hm.row.1]; exact hf.out.el m.e (List.mem_of_getElem? hx)
      obtain ⟨ms, hms, hmt⟩ := ho.op
      have hCc := hms.row.cap
      have htk := fun A2 c2 => map_snoc (f := EnM.e) (x := ⟨m.e, A2, m.n, c2⟩) hmt hx
      replace htk := Lib.hid htk
      have hb4 := (hbW.grew ((Chg.refl _ W).alloc (.cells #[] 22))).cell 4
      rw [hW] at oL rL hb4
      simp only [List.getElem?_toArray, List.getElem?_cons_succ, List.getElem?_cons_zero] at hb4
      have hne : ∀ ad', B = some ad' → ad'.block ≠ wr.heap.size := fun ad' e => by have := (Own.blk_lt hms.row ad' e).2; omega
      have hlo := hbo.lt
      have hlr := hbr.lt
      clear hx hmt ho
      go_wp2_with (first | (at_builtin; go_loud (refine wpList_appE rfl _ _ 26 22 infoU64 rfl Tryz.underlying26 rfl w.heap.size (some ⟨wr.heap.size + 1, 0, none⟩) 0 0 [] rfl oL (by simp; omega) m.A m.n m.c m.e.m.src rfl rL (by unfold maxLen; omega) (by omega) ?_); intro A2 c2 w2 h2; clear x0 x1 x2 x3 x4 x5 x6 x7 x8 hb4; rw [← hW] at h2; obtain ⟨b2, hA⟩ := copy_a hg hgW (h2.grew ((Chg.refl _ W).alloc _) (head_le0 (by omega))) hsz hbW hbo hbr hms hne h2.at00 ⟨by omega, by omega⟩; have hbi6 := ((hbi.grew hgW).grew (h2.grew ((Chg.refl _ W).alloc _) (head_le0 (by omega)))).far (p := ⟨wr.heap.size, 4, none⟩) (by show w.heap.size ≠ wr.heap.size; omega) (.slice A2 m.n c2); have q4 := b2.cell 4; have qf := b2.frozen 4; have e0 := hA.bx.cell 0; have e1 := hA.bx.cell 1; have e2 := hA.bx.cell 2; have e3 := hA.bx.cell 3; have e4 := hA.bx.cell 4; have e5 := hA.bx.cell 5; have e6 := hA.bx.cell 6; have e7 := hA.bx.cell 7; have e8 := hA.bx.cell 8; have e9 := hA.bo.cell 2; simp only [List.getElem?_toArray, List.getElem?_cons_succ, List.getElem?_cons_zero] at q4 e0 e1 e2 e3 e4 e5 e6 e7 e8 e9) | (at_builtin; have hsrc : RE elEn ((w2.setCell ⟨wr.heap.size, 4, none⟩ (.slice A2 m.n c2)).alloc (.cells #[.int .u64 (m.e.m.id : Int), .int .i64 m.e.m.lo, .int .i64 m.e.m.hi, .int .i64 m.e.m.lv, .slice A2 m.n c2, .int .i64 m.e.m.sr, .int .i64 m.e.m.pt, .bool m.e.mkd, .int .i64 m.e.tm] 51)) (some ⟨w2.heap.size, 0, none⟩) 1 [⟨m.e, A2, m.n, c2⟩] := RE.newAt (by simp) rfl rfl; have hro := hA.ho.row.grew ((Chg.refl _ _).alloc (.cells #[.int .u64 (m.e.m.id : Int), .int .i64 m.e.m.lo, .int .i64 m.e.m.hi, .int .i64 m.e.m.lv, .slice A2 m.n c2, .int .i64 m.e.m.sr, .int .i64 m.e.m.pt, .bool m.e.mkd, .int .i64 m.e.tm] 51)); have hgs := hA.hg.size; go_loud (refine wpList_appE rfl _ _ 23 51 infoEn rfl Tryz.underlying23 rfl w.heap.size B k C ms rfl hro (by simp at hgs ⊢; omega) _ 1 1 [⟨m.e, A2, m.n, c2⟩] rfl hsrc (by unfold maxLen; omega) (by omega) ?_); intro B2 C2 w5 h5; obtain ⟨b5, b6, b7, b8, b9⟩ := copy_b hA (htk.out A2 c2) (by omega) (by omega) h5; have hbi7 := (h5.ne_blk hro (hbi6.alloc _) (by decide)).far (p := ⟨w.heap.size + 2, 2, none⟩) (by show w.heap.size ≠ w.heap.size + 2; omega) (.slice B2 (k + 1) C2); have u2 := b5.cell 2; have uf := b5.frozen 2; simp only [List.getElem?_toArray, List.getElem?_cons_succ, List.getElem?_cons_zero] at u2))
      go_roundw
      case rel => exact ⟨k + 1, B2, C2, by omega, by go_num, hbi7, b6, b7, b8, b9⟩
      case measure => simp [intOf]; omega
    · obtain rfl : k = n := by omega
      rw [List.take_of_length_le (by have := hln.out; omega)] at ho
      have b0 := hbo.cell 0
      have b1 := hbo.cell 1
      have b2 := hbo.cell 2
      have r0 := hbr.cell 0
      have r1 := hbr.cell 1
      have r2 := hbr.cell 2
      have f0 := hbr.frozen 0
      have f1 := hbr.frozen 1
      have f2 := hbr.frozen 2
      go_wp2
      refine bodyPost_ret (v := .agg #[.int .u64 (v : Int), .int .i64 fl, .slice B k C]) ?_ rfl ⟨B, C, rfl, ho.far3 hbr (by decide) (by decide) _ _ _, hg.far3 (by omega) _ _ _⟩
      have q := hbr.put3 (.int .u64 (v : Int)) (.int .i64 fl) (.slice B k C)
      have q0 := q.cell 0
      have q1 := q.cell 1
      have q2 := q.cell 2
      simp [results, Tryz.results50, go_sem, q0, q1, q2]
end Go.Proofs.YtjoaonppaokhhaaGreat

namespace Go.Proofs.YtjoaonppaokhhaaGreat
open Go.RowKit

set_option maxRecDepth 100000 in
set_option maxHeartbeats 4000000 in
theorem rraise_no (v : Nat) (fl : Int) (A : Option Addr) (n c : Nat) (es : List Ent) (t : Int) (w : World) (h : RX w A n es) (hn : n ≤ 9223372036854775807) (hno : ¬ (chkI fl es = true ∧ t ≤ 1099511627776)) :
    Calls Tryz.prog 21 #[.agg #[.int .u64 (v : Int), .int .i64 fl, .slice A n c], .int .i64 t] w (IxR w 0 0 [] 140) := by
  have h3 := B2.mk2 w v fl A n c
  obtain ⟨W, hW⟩ : ∃ W, W = ((w.alloc (.cells #[.int .u64 (v : Int), .int .i64 fl, .slice A n c] 25)).alloc (.cells #[.int .u64 0, .int .i64 0, .slice none 0 0] 25)) := ⟨_, rfl⟩
  rw [← hW] at h3
  have hC := rcheck_any v fl A n c es W (h.grew h3.gr) hn
  replace hno := Lib.hid hno
  unfold IxR
  cases hck : chkI fl es
  · rw [hck] at hC
    go_enter Tryz.func21, Tryz.ntmps21
    go_wp2_with fail
    rw [← hW]
    refine hC.mono ?_
    rintro e w1 ⟨rfl, hg1⟩
    unfold errI
    have h4 := h3.grew hg1
    have k0 := h4.br.cell 0
    have k1 := h4.br.cell 1
    have k2 := h4.br.cell 2
    have f0 := h4.br.frozen 0
    have f1 := h4.br.frozen 1
    have f2 := h4.br.frozen 2
    simp only [List.getElem?_toArray, List.getElem?_cons_succ, List.getElem?_cons_zero] at k0 k1 k2
    clear hC hck hno hW
    go_wp2
    refine bodyPost_ret (v := .tuple #[.agg #[.int .u64 0, .int .i64 0, .slice none 0 0], .int .i64 140]) ?_ rfl ⟨none, 0, rfl, NX.nil _ _, h4.gr.far3 (by omega) _ _ _⟩
    have q := h4.br.put3 (.int .u64 0) (.int .i64 0) (.slice none 0 0)
    have q0 := q.cell 0
    have q1 := q.cell 1
    have q2 := q.cell 2
    simp [results, Tryz.results21, go_sem, q0, q1, q2]
  · have ht : (1099511627776 : Int) < t := by
      by_cases ht : t ≤ 1099511627776
      · exact absurd ⟨hck, ht⟩ hno.out
      · omega
    rw [hck] at hC
    go_enter Tryz.func21, Tryz.ntmps21
    go_wp2_with fail
    rw [← hW]
    refine hC.mono ?_
    rintro e w1 ⟨rfl, hg1⟩
    unfold errI
    have h4 := h3.grew hg1
    have k0 := h4.br.cell 0
    have k1 := h4.br.cell 1
    have k2 := h4.br.cell 2
    have f0 := h4.br.frozen 0
    have f1 := h4.br.frozen 1
    have f2 := h4.br.frozen 2
    simp only [List.getElem?_toArray, List.getElem?_cons_succ, List.getElem?_cons_zero] at k0 k1 k2
    clear hC hck hno hW
    go_wp2
    refine bodyPost_ret (v := .tuple #[.agg #[.int .u64 0, .int .i64 0, .slice none 0 0], .int .i64 140]) ?_ rfl ⟨none, 0, rfl, NX.nil _ _, h4.gr.far3 (by omega) _ _ _⟩
    have q := h4.br.put3 (.int .u64 0) (.int .i64 0) (.slice none 0 0)
    have q0 := q.cell 0
    have q1 := q.cell 1
    have q2 := q.cell 2
    simp [results, Tryz.results21, go_sem, q0, q1, q2]

set_option maxRecDepth 100000 in
set_option maxHeartbeats 4000000 in
theorem rraise_ok (v : Nat) (fl : Int) (A : Option Addr) (n c : Nat) (es : List Ent) (t : Int) (w : World) (h : RX w A n es) (hok : IxOk fl es) (ht : t ≤ 1099511627776) :
    Calls Tryz.prog 21 #[.agg #[.int .u64 (v : Int), .int .i64 fl, .slice A n c], .int .i64 t] w (IxR w v (max fl t) es 0) := by
  have h3 := B2.mk2 w v fl A n c
  obtain ⟨W, hW⟩ : ∃ W, W = ((w.alloc (.cells #[.int .u64 (v : Int), .int .i64 fl, .slice A n c] 25)).alloc (.cells #[.int .u64 0, .int .i64 0, .slice none 0 0] 25)) := ⟨_, rfl⟩
  rw [← hW] at h3
  have hln : es.length = n := h.len
  have hn : n ≤ 256 := by rw [← hln]; exact hok.len
  have hC := rcheck_any v fl A n c es W (h.grew h3.gr) (by omega)
  rw [(chkI_iff fl es).2 hok] at hC
  have ht2 : ¬ (1099511627776 : Int) < t := by omega
  replace hln := Lib.hid hln
  unfold IxR
  go_enter Tryz.func21, Tryz.ntmps21
  go_wp2_with fail
  rw [← hW]
  refine hC.mono ?_
  rintro e w2 ⟨rfl, hg1⟩
  unfold errI
  have h5 := h3.grew hg1
  have i0 := h5.bi.cell 0
  have i1 := h5.bi.cell 1
  have i2 := h5.bi.cell 2
  simp only [List.getElem?_toArray, List.getElem?_cons_succ, List.getElem?_cons_zero] at i0 i1 i2
  clear hC hW
  go_wp2_with fail
  refine (rcopyI_any v fl A n c es w2 (h.grew h5.gr) hok.fit).mono ?_
  rintro e w3 ⟨B, C, rfl, hx3, hg3⟩
  have h6 := h5.grew hg3
  have hsz := h5.gr.size
  have hsz3 := hg3.size
  clear i0 i1 i2
  obtain ⟨w4, hw4⟩ : ∃ w4, w4 = w3.alloc (.cells #[.int .u64 (v : Int), .int .i64 (max fl t), .slice B n C] 25) := ⟨_, rfl⟩
  have hg4 : Grew w3 w4 := by rw [hw4]; exact (Chg.refl _ w3).alloc _
  have br5 := h6.br.grew hg4
  have hx5 := (hx3.mono (base' := w.heap.size) (by omega)).grew hg4
  have g5 : Grew w w4 := h6.gr.trans hg4
  have r0 := br5.cell 0
  have r1 := br5.cell 1
  have r2 := br5.cell 2
  have f0 := br5.frozen 0
  have f1 := br5.frozen 1
  have f2 := br5.frozen 2
  simp only [List.getElem?_toArray, List.getElem?_cons_succ, List.getElem?_cons_zero] at r0 r1 r2
  rw [hw4] at r0 r1 r2 f0 f1 f2
  go_wp2
  rw [← hw4]
  refine bodyPost_ret (v := .tuple #[.agg #[.int .u64 (v : Int), .int .i64 (max fl t), .slice B n C], .int .i64 0]) ?_ rfl ⟨B, C, by rw [hln.out], ?_, g5.far3 (by omega) _ _ _⟩
  · have q := br5.put3 (.int .u64 (v : Int)) (.int .i64 (max fl t)) (.slice B n C)
    have q0 := q.cell 0
    have q1 := q.cell 1
    have q2 := q.cell 2
    simp [results, Tryz.results21, go_sem, q0, q1, q2]
  · rw [hln.out]
    exact hx5.far3 br5 (by decide) (by decide) _ _ _
end Go.Proofs.YtjoaonppaokhhaaGreat

namespace Go.Proofs.YtjoaonppaokhhaaGreat
open Go.RowKit

set_option maxRecDepth 100000 in
set_option maxHeartbeats 4000000 in
theorem rfind_any (v : Nat) (fl : Int) (A : Option Addr) (n c : Nat) (es : List Ent) (x : Nat) (w : World) (h : RX w A n es) (hs : Srt es) (hn : n ≤ 9223372036854775807) :
    Calls Tryz.prog 51 #[.agg #[.int .u64 (v : Int), .int .i64 fl, .slice A n c], .int .u64 (x : Int)] w
      fun e w' => e = .returned (.tuple #[.int .i64 (posI es x : Int), .bool (foundI es x)]) ∧ Grew w w' := by
  have hln : es.length = n := h.len
  replace hln := Lib.hid hln
  replace hs := Lib.hid hs
  obtain ⟨z1, hz1⟩ : ∃ z1, posI es x = z1 := ⟨_, rfl⟩
  obtain ⟨z2, hz2⟩ : ∃ z2, foundI es x = z2 := ⟨_, rfl⟩
  rw [hz1, hz2]
  replace hz1 := Lib.hid hz1
  replace hz2 := Lib.hid hz2
  have hp0 : Hid (∀ t e, t < 0 → es[t]? = some e → e.m.id < x) := Lib.hid fun t e ht => by omega
  go_enter Tryz.func51, Tryz.ntmps51
  go_wp2
  go_loopw [6] (fun i wr => ∃ k : Nat, k ≤ n ∧ i = .int .i64 (k : Int) ∧ Hid (∀ t e, t < k → es[t]? = some e → e.m.id < x) ∧ Blk wr w.heap.size 25 #[.int .u64 (v : Int), .int .i64 fl, .slice A n c] ∧ Grew w wr) (fun i _ => n - (intOf i).toNat)
  case atStart => exact ⟨0, by omega, rfl, hp0, Blk.new w _ _, (Chg.refl _ w).alloc _⟩
  case round =>
    clear hp0
    obtain ⟨k, hk, rfl, hp, hb, hg⟩ := hrel
    have i2 : wr.cell? ⟨w.heap.size, 2, none⟩ = some (.slice A n c) := hb.cell 2
    by_cases hlt : k < n
    · obtain ⟨ad, m, rfl, hx, hm, x0, _, _, _, _, _, _, _, _⟩ := (h.grew hg).at_ hlt
      by_cases hlx : m.e.m.id < x
      · have hlx2 : (m.e.m.id : Int) < (x : Int) := by omega
        have hp2 : Hid (∀ t e, t < k + 1 → es[t]? = some e → e.m.id < x) := Lib.hid fun t e ht he => by
          rcases Nat.lt_or_ge t k with h1 | h1
          · exact hp.out t e h1 he
          · obtain rfl : t = k := by omega
            rw [hx] at he
            injection he with he
            subst he
            exact hlx
        clear hx hlx hp
        go_wp2
        go_roundw
        case rel => exact ⟨k + 1, by omega, by go_num, hp2, hb, hg⟩
        case measure => simp [intOf]; omega
      · have hlx2 : ¬ (m.e.m.id : Int) < (x : Int) := by omega
        have hpos : posI es x = k := posI_of (by have := hln.out; omega) hp.out fun t e ht he => by
          have := hs.out.le ht hx he
          omega
        have hfd : foundI es x = decide (m.e.m.id = x) := by
          unfold foundI
          rw [hpos, hx]
        rw [hz1.out] at hpos
        rw [hz2.out] at hfd
        subst hpos hfd
        have hq : ((m.e.m.id : Int) == (x : Int)) = decide (m.e.m.id = x) := eqN _ _
        clear hx hlx hp hz1 hz2
        go_wp2_with fail
        refine wp_region_text [(3, 1), (22, 1)] (by kernel_rfl) (by kernel_rfl) ?_
        simp only [instr, chk, look, Nat.reduceBEq, Bool.false_eq_true, if_true, if_false, Nat.reduceEqDiff, List.cons_append, List.nil_append]
        go_wp2
        refine OnlyN.normal ?_
        go_wp2
        go_ret2
        exact ⟨by simp, hg.drew⟩
    · obtain rfl : k = n := by omega
      have hnone : es[k]? = none := List.getElem?_eq_none (by have := hln.out; omega)
      have hpos : posI es x = k := posI_of (by have := hln.out; omega) hp.out fun t e ht he => by
        have := (List.getElem?_eq_some_iff.1 he).1
        have := hln.out
        omega
      have hfd : foundI es x = false := by
        unfold foundI
        rw [hpos, hnone]
      rw [hz1.out] at hpos
      rw [hz2.out] at hfd
      subst hpos hfd
      clear hp hz1 hz2 hnone
      go_wp2_with fail
      refine wp_region_text [(3, 1), (22, 1)] (by kernel_rfl) (by kernel_rfl) ?_
      simp only [instr, chk, look, Nat.reduceBEq, Bool.false_eq_true, if_true, if_false, Nat.reduceEqDiff, List.cons_append, List.nil_append]
      go_wp2
      refine OnlyN.normal ?_
      go_wp2
      go_ret2
      exact ⟨by simp, hg.drew⟩

set_option maxRecDepth 100000 in
set_option maxHeartbeats 4000000 in
theorem in_any (A : Option Addr) (n c : Nat) (l : List Nat) (x : Nat) (w : World) (h : RE elU w A n l) (hn : n ≤ 9223372036854775807) :
    Calls Tryz.prog 52 #[.slice A n c, .int .u64 (x : Int)] w fun e w' => e = .returned (.bool (l.contains x)) ∧ Grew w w' := by
  have hln : l.length = n := h.1
  replace hln := Lib.hid hln
  obtain ⟨z, hz⟩ : ∃ z, l.contains x = z := ⟨_, rfl⟩
  rw [hz]
  have hz0 : Hid (z = (l.drop 0).contains x) := Lib.hid hz.symm
  clear hz
  go_enter Tryz.func52, Tryz.ntmps52
  go_wp2
  go_loopw [5] (fun i wr => ∃ k : Nat, k ≤ n ∧ i = .int .i64 (k : Int) ∧ Hid (z = (l.drop k).contains x) ∧ Grew w wr) (fun i _ => n - (intOf i).toNat)
  case atStart => exact ⟨0, by omega, rfl, hz0, Chg.refl _ _⟩
  case round =>
    clear hz0
    obtain ⟨k, hk, rfl, hc, hg⟩ := hrel
    by_cases hlt : k < n
    · obtain ⟨ad, y, rfl, hy, y0⟩ := (h.grew hg).uat hlt
      have hxd : l.drop k = y :: l.drop (k + 1) := by
        obtain ⟨h1, h2⟩ := List.getElem?_eq_some_iff.1 hy
        rw [List.drop_eq_getElem_cons h1, h2]
      have hv := hc.out
      rw [hxd, List.contains_cons] at hv
      clear hc hxd hy
      by_cases hxy : y = x
      · subst hxy
        simp only [BEq.rfl, Bool.true_or] at hv
        replace hv := Lib.hid hv
        go_wp2
        go_ret
        exact ⟨by simp [hv.out], hg⟩
      · have hne : ¬ (y : Int) = (x : Int) := by omega
        have hb : (x == y) = false := by simp [Ne.symm hxy]
        rw [hb, Bool.false_or] at hv
        replace hv := Lib.hid hv
        clear hb hxy
        go_wp2
        go_roundw
        case rel => exact ⟨k + 1, by omega, by go_num, hv, hg⟩
        case measure => simp [intOf]; omega
    · obtain rfl : k = n := by omega
      have hv := hc.out
      rw [List.drop_of_length_le (by have := hln.out; omega)] at hv
      replace hv : z = false := hv
      subst hv
      clear hc
      go_wp2
      go_ret
      exact ⟨rfl, hg⟩
end Go.Proofs.YtjoaonppaokhhaaGreat

namespace Go.Proofs.YtjoaonppaokhhaaGreat
open Go.RowKit

set_option maxRecDepth 100000 in
set_option maxHeartbeats 4000000 in
theorem rremove_no (v : Nat) (fl : Int) (A : Option Addr) (n c : Nat) (es : List Ent) (id : Nat) (w : World) (h : RX w A n es) (hn : n ≤ 9223372036854775807) (hck : chkI fl es = false) :
    Calls Tryz.prog 20 #[.agg #[.int .u64 (v : Int), .int .i64 fl, .slice A n c], .int .u64 (id : Int)] w (IxR w 0 0 [] 140) := by
  have h3 := B2.mk2 w v fl A n c
  obtain ⟨W, hW⟩ : ∃ W, W = ((w.alloc (.cells #[.int .u64 (v : Int), .int .i64 fl, .slice A n c] 25)).alloc (.cells #[.int .u64 0, .int .i64 0, .slice none 0 0] 25)) := ⟨_, rfl⟩
  rw [← hW] at h3
  have hC := rcheck_any v fl A n c es W (h.grew h3.gr) hn
  unfold IxR
  rw [hck] at hC
  go_enter Tryz.func20, Tryz.ntmps20
  go_wp2_with fail
  rw [← hW]
  refine hC.mono ?_
  rintro e w1 ⟨rfl, hg1⟩
  unfold errI
  have h4 := h3.grew hg1
  have k0 := h4.br.cell 0
  have k1 := h4.br.cell 1
  have k2 := h4.br.cell 2
  have f0 := h4.br.frozen 0
  have f1 := h4.br.frozen 1
  have f2 := h4.br.frozen 2
  simp only [List.getElem?_toArray, List.getElem?_cons_succ, List.getElem?_cons_zero] at k0 k1 k2
  clear hC hck hW
  go_wp2
  refine bodyPost_ret (v := .tuple #[.agg #[.int .u64 0, .int .i64 0, .slice none 0 0], .int .i64 140]) ?_ rfl ⟨none, 0, rfl, NX.nil _ _, h4.gr.far3 (by omega) _ _ _⟩
  have q := h4.br.put3 (.int .u64 0) (.int .i64 0) (.slice none 0 0)
  have q0 := q.cell 0
  have q1 := q.cell 1
  have q2 := q.cell 2
  simp [results, Tryz.results20, go_sem, q0, q1, q2]

end Go.Proofs.YtjoaonppaokhhaaGreat
