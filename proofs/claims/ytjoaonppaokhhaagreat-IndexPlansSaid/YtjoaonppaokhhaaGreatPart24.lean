/-
  Several texts in one:
  (index.Mark) walked. Conditions: lengths that a slice has.
-/
import Derived.Test.YtjoaonppaokhhaaGreatPart23

namespace Go.Proofs.YtjoaonppaokhhaaGreat
open Go.RowKit

theorem sameIn_of {S : Nat → Prop} {bs : List Nat} {W w : World} (hc : Chg S W w) (h : CellsIn bs W) (hn : ∀ k ∈ bs, ¬ S k) : SameIn bs W w := fun k hk => by
  obtain ⟨cs, t, fr, h1⟩ := h k hk
  exact hc.block k (Array.getElem?_eq_some_iff.1 h1).1 (hn k hk)
/-- an entry's mark and moment set, in cells -/
theorem flat_mark (ms : List EnM) (k : Nat) (m : EnM) (now : Int) (hk : ms[k]? = some m) :
    ((elEn.flat ms).set (k * 9 + 7) (.bool true)).set (k * 9 + 8) (.int .i64 now) = elEn.flat (ms.set k ⟨⟨m.e.m, true, now⟩, m.A, m.n, m.c⟩) := by
  apply List.ext_getElem?
  intro i
  have hf := flat_set_cells elEn ms k ⟨⟨m.e.m, true, now⟩, m.A, m.n, m.c⟩ m hk i
  have hlt := (List.getElem?_eq_some_iff.1 hk).1
  have hl : (elEn.flat ms).length = ms.length * 9 := elEn.flat_length ms
  rw [hf, List.getElem?_set, List.getElem?_set, List.length_set, hl]
  change _ = if k * 9 ≤ i ∧ i < k * 9 + 9 then _ else _
  by_cases h : k * 9 ≤ i ∧ i < k * 9 + 9
  · rw [if_pos h]
    obtain ⟨j, rfl⟩ : ∃ j, i = k * 9 + j := ⟨i - k * 9, by omega⟩
    have hj : j < 9 := by omega
    have hg := elEn.flat_get ms hk (j := j) hj
    change (elEn.flat ms)[k * 9 + j]? = _ at hg
    rw [show k * 9 + j - k * elEn.sz = j from by show k * 9 + j - k * 9 = j; omega]
    by_cases h8 : j = 8
    · subst h8
      rw [if_pos rfl, if_pos (by omega)]
      rfl
    · rw [if_neg (by omega)]
      by_cases h7 : j = 7
      · subst h7
        rw [if_pos rfl, if_pos (by omega)]
        rfl
      · rw [if_neg (by omega), hg]
        match j, hj, h7, h8 with
        | 0, _, _, _ => rfl
        | 1, _, _, _ => rfl
        | 2, _, _, _ => rfl
        | 3, _, _, _ => rfl
        | 4, _, _, _ => rfl
        | 5, _, _, _ => rfl
        | 6, _, _, _ => rfl
        | 7, _, h, _ => exact absurd rfl h
        | 8, _, _, h => exact absurd rfl h
  · rw [if_neg h, if_neg (by omega), if_neg (by omega)]
theorem NXo.mark {w : World} {base g : Nat} {n c : Nat} {ms : List EnM} {m : EnM} {k : Nat} (h : NXo w base (some ⟨g, 0, none⟩) n c ms) (hk : ms[k]? = some m) (now : Int) :
    NXo ((w.setCell ⟨g, k * 9 + 7, none⟩ (.bool true)).setCell ⟨g, k * 9 + 8, none⟩ (.int .i64 now)) base (some ⟨g, 0, none⟩) n c (ms.set k ⟨⟨m.e.m, true, now⟩, m.A, m.n, m.c⟩) := by
  have h1 := (Own.set h.row (k * 9 + 7) (.bool true)).set (k * 9 + 8) (.int .i64 now)
  rw [flat_mark ms k m now hk] at h1
  refine ⟨h1, fun y hy => ?_⟩
  have hc : Chg (fun j => ∃ ad, some (⟨g, 0, none⟩ : Addr) = some ad ∧ j = ad.block) w ((w.setCell ⟨g, k * 9 + 7, none⟩ (.bool true)).setCell ⟨g, k * 9 + 8, none⟩ (.int .i64 now)) :=
    ((Chg.refl _ w).setCell (p := ⟨g, k * 9 + 7, none⟩) (.inr ⟨_, rfl, rfl⟩) _).setCell (p := ⟨g, k * 9 + 8, none⟩) (.inr ⟨_, rfl, rfl⟩) _
  rcases List.mem_or_eq_of_mem_set hy with hy | rfl
  · exact OE.apartT (h.el y hy) h.row (by decide) hc
  · exact OE.apartT (h.el m (List.mem_of_getElem? hk)) h.row (by decide) hc

set_option maxRecDepth 100000 in
set_option maxHeartbeats 4000000 in
theorem mark_no (v : Nat) (fl : Int) (A : Option Addr) (n c : Nat) (es : List Ent) (t : Int) (w : World) (h : RX w A n es) (hn : n ≤ 9223372036854775807) (hck : chkI fl es = false) :
    Calls Tryz.prog 13 #[.agg #[.int .u64 (v : Int), .int .i64 fl, .slice A n c], .int .i64 t] w (IxR w 0 0 [] 140) := by
  have h3 := B2.mk2 w v fl A n c
  obtain ⟨W, hW⟩ : ∃ W, W = ((w.alloc (.cells #[.int .u64 (v : Int), .int .i64 fl, .slice A n c] 25)).alloc (.cells #[.int .u64 0, .int .i64 0, .slice none 0 0] 25)) := ⟨_, rfl⟩
  rw [← hW] at h3
  have hC := check_any v fl A n c es W (h.grew h3.gr) hn
  unfold IxR
  rw [hck] at hC
  go_enter Tryz.func13, Tryz.ntmps13
  go_wp2_with fail
  rw [← hW]
  refine hC.mono ?_
  rintro e w1 ⟨rfl, hg1⟩
  unfold errI
  have h4 := h3.grew hg1
  have k0 := h4.br.cell 0
  have k1 := h4.br.cell 1
  have k2 := h4.br.cell 2
  have f0 := h4.br.frozen 0
  have f1 := h4.br.frozen 1
  have f2 := h4.br.frozen 2
  simp only [List.getElem?_toArray, List.getElem?_cons_succ, List.getElem?_cons_zero] at k0 k1 k2
  clear hC hck hW
  go_wp2
  refine bodyPost_ret (v := .tuple #[.agg #[.int .u64 0, .int .i64 0, .slice none 0 0], .int .i64 140]) ?_ rfl ⟨none, 0, rfl, NX.nil _ _, h4.gr.far3 (by omega) _ _ _⟩
  have q := h4.br.put3 (.int .u64 0) (.int .i64 0) (.slice none 0 0)
  have q0 := q.cell 0
  have q1 := q.cell 1
  have q2 := q.cell 2
  simp [results, Tryz.results13, go_sem, q0, q1, q2]

/-- a mark's state: the boxes, and the index as it is being marked -/
structure MkS (w wr : World) (v : Nat) (fl : Int) (A : Option Addr) (n c go : Nat) (B : Option Addr) (C : Nat) (Bl : Option Addr) (L D : Nat) (ls : List Nat) (es : List Ent) : Prop where
  b2 : B2 w wr v fl A n c
  bo : Blk wr go 25 #[.int .u64 (v : Int), .int .i64 fl, .slice B n C]
  hx : NX wr w.heap.size B n C es
  hl : OE elI wr w.heap.size 3 Bl L D (ls.map fun k : Nat => (k : Int))
theorem MkS.grew {w wr W : World} {v : Nat} {fl : Int} {A : Option Addr} {n c go : Nat} {B : Option Addr} {C : Nat} {Bl : Option Addr} {L D : Nat} {ls : List Nat} {es : List Ent} (h : MkS w wr v fl A n c go B C Bl L D ls es) (hg : Grew wr W) : MkS w W v fl A n c go B C Bl L D ls es :=
  ⟨h.b2.grew hg, h.bo.grew hg, h.hx.grew hg, h.hl.grew hg⟩
theorem MkS.len {w wr : World} {v : Nat} {fl : Int} {A : Option Addr} {n c go : Nat} {B : Option Addr} {C : Nat} {Bl : Option Addr} {L D : Nat} {ls : List Nat} {es : List Ent} (h : MkS w wr v fl A n c go B C Bl L D ls es) : ls.length = L := by
  have := OE.len (by decide) h.hl
  rwa [List.length_map] at this
theorem MkS.at_ {w wr : World} {v : Nat} {fl : Int} {A : Option Addr} {n c go : Nat} {B : Option Addr} {C : Nat} {Bl : Option Addr} {L D : Nat} {ls : List Nat} {es : List Ent} (h : MkS w wr v fl A n c go B C Bl L D ls es) {j : Nat} (hj : j < L) :
    ∃ g k, Bl = some ⟨g, 0, none⟩ ∧ ls[j]? = some k ∧ wr.cell? ((⟨g, 0, none⟩ : Addr).add j) = some (.int .i64 (k : Int)) := by
  obtain ⟨g, e, _⟩ := Own.at_ h.hl (by omega)
  obtain ⟨ad, x, e2, hx, hc⟩ := (OE.re (by decide) h.hl).iat hj
  rw [e] at e2
  injection e2 with e2
  subst e2
  rw [List.getElem?_map] at hx
  cases hk : ls[j]? with
  | none => rw [hk] at hx; cases hx
  | some k =>
    rw [hk] at hx
    injection hx with hx
    subst hx
    exact ⟨g, k, e, rfl, hc⟩
theorem mkB_eq (es : List Ent) (fl : Int) (k : Nat) (e : Ent) : mkB es fl k e = (decide (e.m.hi < fl) || ((livI es).drop 0).any fun o => !decide (o = k) && (srcAt es o).contains e.m.id) := rfl

set_option maxRecDepth 100000 in
set_option maxHeartbeats 4000000 in
theorem mark_ok (v : Nat) (fl : Int) (A : Option Addr) (n c : Nat) (es : List Ent) (t : Int) (w : World) (h : RX w A n es) (hok : IxOk fl es) :
    Calls Tryz.prog 13 #[.agg #[.int .u64 (v : Int), .int .i64 fl, .slice A n c], .int .i64 t] w (IxR w v fl (markE es fl t) 0) := by
  have h3 := B2.mk2 w v fl A n c
  obtain ⟨W, hW⟩ : ∃ W, W = ((w.alloc (.cells #[.int .u64 (v : Int), .int .i64 fl, .slice A n c] 25)).alloc (.cells #[.int .u64 0, .int .i64 0, .slice none 0 0] 25)) := ⟨_, rfl⟩
  rw [← hW] at h3
  have hln : es.length = n := h.len
  have hn : n ≤ 256 := by rw [← hln]; exact hok.len
  have hC := check_any v fl A n c es W (h.grew h3.gr) (by omega)
  rw [(chkI_iff fl es).2 hok] at hC
  replace hln := Lib.hid hln
  obtain ⟨rs, hrs⟩ : ∃ rs, markE es fl t = rs := ⟨_, rfl⟩
  rw [hrs]
  replace hrs := Lib.hid hrs
  unfold IxR
  go_enter Tryz.func13, Tryz.ntmps13
  go_wp2_with fail
  rw [← hW]
  refine hC.mono ?_
  rintro e w2 ⟨rfl, hg1⟩
  unfold errI
  have h5 := h3.grew hg1
  have i0 := h5.bi.cell 0
  have i1 := h5.bi.cell 1
  have i2 := h5.bi.cell 2
  simp only [List.getElem?_toArray, List.getElem?_cons_succ, List.getElem?_cons_zero] at i0 i1 i2
  clear hC hW
  go_wp2_with fail
  refine (copyI_any v fl A n c es w2 (h.grew h5.gr) hok.fit).mono ?_
  rintro e w3 ⟨B, C, rfl, hx3, hg3⟩
  obtain ⟨w4, hw4⟩ : ∃ w4, w4 = w3.alloc (.cells #[.int .u64 (v : Int), .int .i64 fl, .slice B n C] 25) := ⟨_, rfl⟩
  have hg4 : Grew w3 w4 := by rw [hw4]; exact (Chg.refl _ w3).alloc _
  have bo4 : Blk w4 w3.heap.size 25 #[.int .u64 (v : Int), .int .i64 fl, .slice B n C] := by rw [hw4]; exact Blk.new _ _ _
  have h6 := (h5.grew hg3).grew hg4
  have hsz := h5.gr.size
  have hsz3 := hg3.size
  have hbl := h5.br.lt
  have hx4 := (hx3.mono (base' := w.heap.size) (by omega)).grew hg4
  clear i0 i1 i2
  have i0 := h6.bi.cell 0
  have i1 := h6.bi.cell 1
  have i2 := h6.bi.cell 2
  simp only [List.getElem?_toArray, List.getElem?_cons_succ, List.getElem?_cons_zero] at i0 i1 i2
  rw [hw4] at i0 i1 i2
  go_wp2_with fail
  rw [← hw4]
  refine (live_any v fl A n c es w4 (h.grew h6.gr) hn).mono ?_
  rintro e w5 ⟨Bl, L, D, rfl, hl5, hg5⟩
  obtain ⟨go, hgo⟩ : ∃ go, w3.heap.size = go := ⟨_, rfl⟩
  rw [hgo] at bo4
  have hsz4 := h6.gr.size
  have hS : MkS w w5 v fl A n c go B C Bl L D (livI es) (markL es fl t ((livI es).take 0)) := ⟨h6.grew hg5, bo4.grew hg5, by rw [List.take_zero, markL_nil]; exact hx4.grew hg5, Own.mono hl5 (by omega)⟩
  have hL := hS.len
  have hLn : L ≤ 9223372036854775807 := by have := hS.hl.cap; omega
  rw [hgo]
  replace hL := Lib.hid hL
  have hgo1 : w.heap.size + 1 < go := by omega
  clear hw4 i0 i1 i2 bo4 hx4 hx3 h6 h5 h3 hl5 hg4 hg3 hg1 hgo hsz3 hbl hsz4
  go_wp2
  go_loopw [27] (fun i wr => ∃ j : Nat, j ≤ L ∧ i = .int .i64 (j : Int) ∧ MkS w wr v fl A n c go B C Bl L D (livI es) (markL es fl t ((livI es).take j))) (fun i _ => L - (intOf i).toNat)
  case atStart => exact ⟨0, by omega, rfl, hS⟩
  case round =>
    clear hS
    obtain ⟨j, hj, rfl, hS⟩ := hrel
    by_cases hlt : j < L
    · obtain ⟨gl, k, rfl, hk, l0⟩ := hS.at_ hlt
      have l0' : wr.cell? ⟨gl, j, none⟩ = some (.int .i64 (k : Int)) := by rw [add_head] at l0; exact l0
      have hjk : (livI es)[j]? = some k := hk
      obtain ⟨e, he, hem⟩ := mem_livI.1 (List.mem_of_getElem? hjk)
      have hkn : k < n := by
        have := (List.getElem?_eq_some_iff.1 he).1
        have := hln.out
        omega
      obtain ⟨ad, m, rfl, hx, hm, x0, x1, x2, x3, x4, x5, x6, x7, x8⟩ := (h.grew hS.b2.gr).at_ hkn
      rw [he] at hx
      injection hx with hx
      obtain ⟨W, hW⟩ : ∃ W, W = wr.alloc (.cells #[.int .u64 (m.e.m.id : Int), .int .i64 m.e.m.lo, .int .i64 m.e.m.hi, .int .i64 m.e.m.lv, .slice m.A m.n m.c, .int .i64 m.e.m.sr, .int .i64 m.e.m.pt] 28) := ⟨_, rfl⟩
      have hgW : Grew wr W := by rw [hW]; exact (Chg.refl _ wr).alloc _
      have hbW : Blk W wr.heap.size 28 #[.int .u64 (m.e.m.id : Int), .int .i64 m.e.m.lo, .int .i64 m.e.m.hi, .int .i64 m.e.m.lv, .slice m.A m.n m.c, .int .i64 m.e.m.sr, .int .i64 m.e.m.pt] := by rw [hW]; exact Blk.new wr _ _
      have hSW := hS.grew hgW
      have hz := mkB_eq es fl k e
      obtain ⟨z, hzz⟩ : ∃ z, mkB es fl k e = z := ⟨_, rfl⟩
      rw [hzz, hx] at hz
      have htk : (livI es).take (j + 1) = (livI es).take j ++ [k] := by rw [List.take_add_one, hjk]; rfl
      have hst : Hid ((z = true → markL es fl t ((livI es).take (j + 1)) = (markL es fl t ((livI es).take j)).set k ⟨e.m, true, t⟩) ∧ (z = false → markL es fl t ((livI es).take (j + 1)) = markL es fl t ((livI es).take j))) := by
        refine Lib.hid ⟨fun h1 => ?_, fun h1 => ?_⟩
        · rw [htk]
          exact markL_step_yes he (hzz.trans h1)
        · rw [htk]
          exact markL_step_no he (hzz.trans h1)
      have hmk : (markL es fl t ((livI es).take j))[k]? = some (markAt es fl t ((livI es).take j) k e) := markL_get he
      have hmm : (markAt es fl t ((livI es).take j) k e).m = e.m := markAt_m _ _ _ _ _ _
      generalize markAt es fl t ((livI es).take j) k e = e' at hmk hmm
      obtain ⟨b, hb⟩ : ∃ b, decide (m.e.m.hi < fl) = b := ⟨_, rfl⟩
      rw [hb] at hz
      have hz0 : Hid (z = (b || ((livI es).drop 0).any fun o => !decide (o = k) && (srcAt es o).contains m.e.m.id)) := Lib.hid hz
      have c2 := hSW.b2.bi.cell 2
      have c1 := hSW.b2.bi.cell 1
      have d2 := hbW.cell 2
      simp only [List.getElem?_toArray, List.getElem?_cons_succ, List.getElem?_cons_zero] at c1 c2 d2
      rw [hW] at c1 c2 d2
      have c2' := hS.b2.bi.cell 2
      simp only [List.getElem?_toArray, List.getElem?_cons_succ, List.getElem?_cons_zero] at c2'
      replace hx := Lib.hid hx
      clear hz hzz htk he hem hjk hk
      go_wp2
      rw [← hW]
      clear hW x0 x1 x2 x3 x4 x5 x6 x7 x8 l0 l0' hb hm c1 c2 d2 c2'
      generalize W = wo at *
      go_loopw [12, 44] (fun s i wr2 => ∃ (o : Nat) (b : Bool), o ≤ L ∧ i = .int .i64 (o : Int) ∧ s = .bool b ∧ Hid (z = (b || ((livI es).drop o).any fun o => !decide (o = k) && (srcAt es o).contains m.e.m.id)) ∧ Grew wo wr2) (fun _ i _ => L - (intOf i).toNat)
      case atStart => exact ⟨0, b, by omega, rfl, rfl, hz0, Chg.refl _ _⟩
      case round =>
        obtain ⟨o, b, ho, rfl, rfl, hc, hg⟩ := hrel
        have hSr := hSW.grew hg
        by_cases hlo : o < L
        · obtain ⟨gl2, q, e2, hq, l1⟩ := hSr.at_ hlo
          injection e2 with e2
          injection e2 with e2 _ _
          subst e2
          have l1' : wr.cell? ⟨gl, o, none⟩ = some (.int .i64 (q : Int)) := by rw [add_head] at l1; exact l1
          obtain ⟨e1, he1, _⟩ := mem_livI.1 (List.mem_of_getElem? hq)
          have hqn : q < n := by
            have := (List.getElem?_eq_some_iff.1 he1).1
            have := hln.out
            omega
          obtain ⟨ad2, m2, e3, hx2, hm2, -, -, -, -, y4, -, -, -, -⟩ := (h.grew hSr.b2.gr).at_ hqn
          injection e3 with e3
          subst e3
          have hsq : srcAt es q = m2.e.m.src := by unfold srcAt; rw [hx2]
          have hv := hc.out
          rw [drop_at hq, List.any_cons, hsq] at hv
          have c2 := hSr.b2.bi.cell 2
          have d0 := (hbW.grew hg).cell 0
          simp only [List.getElem?_toArray, List.getElem?_cons_succ, List.getElem?_cons_zero] at c2 d0
          clear hc hq l1 he1 hx2 hsq
          cases b
          · rw [Bool.false_or] at hv
            by_cases hqk : q = k
            · subst hqk
              rw [decide_eq_true rfl, Bool.not_true, Bool.false_and] at hv
              replace hv := Lib.hid hv
              go_wp2_with fail
              refine wp_region_text [(3, 1)] (by kernel_rfl) (by kernel_rfl) ?_
              simp only [instr, chk, look, Nat.reduceBEq, if_true, if_false, Nat.reduceEqDiff, List.cons_append, List.nil_append]
              go_wp2_with fail
              refine OnlyN.normal ?_
              go_wp2
              go_roundw
              case rel => exact ⟨o + 1, false, by omega, by go_num, rfl, hv, hg.drew⟩
              case measure => simp [intOf]; omega
            · rw [decide_eq_false hqk, Bool.not_false, Bool.true_and] at hv
              replace hv := Lib.hid hv
              have hqk2 : ¬ (q : Int) = (k : Int) := by omega
              have hI := fun W1 (hW1 : Grew wr W1) => contains_any m2.A m2.n m2.c m2.e.m.src m.e.m.id W1 (hm2.row.grew hW1) (by have := hm2.cap; omega)
              replace hI := Lib.hid hI
              go_wp2_with fail
              refine wp_region_text [(3, 1)] (by kernel_rfl) (by kernel_rfl) ?_
              simp only [instr, chk, look, Nat.reduceBEq, if_true, if_false, Nat.reduceEqDiff, List.cons_append, List.nil_append]
              go_wp2_with fail
              refine (hI.out _ (Chg.refl _ wr).drew).mono ?_
              rintro e w6 ⟨rfl, rfl⟩
              generalize m2.e.m.src.contains m.e.m.id = cb at *
              clear hI
              go_wp2_with fail
              refine OnlyN.normal ?_
              go_wp2
              go_roundw
              case rel => exact ⟨o + 1, cb, by omega, by go_num, by simp; exact fun _ => hqk2, hv, hg.drew⟩
              case measure => simp [intOf]; omega
          · rw [Bool.true_or] at hv
            have hv2 : Hid (z = (true || ((livI es).drop (o + 1)).any fun o => !decide (o = k) && (srcAt es o).contains m.e.m.id)) := Lib.hid (by rw [hv]; rfl)
            clear hv
            go_wp2_with fail
            refine wp_region_text [(3, 1)] (by kernel_rfl) (by kernel_rfl) ?_
            simp only [instr, chk, look, Nat.reduceBEq, if_true, if_false, Nat.reduceEqDiff, List.cons_append, List.nil_append]
            go_wp2_with fail
            refine OnlyN.normal ?_
            go_wp2
            go_roundw
            case rel => exact ⟨o + 1, true, by omega, by go_num, rfl, hv2, hg.drew⟩
            case measure => simp [intOf]; omega
        · obtain rfl : L = o := by omega
          have hv := hc.out
          rw [List.drop_of_length_le (by have := hL.out; omega), List.any_nil, Bool.or_false] at hv
          clear hc
          subst hv
          cases z
          · have hsn := hst.out.2 rfl
            replace hsn := Lib.hid hsn
            clear hst
            go_wp2
            go_roundw
            case rel =>
              refine ⟨j + 1, by omega, by go_num, ?_⟩
              rw [hsn.out]
              exact hSr
            case measure => simp [intOf]; omega
          · have hsy := hst.out.1 rfl
            replace hsy := Lib.hid hsy
            clear hst
            obtain ⟨ms, hxo, hmap⟩ := hSr.hx
            obtain ⟨gB, rfl, hgB⟩ := Own.at_ hxo.row (by omega)
            obtain ⟨mk, hmk1, hmk2⟩ : ∃ mk, ms[k]? = some mk ∧ mk.e = e' := by
              rw [← hmap, List.getElem?_map] at hmk
              cases hq : ms[k]? with
              | none => rw [hq] at hmk; cases hmk
              | some mk =>
                rw [hq] at hmk
                injection hmk with hmk
                exact ⟨mk, rfl, hmk⟩
            have hxo2 := hxo.mark hmk1 t
            have hR := hxo.row
            obtain ⟨g', hg', _, _, hcl, hfr, _⟩ := Own.at_ hR (by omega)
            injection hg' with hg'
            injection hg' with hg' _ _
            subst hg'
            have hml : ms.length = n := (OE.re (by decide) hxo.row).1
            have z7 : wr.cell? ⟨gB, k * 9 + 7, none⟩ = some (.bool mk.e.mkd) := by
              rw [hcl _ (by show k * 9 + 7 < n * 9; omega)]
              exact elEn.flat_get ms hmk1 (j := 7) (by decide)
            have z8 : wr.cell? ⟨gB, k * 9 + 8, none⟩ = some (.int .i64 mk.e.tm) := by
              rw [hcl _ (by show k * 9 + 8 < n * 9; omega)]
              exact elEn.flat_get ms hmk1 (j := 8) (by decide)
            have zf7 := hfr (k * 9 + 7)
            have zf8 := hfr (k * 9 + 8)
            have o2 := hSr.bo.cell 2
            simp only [List.getElem?_toArray, List.getElem?_cons_succ, List.getElem?_cons_zero] at o2
            go_wp2
            have hgo2 : ∀ k', k' ∈ [go] → ¬ k' = gB := fun k' hk' e => by
              simp only [List.mem_cons, List.not_mem_nil, or_false] at hk'
              have := Own.ne_blk hxo.row hSr.bo (by decide) ⟨gB, 0, none⟩ rfl
              exact this (by rw [← e, hk'])
            have hcB : CellsIn [go] wr := cellsIn_one hSr.bo
            refine wp_region_textS [(3, 1)] [go] (by kernel_rfl) (by kernel_rfl) hcB ?_
            simp only [wpU, tagOf, chk, List.nil_append, List.cons_append]
            intro K hK
            go_wp2_with fail
            refine OnlyN.normal (hK _ _ (fun _ => ⟨_, _, _, rfl, rfl, by simp⟩) ?_)
            clear hK K
            intro K hK
            go_wp2_with fail
            refine OnlyN.normal (hK _ _ (fun _ => ⟨_, _, _, rfl, rfl, by simp⟩) ?_)
            clear hK K
            intro K hK
            go_wp2_with fail
            refine OnlyN.normal (hK _ _ (sameIn_of ((Chg.refl (fun k => k = gB) wr).drew.setCell (p := ⟨gB, k * 9 + 7, none⟩) (.inr rfl) _) hcB hgo2) ?_)
            clear hK K
            intro K hK
            go_wp2_with fail
            refine OnlyN.normal (hK _ _ (sameIn_of (((Chg.refl (fun k => k = gB) wr).drew.setCell (p := ⟨gB, k * 9 + 7, none⟩) (.inr rfl) _).setCell (p := ⟨gB, k * 9 + 8, none⟩) (.inr rfl) _) hcB hgo2) ?_)
            clear hK K
            refine OnlyN.normal ?_
            have hcc : Chg (fun k => k = gB) wr ((wr.drew.setCell ⟨gB, k * 9 + 7, none⟩ (.bool true)).setCell ⟨gB, k * 9 + 8, none⟩ (.int .i64 t)) := ((Chg.refl (fun k => k = gB) wr).drew.setCell (p := ⟨gB, k * 9 + 7, none⟩) (.inr rfl) _).setCell (p := ⟨gB, k * 9 + 8, none⟩) (.inr rfl) _
            have hix : ∀ g' t' cs, t' ≠ 51 → Blk wr g' t' cs → Blk ((wr.drew.setCell ⟨gB, k * 9 + 7, none⟩ (.bool true)).setCell ⟨gB, k * 9 + 8, none⟩ (.int .i64 t)) g' t' cs := fun g' t' cs ht hb => hb.chg hcc fun e => Own.ne_blk hxo.row hb (Ne.symm ht) ⟨gB, 0, none⟩ rfl e.symm
            have hnew : MkS w ((wr.drew.setCell ⟨gB, k * 9 + 7, none⟩ (.bool true)).setCell ⟨gB, k * 9 + 8, none⟩ (.int .i64 t)) v fl (some ad) n c go (some ⟨gB, 0, none⟩) C (some ⟨gl, 0, none⟩) L D (livI es) (markL es fl t ((livI es).take (j + 1))) := by
              refine ⟨⟨hix _ _ _ (by decide) hSr.b2.bi, hix _ _ _ (by decide) hSr.b2.br, hSr.b2.gr.step hcc fun k' hk' e => by omega⟩, hix _ _ _ (by decide) hSr.bo, ?_, ?_⟩
              · rw [hsy.out]
                have h9 := ((hxo.grew (Chg.refl _ wr).drew).mark hmk1 t).nx
                have h10 : (ms.set k ⟨⟨mk.e.m, true, t⟩, mk.A, mk.n, mk.c⟩).map EnM.e = (markL es fl t ((livI es).take j)).set k ⟨e.m, true, t⟩ := by
                  rw [List.map_set, hmap, hmk2, hmm]
                rw [h10] at h9
                exact h9
              · exact hSr.hl.chg hcc fun ad' e' hk' => by
                  have := OE.neT hSr.hl hxo.row (by decide) ad' ⟨gB, 0, none⟩ e' rfl
                  exact this hk'
            clear hxo hxo2 hR hmk1 z7 z8 zf7 zf8 o2 hcc hix hsy
            go_wp2
            go_roundw
            case rel => exact ⟨j + 1, by omega, by go_num, hnew⟩
            case measure => simp [intOf]; omega
    · obtain rfl : j = L := by omega
      have hx := hS.hx
      rw [List.take_of_length_le (by have := hL.out; omega)] at hx
      change NX _ _ _ _ _ (markE es fl t) at hx
      rw [hrs.out] at hx
      have hrl := hx.len
      have br := hS.b2.br
      have k0 := hS.bo.cell 0
      have k1 := hS.bo.cell 1
      have k2 := hS.bo.cell 2
      have r0 := br.cell 0
      have r1 := br.cell 1
      have r2 := br.cell 2
      have f0 := br.frozen 0
      have f1 := br.frozen 1
      have f2 := br.frozen 2
      simp only [List.getElem?_toArray, List.getElem?_cons_succ, List.getElem?_cons_zero] at k0 k1 k2 r0 r1 r2
      replace hrl := Lib.hid hrl
      go_wp2
      refine bodyPost_ret (v := .tuple #[.agg #[.int .u64 (v : Int), .int .i64 fl, .slice B n C], .int .i64 0]) ?_ rfl ⟨B, C, by rw [hrl.out], ?_, hS.b2.gr.far3 (by omega) _ _ _⟩
      · have q := br.put3 (.int .u64 (v : Int)) (.int .i64 fl) (.slice B n C)
        have q0 := q.cell 0
        have q1 := q.cell 1
        have q2 := q.cell 2
        simp [results, Tryz.results13, go_sem, q0, q1, q2]
      · rw [hrl.out]
        exact hx.far3 br (by decide) (by decide) _ _ _
end Go.Proofs.YtjoaonppaokhhaaGreat
