/-
  Several texts in one:
  The document's store: Put, with the power and without. Conditions: counts that have not come to their ends.
-/
import Derived.Test.YtepncgeaehjhiaaGreatPart40

namespace Go.Proofs.YtepncgeaehjhiaaGreat
open Go.RowKit

theorem leftG_rng {armed : Bool} {left : Int} (h : -9223372036854775808 ≤ left ∧ left ≤ 9223372036854775807) : -9223372036854775808 ≤ leftG armed left ∧ leftG armed left ≤ 9223372036854775807 := by
  unfold leftG
  split <;> omega
theorem goes_no {armed : Bool} {left : Int} (h : armed = true → 0 < left) : goesB armed left = false := by
  unfold goesB
  cases armed
  · rfl
  · rw [decide_eq_true (h rfl)]
    rfl
theorem goes_yes {armed : Bool} {left : Int} (h : armed = true) (h2 : left = 0) : goesB armed left = true := by
  subst h
  subst h2
  rfl
theorem leftG_pos {armed : Bool} {left : Int} (h : armed = true) (h2 : 0 < left) : leftG armed left = left - 1 := if_pos ⟨h, h2⟩
section
variable {R : Nat → Prop} {w w' : World} {sb wb : Nat} {Ob : List OEnt} {armed : Bool} {left keep : Int} {nu : Nat} {V : List Vw}
/-- the store is up -/
def UpR (R : Nat → Prop) (w : World) (sb wb : Nat) (Ob : List OEnt) (armed : Bool) (left keep : Int) (nu : Nat) (w' : World) : Prop := ∃ (R' : Nat → Prop) (V' : List Vw), RSt R' w' sb wb Ob armed left keep nu V' ∧ (∀ k, R k → R' k) ∧ (∀ k, R' k → R k ∨ w.heap.size ≤ k) ∧ Chg R w w'
theorem RSt.up (h : RSt R w sb wb Ob armed left keep nu V) {V' : List Vw} {Ob' : List OEnt} {a' : Bool} {l' k' : Int} {nu' : Nat} (hrc : RC R w wb V' false a' l' k' nu' w') (so : SortV V') (pe : V'.Perm (Ob'.map OEnt.view)) (ok : ∀ o ∈ Ob', o.Ok) : UpR R w sb wb Ob' a' l' k' nu' w' := by
  obtain ⟨R', h1, h2, h3, h4, h5⟩ := hrc
  refine ⟨R', V', ⟨h.st.chg h4 h.sn, fun e => ?_, h1, so, pe, ok, ?_⟩, h2, h3, h4⟩
  · have := h.st.lt
    rcases h3 sb e with h6 | h6
    · exact h.sn h6
    · omega
  · have h6 := (pe.map Prod.fst).nodup_iff.1 (sortV_nd so)
    rw [List.map_map] at h6
    have h7 : (Ob'.map (Prod.fst ∘ OEnt.view)) = (Ob'.map OEnt.key).map fun k => oN ++ k := by rw [List.map_map]; rfl
    rw [h7] at h6
    exact List.Pairwise.of_map _ (fun a b hne e => hne (by rw [e])) h6
/-- the disk is down -/
def DownR (R : Nat → Prop) (w : World) (wb : Nat) (Ob : List OEnt) (t : Option ByteArray) (keep : Int) (nu : Nat) (w' : World) : Prop := ∃ V' left', DownV V' Ob t ∧ -9223372036854775808 ≤ left' ∧ left' ≤ 9223372036854775807 ∧ RC R w wb V' true false left' keep nu w'

set_option maxRecDepth 100000 in
set_option maxHeartbeats 8000000 in
theorem rPut_full (h : RSt R w sb wb Ob armed left keep nu V) (_hl64 : -9223372036854775808 ≤ left ∧ left ≤ 9223372036854775807) (_hnu : nu ≤ 1000000000000000000) (_hkp : keep ≤ 9223372036854775807) (x : ByteArray) (hx : keyB x = true) (hg1 : genO Ob x + 1 < 18446744073709551616) (A : Option Addr) (k c : Nat) (data : List UInt8) (hr : RB w A k data) (hk : k ≤ 1048576) (hfull : 1048576 ≤ Ob.length) :
    Calls Tryz.prog 21 #[.pointer (some ⟨sb, 0, none⟩), .string x, .slice A k c] w fun e w' => e = .returned (.tuple #[.int .u64 0, .int .i64 63]) ∧ Grew w w' := by
  have hK := rKey_any x w
  rw [hx] at hK
  have hLg := rlook_gen h x hx
  have hxs := keyB_size hx
  have hVl := h.len
  have hvok := h.vok
  have hnoT := h.noT x
  have hst := Lib.hid fun w' (g : Grew w w') => (h.grew g)
  have s0 : w.cell? ⟨sb, 0, none⟩ = some (.pointer (some ⟨wb, 0, none⟩)) := h.st.cell 0
  have sbl := h.st.lt
  have sn := Lib.hid h.sn
  have c1 : w.cell? ⟨wb, 1, none⟩ = some (.bool false) := by
    obtain ⟨_, _, _, _, h9⟩ := h.rf
    exact h9.hd.cell 1
  have hRlt := Lib.hid h.rf.lt
  have e0 : decide ((1048576 : Int) < (k : Int)) = false := decide_eq_false (by omega)
  have hdl := hr.1
  have hhl := hdr_length (g := genO Ob x + 1) hg1
  have hul := uv_len10 (v := genO Ob x + 1) hg1
  have hFl : (uv (uv (genO Ob x + 1)).length).length + 4 + (uv (genO Ob x + 1)).length = (hdr (genO Ob x + 1)).length := by unfold hdr; rw [frameB_length]
  have hPut := fun w => refPutUint_any none 0 0 [] (genO Ob x + 1) ((genO Ob x : Int) + 1) w ⟨rfl, Rd.nil _ _⟩ rfl (by omega) hg1
  have hFr := fun B c w h => refFrame_any B (uv (genO Ob x + 1)).length c (uv (genO Ob x + 1)) w h (by omega)
  rw [hFl, show frameB (uv (genO Ob x + 1)) = hdr (genO Ob x + 1) from rfl] at hFr
  simp only [Nat.zero_add, List.nil_append] at hPut
  have hso := Lib.hid h.so
  have hpe := Lib.hid h.pe
  have hok := Lib.hid h.ok
  have hnd := Lib.hid h.nd
  have hV3 := Lib.hid (put3 (t := (tN ++ x, hdr (genO Ob x + 1) ++ data, 0)) (t' := (tN ++ x, hdr (genO Ob x + 1) ++ data, (hdr (genO Ob x + 1) ++ data).length)) h.so rfl hnoT)
  have hlr : (hdr (genO Ob x + 1) ++ data).length = (hdr (genO Ob x + 1)).length + k := by rw [List.length_append, hdl]
  have ht0 : (0 : Nat) ≤ (hdr (genO Ob x + 1) ++ data).length ∧ (hdr (genO Ob x + 1) ++ data).length ≤ 4194304 := ⟨Nat.zero_le _, by omega⟩
  have htn := Lib.hid (nm_t hx)
  have hon := Lib.hid (nm_o hx)
  have hrg := Lib.hid fun w' (g : Grew w w') => hr.grew g
  replace hnoT := Lib.hid hnoT
  replace hvok := Lib.hid hvok
  clear h hr hx hFl hul
  generalize hhd : hdr (genO Ob x + 1) = hd at *
  obtain ⟨hn, hhn⟩ : ∃ hn, hd.length = hn := ⟨_, rfl⟩
  rw [hhn] at hFr hhl hlr
  generalize hul : uv (genO Ob x + 1) = ul at *
  generalize ul.length = un at *
  generalize genO Ob x = g at *
  clear hhd hul
  replace hlr := Lib.hid hlr
  replace hhn := Lib.hid hhn
  replace hdl := Lib.hid hdl
  go_enter Tryz.func21, Tryz.ntmps21
  go_wp2_with fail
  refine hK.mono ?_
  rintro e w1 ⟨rfl, rfl⟩
  go_wp2_with fail
  refine hLg.mono ?_
  rintro e w2 ⟨⟨v9, z9, rfl⟩, g2⟩
  clear hK hLg e0 c1
  go_wp2_with fail
  refine (hPut w2).mono ?_
  rintro e w3 ⟨B1, c1, rfl, hO1, g3⟩
  go_wp2_with fail
  refine (hFr B1 c1 w3 hO1.rb).mono ?_
  rintro e w4 ⟨B2, c2, rfl, hO2, g4⟩
  have g04 := g2.trans (g3.trans g4)
  have t4 := Chg.cell g04 s0 (fun e => e)
  have hFi := rFind_any (hst.out _ g04).rf (tN ++ x)
  rw [hnoT.out] at hFi
  unfold tN at hFi
  generalize posV V _ = p9 at hFi
  have hz2 := g2.size
  have hz3 := g3.size
  clear hPut hFr hO1 s0
  go_wp2_with fail
  refine hFi.mono ?_
  rintro e w5 ⟨rfl, g5⟩
  have g05 := g04.trans g5
  have t5 := Chg.cell g5 t4 (fun e => e)
  have sb5 : sb < w5.heap.size := by have := g05.size; omega
  have hO5 := hO2.grew g5
  have hr5 := hrg.out _ g05
  have hsb : sb < w3.heap.size := by omega
  have hz5 := g05.size
  have hz45 : w4.heap.size ≤ w5.heap.size := g5.size
  have hz34 : w3.heap.size ≤ w4.heap.size := g4.size
  have hB2l := Lib.hid (Own.blk_lt hO2)
  clear hFi t4 hO2
  go_wp2_with fail
  refine wp_region_textS [(9, 2)] [sb] (by kernel_rfl) (by kernel_rfl) (cellsIn_cons t5 (cellsIn_nil _)) ?_
  simp only [wpU, tagOf, chk, look, Nat.reduceBEq, if_true, if_false, Nat.reduceEqDiff, List.nil_append, List.cons_append]
  intro K hK
  go_wp2_with fail
  refine OnlyN.normal (hK _ _ (fun _ => ⟨_, _, _, rfl, rfl, by simp⟩) ?_)
  clear hK K
  intro K hK
  go_wp2_with (at_builtin; refine wpList_appB rfl _ _ rfl w3.heap.size B2 hn c2 hd rfl (by exact hO5) (by simpa using (show w3.heap.size ≤ w5.heap.size by omega)) A k c data rfl (by exact hr5) (by omega) ?_; intro B3 c3 w6 h6)
  have hc6 : Chg (fun j => ∃ ad, B2 = some ad ∧ j = ad.block) w5 w6 := Chg.step (S := fun j => ∃ ad, B2 = some ad ∧ j = ad.block) (Chg.refl _ w5).drew h6.chg fun _ _ e => e
  have o6 := h6.ob
  have hc06 : Grew w w6 := g05.step hc6 fun j hj ⟨ad, e, he⟩ => by
    have := (hB2l.out ad e).1
    omega
  have t6 := Chg.cell hc06 (show w.cell? ⟨sb, 0, none⟩ = some (.pointer (some ⟨wb, 0, none⟩)) from (hst.out _ (Chg.refl _ w)).st.cell 0) (fun e => e)
  have hB3 : ∀ ad, B3 = some ad → w3.heap.size ≤ ad.block := fun ad e => (Own.blk_lt o6 ad e).1
  have hnR : ∀ ad, B3 = some ad → 0 < hn + k → ¬ R ad.block := fun ad e _ hR9 => by
    have := hB3 ad e
    have := hRlt.out _ hR9
    omega
  refine OnlyN.normal (hK _ _ (sameIn_of hc6 (cellsIn_cons t5 (cellsIn_nil _)) (by
    intro j hj
    simp only [List.mem_cons, List.not_mem_nil, or_false] at hj
    subst hj
    rintro ⟨ad, e, he⟩
    have := (hB2l.out ad e).1
    omega)) ?_)
  clear hK K h6
  have hAp := rAppend_full (hst.out _ hc06).rf (tN ++ x) htn.out hnoT.out B3 (hn + k) c3 (by omega) (by omega)
  unfold tN at hAp
  intro K hK
  go_wp2_with fail
  refine hAp.mono ?_
  rintro e w7 ⟨rfl, g7⟩
  have g07 := hc06.trans g7
  go_wp2_with fail
  refine OnlyN.normal (hK _ _ (sameIn_of (hc6.grow g7) (cellsIn_cons t5 (cellsIn_nil _)) (by
    intro j hj
    simp only [List.mem_cons, List.not_mem_nil, or_false] at hj
    subst hj
    rintro ⟨ad, e, he⟩
    have := (hB2l.out ad e).1
    omega)) ?_)
  clear hK K
  go_wp2_with fail
  refine OnlyN.normal ?_
  go_wp2
  refine bodyPost_ret (v := .tuple #[.int .u64 0, .int .i64 63]) ?_ rfl ⟨rfl, g07⟩
  simp [results, Tryz.results21, go_sem]

set_option maxRecDepth 100000 in
set_option maxHeartbeats 8000000 in
theorem rPut_cut0 (h : RSt R w sb wb Ob armed left keep nu V) (hl64 : -9223372036854775808 ≤ left ∧ left ≤ 9223372036854775807) (hnu : nu ≤ 1000000000000000000) (hkp : keep ≤ 9223372036854775807) (x : ByteArray) (hx : keyB x = true) (hg1 : genO Ob x + 1 < 18446744073709551616) (A : Option Addr) (k c : Nat) (data : List UInt8) (hr : RB w A k data) (hk : k ≤ 1048576) (hfull : Ob.length < 1048576) (hal : armed = true) (hle : left = 0) :
    Calls Tryz.prog 21 #[.pointer (some ⟨sb, 0, none⟩), .string x, .slice A k c] w fun e w' => e = .returned (.tuple #[.int .u64 0, .int .i64 60]) ∧ DownR R w wb Ob (some x) keep (nu + 1) w' := by
  have hK := rKey_any x w
  rw [hx] at hK
  have hLg := rlook_gen h x hx
  have hxs := keyB_size hx
  have hVl := h.len
  have hvok := h.vok
  have hnoT := h.noT x
  have hst := Lib.hid fun w' (g : Grew w w') => (h.grew g)
  have s0 : w.cell? ⟨sb, 0, none⟩ = some (.pointer (some ⟨wb, 0, none⟩)) := h.st.cell 0
  have sbl := h.st.lt
  have sn := Lib.hid h.sn
  have c1 : w.cell? ⟨wb, 1, none⟩ = some (.bool false) := by
    obtain ⟨_, _, _, _, h9⟩ := h.rf
    exact h9.hd.cell 1
  have hRlt := Lib.hid h.rf.lt
  have e0 : decide ((1048576 : Int) < (k : Int)) = false := decide_eq_false (by omega)
  have hdl := hr.1
  have hhl := hdr_length (g := genO Ob x + 1) hg1
  have hul := uv_len10 (v := genO Ob x + 1) hg1
  have hFl : (uv (uv (genO Ob x + 1)).length).length + 4 + (uv (genO Ob x + 1)).length = (hdr (genO Ob x + 1)).length := by unfold hdr; rw [frameB_length]
  have hPut := fun w => refPutUint_any none 0 0 [] (genO Ob x + 1) ((genO Ob x : Int) + 1) w ⟨rfl, Rd.nil _ _⟩ rfl (by omega) hg1
  have hFr := fun B c w h => refFrame_any B (uv (genO Ob x + 1)).length c (uv (genO Ob x + 1)) w h (by omega)
  rw [hFl, show frameB (uv (genO Ob x + 1)) = hdr (genO Ob x + 1) from rfl] at hFr
  simp only [Nat.zero_add, List.nil_append] at hPut
  have hso := Lib.hid h.so
  have hpe := Lib.hid h.pe
  have hok := Lib.hid h.ok
  have hnd := Lib.hid h.nd
  have hV3 := Lib.hid (put3 (t := (tN ++ x, hdr (genO Ob x + 1) ++ data, 0)) (t' := (tN ++ x, hdr (genO Ob x + 1) ++ data, (hdr (genO Ob x + 1) ++ data).length)) h.so rfl hnoT)
  have hlr : (hdr (genO Ob x + 1) ++ data).length = (hdr (genO Ob x + 1)).length + k := by rw [List.length_append, hdl]
  have ht0 : (0 : Nat) ≤ (hdr (genO Ob x + 1) ++ data).length ∧ (hdr (genO Ob x + 1) ++ data).length ≤ 4194304 := ⟨Nat.zero_le _, by omega⟩
  have hvok1 := Lib.hid (vok_ins hvok (v := (tN ++ x, hdr (genO Ob x + 1) ++ data, 0)) ht0)
  have htn := Lib.hid (nm_t hx)
  have hon := Lib.hid (nm_o hx)
  have hrg := Lib.hid fun w' (g : Grew w w') => hr.grew g
  replace hnoT := Lib.hid hnoT
  replace hvok := Lib.hid hvok
  clear h hr hx hFl hul
  generalize hhd : hdr (genO Ob x + 1) = hd at *
  obtain ⟨hn, hhn⟩ : ∃ hn, hd.length = hn := ⟨_, rfl⟩
  rw [hhn] at hFr hhl hlr
  generalize hul : uv (genO Ob x + 1) = ul at *
  generalize ul.length = un at *
  generalize genO Ob x = g at *
  clear hhd hul
  replace hlr := Lib.hid hlr
  replace hhn := Lib.hid hhn
  replace hdl := Lib.hid hdl
  go_enter Tryz.func21, Tryz.ntmps21
  go_wp2_with fail
  refine hK.mono ?_
  rintro e w1 ⟨rfl, rfl⟩
  go_wp2_with fail
  refine hLg.mono ?_
  rintro e w2 ⟨⟨v9, z9, rfl⟩, g2⟩
  clear hK hLg e0 c1
  go_wp2_with fail
  refine (hPut w2).mono ?_
  rintro e w3 ⟨B1, c1, rfl, hO1, g3⟩
  go_wp2_with fail
  refine (hFr B1 c1 w3 hO1.rb).mono ?_
  rintro e w4 ⟨B2, c2, rfl, hO2, g4⟩
  have g04 := g2.trans (g3.trans g4)
  have t4 := Chg.cell g04 s0 (fun e => e)
  have hFi := rFind_any (hst.out _ g04).rf (tN ++ x)
  rw [hnoT.out] at hFi
  unfold tN at hFi
  generalize posV V _ = p9 at hFi
  have hz2 := g2.size
  have hz3 := g3.size
  clear hPut hFr hO1 s0
  go_wp2_with fail
  refine hFi.mono ?_
  rintro e w5 ⟨rfl, g5⟩
  have g05 := g04.trans g5
  have t5 := Chg.cell g5 t4 (fun e => e)
  have sb5 : sb < w5.heap.size := by have := g05.size; omega
  have hO5 := hO2.grew g5
  have hr5 := hrg.out _ g05
  have hsb : sb < w3.heap.size := by omega
  have hz5 := g05.size
  have hz45 : w4.heap.size ≤ w5.heap.size := g5.size
  have hz34 : w3.heap.size ≤ w4.heap.size := g4.size
  have hB2l := Lib.hid (Own.blk_lt hO2)
  clear hFi t4 hO2
  go_wp2_with fail
  refine wp_region_textS [(9, 2)] [sb] (by kernel_rfl) (by kernel_rfl) (cellsIn_cons t5 (cellsIn_nil _)) ?_
  simp only [wpU, tagOf, chk, look, Nat.reduceBEq, if_true, if_false, Nat.reduceEqDiff, List.nil_append, List.cons_append]
  intro K hK
  go_wp2_with fail
  refine OnlyN.normal (hK _ _ (fun _ => ⟨_, _, _, rfl, rfl, by simp⟩) ?_)
  clear hK K
  intro K hK
  go_wp2_with (at_builtin; refine wpList_appB rfl _ _ rfl w3.heap.size B2 hn c2 hd rfl (by exact hO5) (by simpa using (show w3.heap.size ≤ w5.heap.size by omega)) A k c data rfl (by exact hr5) (by omega) ?_; intro B3 c3 w6 h6)
  have hc6 : Chg (fun j => ∃ ad, B2 = some ad ∧ j = ad.block) w5 w6 := Chg.step (S := fun j => ∃ ad, B2 = some ad ∧ j = ad.block) (Chg.refl _ w5).drew h6.chg fun _ _ e => e
  have o6 := h6.ob
  have hc06 : Grew w w6 := g05.step hc6 fun j hj ⟨ad, e, he⟩ => by
    have := (hB2l.out ad e).1
    omega
  have t6 := Chg.cell hc06 (show w.cell? ⟨sb, 0, none⟩ = some (.pointer (some ⟨wb, 0, none⟩)) from (hst.out _ (Chg.refl _ w)).st.cell 0) (fun e => e)
  have hB3 : ∀ ad, B3 = some ad → w3.heap.size ≤ ad.block := fun ad e => (Own.blk_lt o6 ad e).1
  have hnR : ∀ ad, B3 = some ad → 0 < hn + k → ¬ R ad.block := fun ad e _ hR9 => by
    have := hB3 ad e
    have := hRlt.out _ hR9
    omega
  refine OnlyN.normal (hK _ _ (sameIn_of hc6 (cellsIn_cons t5 (cellsIn_nil _)) (by
    intro j hj
    simp only [List.mem_cons, List.not_mem_nil, or_false] at hj
    subst hj
    rintro ⟨ad, e, he⟩
    have := (hB2l.out ad e).1
    omega)) ?_)
  clear hK K h6
  have hAp := rAppend_cut (hst.out _ hc06).rf hl64 (by omega) hvok.out (by omega) hkp (tN ++ x) htn.out hnoT.out B3 (hn + k) c3 (hd ++ data) o6.rb (by omega) hnR (by omega) (goes_yes hal hle)
  unfold tN at hAp
  intro K hK
  go_wp2_with fail
  refine hAp.mono ?_
  rintro e w7 ⟨rfl, R1, hD1, s11, s12, sc1, sk1⟩
  have hc7 : Chg (fun j => R j ∨ ∃ ad, B2 = some ad ∧ j = ad.block) w5 w7 := (hc6.mono fun _ _ e => .inr e).trans (sc1.mono fun _ _ e => .inl e)
  go_wp2_with fail
  refine OnlyN.normal (hK _ _ (sameIn_of hc7 (cellsIn_cons t5 (cellsIn_nil _)) (by
    intro j hj
    simp only [List.mem_cons, List.not_mem_nil, or_false] at hj
    subst hj
    rintro (he | ⟨ad, e, he⟩)
    · exact sn.out he
    · have := (hB2l.out ad e).1
      omega)) ?_)
  clear hK K
  have t7 := Chg.cell sc1 t6 sn.out
  have hz6 := hc06.size
  have hz7 := sc1.size
  have hk06 := KD.of_grew hc06
  have hrc := Lib.hid (RC.trans s11 (fun j hj => (s12 j hj).imp id (by omega)) ((Chg.of_grew hc06).trans sc1) (hk06.trans sk1) hD1.rc)
  have hlb := Lib.hid (leftG_rng (armed := armed) hl64)
  have hdv : Hid (DownV ((insV V (tN ++ x, hd ++ data, 0)).map (cutV keep)) Ob (some x)) := ⟨sortV_map hV3.out.so1 keep, vok_cut hvok1.out keep, [cutV keep (tN ++ x, hd ++ data, 0)], rfl, by
    have h9 := (hV3.out.p1.map (cutV keep)).trans ((hpe.out.map (cutV keep)).cons _)
    rw [cutV_map] at h9
    exact h9⟩
  clear hAp hD1 t6 t5
  go_wp2_with fail
  refine OnlyN.normal ?_
  go_wp2
  refine bodyPost_ret (v := .tuple #[.int .u64 0, .int .i64 60]) ?_ rfl ⟨rfl, _, _, hdv.out, hlb.out.1, hlb.out.2, hrc.out⟩
  simp [results, Tryz.results21, go_sem]

set_option maxRecDepth 100000 in
set_option maxHeartbeats 8000000 in
theorem rPut_cut1 (h : RSt R w sb wb Ob armed left keep nu V) (hl64 : -9223372036854775808 ≤ left ∧ left ≤ 9223372036854775807) (hnu : nu ≤ 1000000000000000000) (hkp : keep ≤ 9223372036854775807) (x : ByteArray) (hx : keyB x = true) (hg1 : genO Ob x + 1 < 18446744073709551616) (A : Option Addr) (k c : Nat) (data : List UInt8) (hr : RB w A k data) (hk : k ≤ 1048576) (hfull : Ob.length < 1048576) (hal : armed = true) (hle : left = 1) :
    Calls Tryz.prog 21 #[.pointer (some ⟨sb, 0, none⟩), .string x, .slice A k c] w fun e w' => e = .returned (.tuple #[.int .u64 0, .int .i64 60]) ∧ DownR R w wb Ob (some x) keep (nu + 2) w' := by
  have hK := rKey_any x w
  rw [hx] at hK
  have hLg := rlook_gen h x hx
  have hxs := keyB_size hx
  have hVl := h.len
  have hvok := h.vok
  have hnoT := h.noT x
  have hst := Lib.hid fun w' (g : Grew w w') => (h.grew g)
  have s0 : w.cell? ⟨sb, 0, none⟩ = some (.pointer (some ⟨wb, 0, none⟩)) := h.st.cell 0
  have sbl := h.st.lt
  have sn := Lib.hid h.sn
  have c1 : w.cell? ⟨wb, 1, none⟩ = some (.bool false) := by
    obtain ⟨_, _, _, _, h9⟩ := h.rf
    exact h9.hd.cell 1
  have hRlt := Lib.hid h.rf.lt
  have e0 : decide ((1048576 : Int) < (k : Int)) = false := decide_eq_false (by omega)
  have hdl := hr.1
  have hhl := hdr_length (g := genO Ob x + 1) hg1
  have hul := uv_len10 (v := genO Ob x + 1) hg1
  have hFl : (uv (uv (genO Ob x + 1)).length).length + 4 + (uv (genO Ob x + 1)).length = (hdr (genO Ob x + 1)).length := by unfold hdr; rw [frameB_length]
  have hPut := fun w => refPutUint_any none 0 0 [] (genO Ob x + 1) ((genO Ob x : Int) + 1) w ⟨rfl, Rd.nil _ _⟩ rfl (by omega) hg1
  have hFr := fun B c w h => refFrame_any B (uv (genO Ob x + 1)).length c (uv (genO Ob x + 1)) w h (by omega)
  rw [hFl, show frameB (uv (genO Ob x + 1)) = hdr (genO Ob x + 1) from rfl] at hFr
  simp only [Nat.zero_add, List.nil_append] at hPut
  have hso := Lib.hid h.so
  have hpe := Lib.hid h.pe
  have hok := Lib.hid h.ok
  have hnd := Lib.hid h.nd
  have hV3 := Lib.hid (put3 (t := (tN ++ x, hdr (genO Ob x + 1) ++ data, 0)) (t' := (tN ++ x, hdr (genO Ob x + 1) ++ data, (hdr (genO Ob x + 1) ++ data).length)) h.so rfl hnoT)
  have hlr : (hdr (genO Ob x + 1) ++ data).length = (hdr (genO Ob x + 1)).length + k := by rw [List.length_append, hdl]
  have ht0 : (0 : Nat) ≤ (hdr (genO Ob x + 1) ++ data).length ∧ (hdr (genO Ob x + 1) ++ data).length ≤ 4194304 := ⟨Nat.zero_le _, by omega⟩
  have hvok1 := Lib.hid (vok_ins hvok (v := (tN ++ x, hdr (genO Ob x + 1) ++ data, 0)) ht0)
  have htn := Lib.hid (nm_t hx)
  have hon := Lib.hid (nm_o hx)
  have hrg := Lib.hid fun w' (g : Grew w w') => hr.grew g
  replace hnoT := Lib.hid hnoT
  replace hvok := Lib.hid hvok
  clear h hr hx hFl hul
  generalize hhd : hdr (genO Ob x + 1) = hd at *
  obtain ⟨hn, hhn⟩ : ∃ hn, hd.length = hn := ⟨_, rfl⟩
  rw [hhn] at hFr hhl hlr
  generalize hul : uv (genO Ob x + 1) = ul at *
  generalize ul.length = un at *
  generalize genO Ob x = g at *
  clear hhd hul
  replace hlr := Lib.hid hlr
  replace hhn := Lib.hid hhn
  replace hdl := Lib.hid hdl
  go_enter Tryz.func21, Tryz.ntmps21
  go_wp2_with fail
  refine hK.mono ?_
  rintro e w1 ⟨rfl, rfl⟩
  go_wp2_with fail
  refine hLg.mono ?_
  rintro e w2 ⟨⟨v9, z9, rfl⟩, g2⟩
  clear hK hLg e0 c1
  go_wp2_with fail
  refine (hPut w2).mono ?_
  rintro e w3 ⟨B1, c1, rfl, hO1, g3⟩
  go_wp2_with fail
  refine (hFr B1 c1 w3 hO1.rb).mono ?_
  rintro e w4 ⟨B2, c2, rfl, hO2, g4⟩
  have g04 := g2.trans (g3.trans g4)
  have t4 := Chg.cell g04 s0 (fun e => e)
  have hFi := rFind_any (hst.out _ g04).rf (tN ++ x)
  rw [hnoT.out] at hFi
  unfold tN at hFi
  generalize posV V _ = p9 at hFi
  have hz2 := g2.size
  have hz3 := g3.size
  clear hPut hFr hO1 s0
  go_wp2_with fail
  refine hFi.mono ?_
  rintro e w5 ⟨rfl, g5⟩
  have g05 := g04.trans g5
  have t5 := Chg.cell g5 t4 (fun e => e)
  have sb5 : sb < w5.heap.size := by have := g05.size; omega
  have hO5 := hO2.grew g5
  have hr5 := hrg.out _ g05
  have hsb : sb < w3.heap.size := by omega
  have hz5 := g05.size
  have hz45 : w4.heap.size ≤ w5.heap.size := g5.size
  have hz34 : w3.heap.size ≤ w4.heap.size := g4.size
  have hB2l := Lib.hid (Own.blk_lt hO2)
  clear hFi t4 hO2
  go_wp2_with fail
  refine wp_region_textS [(9, 2)] [sb] (by kernel_rfl) (by kernel_rfl) (cellsIn_cons t5 (cellsIn_nil _)) ?_
  simp only [wpU, tagOf, chk, look, Nat.reduceBEq, if_true, if_false, Nat.reduceEqDiff, List.nil_append, List.cons_append]
  intro K hK
  go_wp2_with fail
  refine OnlyN.normal (hK _ _ (fun _ => ⟨_, _, _, rfl, rfl, by simp⟩) ?_)
  clear hK K
  intro K hK
  go_wp2_with (at_builtin; refine wpList_appB rfl _ _ rfl w3.heap.size B2 hn c2 hd rfl (by exact hO5) (by simpa using (show w3.heap.size ≤ w5.heap.size by omega)) A k c data rfl (by exact hr5) (by omega) ?_; intro B3 c3 w6 h6)
  have hc6 : Chg (fun j => ∃ ad, B2 = some ad ∧ j = ad.block) w5 w6 := Chg.step (S := fun j => ∃ ad, B2 = some ad ∧ j = ad.block) (Chg.refl _ w5).drew h6.chg fun _ _ e => e
  have o6 := h6.ob
  have hc06 : Grew w w6 := g05.step hc6 fun j hj ⟨ad, e, he⟩ => by
    have := (hB2l.out ad e).1
    omega
  have t6 := Chg.cell hc06 (show w.cell? ⟨sb, 0, none⟩ = some (.pointer (some ⟨wb, 0, none⟩)) from (hst.out _ (Chg.refl _ w)).st.cell 0) (fun e => e)
  have hB3 : ∀ ad, B3 = some ad → w3.heap.size ≤ ad.block := fun ad e => (Own.blk_lt o6 ad e).1
  have hnR : ∀ ad, B3 = some ad → 0 < hn + k → ¬ R ad.block := fun ad e _ hR9 => by
    have := hB3 ad e
    have := hRlt.out _ hR9
    omega
  refine OnlyN.normal (hK _ _ (sameIn_of hc6 (cellsIn_cons t5 (cellsIn_nil _)) (by
    intro j hj
    simp only [List.mem_cons, List.not_mem_nil, or_false] at hj
    subst hj
    rintro ⟨ad, e, he⟩
    have := (hB2l.out ad e).1
    omega)) ?_)
  clear hK K h6
  have hAp := rAppend_ok (hst.out _ hc06).rf hl64 (by omega) hvok.out (by omega) hkp (tN ++ x) htn.out hnoT.out B3 (hn + k) c3 (hd ++ data) o6.rb (by omega) hnR (by omega) (goes_no (fun _ => by omega))
  unfold tN at hAp
  intro K hK
  go_wp2_with fail
  refine hAp.mono ?_
  rintro e w7 ⟨rfl, R1, hD1, s11, s12, sc1, sk1⟩
  have hc7 : Chg (fun j => R j ∨ ∃ ad, B2 = some ad ∧ j = ad.block) w5 w7 := (hc6.mono fun _ _ e => .inr e).trans (sc1.mono fun _ _ e => .inl e)
  go_wp2_with fail
  refine OnlyN.normal (hK _ _ (sameIn_of hc7 (cellsIn_cons t5 (cellsIn_nil _)) (by
    intro j hj
    simp only [List.mem_cons, List.not_mem_nil, or_false] at hj
    subst hj
    rintro (he | ⟨ad, e, he⟩)
    · exact sn.out he
    · have := (hB2l.out ad e).1
      omega)) ?_)
  clear hK K
  have t7 := Chg.cell sc1 t6 sn.out
  have hz6 := hc06.size
  have hz7 := sc1.size
  have hk06 := KD.of_grew hc06
  have sn1 : ¬ R1 sb := fun e => (s12 sb e).elim sn.out (by omega)
  have hSy := rSync_cut hD1 (leftG_rng hl64) (by omega) hvok1.out (by rw [insV_len]; omega) hkp (tN ++ x) htn.out hV3.out.h1 (goes_yes hal (by rw [leftG_pos hal (by omega)]; omega))
  unfold tN at hSy
  replace s11 := Lib.hid s11
  replace s12 := Lib.hid s12
  replace sc1 := Lib.hid sc1
  replace sk1 := Lib.hid sk1
  clear hAp hD1 t6 t5
  go_wp2_with fail
  refine OnlyN.normal ?_
  go_wp2_with fail
  refine hSy.mono ?_
  rintro e w8 ⟨rfl, R2, hD2, s21, s22, sc2, sk2⟩
  have t8 := Chg.cell sc2 t7 sn1
  have hrc := Lib.hid (RC.trans s11.out (fun j hj => (s12.out j hj).imp id (by omega)) ((Chg.of_grew hc06).trans sc1.out) (hk06.trans sk1.out) (show RC R1 w7 wb _ true false _ keep (nu + 1 + 1) w8 from ⟨R2, hD2, s21, s22, sc2, sk2⟩))
  have hlb := Lib.hid (leftG_rng (armed := armed) (leftG_rng (armed := armed) hl64))
  have hdv : Hid (DownV ((insV V (tN ++ x, hd ++ data, 0)).map (cutV keep)) Ob (some x)) := ⟨sortV_map hV3.out.so1 keep, vok_cut hvok1.out keep, [cutV keep (tN ++ x, hd ++ data, 0)], rfl, by
    have h9 := (hV3.out.p1.map (cutV keep)).trans ((hpe.out.map (cutV keep)).cons _)
    rw [cutV_map] at h9
    exact h9⟩
  clear hSy hD2 t7
  go_wp2
  refine bodyPost_ret (v := .tuple #[.int .u64 0, .int .i64 60]) ?_ rfl ⟨rfl, _, _, hdv.out, hlb.out.1, hlb.out.2, hrc.out⟩
  simp [results, Tryz.results21, go_sem]

set_option maxRecDepth 100000 in
set_option maxHeartbeats 8000000 in
theorem rPut_cut2 (h : RSt R w sb wb Ob armed left keep nu V) (hl64 : -9223372036854775808 ≤ left ∧ left ≤ 9223372036854775807) (hnu : nu ≤ 1000000000000000000) (hkp : keep ≤ 9223372036854775807) (x : ByteArray) (hx : keyB x = true) (hg1 : genO Ob x + 1 < 18446744073709551616) (A : Option Addr) (k c : Nat) (data : List UInt8) (hr : RB w A k data) (hk : k ≤ 1048576) (hfull : Ob.length < 1048576) (hal : armed = true) (hle : left = 2) :
    Calls Tryz.prog 21 #[.pointer (some ⟨sb, 0, none⟩), .string x, .slice A k c] w fun e w' => e = .returned (.tuple #[.int .u64 0, .int .i64 60]) ∧ DownR R w wb Ob (some x) keep (nu + 3) w' := by
  have hK := rKey_any x w
  rw [hx] at hK
  have hLg := rlook_gen h x hx
  have hxs := keyB_size hx
  have hVl := h.len
  have hvok := h.vok
  have hnoT := h.noT x
  have hst := Lib.hid fun w' (g : Grew w w') => (h.grew g)
  have s0 : w.cell? ⟨sb, 0, none⟩ = some (.pointer (some ⟨wb, 0, none⟩)) := h.st.cell 0
  have sbl := h.st.lt
  have sn := Lib.hid h.sn
  have c1 : w.cell? ⟨wb, 1, none⟩ = some (.bool false) := by
    obtain ⟨_, _, _, _, h9⟩ := h.rf
    exact h9.hd.cell 1
  have hRlt := Lib.hid h.rf.lt
  have e0 : decide ((1048576 : Int) < (k : Int)) = false := decide_eq_false (by omega)
  have hdl := hr.1
  have hhl := hdr_length (g := genO Ob x + 1) hg1
  have hul := uv_len10 (v := genO Ob x + 1) hg1
  have hFl : (uv (uv (genO Ob x + 1)).length).length + 4 + (uv (genO Ob x + 1)).length = (hdr (genO Ob x + 1)).length := by unfold hdr; rw [frameB_length]
  have hPut := fun w => refPutUint_any none 0 0 [] (genO Ob x + 1) ((genO Ob x : Int) + 1) w ⟨rfl, Rd.nil _ _⟩ rfl (by omega) hg1
  have hFr := fun B c w h => refFrame_any B (uv (genO Ob x + 1)).length c (uv (genO Ob x + 1)) w h (by omega)
  rw [hFl, show frameB (uv (genO Ob x + 1)) = hdr (genO Ob x + 1) from rfl] at hFr
  simp only [Nat.zero_add, List.nil_append] at hPut
  have hso := Lib.hid h.so
  have hpe := Lib.hid h.pe
  have hok := Lib.hid h.ok
  have hnd := Lib.hid h.nd
  have hV3 := Lib.hid (put3 (t := (tN ++ x, hdr (genO Ob x + 1) ++ data, 0)) (t' := (tN ++ x, hdr (genO Ob x + 1) ++ data, (hdr (genO Ob x + 1) ++ data).length)) h.so rfl hnoT)
  have hlr : (hdr (genO Ob x + 1) ++ data).length = (hdr (genO Ob x + 1)).length + k := by rw [List.length_append, hdl]
  have ht0 : (0 : Nat) ≤ (hdr (genO Ob x + 1) ++ data).length ∧ (hdr (genO Ob x + 1) ++ data).length ≤ 4194304 := ⟨Nat.zero_le _, by omega⟩
  have hvok1 := Lib.hid (vok_ins hvok (v := (tN ++ x, hdr (genO Ob x + 1) ++ data, 0)) ht0)
  have hvok2 := Lib.hid (vok_set hvok1.out (v := (tN ++ x, hdr (genO Ob x + 1) ++ data, (hdr (genO Ob x + 1) ++ data).length)) ⟨Nat.le_refl _, ht0.2⟩ (posV (insV V (tN ++ x, hdr (genO Ob x + 1) ++ data, 0)) (tN ++ x)))
  have htn := Lib.hid (nm_t hx)
  have hon := Lib.hid (nm_o hx)
  have hrg := Lib.hid fun w' (g : Grew w w') => hr.grew g
  replace hnoT := Lib.hid hnoT
  replace hvok := Lib.hid hvok
  clear h hr hx hFl hul
  generalize hhd : hdr (genO Ob x + 1) = hd at *
  obtain ⟨hn, hhn⟩ : ∃ hn, hd.length = hn := ⟨_, rfl⟩
  rw [hhn] at hFr hhl hlr
  generalize hul : uv (genO Ob x + 1) = ul at *
  generalize ul.length = un at *
  generalize genO Ob x = g at *
  clear hhd hul
  replace hlr := Lib.hid hlr
  replace hhn := Lib.hid hhn
  replace hdl := Lib.hid hdl
  go_enter Tryz.func21, Tryz.ntmps21
  go_wp2_with fail
  refine hK.mono ?_
  rintro e w1 ⟨rfl, rfl⟩
  go_wp2_with fail
  refine hLg.mono ?_
  rintro e w2 ⟨⟨v9, z9, rfl⟩, g2⟩
  clear hK hLg e0 c1
  go_wp2_with fail
  refine (hPut w2).mono ?_
  rintro e w3 ⟨B1, c1, rfl, hO1, g3⟩
  go_wp2_with fail
  refine (hFr B1 c1 w3 hO1.rb).mono ?_
  rintro e w4 ⟨B2, c2, rfl, hO2, g4⟩
  have g04 := g2.trans (g3.trans g4)
  have t4 := Chg.cell g04 s0 (fun e => e)
  have hFi := rFind_any (hst.out _ g04).rf (tN ++ x)
  rw [hnoT.out] at hFi
  unfold tN at hFi
  generalize posV V _ = p9 at hFi
  have hz2 := g2.size
  have hz3 := g3.size
  clear hPut hFr hO1 s0
  go_wp2_with fail
  refine hFi.mono ?_
  rintro e w5 ⟨rfl, g5⟩
  have g05 := g04.trans g5
  have t5 := Chg.cell g5 t4 (fun e => e)
  have sb5 : sb < w5.heap.size := by have := g05.size; omega
  have hO5 := hO2.grew g5
  have hr5 := hrg.out _ g05
  have hsb : sb < w3.heap.size := by omega
  have hz5 := g05.size
  have hz45 : w4.heap.size ≤ w5.heap.size := g5.size
  have hz34 : w3.heap.size ≤ w4.heap.size := g4.size
  have hB2l := Lib.hid (Own.blk_lt hO2)
  clear hFi t4 hO2
  go_wp2_with fail
  refine wp_region_textS [(9, 2)] [sb] (by kernel_rfl) (by kernel_rfl) (cellsIn_cons t5 (cellsIn_nil _)) ?_
  simp only [wpU, tagOf, chk, look, Nat.reduceBEq, if_true, if_false, Nat.reduceEqDiff, List.nil_append, List.cons_append]
  intro K hK
  go_wp2_with fail
  refine OnlyN.normal (hK _ _ (fun _ => ⟨_, _, _, rfl, rfl, by simp⟩) ?_)
  clear hK K
  intro K hK
  go_wp2_with (at_builtin; refine wpList_appB rfl _ _ rfl w3.heap.size B2 hn c2 hd rfl (by exact hO5) (by simpa using (show w3.heap.size ≤ w5.heap.size by omega)) A k c data rfl (by exact hr5) (by omega) ?_; intro B3 c3 w6 h6)
  have hc6 : Chg (fun j => ∃ ad, B2 = some ad ∧ j = ad.block) w5 w6 := Chg.step (S := fun j => ∃ ad, B2 = some ad ∧ j = ad.block) (Chg.refl _ w5).drew h6.chg fun _ _ e => e
  have o6 := h6.ob
  have hc06 : Grew w w6 := g05.step hc6 fun j hj ⟨ad, e, he⟩ => by
    have := (hB2l.out ad e).1
    omega
  have t6 := Chg.cell hc06 (show w.cell? ⟨sb, 0, none⟩ = some (.pointer (some ⟨wb, 0, none⟩)) from (hst.out _ (Chg.refl _ w)).st.cell 0) (fun e => e)
  have hB3 : ∀ ad, B3 = some ad → w3.heap.size ≤ ad.block := fun ad e => (Own.blk_lt o6 ad e).1
  have hnR : ∀ ad, B3 = some ad → 0 < hn + k → ¬ R ad.block := fun ad e _ hR9 => by
    have := hB3 ad e
    have := hRlt.out _ hR9
    omega
  refine OnlyN.normal (hK _ _ (sameIn_of hc6 (cellsIn_cons t5 (cellsIn_nil _)) (by
    intro j hj
    simp only [List.mem_cons, List.not_mem_nil, or_false] at hj
    subst hj
    rintro ⟨ad, e, he⟩
    have := (hB2l.out ad e).1
    omega)) ?_)
  clear hK K h6
  have hAp := rAppend_ok (hst.out _ hc06).rf hl64 (by omega) hvok.out (by omega) hkp (tN ++ x) htn.out hnoT.out B3 (hn + k) c3 (hd ++ data) o6.rb (by omega) hnR (by omega) (goes_no (fun _ => by omega))
  unfold tN at hAp
  intro K hK
  go_wp2_with fail
  refine hAp.mono ?_
  rintro e w7 ⟨rfl, R1, hD1, s11, s12, sc1, sk1⟩
  have hc7 : Chg (fun j => R j ∨ ∃ ad, B2 = some ad ∧ j = ad.block) w5 w7 := (hc6.mono fun _ _ e => .inr e).trans (sc1.mono fun _ _ e => .inl e)
  go_wp2_with fail
  refine OnlyN.normal (hK _ _ (sameIn_of hc7 (cellsIn_cons t5 (cellsIn_nil _)) (by
    intro j hj
    simp only [List.mem_cons, List.not_mem_nil, or_false] at hj
    subst hj
    rintro (he | ⟨ad, e, he⟩)
    · exact sn.out he
    · have := (hB2l.out ad e).1
      omega)) ?_)
  clear hK K
  have t7 := Chg.cell sc1 t6 sn.out
  have hz6 := hc06.size
  have hz7 := sc1.size
  have hk06 := KD.of_grew hc06
  have sn1 : ¬ R1 sb := fun e => (s12 sb e).elim sn.out (by omega)
  have hSy := rSync_ok hD1 (leftG_rng hl64) (by omega) hvok1.out (by rw [insV_len]; omega) hkp (tN ++ x) htn.out hV3.out.g1 hV3.out.h1 (goes_no (fun e => by rw [leftG_pos e (by omega)]; omega))
  unfold tN at hSy
  replace s11 := Lib.hid s11
  replace s12 := Lib.hid s12
  replace sc1 := Lib.hid sc1
  replace sk1 := Lib.hid sk1
  clear hAp hD1 t6 t5
  go_wp2_with fail
  refine OnlyN.normal ?_
  go_wp2_with fail
  refine hSy.mono ?_
  rintro e w8 ⟨rfl, R2, hD2, s21, s22, sc2, sk2⟩
  have t8 := Chg.cell sc2 t7 sn1
  have sn2 : ¬ R2 sb := fun e => (s22 sb e).elim sn1 (by omega)
  have hRe := rRename_cut hD2 (leftG_rng (leftG_rng hl64)) (by omega) hvok2.out (by rw [List.length_set, insV_len]; omega) hkp (tN ++ x) (oN ++ x) htn.out hon.out hV3.out.g2 hV3.out.h2 (goes_yes hal (by rw [leftG_pos hal (by rw [leftG_pos hal (by omega)]; omega), leftG_pos hal (by omega)]; omega))
  unfold tN oN at hRe
  replace s21 := Lib.hid s21
  replace s22 := Lib.hid s22
  replace sc2 := Lib.hid sc2
  replace sk2 := Lib.hid sk2
  clear hSy hD2 t7
  go_wp2_with fail
  refine hRe.mono ?_
  rintro e w9 ⟨rfl, hrc9⟩
  have hz8 := sc2.out.size
  have hrc := Lib.hid (RC.trans s11.out (fun j hj => (s12.out j hj).imp id (by omega)) ((Chg.of_grew hc06).trans sc1.out) (hk06.trans sk1.out) (RC.trans s21.out s22.out sc2.out sk2.out hrc9))
  clear hRe hrc9 t8
  have hlb := Lib.hid (leftG_rng (armed := armed) (leftG_rng (armed := armed) (leftG_rng (armed := armed) hl64)))
  have hdv : Hid (DownV (((insV V (tN ++ x, hd ++ data, 0)).set (posV (insV V (tN ++ x, hd ++ data, 0)) (tN ++ x)) (tN ++ x, hd ++ data, (hd ++ data).length)).map (cutV keep)) Ob (some x)) := ⟨sortV_map hV3.out.so2 keep, vok_cut hvok2.out keep, [cutV keep (tN ++ x, hd ++ data, (hd ++ data).length)], rfl, by
    have h9 := (hV3.out.p2.map (cutV keep)).trans ((hpe.out.map (cutV keep)).cons _)
    rw [cutV_map] at h9
    exact h9⟩
  go_wp2
  refine bodyPost_ret (v := .tuple #[.int .u64 0, .int .i64 60]) ?_ rfl ⟨rfl, _, _, hdv.out, hlb.out.1, hlb.out.2, hrc.out⟩
  simp [results, Tryz.results21, go_sem]

set_option maxRecDepth 100000 in
set_option maxHeartbeats 8000000 in
theorem rPut_ok (h : RSt R w sb wb Ob armed left keep nu V) (hl64 : -9223372036854775808 ≤ left ∧ left ≤ 9223372036854775807) (hnu : nu ≤ 1000000000000000000) (hkp : keep ≤ 9223372036854775807) (x : ByteArray) (hx : keyB x = true) (hg1 : genO Ob x + 1 < 18446744073709551616) (A : Option Addr) (k c : Nat) (data : List UInt8) (hr : RB w A k data) (hk : k ≤ 1048576) (hfull : Ob.length < 1048576) (hal : armed = true → 3 ≤ left) :
    Calls Tryz.prog 21 #[.pointer (some ⟨sb, 0, none⟩), .string x, .slice A k c] w fun e w' => e = .returned (.tuple #[.int .u64 ((genO Ob x + 1 : Nat) : Int), .int .i64 0]) ∧ ∃ left', (armed = true → left' = left - 3) ∧ (-9223372036854775808 ≤ left' ∧ left' ≤ 9223372036854775807) ∧ UpR R w sb wb (setO Ob ⟨x, data, genO Ob x + 1⟩) armed left' keep (nu + 3) w' := by
  have hK := rKey_any x w
  rw [hx] at hK
  have hLg := rlook_gen h x hx
  have hxs := keyB_size hx
  have hVl := h.len
  have hvok := h.vok
  have hnoT := h.noT x
  have hst := Lib.hid fun w' (g : Grew w w') => (h.grew g)
  have s0 : w.cell? ⟨sb, 0, none⟩ = some (.pointer (some ⟨wb, 0, none⟩)) := h.st.cell 0
  have sbl := h.st.lt
  have sn := Lib.hid h.sn
  have c1 : w.cell? ⟨wb, 1, none⟩ = some (.bool false) := by
    obtain ⟨_, _, _, _, h9⟩ := h.rf
    exact h9.hd.cell 1
  have hRlt := Lib.hid h.rf.lt
  have e0 : decide ((1048576 : Int) < (k : Int)) = false := decide_eq_false (by omega)
  have hdl := hr.1
  have hhl := hdr_length (g := genO Ob x + 1) hg1
  have hul := uv_len10 (v := genO Ob x + 1) hg1
  have hFl : (uv (uv (genO Ob x + 1)).length).length + 4 + (uv (genO Ob x + 1)).length = (hdr (genO Ob x + 1)).length := by unfold hdr; rw [frameB_length]
  have hPut := fun w => refPutUint_any none 0 0 [] (genO Ob x + 1) ((genO Ob x : Int) + 1) w ⟨rfl, Rd.nil _ _⟩ rfl (by omega) hg1
  have hFr := fun B c w h => refFrame_any B (uv (genO Ob x + 1)).length c (uv (genO Ob x + 1)) w h (by omega)
  rw [hFl, show frameB (uv (genO Ob x + 1)) = hdr (genO Ob x + 1) from rfl] at hFr
  simp only [Nat.zero_add, List.nil_append] at hPut
  have hso := Lib.hid h.so
  have hpe := Lib.hid h.pe
  have hok := Lib.hid h.ok
  have hnd := Lib.hid h.nd
  have hV3 := Lib.hid (put3 (t := (tN ++ x, hdr (genO Ob x + 1) ++ data, 0)) (t' := (tN ++ x, hdr (genO Ob x + 1) ++ data, (hdr (genO Ob x + 1) ++ data).length)) h.so rfl hnoT)
  have hlr : (hdr (genO Ob x + 1) ++ data).length = (hdr (genO Ob x + 1)).length + k := by rw [List.length_append, hdl]
  have ht0 : (0 : Nat) ≤ (hdr (genO Ob x + 1) ++ data).length ∧ (hdr (genO Ob x + 1) ++ data).length ≤ 4194304 := ⟨Nat.zero_le _, by omega⟩
  have hvok1 := Lib.hid (vok_ins hvok (v := (tN ++ x, hdr (genO Ob x + 1) ++ data, 0)) ht0)
  have hvok2 := Lib.hid (vok_set hvok1.out (v := (tN ++ x, hdr (genO Ob x + 1) ++ data, (hdr (genO Ob x + 1) ++ data).length)) ⟨Nat.le_refl _, ht0.2⟩ (posV (insV V (tN ++ x, hdr (genO Ob x + 1) ++ data, 0)) (tN ++ x)))
  have hfin := putV_set hV3.out.so4 (hV3.out.p4.trans h.pe) h.nd ⟨x, data, genO Ob x + 1⟩
  rw [show OEnt.view ⟨x, data, genO Ob x + 1⟩ = (oN ++ x, hdr (genO Ob x + 1) ++ data, (hdr (genO Ob x + 1) ++ data).length) from rfl] at hfin
  replace hfin := Lib.hid hfin
  have hokf : Hid (∀ o ∈ setO Ob ⟨x, data, genO Ob x + 1⟩, o.Ok) := fun o ho => by
    rcases setO_mem ho with rfl | ho
    · exact ⟨hx, hg1, by show data.length ≤ _; omega⟩
    · exact hok.out o ho
  have htn := Lib.hid (nm_t hx)
  have hon := Lib.hid (nm_o hx)
  have hrg := Lib.hid fun w' (g : Grew w w') => hr.grew g
  replace hnoT := Lib.hid hnoT
  replace hvok := Lib.hid hvok
  clear h hr hx hFl hul
  generalize hhd : hdr (genO Ob x + 1) = hd at *
  obtain ⟨hn, hhn⟩ : ∃ hn, hd.length = hn := ⟨_, rfl⟩
  rw [hhn] at hFr hhl hlr
  generalize hul : uv (genO Ob x + 1) = ul at *
  generalize ul.length = un at *
  generalize genO Ob x = g at *
  clear hhd hul
  replace hlr := Lib.hid hlr
  replace hhn := Lib.hid hhn
  replace hdl := Lib.hid hdl
  go_enter Tryz.func21, Tryz.ntmps21
  go_wp2_with fail
  refine hK.mono ?_
  rintro e w1 ⟨rfl, rfl⟩
  go_wp2_with fail
  refine hLg.mono ?_
  rintro e w2 ⟨⟨v9, z9, rfl⟩, g2⟩
  clear hK hLg e0 c1
  go_wp2_with fail
  refine (hPut w2).mono ?_
  rintro e w3 ⟨B1, c1, rfl, hO1, g3⟩
  go_wp2_with fail
  refine (hFr B1 c1 w3 hO1.rb).mono ?_
  rintro e w4 ⟨B2, c2, rfl, hO2, g4⟩
  have g04 := g2.trans (g3.trans g4)
  have t4 := Chg.cell g04 s0 (fun e => e)
  have hFi := rFind_any (hst.out _ g04).rf (tN ++ x)
  rw [hnoT.out] at hFi
  unfold tN at hFi
  generalize posV V _ = p9 at hFi
  have hz2 := g2.size
  have hz3 := g3.size
  clear hPut hFr hO1 s0
  go_wp2_with fail
  refine hFi.mono ?_
  rintro e w5 ⟨rfl, g5⟩
  have g05 := g04.trans g5
  have t5 := Chg.cell g5 t4 (fun e => e)
  have sb5 : sb < w5.heap.size := by have := g05.size; omega
  have hO5 := hO2.grew g5
  have hr5 := hrg.out _ g05
  have hsb : sb < w3.heap.size := by omega
  have hz5 := g05.size
  have hz45 : w4.heap.size ≤ w5.heap.size := g5.size
  have hz34 : w3.heap.size ≤ w4.heap.size := g4.size
  have hB2l := Lib.hid (Own.blk_lt hO2)
  clear hFi t4 hO2
  go_wp2_with fail
  refine wp_region_textS [(9, 2)] [sb] (by kernel_rfl) (by kernel_rfl) (cellsIn_cons t5 (cellsIn_nil _)) ?_
  simp only [wpU, tagOf, chk, look, Nat.reduceBEq, if_true, if_false, Nat.reduceEqDiff, List.nil_append, List.cons_append]
  intro K hK
  go_wp2_with fail
  refine OnlyN.normal (hK _ _ (fun _ => ⟨_, _, _, rfl, rfl, by simp⟩) ?_)
  clear hK K
  intro K hK
  go_wp2_with (at_builtin; refine wpList_appB rfl _ _ rfl w3.heap.size B2 hn c2 hd rfl (by exact hO5) (by simpa using (show w3.heap.size ≤ w5.heap.size by omega)) A k c data rfl (by exact hr5) (by omega) ?_; intro B3 c3 w6 h6)
  have hc6 : Chg (fun j => ∃ ad, B2 = some ad ∧ j = ad.block) w5 w6 := Chg.step (S := fun j => ∃ ad, B2 = some ad ∧ j = ad.block) (Chg.refl _ w5).drew h6.chg fun _ _ e => e
  have o6 := h6.ob
  have hc06 : Grew w w6 := g05.step hc6 fun j hj ⟨ad, e, he⟩ => by
    have := (hB2l.out ad e).1
    omega
  have t6 := Chg.cell hc06 (show w.cell? ⟨sb, 0, none⟩ = some (.pointer (some ⟨wb, 0, none⟩)) from (hst.out _ (Chg.refl _ w)).st.cell 0) (fun e => e)
  have hB3 : ∀ ad, B3 = some ad → w3.heap.size ≤ ad.block := fun ad e => (Own.blk_lt o6 ad e).1
  have hnR : ∀ ad, B3 = some ad → 0 < hn + k → ¬ R ad.block := fun ad e _ hR9 => by
    have := hB3 ad e
    have := hRlt.out _ hR9
    omega
  refine OnlyN.normal (hK _ _ (sameIn_of hc6 (cellsIn_cons t5 (cellsIn_nil _)) (by
    intro j hj
    simp only [List.mem_cons, List.not_mem_nil, or_false] at hj
    subst hj
    rintro ⟨ad, e, he⟩
    have := (hB2l.out ad e).1
    omega)) ?_)
  clear hK K h6
  have hAp := rAppend_ok (hst.out _ hc06).rf hl64 (by omega) hvok.out (by omega) hkp (tN ++ x) htn.out hnoT.out B3 (hn + k) c3 (hd ++ data) o6.rb (by omega) hnR (by omega) (goes_no (fun e => by have := hal e; omega))
  unfold tN at hAp
  intro K hK
  go_wp2_with fail
  refine hAp.mono ?_
  rintro e w7 ⟨rfl, R1, hD1, s11, s12, sc1, sk1⟩
  have hc7 : Chg (fun j => R j ∨ ∃ ad, B2 = some ad ∧ j = ad.block) w5 w7 := (hc6.mono fun _ _ e => .inr e).trans (sc1.mono fun _ _ e => .inl e)
  go_wp2_with fail
  refine OnlyN.normal (hK _ _ (sameIn_of hc7 (cellsIn_cons t5 (cellsIn_nil _)) (by
    intro j hj
    simp only [List.mem_cons, List.not_mem_nil, or_false] at hj
    subst hj
    rintro (he | ⟨ad, e, he⟩)
    · exact sn.out he
    · have := (hB2l.out ad e).1
      omega)) ?_)
  clear hK K
  have t7 := Chg.cell sc1 t6 sn.out
  have hz6 := hc06.size
  have hz7 := sc1.size
  have hk06 := KD.of_grew hc06
  have sn1 : ¬ R1 sb := fun e => (s12 sb e).elim sn.out (by omega)
  have hSy := rSync_ok hD1 (leftG_rng hl64) (by omega) hvok1.out (by rw [insV_len]; omega) hkp (tN ++ x) htn.out hV3.out.g1 hV3.out.h1 (goes_no (fun e => by rw [leftG_pos e (by have := hal e; omega)]; have := hal e; omega))
  unfold tN at hSy
  replace s11 := Lib.hid s11
  replace s12 := Lib.hid s12
  replace sc1 := Lib.hid sc1
  replace sk1 := Lib.hid sk1
  clear hAp hD1 t6 t5
  go_wp2_with fail
  refine OnlyN.normal ?_
  go_wp2_with fail
  refine hSy.mono ?_
  rintro e w8 ⟨rfl, R2, hD2, s21, s22, sc2, sk2⟩
  have t8 := Chg.cell sc2 t7 sn1
  have sn2 : ¬ R2 sb := fun e => (s22 sb e).elim sn1 (by omega)
  have hRe := rRename_ok hD2 (leftG_rng (leftG_rng hl64)) (by omega) hvok2.out (by rw [List.length_set, insV_len]; omega) hkp (tN ++ x) (oN ++ x) htn.out hon.out hV3.out.g2 hV3.out.h2 (goes_no (fun e => by rw [leftG_pos e (by rw [leftG_pos e (by have := hal e; omega)]; have := hal e; omega), leftG_pos e (by have := hal e; omega)]; have := hal e; omega))
  unfold tN oN at hRe
  replace s21 := Lib.hid s21
  replace s22 := Lib.hid s22
  replace sc2 := Lib.hid sc2
  replace sk2 := Lib.hid sk2
  clear hSy hD2 t7
  go_wp2_with fail
  refine hRe.mono ?_
  rintro e w9 ⟨rfl, hrc9⟩
  have hz8 := sc2.out.size
  have hrc := Lib.hid (RC.trans s11.out (fun j hj => (s12.out j hj).imp id (by omega)) ((Chg.of_grew hc06).trans sc1.out) (hk06.trans sk1.out) (RC.trans s21.out s22.out sc2.out sk2.out hrc9))
  clear hRe hrc9 t8
  have hup := Lib.hid ((hst.out _ (Chg.refl _ w)).up hrc.out hfin.out.1 hfin.out.2 hokf.out)
  have hlb := Lib.hid (leftG_rng (armed := armed) (leftG_rng (armed := armed) (leftG_rng (armed := armed) hl64)))
  have hlq : Hid (armed = true → leftG armed (leftG armed (leftG armed left)) = left - 3) := fun e => by
    have := hal e
    rw [leftG_pos (left := leftG armed (leftG armed left)) e (by rw [leftG_pos e (by rw [leftG_pos e (by omega)]; omega), leftG_pos e (by omega)]; omega), leftG_pos (left := leftG armed left) e (by rw [leftG_pos e (by omega)]; omega), leftG_pos e (by omega)]
    omega
  go_wp2
  refine bodyPost_ret (v := .tuple #[.int .u64 ((g : Int) + 1), .int .i64 0]) ?_ rfl ⟨by simp, _, hlq.out, hlb.out, hup.out⟩
  simp [results, Tryz.results21, go_sem]
end
end Go.Proofs.YtepncgeaehjhiaaGreat
