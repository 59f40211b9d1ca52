/-
  Several texts in one:
  The document's disk: Sync, Delete, Rename, Append; with the power and without. Conditions: names that may be; lengths within the file's bound.
-/
import Derived.Test.YtepncgeaehjhiaaGreatPart36

namespace Go.Proofs.YtepncgeaehjhiaaGreat
open Go.RowKit

section
variable {R : Nat → Prop} {w : World} {wb : Nat} {V : List Vw} {armed : Bool} {left keep : Int} {nu : Nat}

set_option maxRecDepth 100000 in
set_option maxHeartbeats 4000000 in
theorem rSync_cut (hD : RFD R w wb V false armed left keep nu) (hl64 : -9223372036854775808 ≤ left ∧ left ≤ 9223372036854775807) (hnu : nu ≤ 4000000000000000000) (hV : VOk V) (hlen : V.length ≤ 1048576) (hkp : keep ≤ 9223372036854775807) (x : ByteArray) (hx : NmOk x) (hh : hasV V x = true) (hg : goesB armed left = true) :
    Calls Tryz.prog 62 #[.pointer (some ⟨wb, 0, none⟩), .string x] w fun e w' => e = .returned (.int .i64 60) ∧ RC R w wb (V.map (cutV keep)) true false (leftG armed left) keep (nu + 1) w' := by
  have hRd := rReady_any hD x hx true
  rw [hh, show (if (true && !true) = true then (62 : Int) else 0) = 0 from rfl] at hRd
  go_enter Tryz.func62, Tryz.ntmps62
  go_wp2_with fail
  refine hRd.mono ?_
  rintro e w1 ⟨rfl, g1⟩
  have hG := rGoes_any (hD.grew g1) hl64 hnu
  rw [hg] at hG
  clear hRd
  go_wp2_with fail
  refine hG.mono ?_
  rintro e w2 ⟨rfl, hRC2⟩
  obtain ⟨R1, hD2, s1, s2, hc, hk⟩ := hRC2.from g1
  clear hG hRC2 hD
  have hOff := rOff_any hD2 hV (by omega) keep hkp
  obtain ⟨A, n, c, ms, hR2⟩ := hD2
  have c4 := hR2.hd.cell 4
  clear hR2
  go_wp2_with fail
  refine hOff.mono ?_
  rintro e w3 ⟨rfl, h3⟩
  go_wp2
  go_ret
  exact ⟨by simp, RC.trans s1 s2 hc hk h3⟩

set_option maxRecDepth 100000 in
set_option maxHeartbeats 4000000 in
theorem rSync_ok (hD : RFD R w wb V false armed left keep nu) (hl64 : -9223372036854775808 ≤ left ∧ left ≤ 9223372036854775807) (hnu : nu ≤ 4000000000000000000) (hV : VOk V) (_hlen : V.length ≤ 1048576) (_hkp : keep ≤ 9223372036854775807) (x : ByteArray) (hx : NmOk x) {v : Vw} (hv : V[posV V x]? = some v) (hh : hasV V x = true) (hg : goesB armed left = false) :
    Calls Tryz.prog 62 #[.pointer (some ⟨wb, 0, none⟩), .string x] w fun e w' => e = .returned (.int .i64 0) ∧ RC R w wb (V.set (posV V x) (v.1, v.2.1, v.2.1.length)) false armed (leftG armed left) keep (nu + 1) w' := by
  have hRd := rReady_any hD x hx true
  rw [hh, show (if (true && !true) = true then (62 : Int) else 0) = 0 from rfl] at hRd
  obtain ⟨p, hp⟩ : ∃ p, p = posV V x := ⟨_, rfl⟩
  rw [← hp] at hv ⊢
  replace hp := Lib.hid hp
  go_enter Tryz.func62, Tryz.ntmps62
  go_wp2_with fail
  refine hRd.mono ?_
  rintro e w1 ⟨rfl, g1⟩
  have hG := rGoes_any (hD.grew g1) hl64 hnu
  rw [hg] at hG
  clear hRd
  go_wp2_with fail
  refine hG.mono ?_
  rintro e w2 ⟨rfl, hRC2⟩
  obtain ⟨R1, hD2, s1, s2, hc, hk⟩ := hRC2.from g1
  clear hG hRC2 hD
  have hF := rFind_any hD2 x
  obtain ⟨A, n, c, ms, hR2⟩ := hD2
  have hwl := hR2.ln
  have hpn : p < n := by have := (List.getElem?_eq_some_iff.1 hv).1; omega
  obtain ⟨g, m, v', rfl, hm, hv', hE, z0, z1, z2⟩ := hR2.at_ hpn
  rw [hv] at hv'
  obtain rfl := Option.some.inj hv'
  rw [hh, ← hp.out] at hF
  have hcap := hR2.row.cap
  obtain ⟨mn, da, dn, dc, sy⟩ := m
  have hnm : mn = v.1 := hE.nm
  subst hnm
  dsimp only at z0 z1 z2
  have hdl : v.2.1.length = dn := OB.len hE.da
  have hR2g := Lib.hid fun w' (g' : Grew w2 w') => hR2.grew g'
  have hsl := (hV v (List.mem_of_getElem? hv)).2
  rw [hdl] at hsl
  have hms := Lib.hid hm
  have hml := Lib.hid hR2.len
  replace hdl := Lib.hid hdl
  replace s1 := Lib.hid s1
  replace s2 := Lib.hid s2
  replace hc := Lib.hid hc
  replace hk := Lib.hid hk
  replace hE := Lib.hid hE
  clear hR2 hm hv hh hV hwl z0 z2
  go_wp2_with fail
  refine hF.mono ?_
  rintro e w3 ⟨rfl, g3⟩
  have hR3 := hR2g.out _ g3
  have b3 := hR3.hd.cell 0
  have y1 := Chg.cell g3 z1 (fun e => e)
  have y2 := (hR3.at_ hpn)
  obtain ⟨g', m', v', eg, hm', _, _, _, _, y2⟩ := y2
  injection eg with eg
  injection eg with eg
  subst eg
  obtain ⟨cur, hbg, _⟩ := Own.block hR3.row _ rfl
  have sf := hbg.frozen (p * 3 + 2)
  have sl := hbg.lt
  have hcs : CellsIn [wb, g] w3 := cellsIn_cons (i := 0) (u := .slice (some ⟨g, 0, none⟩) n c) (hR3.hd.cell 0) (cellsIn_cons y1 (cellsIn_nil w3))
  have hc4 : Chg (fun j => j = g) w3 (w3.drew.setCell ⟨g, p * 3 + 2, none⟩ (.int .i64 ((dn : Nat) : Int))) := ((Chg.refl (fun j => j = g) w3).drew).setCell (p := ⟨g, p * 3 + 2, none⟩) (.inr rfl) _
  have hro : OE elFi (w3.drew.setCell ⟨g, p * 3 + 2, none⟩ (.int .i64 ((dn : Nat) : Int))) 0 55 (some ⟨g, 0, none⟩) n c (ms.set p ⟨v.1, da, dn, dc, dn⟩) := by
    have h9 := Own.set (hR3.row.grew (Chg.refl _ w3).drew) (p * 3 + 2) (.int .i64 ((dn : Nat) : Int))
    have h8 := fi_sync hms.out dn
    unfold OE
    rw [h8]
    exact h9
  have hnew := hR3.rows (Chg.refl _ w3) hc4 hro (V2 := V.set p (v.1, v.2.1, dn)) (by rw [List.length_set, List.length_set]; exact hml.out) (list_setW (fun i m v h1 h2 => hR3.el i m v h1 h2) ⟨rfl, rfl, OB.grew hE.out.da g3⟩) (fun m hm9 ad e => by
    rcases List.mem_or_eq_of_mem_set hm9 with h9 | rfl
    · exact .inl (hR3.rd m h9 ad e)
    · exact .inl (hR3.rd _ (List.mem_of_getElem? hms.out) ad e))
  have hgR : R1 g := hR3.rr ⟨g, 0, none⟩ rfl
  have hfin : Hid (RC R1 w3 wb (V.set p (v.1, v.2.1, dn)) false armed (leftG armed left) keep (nu + 1) (w3.drew.setCell ⟨g, p * 3 + 2, none⟩ (.int .i64 ((dn : Nat) : Int)))) := ⟨_, ⟨_, _, _, _, hnew.1⟩, fun j h => .inl h, fun j h => h.imp id fun h => h.1, hc4.mono fun j _ e => by
    have e : j = g := e
    rw [e]
    exact hgR, hnew.2⟩
  clear hF z1 hR2g hR3 hro hnew hbg hc4 hms hml hE hm'
  go_wp2_with fail
  refine wp_region_textL [(3, 1)] [wb, g] (by kernel_rfl) (by kernel_rfl) hcs ?_
  simp only [wpUL, tagOf, chk, List.nil_append, List.cons_append]
  intro K hK
  go_wp2_with fail
  refine OnlyN.normal (hK _ _ (fun _ => ⟨_, _, _, rfl, rfl, by simp⟩) ?_)
  clear hK K
  intro K hK
  go_wp2_with fail
  refine OnlyN.normal (hK _ _ (fun _ => ⟨_, _, _, rfl, rfl, by simp⟩) ?_)
  clear hK K
  intro K hK
  go_wp2_with fail
  refine OnlyN.normal (hK _ _ (fun _ => ⟨_, _, _, rfl, rfl, by simp⟩) ?_)
  clear hK K
  go_wp2_with fail
  refine OnlyN.normal ?_
  go_wp2
  go_ret
  have h9 := hfin.out
  rw [show V.set p (v.1, v.2.1, dn) = V.set p (v.1, v.2.1, v.2.1.length) by rw [hdl.out]] at h9
  exact ⟨by simp, RC.trans s1.out s2.out hc.out hk.out (h9.from g3)⟩

set_option maxRecDepth 100000 in
set_option maxHeartbeats 4000000 in
theorem rDelete_cut (hD : RFD R w wb V false armed left keep nu) (hl64 : -9223372036854775808 ≤ left ∧ left ≤ 9223372036854775807) (hnu : nu ≤ 4000000000000000000) (hV : VOk V) (hlen : V.length ≤ 1048576) (hkp : keep ≤ 9223372036854775807) (x : ByteArray) (hx : NmOk x) (hh : hasV V x = true) (hg : goesB armed left = true) :
    Calls Tryz.prog 17 #[.pointer (some ⟨wb, 0, none⟩), .string x] w fun e w' => e = .returned (.int .i64 60) ∧ RC R w wb (V.map (cutV keep)) true false (leftG armed left) keep (nu + 1) w' := by
  have hRd := rReady_any hD x hx true
  rw [hh, show (if (true && !true) = true then (62 : Int) else 0) = 0 from rfl] at hRd
  go_enter Tryz.func17, Tryz.ntmps17
  go_wp2_with fail
  refine hRd.mono ?_
  rintro e w1 ⟨rfl, g1⟩
  have hG := rGoes_any (hD.grew g1) hl64 hnu
  rw [hg] at hG
  clear hRd
  go_wp2_with fail
  refine hG.mono ?_
  rintro e w2 ⟨rfl, hRC2⟩
  obtain ⟨R1, hD2, s1, s2, hc, hk⟩ := hRC2.from g1
  clear hG hRC2 hD
  have hOff := rOff_any hD2 hV (by omega) keep hkp
  obtain ⟨A, n, c, ms, hR2⟩ := hD2
  have c4 := hR2.hd.cell 4
  clear hR2
  go_wp2_with fail
  refine hOff.mono ?_
  rintro e w3 ⟨rfl, h3⟩
  go_wp2
  go_ret
  exact ⟨by simp, RC.trans s1 s2 hc hk h3⟩

set_option maxRecDepth 100000 in
set_option maxHeartbeats 4000000 in
theorem rDelete_ok (hD : RFD R w wb V false armed left keep nu) (hl64 : -9223372036854775808 ≤ left ∧ left ≤ 9223372036854775807) (hnu : nu ≤ 4000000000000000000) (_hV : VOk V) (hlen : V.length ≤ 1048576) (_hkp : keep ≤ 9223372036854775807) (x : ByteArray) (hx : NmOk x) {v : Vw} (hv : V[posV V x]? = some v) (hh : hasV V x = true) (hg : goesB armed left = false) :
    Calls Tryz.prog 17 #[.pointer (some ⟨wb, 0, none⟩), .string x] w fun e w' => e = .returned (.int .i64 0) ∧ RC R w wb (V.eraseIdx (posV V x)) false armed (leftG armed left) keep (nu + 1) w' := by
  have hRd := rReady_any hD x hx true
  rw [hh, show (if (true && !true) = true then (62 : Int) else 0) = 0 from rfl] at hRd
  go_enter Tryz.func17, Tryz.ntmps17
  go_wp2_with fail
  refine hRd.mono ?_
  rintro e w1 ⟨rfl, g1⟩
  have hG := rGoes_any (hD.grew g1) hl64 hnu
  rw [hg] at hG
  clear hRd
  go_wp2_with fail
  refine hG.mono ?_
  rintro e w2 ⟨rfl, hRC2⟩
  obtain ⟨R1, hD2, s1, s2, hc, hk⟩ := hRC2.from g1
  clear hG hRC2 hD
  have hTk := rTake_any hD2 (by omega) x hv
  clear hD2
  go_wp2_with fail
  refine hTk.mono ?_
  rintro e w3 ⟨⟨m9, rfl, _, _⟩, h3⟩
  go_wp2
  go_ret
  exact ⟨by simp, RC.trans s1 s2 hc hk h3⟩

set_option maxHeartbeats 1000000 in
theorem rDelete_none {left' : Int} (hD : RFD R w wb V false armed left' keep nu) (x : ByteArray) (hx : NmOk x) (hh : hasV V x = false) :
    Calls Tryz.prog 17 #[.pointer (some ⟨wb, 0, none⟩), .string x] w fun e w' => e = .returned (.int .i64 62) ∧ Grew w w' := by
  have hRd := rReady_any hD x hx true
  rw [hh, show (if (true && !false) = true then (62 : Int) else 0) = 62 from rfl] at hRd
  clear hD
  go_enter Tryz.func17, Tryz.ntmps17
  go_wp2_with fail
  refine hRd.mono ?_
  rintro e w1 ⟨rfl, g1⟩
  go_wp2
  go_ret
  exact ⟨by simp, g1⟩

set_option maxRecDepth 100000 in
set_option maxHeartbeats 4000000 in
theorem rRename_cut (hD : RFD R w wb V false armed left keep nu) (hl64 : -9223372036854775808 ≤ left ∧ left ≤ 9223372036854775807) (hnu : nu ≤ 4000000000000000000) (hV : VOk V) (hlen : V.length ≤ 1048576) (hkp : keep ≤ 9223372036854775807) (x y : ByteArray) (hx : NmOk x) (hy : NmOk y) {v : Vw} (_hv : V[posV V x]? = some v) (hh : hasV V x = true) (hg : goesB armed left = true) :
    Calls Tryz.prog 63 #[.pointer (some ⟨wb, 0, none⟩), .string x, .string y] w fun e w' => e = .returned (.int .i64 60) ∧ RC R w wb (V.map (cutV keep)) true false (leftG armed left) keep (nu + 1) w' := by
  have hF := rFind_any hD x
  have hNx := fun w => rName_any x w
  have hNy := fun w => rName_any y w
  rw [(nameB_iff x).2 hx] at hNx
  rw [(nameB_iff y).2 hy] at hNy
  rw [hh] at hF
  have hDg := Lib.hid fun w' (g : Grew w w') => hD.grew g
  obtain ⟨A, n, c, ms, hR⟩ := hD
  have c1 := hR.hd.cell 1
  clear hR hx hy hh
  go_enter Tryz.func63, Tryz.ntmps63
  go_wp2_with fail
  refine (hNx _).mono ?_
  rintro e w0 ⟨rfl, rfl⟩
  go_wp2_with fail
  refine (hNy _).mono ?_
  rintro e w0 ⟨rfl, rfl⟩
  go_wp2_with fail
  refine hF.mono ?_
  rintro e w1 ⟨rfl, g1⟩
  have hG := rGoes_any (hDg.out _ g1) hl64 hnu
  rw [hg] at hG
  clear hF hNx hNy c1
  go_wp2_with fail
  refine hG.mono ?_
  rintro e w2 ⟨rfl, hRC2⟩
  obtain ⟨R1, hD2, s1, s2, hc, hk⟩ := hRC2.from g1
  clear hG hRC2 hDg
  have hOff := rOff_any hD2 hV (by omega) keep hkp
  obtain ⟨A, n, c, ms, hR2⟩ := hD2
  have c4 := hR2.hd.cell 4
  clear hR2
  go_wp2_with fail
  refine hOff.mono ?_
  rintro e w3 ⟨rfl, h3⟩
  go_wp2
  go_ret
  exact ⟨by simp, RC.trans s1 s2 hc hk h3⟩

set_option maxRecDepth 100000 in
set_option maxHeartbeats 4000000 in
theorem rRename_ok (hD : RFD R w wb V false armed left keep nu) (hl64 : -9223372036854775808 ≤ left ∧ left ≤ 9223372036854775807) (hnu : nu ≤ 4000000000000000000) (_hV : VOk V) (hlen : V.length ≤ 1048576) (_hkp : keep ≤ 9223372036854775807) (x y : ByteArray) (hx : NmOk x) (hy : NmOk y) {v : Vw} (hv : V[posV V x]? = some v) (hh : hasV V x = true) (hg : goesB armed left = false) :
    Calls Tryz.prog 63 #[.pointer (some ⟨wb, 0, none⟩), .string x, .string y] w fun e w' => e = .returned (.int .i64 0) ∧ RC R w wb (putV (V.eraseIdx (posV V x)) (y, v.2.1, v.2.2)) false armed (leftG armed left) keep (nu + 1) w' := by
  have hF := rFind_any hD x
  have hNx := fun w => rName_any x w
  have hNy := fun w => rName_any y w
  rw [(nameB_iff x).2 hx] at hNx
  rw [(nameB_iff y).2 hy] at hNy
  rw [hh] at hF
  have hDg := Lib.hid fun w' (g : Grew w w') => hD.grew g
  obtain ⟨A, n, c, ms, hR⟩ := hD
  have c1 := hR.hd.cell 1
  clear hR hx hy hh
  have hln2 : (V.eraseIdx (posV V x)).length ≤ 1048577 := Nat.le_trans (List.length_eraseIdx_le _ _) (by omega)
  obtain ⟨V2, hV2⟩ : ∃ V2, V2 = V.eraseIdx (posV V x) := ⟨_, rfl⟩
  rw [← hV2] at hln2 ⊢
  replace hV2 := Lib.hid hV2
  go_enter Tryz.func63, Tryz.ntmps63
  go_wp2_with fail
  refine (hNx _).mono ?_
  rintro e w0 ⟨rfl, rfl⟩
  go_wp2_with fail
  refine (hNy _).mono ?_
  rintro e w0 ⟨rfl, rfl⟩
  go_wp2_with fail
  refine hF.mono ?_
  rintro e w1 ⟨rfl, g1⟩
  have hG := rGoes_any (hDg.out _ g1) hl64 hnu
  rw [hg] at hG
  clear hF hNx hNy c1
  go_wp2_with fail
  refine hG.mono ?_
  rintro e w2 ⟨rfl, hRC2⟩
  obtain ⟨R1, hD2, s1, s2, hc, hk⟩ := hRC2.from g1
  clear hG hRC2 hDg
  have hTk := rTake_any hD2 (by omega) x hv
  rw [← hV2.out] at hTk
  clear hD2 hv hV2
  go_wp2_with fail
  refine hTk.mono ?_
  rintro e w3 ⟨⟨⟨mn, da, dn, dc, sy⟩, rfl, hE, hdR⟩, R2, hD3, t1, t2, tc, tk⟩
  dsimp only at hE hdR ⊢
  obtain ⟨X, hX⟩ : ∃ X, X = w3.alloc (.cells #[.string y, .slice da dn dc, .int .i64 (sy : Int)] 55) := ⟨_, rfl⟩
  have gX : Grew w3 X := by rw [hX]; exact (Chg.refl _ w3).alloc _
  have hEX : FiE X ⟨y, da, dn, dc, sy⟩ (y, v.2.1, v.2.2) := ⟨rfl, hE.sy, OB.grew hE.da gX⟩
  have hPt := rPut_any (hD3.grew gX) hln2 ⟨y, da, dn, dc, sy⟩ (y, v.2.1, v.2.2) hEX fun ad e => t1 _ (hdR ad e)
  dsimp only at hPt
  replace s1 := Lib.hid s1
  replace s2 := Lib.hid s2
  replace hc := Lib.hid hc
  replace hk := Lib.hid hk
  replace t1 := Lib.hid t1
  replace t2 := Lib.hid t2
  replace tc := Lib.hid tc
  replace tk := Lib.hid tk
  clear hTk hE hdR hEX hD3
  go_wp2_with fail
  rw [← hX]
  clear hX
  refine hPt.mono ?_
  rintro e w4 ⟨rfl, h4⟩
  have h5 := Lib.hid (RC.trans s1.out s2.out hc.out hk.out (RC.trans t1.out t2.out tc.out tk.out (h4.from gX)))
  clear hPt h4
  go_wp2
  go_ret
  exact ⟨by simp, h5.out⟩

set_option maxRecDepth 100000 in
set_option maxHeartbeats 4000000 in
theorem rAppend_ok (hD : RFD R w wb V false armed left keep nu) (hl64 : -9223372036854775808 ≤ left ∧ left ≤ 9223372036854775807) (hnu : nu ≤ 4000000000000000000) (hV : VOk V) (hlen : V.length ≤ 1048576) (_hkp : keep ≤ 9223372036854775807) (x : ByteArray) (hx : NmOk x) (hh : hasV V x = false) (A0 : Option Addr) (k0 c0 : Nat) (l : List UInt8) (hr : RB w A0 k0 l) (hk0 : k0 ≤ 4194304) (hrR : ∀ ad, A0 = some ad → 0 < k0 → ¬ R ad.block) (hfull : V.length < 1048576) (hg : goesB armed left = false) :
    Calls Tryz.prog 61 #[.pointer (some ⟨wb, 0, none⟩), .string x, .slice A0 k0 c0] w fun e w' => e = .returned (.int .i64 0) ∧ RC R w wb (insV V (x, l, 0)) false armed (leftG armed left) keep (nu + 1) w' := by
  have hRd := rReady_any hD x hx false
  rw [show (if (false && !hasV V x) = true then (62 : Int) else 0) = 0 from rfl] at hRd
  have hFi := Lib.hid fun w' (g : Grew w w') => rFind_any (hD.grew g) x
  have hDg := Lib.hid fun w' (g : Grew w w') => hD.grew g
  have hrl := hr.1
  obtain ⟨A, n, c, ms, hR⟩ := hD
  have hwl := hR.ln
  have hcap := hR.row.cap
  have hb0 := Lib.hid fun w' (g : Grew w w') => (hR.hd.grew g).cell 0
  have hRlt := Lib.hid hR.lt
  clear hR
  rw [hh] at hFi
  go_enter Tryz.func61, Tryz.ntmps61
  go_wp2_with fail
  refine hRd.mono ?_
  rintro e w1 ⟨rfl, g1⟩
  clear hRd
  go_wp2_with fail
  refine (hFi.out _ g1).mono ?_
  rintro e w2 ⟨rfl, g2⟩
  have g02 := g1.trans g2
  clear hFi
  obtain ⟨X, hX⟩ : ∃ X, X = w2.alloc (.cells #[.string x, .slice none 0 0, .int .i64 0] 55) := ⟨_, rfl⟩
  have gX : Grew w2 X := by rw [hX]; exact (Chg.refl _ w2).alloc _
  have hbx : Blk X w2.heap.size 55 #[.string x, .slice none 0 0, .int .i64 0] := by rw [hX]; exact Blk.new w2 _ _
  have g0X := g02.trans gX
  have x1 := hbx.cell 1
  have b2 := hb0.out _ g02
  have hwb2 : wb < w2.heap.size := by
    obtain ⟨_, _, _, _, h9⟩ := hDg.out _ g02
    exact h9.hd.lt
  have e1 : decide ((4194304 : Int) < (k0 : Int)) = false := decide_eq_false (by omega)
  have e2 : decide ((4194304 : Int) - (k0 : Int) < 0) = false := decide_eq_false (by omega)
  have e3 : decide ((1048576 : Int) ≤ (n : Int)) = false := decide_eq_false (by omega)
  have hG := rGoes_any (hDg.out _ g0X) hl64 hnu
  rw [hg] at hG
  go_wp2_with fail
  rw [← hX]
  clear hX b2 e1 e2 e3
  refine hG.mono ?_
  rintro e w3 ⟨rfl, hRC3⟩
  obtain ⟨R1, hD3, s1, s2, hc, hk⟩ := hRC3
  have hz := g0X.size
  have hzX := gX.size
  have hxX := Lib.hid hbx.lt
  have hnR : ∀ j, w.heap.size ≤ j → ¬ R j := fun j hj e => by have := hRlt.out j e; omega
  have hz2 := g02.size
  have hbx3 := hbx.chg hc (hnR _ (by omega))
  have hr3 : RB w3 A0 k0 l := (hr.grew g0X).far hc fun ad e h => hrR ad e h
  have hxlt3 := hbx3.lt
  have y1 := hbx3.cell 1
  have gE : Grew w3 (w3.alloc (.cells #[] 5)) := (Chg.refl _ w3).alloc _
  have oE : OB (w3.alloc (.cells #[] 5)) w3.heap.size 5 (some ⟨w3.heap.size, 0, none⟩) 0 0 [] := Own.made w3 w3.heap.size 5 1 (Nat.le_refl _)
  have rN : RB (w3.alloc (.cells #[] 5)) none 0 [] := ⟨rfl, Rd.nil _ _⟩
  have hxv : putV V (x, l, 0) = insV V (x, l, 0) := by
    unfold putV
    rw [if_neg (by rw [hh]; simp)]
  have hVi : VOk (insV V (x, l, 0)) := fun v hv => by
    rcases List.mem_cons.1 ((insV_perm V (x, l, 0)).mem_iff.1 hv) with rfl | hv
    · exact ⟨Nat.zero_le _, by show l.length ≤ _; omega⟩
    · exact hV v hv
  have hli := insV_len V (x, l, 0)
  replace hbx3 := Lib.hid hbx3
  replace hxv := Lib.hid hxv
  replace hVi := Lib.hid hVi
  replace s1 := Lib.hid s1
  replace s2 := Lib.hid s2
  replace hc := Lib.hid hc
  replace hk := Lib.hid hk
  replace hr3 := Lib.hid hr3
  clear hG hbx x1 hV hh hDg hb0
  go_wp2_with (at_builtin; first | (refine wpList_appB rfl _ _ rfl w3.heap.size (some ⟨w3.heap.size, 0, none⟩) 0 0 [] rfl oE gE.size none 0 _ [] rfl rN (by omega) ?_; intro A5 c5 w5 h5; have g5 : Grew w3 w5 := h5.grew gE (hd_le1 (Nat.le_refl _)); have o5 := h5.ob; simp only [Nat.zero_add, List.nil_append] at o5; have r5 := hr3.out.grew g5) | (refine wpList_appB rfl _ _ rfl w3.heap.size A5 0 c5 [] rfl o5 g5.size A0 k0 _ l rfl r5 (by omega) ?_; intro A6 c6 w6 h6; have g6 : Grew w3 w6 := h6.grew g5 fun ad e => (Own.blk_lt o5 ad e).1; have o6 := h6.ob; simp only [Nat.zero_add, List.nil_append] at o6; have hb6 := hbx3.out.grew g6; have z1 := hb6.cell 1; have zf := hb6.frozen 1; have zl := hb6.lt; have z0r : (w6.setCell ⟨w2.heap.size, 1, none⟩ (.slice A6 k0 c6)).cell? ⟨w2.heap.size, 0, none⟩ = some (.string x) := (hb6.set 1 (.slice A6 k0 c6)).cell 0; have z1r : (w6.setCell ⟨w2.heap.size, 1, none⟩ (.slice A6 k0 c6)).cell? ⟨w2.heap.size, 1, none⟩ = some (.slice A6 k0 c6) := ((hb6.set 1 (.slice A6 k0 c6)).cell 1).trans (by simp); have z2r : (w6.setCell ⟨w2.heap.size, 1, none⟩ (.slice A6 k0 c6)).cell? ⟨w2.heap.size, 2, none⟩ = some (.int .i64 0) := (hb6.set 1 (.slice A6 k0 c6)).cell 2))
  obtain ⟨Z, hZ⟩ : ∃ Z, Z = w6.setCell ⟨w2.heap.size, 1, none⟩ (.slice A6 k0 c6) := ⟨_, rfl⟩
  have hcZ : Chg (fun j => j = w2.heap.size) w6 Z := by rw [hZ]; exact Chg.one _ _ _ _
  have hnR1 : ∀ j, MoreR R1 w3 w6 j → j ≠ w2.heap.size := fun j hj e => by
    rcases hj with h9 | h9
    · rcases s2.out j h9 with h8 | h8
      · have := hRlt.out j h8
        omega
      · have := hbx3.out.lt
        have hX9 : w2.heap.size < X.heap.size := hxX.out
        omega
    · have := hxlt3
      omega
  have hDZ := (hD3.more g6).chg hcZ hnR1
  have hEZ : FiE Z ⟨x, A6, k0, c6, 0⟩ (x, l, 0) := ⟨rfl, rfl, Own.mono (Own.chg o6 hcZ fun ad e e2 => Own.ne_blk o6 hb6 (by decide) ad e e2) (Nat.zero_le _)⟩
  have hPt := rPut_any hDZ (by omega) ⟨x, A6, k0, c6, 0⟩ (x, l, 0) hEZ fun ad e => .inr (Own.blk_lt o6 ad e)
  rw [hxv.out] at hPt
  dsimp only at hPt
  have hkZ : KD w3 Z := (KD.of_grew g6).trans (KD.blk hb6 (by decide) hcZ)
  have hS1 := Lib.hid fun j (h : R j) => (show MoreR R1 w3 w6 j from .inl (s1.out j h))
  have hS2 := Lib.hid fun j (h : MoreR R1 w3 w6 j) => (show R j ∨ w.heap.size ≤ j from by
    have := hc.out.size
    rcases h with h9 | h9
    · exact (s2.out j h9).imp id (by omega)
    · exact .inr (by omega))
  have hCw : Hid (Chg R w Z) := (((Chg.of_grew g0X).trans hc.out).grow g6).step hcZ fun j hj e => absurd hj (by
    have e : j = w2.heap.size := e
    omega)
  have hKw : Hid (KD w Z) := ((KD.of_grew g0X).trans hk.out).trans hkZ
  clear hDZ hEZ oE rN gE o5 o6 g5 r5 h5 h6 hb6 hD3
  clear hkZ
  go_wp2_with fail
  rw [← hZ]
  clear hZ z0r z1r z2r z1 zf zl
  refine hPt.mono ?_
  rintro e w8 ⟨rfl, h8⟩
  have h9 := Lib.hid (RC.trans hS1.out hS2.out hCw.out hKw.out h8)
  clear hPt h8
  go_wp2
  go_ret
  exact ⟨by simp, h9.out⟩

set_option maxRecDepth 100000 in
set_option maxHeartbeats 4000000 in
theorem rAppend_cut (hD : RFD R w wb V false armed left keep nu) (hl64 : -9223372036854775808 ≤ left ∧ left ≤ 9223372036854775807) (hnu : nu ≤ 4000000000000000000) (hV : VOk V) (hlen : V.length ≤ 1048576) (hkp : keep ≤ 9223372036854775807) (x : ByteArray) (hx : NmOk x) (hh : hasV V x = false) (A0 : Option Addr) (k0 c0 : Nat) (l : List UInt8) (hr : RB w A0 k0 l) (hk0 : k0 ≤ 4194304) (hrR : ∀ ad, A0 = some ad → 0 < k0 → ¬ R ad.block) (hfull : V.length < 1048576) (hg : goesB armed left = true) :
    Calls Tryz.prog 61 #[.pointer (some ⟨wb, 0, none⟩), .string x, .slice A0 k0 c0] w fun e w' => e = .returned (.int .i64 60) ∧ RC R w wb ((insV V (x, l, 0)).map (cutV keep)) true false (leftG armed left) keep (nu + 1) w' := by
  have hRd := rReady_any hD x hx false
  rw [show (if (false && !hasV V x) = true then (62 : Int) else 0) = 0 from rfl] at hRd
  have hFi := Lib.hid fun w' (g : Grew w w') => rFind_any (hD.grew g) x
  have hDg := Lib.hid fun w' (g : Grew w w') => hD.grew g
  have hrl := hr.1
  obtain ⟨A, n, c, ms, hR⟩ := hD
  have hwl := hR.ln
  have hcap := hR.row.cap
  have hb0 := Lib.hid fun w' (g : Grew w w') => (hR.hd.grew g).cell 0
  have hRlt := Lib.hid hR.lt
  clear hR
  rw [hh] at hFi
  go_enter Tryz.func61, Tryz.ntmps61
  go_wp2_with fail
  refine hRd.mono ?_
  rintro e w1 ⟨rfl, g1⟩
  clear hRd
  go_wp2_with fail
  refine (hFi.out _ g1).mono ?_
  rintro e w2 ⟨rfl, g2⟩
  have g02 := g1.trans g2
  clear hFi
  obtain ⟨X, hX⟩ : ∃ X, X = w2.alloc (.cells #[.string x, .slice none 0 0, .int .i64 0] 55) := ⟨_, rfl⟩
  have gX : Grew w2 X := by rw [hX]; exact (Chg.refl _ w2).alloc _
  have hbx : Blk X w2.heap.size 55 #[.string x, .slice none 0 0, .int .i64 0] := by rw [hX]; exact Blk.new w2 _ _
  have g0X := g02.trans gX
  have x1 := hbx.cell 1
  have b2 := hb0.out _ g02
  have hwb2 : wb < w2.heap.size := by
    obtain ⟨_, _, _, _, h9⟩ := hDg.out _ g02
    exact h9.hd.lt
  have e1 : decide ((4194304 : Int) < (k0 : Int)) = false := decide_eq_false (by omega)
  have e2 : decide ((4194304 : Int) - (k0 : Int) < 0) = false := decide_eq_false (by omega)
  have e3 : decide ((1048576 : Int) ≤ (n : Int)) = false := decide_eq_false (by omega)
  have hG := rGoes_any (hDg.out _ g0X) hl64 hnu
  rw [hg] at hG
  go_wp2_with fail
  rw [← hX]
  clear hX b2 e1 e2 e3
  refine hG.mono ?_
  rintro e w3 ⟨rfl, hRC3⟩
  obtain ⟨R1, hD3, s1, s2, hc, hk⟩ := hRC3
  have hz := g0X.size
  have hzX := gX.size
  have hxX := Lib.hid hbx.lt
  have hnR : ∀ j, w.heap.size ≤ j → ¬ R j := fun j hj e => by have := hRlt.out j e; omega
  have hz2 := g02.size
  have hbx3 := hbx.chg hc (hnR _ (by omega))
  have hr3 : RB w3 A0 k0 l := (hr.grew g0X).far hc fun ad e h => hrR ad e h
  have hxlt3 := hbx3.lt
  have y1 := hbx3.cell 1
  have gE : Grew w3 (w3.alloc (.cells #[] 5)) := (Chg.refl _ w3).alloc _
  have oE : OB (w3.alloc (.cells #[] 5)) w3.heap.size 5 (some ⟨w3.heap.size, 0, none⟩) 0 0 [] := Own.made w3 w3.heap.size 5 1 (Nat.le_refl _)
  have rN : RB (w3.alloc (.cells #[] 5)) none 0 [] := ⟨rfl, Rd.nil _ _⟩
  have hxv : putV V (x, l, 0) = insV V (x, l, 0) := by
    unfold putV
    rw [if_neg (by rw [hh]; simp)]
  have hVi : VOk (insV V (x, l, 0)) := fun v hv => by
    rcases List.mem_cons.1 ((insV_perm V (x, l, 0)).mem_iff.1 hv) with rfl | hv
    · exact ⟨Nat.zero_le _, by show l.length ≤ _; omega⟩
    · exact hV v hv
  have hli := insV_len V (x, l, 0)
  replace hbx3 := Lib.hid hbx3
  replace hxv := Lib.hid hxv
  replace hVi := Lib.hid hVi
  replace s1 := Lib.hid s1
  replace s2 := Lib.hid s2
  replace hc := Lib.hid hc
  replace hk := Lib.hid hk
  replace hr3 := Lib.hid hr3
  clear hG hbx x1 hV hh hDg hb0
  go_wp2_with (at_builtin; first | (refine wpList_appB rfl _ _ rfl w3.heap.size (some ⟨w3.heap.size, 0, none⟩) 0 0 [] rfl oE gE.size none 0 _ [] rfl rN (by omega) ?_; intro A5 c5 w5 h5; have g5 : Grew w3 w5 := h5.grew gE (hd_le1 (Nat.le_refl _)); have o5 := h5.ob; simp only [Nat.zero_add, List.nil_append] at o5; have r5 := hr3.out.grew g5) | (refine wpList_appB rfl _ _ rfl w3.heap.size A5 0 c5 [] rfl o5 g5.size A0 k0 _ l rfl r5 (by omega) ?_; intro A6 c6 w6 h6; have g6 : Grew w3 w6 := h6.grew g5 fun ad e => (Own.blk_lt o5 ad e).1; have o6 := h6.ob; simp only [Nat.zero_add, List.nil_append] at o6; have hb6 := hbx3.out.grew g6; have z1 := hb6.cell 1; have zf := hb6.frozen 1; have zl := hb6.lt; have z0r : (w6.setCell ⟨w2.heap.size, 1, none⟩ (.slice A6 k0 c6)).cell? ⟨w2.heap.size, 0, none⟩ = some (.string x) := (hb6.set 1 (.slice A6 k0 c6)).cell 0; have z1r : (w6.setCell ⟨w2.heap.size, 1, none⟩ (.slice A6 k0 c6)).cell? ⟨w2.heap.size, 1, none⟩ = some (.slice A6 k0 c6) := ((hb6.set 1 (.slice A6 k0 c6)).cell 1).trans (by simp); have z2r : (w6.setCell ⟨w2.heap.size, 1, none⟩ (.slice A6 k0 c6)).cell? ⟨w2.heap.size, 2, none⟩ = some (.int .i64 0) := (hb6.set 1 (.slice A6 k0 c6)).cell 2))
  obtain ⟨Z, hZ⟩ : ∃ Z, Z = w6.setCell ⟨w2.heap.size, 1, none⟩ (.slice A6 k0 c6) := ⟨_, rfl⟩
  have hcZ : Chg (fun j => j = w2.heap.size) w6 Z := by rw [hZ]; exact Chg.one _ _ _ _
  have hnR1 : ∀ j, MoreR R1 w3 w6 j → j ≠ w2.heap.size := fun j hj e => by
    rcases hj with h9 | h9
    · rcases s2.out j h9 with h8 | h8
      · have := hRlt.out j h8
        omega
      · have := hbx3.out.lt
        have hX9 : w2.heap.size < X.heap.size := hxX.out
        omega
    · have := hxlt3
      omega
  have hDZ := (hD3.more g6).chg hcZ hnR1
  have hEZ : FiE Z ⟨x, A6, k0, c6, 0⟩ (x, l, 0) := ⟨rfl, rfl, Own.mono (Own.chg o6 hcZ fun ad e e2 => Own.ne_blk o6 hb6 (by decide) ad e e2) (Nat.zero_le _)⟩
  have hPt := rPut_any hDZ (by omega) ⟨x, A6, k0, c6, 0⟩ (x, l, 0) hEZ fun ad e => .inr (Own.blk_lt o6 ad e)
  rw [hxv.out] at hPt
  dsimp only at hPt
  have hkZ : KD w3 Z := (KD.of_grew g6).trans (KD.blk hb6 (by decide) hcZ)
  have hS1 := Lib.hid fun j (h : R j) => (show MoreR R1 w3 w6 j from .inl (s1.out j h))
  have hS2 := Lib.hid fun j (h : MoreR R1 w3 w6 j) => (show R j ∨ w.heap.size ≤ j from by
    have := hc.out.size
    rcases h with h9 | h9
    · exact (s2.out j h9).imp id (by omega)
    · exact .inr (by omega))
  have hCw : Hid (Chg R w Z) := (((Chg.of_grew g0X).trans hc.out).grow g6).step hcZ fun j hj e => absurd hj (by
    have e : j = w2.heap.size := e
    omega)
  have hKw : Hid (KD w Z) := ((KD.of_grew g0X).trans hk.out).trans hkZ
  clear hDZ hEZ oE rN gE o5 o6 g5 r5 h5 h6 hb6 hD3
  clear hkZ
  go_wp2_with fail
  rw [← hZ]
  clear hZ z0r z1r z2r z1 zf zl
  refine hPt.mono ?_
  rintro e w8 ⟨rfl, R2, hD8, t1, t2, tc, tk⟩
  have hOff := rOff_any hD8 hVi.out (by omega) keep hkp
  obtain ⟨A9, n9, c9, ms9, hR9⟩ := hD8
  have c4 := hR9.hd.cell 4
  replace t1 := Lib.hid t1
  replace t2 := Lib.hid t2
  replace tc := Lib.hid tc
  replace tk := Lib.hid tk
  clear hR9 hPt
  go_wp2_with fail
  refine hOff.mono ?_
  rintro e w9 ⟨rfl, h8⟩
  have h9 := Lib.hid (RC.trans hS1.out hS2.out hCw.out hKw.out (RC.trans t1.out t2.out tc.out tk.out h8))
  clear hOff h8
  go_wp2
  go_ret
  exact ⟨by simp, h9.out⟩

set_option maxRecDepth 100000 in
set_option maxHeartbeats 4000000 in
theorem rAppend_full (hD : RFD R w wb V false armed left keep nu) (x : ByteArray) (hx : NmOk x) (hh : hasV V x = false) (A0 : Option Addr) (k0 c0 : Nat) (hk0 : k0 ≤ 4194304) (hfull : 1048576 ≤ V.length) :
    Calls Tryz.prog 61 #[.pointer (some ⟨wb, 0, none⟩), .string x, .slice A0 k0 c0] w fun e w' => e = .returned (.int .i64 63) ∧ Grew w w' := by
  have hRd := rReady_any hD x hx false
  rw [show (if (false && !hasV V x) = true then (62 : Int) else 0) = 0 from rfl] at hRd
  have hFi := Lib.hid fun w' (g : Grew w w') => rFind_any (hD.grew g) x
  have hDg := Lib.hid fun w' (g : Grew w w') => hD.grew g
  obtain ⟨A, n, c, ms, hR⟩ := hD
  have hwl := hR.ln
  have hcap := hR.row.cap
  have hb0 := Lib.hid fun w' (g : Grew w w') => (hR.hd.grew g).cell 0
  clear hR
  rw [hh] at hFi
  go_enter Tryz.func61, Tryz.ntmps61
  go_wp2_with fail
  refine hRd.mono ?_
  rintro e w1 ⟨rfl, g1⟩
  clear hRd
  go_wp2_with fail
  refine (hFi.out _ g1).mono ?_
  rintro e w2 ⟨rfl, g2⟩
  have g02 := g1.trans g2
  clear hFi
  obtain ⟨X, hX⟩ : ∃ X, X = w2.alloc (.cells #[.string x, .slice none 0 0, .int .i64 0] 55) := ⟨_, rfl⟩
  have gX : Grew w2 X := by rw [hX]; exact (Chg.refl _ w2).alloc _
  have hbx : Blk X w2.heap.size 55 #[.string x, .slice none 0 0, .int .i64 0] := by rw [hX]; exact Blk.new w2 _ _
  have g0X := g02.trans gX
  have x1 := hbx.cell 1
  have b2 := hb0.out _ g02
  have hwb2 : wb < w2.heap.size := by
    obtain ⟨_, _, _, _, h9⟩ := hDg.out _ g02
    exact h9.hd.lt
  have e1 : decide ((4194304 : Int) < (k0 : Int)) = false := decide_eq_false (by omega)
  have e2 : decide ((4194304 : Int) - (k0 : Int) < 0) = false := decide_eq_false (by omega)
  have e3 : decide ((1048576 : Int) ≤ (n : Int)) = true := decide_eq_true (by omega)
  go_wp2
  go_ret
  exact ⟨by simp, g02.alloc _⟩
end
end Go.Proofs.YtepncgeaehjhiaaGreat
