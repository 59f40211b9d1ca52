/-
  Several texts in one:
  The document's store: what it reads. Conditions: lengths that memory bears.
-/
import Derived.Test.YtepncgeaehjhiaaGreatPart38
import Derived.Test.YtepncgeaehjhiaaGreatPart32

namespace Go.Proofs.YtepncgeaehjhiaaGreat
open Go.RowKit

/-- the document's store sb over its disk wb -/
structure RSt (R : Nat → Prop) (w : World) (sb wb : Nat) (Ob : List OEnt) (armed : Bool) (left keep : Int) (nu : Nat) (V : List Vw) : Prop where
  st : Blk w sb 53 #[.pointer (some ⟨wb, 0, none⟩)]
  sn : ¬ R sb
  rf : RFD R w wb V false armed left keep nu
  so : SortV V
  pe : V.Perm (Ob.map OEnt.view)
  ok : ∀ o ∈ Ob, o.Ok
  nd : (Ob.map OEnt.key).Nodup
section
variable {R : Nat → Prop} {w w' : World} {sb wb : Nat} {Ob : List OEnt} {armed : Bool} {left keep : Int} {nu : Nat} {V : List Vw}
theorem RSt.len (h : RSt R w sb wb Ob armed left keep nu V) : V.length = Ob.length := by rw [h.pe.length_eq, List.length_map]
theorem RSt.vok (h : RSt R w sb wb Ob armed left keep nu V) : VOk V := fun v hv => by
  obtain ⟨o, ho, rfl⟩ := List.mem_map.1 (h.pe.mem_iff.1 hv)
  have h1 := h.ok o ho
  have h2 := hdr_length h1.gen
  have h3 := h1.data
  refine ⟨Nat.le_refl _, ?_⟩
  show (hdr o.gen ++ o.data).length ≤ _
  rw [List.length_append]
  omega
theorem RSt.chg {T : Nat → Prop} (h : RSt R w sb wb Ob armed left keep nu V) (hc : Chg T w w') (hs : ¬ T sb) (hT : ∀ k, R k → ¬ T k) : RSt R w' sb wb Ob armed left keep nu V := ⟨h.st.chg hc hs, h.sn, h.rf.chg hc hT, h.so, h.pe, h.ok, h.nd⟩
theorem RSt.grew (h : RSt R w sb wb Ob armed left keep nu V) (hc : Grew w w') : RSt R w' sb wb Ob armed left keep nu V := h.chg hc (fun e => e) fun _ _ e => e
theorem RSt.here (h : RSt R w sb wb Ob armed left keep nu V) {x : ByteArray} {o : OEnt} (hl : lookO Ob x = some o) : hasV V (oN ++ x) = true ∧ V[posV V (oN ++ x)]? = some o.view ∧ o ∈ Ob ∧ o.key = x := by
  obtain ⟨hk, i, hi⟩ := look_here hl
  have ho := List.mem_of_getElem? hi
  have hv : o.view ∈ V := h.pe.mem_iff.2 (List.mem_map_of_mem ho)
  obtain ⟨h1, h2⟩ := hasV_mem (x := oN ++ x) h.so hv (by show oN ++ o.key = _; rw [hk])
  exact ⟨h1, h2, ho, hk⟩
theorem RSt.gone (h : RSt R w sb wb Ob armed left keep nu V) {x : ByteArray} (hl : lookO Ob x = none) : hasV V (oN ++ x) = false := hasV_not fun v hv e => by
  obtain ⟨o, ho, rfl⟩ := List.mem_map.1 (h.pe.mem_iff.1 hv)
  exact look_not hl o ho (oN_inj e)
theorem RSt.noT (h : RSt R w sb wb Ob armed left keep nu V) (x : ByteArray) : hasV V (tN ++ x) = false := hasV_not fun v hv e => by
  obtain ⟨o, ho, rfl⟩ := List.mem_map.1 (h.pe.mem_iff.1 hv)
  exact oN_tN _ _ e
/-- what a look gives -/
def GotR (w : World) (r : Option OEnt) (e : Ending) (w' : World) : Prop :=
  match r with
  | some o => ∃ A c, e = .returned (.tuple #[.slice A o.data.length c, .int .u64 (o.gen : Int), .int .i64 0]) ∧ OB w' w.heap.size 5 A o.data.length c o.data ∧ Grew w w'
  | none => e = .returned (.tuple #[.slice none 0 0, .int .u64 0, .int .i64 111]) ∧ Grew w w'

set_option maxRecDepth 100000 in
set_option maxHeartbeats 2000000 in
theorem rlook_some (h : RSt R w sb wb Ob armed left keep nu V) (x : ByteArray) {o : OEnt} (hl : lookO Ob x = some o) :
    Calls Tryz.prog 57 #[.pointer (some ⟨sb, 0, none⟩), .string x] w (GotR w (some o)) := by
  obtain ⟨hh, hv, hom, hok⟩ := h.here hl
  have ho := h.ok o hom
  have hkx := ho.key
  rw [hok] at hkx
  have hxs := keyB_size hkx
  have hR := rRead_ok h.rf (oN ++ x) (nm_o hkx) hv hh (h.vok _ (List.mem_of_getElem? hv)).2
  have s0 : w.cell? ⟨sb, 0, none⟩ = some (.pointer (some ⟨wb, 0, none⟩)) := h.st.cell 0
  have hhl := hdr_length ho.gen
  have hdl := ho.data
  unfold oN at hR
  have hU := unfR_at [] (uv o.gen) o.data (by have := uv_len10 ho.gen; omega)
  have hV := uintR_at [] [] o.gen ho.gen
  have hul := uv_len10 ho.gen
  simp only [List.nil_append, List.append_nil, List.length_nil, Nat.zero_add] at hU hV
  have hH : (uv (uv o.gen).length).length + 4 + (uv o.gen).length = (hdr o.gen).length := by unfold hdr; rw [frameB_length]
  rw [hH] at hU
  rw [show frameB (uv o.gen) = hdr o.gen from rfl] at hU
  have hvl : o.view.2.1 = hdr o.gen ++ o.data := rfl
  rw [hvl] at hR
  have hlen : (hdr o.gen ++ o.data).length = (hdr o.gen).length + o.data.length := List.length_append
  have hdrop : (hdr o.gen ++ o.data).drop (hdr o.gen).length = o.data := List.drop_left
  clear hvl hH hv hh h hom hl
  generalize (hdr o.gen ++ o.data) = l at *
  generalize (hdr o.gen).length = hn at *
  generalize hun : (uv o.gen).length = un at *
  generalize uv o.gen = ul at *
  generalize hdn : o.data.length = dn at *
  generalize hln : l.length = ln at *
  subst hlen
  have hU' : unfR l 0 = (ul, hn, 0) := hU
  have hV' : uintR ul 0 = (o.gen, un, 0) := hV
  clear hU hV
  have hUn := fun A c w h1 h2 h3 => hU' ▸ refUnframe_any A (hn + dn) c l 0 w h1 h2 h3
  have hVn := fun B k c w h1 h2 => hV' ▸ refUint_any B k c ul 0 w h1 h2
  clear hU' hV' hok ho
  go_enter Tryz.func57, Tryz.ntmps57
  go_wp2_with fail
  refine hR.mono ?_
  rintro e w1 ⟨A1, c1, rfl, hO1, hG1⟩
  have hcap1 := hO1.cap
  go_wp2_with fail
  refine (hUn A1 c1 w1 hO1.rb (by omega) hcap1).mono ?_
  rintro e w2 ⟨B, k, C, rfl, hO2, hG2⟩
  obtain rfl : un = k := hun.symm.trans hO2.len
  clear hUn
  go_wp2_with fail
  refine (hVn B _ C w2 hO2.rb (by omega)).mono ?_
  unfold UintPost uintEnd
  rintro e w3 ⟨rfl, rfl⟩
  clear hVn
  have hdn := Lib.hid hdn
  have hln := Lib.hid hln
  clear hR
  have hG := hG1.trans hG2
  have gE : Grew w (w3.alloc (.cells #[] 5)) := hG.alloc _
  have hz3 := hG.size
  have oE : OB (w3.alloc (.cells #[] 5)) w.heap.size 5 (some ⟨w3.heap.size, 0, none⟩) 0 0 [] := Own.made w3 w.heap.size 5 1 hz3
  have hrd := hO1.rb.dropO hn
  rw [Nat.add_sub_cancel_left, hdrop] at hrd
  have hrd := (hrd.grew hG2).grew ((Chg.refl _ w3).alloc (.cells #[] 5))
  clear hO1 hdrop hO2 s0
  unfold GotR
  by_cases hca : c1 = hn
  · obtain rfl : dn = 0 := by omega
    have hd0 : o.data = [] := List.eq_nil_of_length_eq_zero hdn.out
    have hz : RB (w3.alloc (.cells #[] 5)) A1 0 [] := ⟨rfl, Rd.nil _ _⟩
    replace hd0 := Lib.hid hd0
    subst hca
    clear hrd
    go_wp2_with (at_builtin; refine wpList_appB rfl _ _ rfl w.heap.size (some ⟨w3.heap.size, 0, none⟩) 0 0 [] rfl oE gE.size A1 0 _ [] rfl hz (by omega) ?_; intro A5 c5 w5 h5)
    have g5 : Grew w w5 := h5.grew gE (hd_le1 hz3)
    have o5 := h5.ob
    simp only [Nat.zero_add, List.nil_append] at o5
    clear h5 oE hz
    rw [← hd0.out] at o5
    refine bodyPost_ret (v := .tuple #[.slice A5 0 c5, .int .u64 (o.gen : Int), .int .i64 0]) ?_ rfl ⟨A5, c5, by rw [hdn.out], by rw [hdn.out]; exact o5, g5⟩
    simp [results, Tryz.results57, go_sem]
  · have hca' : decide (c1 = hn) = false := decide_eq_false hca
    have hcl : hn < c1 := by omega
    go_wp2_with (at_builtin; refine wpList_appB rfl _ _ rfl w.heap.size (some ⟨w3.heap.size, 0, none⟩) 0 0 [] rfl oE gE.size (A1.map fun x => x.add hn) dn _ o.data rfl hrd (by omega) ?_; intro A5 c5 w5 h5)
    have g5 : Grew w w5 := h5.grew gE (hd_le1 hz3)
    have o5 := h5.ob
    simp only [Nat.zero_add, List.nil_append] at o5
    clear h5 oE hrd
    refine bodyPost_ret (v := .tuple #[.slice A5 dn c5, .int .u64 (o.gen : Int), .int .i64 0]) ?_ rfl ⟨A5, c5, by rw [hdn.out], by rw [hdn.out]; exact o5, g5⟩
    simp [results, Tryz.results57, go_sem]
set_option maxHeartbeats 2000000 in
theorem rlook_none (h : RSt R w sb wb Ob armed left keep nu V) (x : ByteArray) (hx : keyB x = true) (hl : lookO Ob x = none) :
    Calls Tryz.prog 57 #[.pointer (some ⟨sb, 0, none⟩), .string x] w (GotR w none) := by
  have hR := rRead_none h.rf (oN ++ x) (nm_o hx) (h.gone hl)
  have hxs := keyB_size hx
  have s0 : w.cell? ⟨sb, 0, none⟩ = some (.pointer (some ⟨wb, 0, none⟩)) := h.st.cell 0
  unfold oN at hR
  clear h
  go_enter Tryz.func57, Tryz.ntmps57
  go_wp2_with fail
  refine hR.mono ?_
  rintro e w1 ⟨rfl, g1⟩
  go_wp2
  unfold GotR
  refine bodyPost_ret (v := .tuple #[.slice none 0 0, .int .u64 0, .int .i64 111]) ?_ rfl ⟨rfl, g1⟩
  simp [results, Tryz.results57, go_sem]
theorem rlook_any (h : RSt R w sb wb Ob armed left keep nu V) (x : ByteArray) (hx : keyB x = true) :
    Calls Tryz.prog 57 #[.pointer (some ⟨sb, 0, none⟩), .string x] w (GotR w (lookO Ob x)) := by
  cases hl : lookO Ob x with
  | none => exact rlook_none h x hx hl
  | some o => exact rlook_some h x hl
/-- what a look gives, for a put: the generation -/
theorem rlook_gen (h : RSt R w sb wb Ob armed left keep nu V) (x : ByteArray) (hx : keyB x = true) :
    Calls Tryz.prog 57 #[.pointer (some ⟨sb, 0, none⟩), .string x] w fun e w' => (∃ v z, e = .returned (.tuple #[v, .int .u64 (genO Ob x : Int), z])) ∧ Grew w w' := by
  refine (rlook_any h x hx).mono ?_
  unfold GotR genO
  cases lookO Ob x with
  | none =>
    rintro e w' ⟨rfl, g⟩
    exact ⟨⟨_, _, rfl⟩, g⟩
  | some o =>
    rintro e w' ⟨A, c, rfl, _, g⟩
    exact ⟨⟨_, _, rfl⟩, g⟩
set_option maxHeartbeats 2000000 in
theorem rGet_any (h : RSt R w sb wb Ob armed left keep nu V) (x : ByteArray) (hx : keyB x = true) :
    Calls Tryz.prog 34 #[.pointer (some ⟨sb, 0, none⟩), .string x] w (GotR w (lookO Ob x)) := by
  have hL := rlook_any h x hx
  have hK := rKey_any x w
  rw [hx] at hK
  clear h
  unfold GotR at hL ⊢
  cases hl : lookO Ob x with
  | none =>
    rw [hl] at hL
    simp only at hL ⊢
    go_enter Tryz.func34, Tryz.ntmps34
    go_wp2_with fail
    refine hK.mono ?_
    rintro e w1 ⟨rfl, rfl⟩
    go_wp2_with fail
    refine hL.mono ?_
    rintro e w1 ⟨rfl, g1⟩
    go_wp2
    refine bodyPost_ret (v := .tuple #[.slice none 0 0, .int .u64 0, .int .i64 111]) ?_ rfl ⟨rfl, g1⟩
    simp [results, Tryz.results34, go_sem]
  | some o =>
    rw [hl] at hL
    simp only at hL ⊢
    generalize o.data = od at *
    generalize hdn : od.length = dn at *
    go_enter Tryz.func34, Tryz.ntmps34
    go_wp2_with fail
    refine hK.mono ?_
    rintro e w1 ⟨rfl, rfl⟩
    go_wp2_with fail
    refine hL.mono ?_
    rintro e w1 ⟨A, c, rfl, hO, g1⟩
    go_wp2
    refine bodyPost_ret (v := .tuple #[.slice A dn c, .int .u64 (o.gen : Int), .int .i64 0]) ?_ rfl ⟨A, c, rfl, hO, g1⟩
    simp [results, Tryz.results34, go_sem]
set_option maxHeartbeats 2000000 in
theorem rGet_bad (x : ByteArray) (hx : keyB x = false) (v : Value) (w : World) :
    Calls Tryz.prog 34 #[v, .string x] w fun e w' => e = .returned (.tuple #[.slice none 0 0, .int .u64 0, .int .i64 110]) ∧ Grew w w' := by
  have hK := rKey_any x w
  rw [hx] at hK
  go_enter Tryz.func34, Tryz.ntmps34
  go_wp2_with fail
  refine hK.mono ?_
  rintro e w1 ⟨rfl, rfl⟩
  go_wp2
  refine bodyPost_ret (v := .tuple #[.slice none 0 0, .int .u64 0, .int .i64 110]) ?_ rfl ⟨rfl, Chg.refl _ _⟩
  simp [results, Tryz.results34, go_sem]
set_option maxHeartbeats 2000000 in
theorem rGet_off {V : List Vw} (hD : RFD R w wb V true armed left keep nu) (hst : Blk w sb 53 #[.pointer (some ⟨wb, 0, none⟩)]) (x : ByteArray) (hx : keyB x = true) :
    Calls Tryz.prog 34 #[.pointer (some ⟨sb, 0, none⟩), .string x] w fun e w' => e = .returned (.tuple #[.slice none 0 0, .int .u64 0, .int .i64 60]) ∧ Grew w w' := by
  have hK := rKey_any x w
  rw [hx] at hK
  have hxs := keyB_size hx
  have hR := rRead_off hD (oN ++ x)
  unfold oN at hR
  have s0 : w.cell? ⟨sb, 0, none⟩ = some (.pointer (some ⟨wb, 0, none⟩)) := hst.cell 0
  have hL : Calls Tryz.prog 57 #[.pointer (some ⟨sb, 0, none⟩), .string x] w fun e w' => e = .returned (.tuple #[.slice none 0 0, .int .u64 0, .int .i64 60]) ∧ Grew w w' := by
    clear hD hst hK
    go_enter Tryz.func57, Tryz.ntmps57
    go_wp2_with fail
    refine hR.mono ?_
    rintro e w1 ⟨rfl, g1⟩
    go_wp2
    refine bodyPost_ret (v := .tuple #[.slice none 0 0, .int .u64 0, .int .i64 60]) ?_ rfl ⟨rfl, g1⟩
    simp [results, Tryz.results57, go_sem]
  clear hD hst hR s0
  go_enter Tryz.func34, Tryz.ntmps34
  go_wp2_with fail
  refine hK.mono ?_
  rintro e w1 ⟨rfl, rfl⟩
  go_wp2_with fail
  refine hL.mono ?_
  rintro e w1 ⟨rfl, g1⟩
  go_wp2
  refine bodyPost_ret (v := .tuple #[.slice none 0 0, .int .u64 0, .int .i64 60]) ?_ rfl ⟨rfl, g1⟩
  simp [results, Tryz.results34, go_sem]
end
end Go.Proofs.YtepncgeaehjhiaaGreat
