/-
  Several texts in one:
  The document's store: List, Open. Conditions: counts that have not come to their ends.
  Append and Put at a disk of as many files as may be; an object's deletion at which the power goes. Conditions: counts that have not come to their ends.
-/
import Derived.Test.YtepncgeaehjhiaaGreatPart42
import Derived.Test.YtepncgeaehjhiaaGreatPart33
import Derived.Test.YtepncgeaehjhiaaGreatPart40

namespace Go.Proofs.YtepncgeaehjhiaaGreat
open Go.RowKit

theorem sortT_self {l : List ByteArray} (h : l.Pairwise fun a b => lst a < lst b) : sortT l = l := by
  unfold sortT
  rw [List.mergeSort_of_pairwise (List.pairwise_map.2 (h.imp fun {a b} h => decide_eq_true (List.le_of_lt h))), List.map_map]
  rw [show (txt ∘ lst) = id from funext fun s => txt_lst s]
  simp
theorem preO (x : ByteArray) : Lib.hasPrefix (lst (oN ++ x)) (lst oN) = true := by
  rw [lst_append]
  exact List.isPrefixOf_iff_prefix.2 (List.prefix_append _ _)
theorem preT (x : ByteArray) : Lib.hasPrefix (lst (tN ++ x)) (lst tN) = true := by
  rw [lst_append]
  exact List.isPrefixOf_iff_prefix.2 (List.prefix_append _ _)
theorem preOT (x : ByteArray) : Lib.hasPrefix (lst (oN ++ x)) (lst tN) = false := by
  rw [lst_append]
  show Lib.hasPrefix (111 :: 47 :: lst x) [116, 47] = false
  unfold Lib.hasPrefix
  simp [List.isPrefixOf]
theorem hasP_nil (x : ByteArray) : hasP x ⟨#[]⟩ = true := by
  unfold hasP Lib.hasPrefix
  exact List.isPrefixOf_iff_prefix.2 (List.nil_prefix)
theorem keysO_all (Ob : List OEnt) : keysO Ob ⟨#[]⟩ = sortT (Ob.map OEnt.key) := by
  unfold keysO
  have : (Ob.filter fun o => hasP o.key ⟨#[]⟩) = Ob := List.filter_eq_self.2 fun o _ => hasP_nil o.key
  rw [this]
section
variable {R : Nat → Prop} {w w' : World} {sb wb : Nat} {Ob : List OEnt} {armed : Bool} {left keep : Int} {nu : Nat} {V : List Vw}
theorem RSt.names (h : RSt R w sb wb Ob armed left keep nu V) : namesV V oN = (keysO Ob ⟨#[]⟩).map fun k => oN ++ k := by
  have h1 : namesV V oN = V.map Prod.fst := by
    unfold namesV
    rw [List.filter_eq_self.2 fun v hv => ?_]
    obtain ⟨o, _, rfl⟩ := List.mem_map.1 (h.pe.mem_iff.1 hv)
    exact preO o.key
  have h2 : (V.map Prod.fst).Perm ((Ob.map OEnt.key).map fun k => oN ++ k) := by
    have := h.pe.map Prod.fst
    rw [List.map_map] at this
    rw [List.map_map]
    exact this
  rw [h1, keysO_all, ← sortT_pre, ← sortT_of_perm h2]
  exact (sortT_self (List.pairwise_map.2 h.so)).symm

set_option maxRecDepth 100000 in
set_option maxHeartbeats 4000000 in
theorem rStoreList (h : RSt R w sb wb Ob armed left keep nu V) (hlen : Ob.length ≤ 1048576) :
    Calls Tryz.prog 37 #[.pointer (some ⟨sb, 0, none⟩), .string ⟨#[]⟩] w fun e w' => ∃ A c, e = .returned (.slice A (keysO Ob ⟨#[]⟩).length c) ∧ OE elNm w' w.heap.size 9 A (keysO Ob ⟨#[]⟩).length c (keysO Ob ⟨#[]⟩) ∧ Grew w w' := by
  have hL := rList_any h.rf (by rw [h.len]; omega) oN rfl
  rw [h.names] at hL
  have hkl := keysO_len Ob ⟨#[]⟩
  have s0 : w.cell? ⟨sb, 0, none⟩ = some (.pointer (some ⟨wb, 0, none⟩)) := h.st.cell 0
  generalize keysO Ob ⟨#[]⟩ = K at *
  rw [List.length_map] at hL
  unfold oN at hL
  obtain ⟨kn, hkn⟩ : ∃ kn, K.length = kn := ⟨_, rfl⟩
  rw [hkn] at hL hkl ⊢
  clear h
  go_enter Tryz.func37, Tryz.ntmps37
  go_wp2_with fail
  refine (hL).mono ?_
  rintro e w1 ⟨A, c, rfl, hO, hG⟩
  have hOr := hO.re (by decide)
  have hsz := hG.size
  clear hL
  go_wp2
  go_loopw [5, 7] (fun v i wr => ∃ k : Nat, k ≤ kn ∧ i = .int .i64 k ∧ ∃ B cb, v = .slice B k cb ∧ OE elNm wr w1.heap.size 9 B k cb (K.take k) ∧ Grew w1 wr) (fun _ i _ => kn - (intOf i).toNat)
  case atStart => exact ⟨0, by omega, rfl, none, 0, rfl, OE.nil _ _ _, Chg.refl _ _⟩
  case round =>
    obtain ⟨k, hk, rfl, B, cb, rfl, hB, hg⟩ := hrel
    by_cases hlt : k < kn
    · have hcl := hg.size
      obtain ⟨ad, x, rfl, hx, hcx⟩ := (hOr.grew hg).at_ hlt (by decide)
      have hcx := hcx 0 _ rfl
      rw [List.getElem?_map] at hx
      cases hK : K[k]? with
      | none => rw [hK] at hx; cases hx
      | some y =>
      rw [hK] at hx
      injection hx with hx
      subst hx
      have hcx : wr.cell? (ad.add k) = some (.string ((⟨#[111, 47]⟩ : ByteArray) ++ y)) := by simpa [elNm] using hcx
      have hys : 2 ≤ ((⟨#[111, 47]⟩ : ByteArray) ++ y).size := by rw [ByteArray.size_append]; exact Nat.le_add_right _ _
      have hcut : ((⟨#[111, 47]⟩ : ByteArray) ++ y).extract 2 ((⟨#[111, 47]⟩ : ByteArray) ++ y).size = y := cut2_o y
      have hKt : K.take (k + 1) = K.take k ++ [y] := by rw [List.take_add_one, hK]; rfl
      have hKt := Lib.hid hKt
      generalize ((⟨#[111, 47]⟩ : ByteArray) ++ y) = z at *
      have hsrc : RE elNm (wr.alloc (.cells #[.string y] 9)) (some ⟨wr.heap.size, 0, none⟩) 1 [y] := RE.newAt rfl rfl rfl
      have hown : OE elNm (wr.alloc (.cells #[.string y] 9)) w1.heap.size 9 B k cb (K.take k) := hB.grew ((Chg.refl _ wr).alloc _)
      go_wp2_with (at_builtin; refine wpList_appE rfl _ _ 47 9 infoNm rfl Tryz.underlying47 rfl w1.heap.size B k cb (K.take k) rfl hown (by simp; omega) _ 1 1 [y] rfl hsrc (by unfold maxLen; omega) (by omega) ?_; intro A3 c3 w3 h3)
      have hc3 : Grew w1 w3 := h3.grew (hg.alloc _) fun ad e => (Own.blk_lt hB ad e).1
      have ho3 := h3.oe
      rw [← hKt.out] at ho3
      clear h3 hsrc hown hcx
      go_wp2
      go_roundw
      case rel => exact ⟨k + 1, by omega, by go_num, A3, c3, by simp, by simpa using ho3, hc3⟩
      case measure => simp [intOf]; omega
    · have hke : k = kn := by omega
      subst hke
      rw [List.take_of_length_le (by omega)] at hB
      go_wp2
      go_ret
      exact ⟨B, cb, by simp, hB.mono hsz, hG.trans hg⟩
set_option maxRecDepth 100000 in
set_option maxHeartbeats 4000000 in
theorem rStoreList_off (hD : RFD R w wb V true armed left keep nu) (hst : Blk w sb 53 #[.pointer (some ⟨wb, 0, none⟩)]) :
    Calls Tryz.prog 37 #[.pointer (some ⟨sb, 0, none⟩), .string ⟨#[]⟩] w fun e w' => e = .returned (.slice none 0 0) ∧ Grew w w' := by
  have hL := rList_off hD oN
  have s0 : w.cell? ⟨sb, 0, none⟩ = some (.pointer (some ⟨wb, 0, none⟩)) := hst.cell 0
  unfold oN at hL
  clear hD hst
  go_enter Tryz.func37, Tryz.ntmps37
  go_wp2_with fail
  refine (hL).mono ?_
  rintro e w1 ⟨rfl, hG⟩
  clear hL
  go_wp2
  refine wp_loop_rounds 1 ?_
  rw [rounds_succ]
  go_wp2
  go_ret
  exact ⟨by simp, hG⟩
theorem down_names {t : Option ByteArray} (h : DownV V Ob t) : namesV V tN = t.toList.map fun x => tN ++ x := by
  obtain ⟨F, hF, hp⟩ := h.pe
  have h1 : (namesV V tN).Perm (t.toList.map fun x => tN ++ x) := by
    unfold namesV
    refine ((hp.filter _).map _).trans ?_
    rw [List.filter_append, List.map_append]
    have h2 : (Ob.map OEnt.view).filter (fun v => Lib.hasPrefix (lst v.1) (lst tN)) = [] := by
      rw [List.filter_eq_nil_iff]
      intro v hv
      obtain ⟨o, _, rfl⟩ := List.mem_map.1 hv
      rw [show o.view.1 = oN ++ o.key from rfl, preOT]
      simp
    have h3 : F.filter (fun v => Lib.hasPrefix (lst v.1) (lst tN)) = F := by
      rw [List.filter_eq_self]
      intro v hv
      have h4 : v.1 ∈ F.map Prod.fst := List.mem_map_of_mem hv
      rw [hF] at h4
      obtain ⟨x, _, e⟩ := List.mem_map.1 h4
      rw [← e]
      exact preT x
    rw [h2, h3, hF]
    simp
  cases t with
  | none => exact List.perm_nil.1 h1
  | some x => exact List.perm_singleton.1 h1
theorem down_none (h : DownV V Ob none) : V.Perm (Ob.map OEnt.view) := by
  obtain ⟨F, hF, hp⟩ := h.pe
  have : F = [] := by simpa using hF
  subst this
  simpa using hp
/-- what an opening gives -/
def OpenR (R : Nat → Prop) (w : World) (wb : Nat) (Ob : List OEnt) (keep : Int) (nu : Nat) (e : Ending) (w' : World) : Prop := ∃ (sb : Nat) (R' : Nat → Prop) (V' : List Vw) (left' : Int), e = .returned (.tuple #[.pointer (some ⟨sb, 0, none⟩), .int .i64 0]) ∧ RSt R' w' sb wb Ob false left' keep nu V' ∧ (-9223372036854775808 ≤ left' ∧ left' ≤ 9223372036854775807) ∧ w.heap.size ≤ sb ∧ (∀ k, R k → R' k) ∧ (∀ k, R' k → R k ∨ w.heap.size ≤ k) ∧ Chg R w w'
set_option maxRecDepth 100000 in
set_option maxHeartbeats 4000000 in
theorem rOpen_none (hD : RFD R w wb V false false left keep nu) (hl64 : -9223372036854775808 ≤ left ∧ left ≤ 9223372036854775807) (hv : DownV V Ob none) (hlen : Ob.length ≤ 1048576) (hok : ∀ o ∈ Ob, o.Ok) (hnd : (Ob.map OEnt.key).Nodup) :
    Calls Tryz.prog 6 #[.pointer (some ⟨wb, 0, none⟩)] w (OpenR R w wb Ob keep nu) := by
  have hpe := down_none hv
  have hL := rList_any hD (by rw [hpe.length_eq, List.length_map]; omega) tN rfl
  rw [down_names hv] at hL
  unfold tN at hL
  simp only [Option.toList_none, List.map_nil, List.length_nil] at hL
  have hso := hv.so
  have hDg := Lib.hid fun w' (g : Grew w w') => hD.grew g
  have hRlt := Lib.hid hD.lt
  have c1 : w.cell? ⟨wb, 1, none⟩ = some (.bool false) := by
    obtain ⟨_, _, _, _, h9⟩ := hD
    exact h9.hd.cell 1
  replace hok := Lib.hid hok
  replace hnd := Lib.hid hnd
  replace hpe := Lib.hid hpe
  replace hso := Lib.hid hso
  clear hD hv
  go_enter Tryz.func6, Tryz.ntmps6
  go_wp2_with fail
  refine hL.mono ?_
  rintro e w1 ⟨A, c, rfl, hO, g1⟩
  clear hL hO
  go_wp2
  refine wp_loop_rounds 1 ?_
  rw [rounds_succ]
  go_wp2
  have gX : Grew w1 (w1.alloc (.cells #[.pointer (some ⟨wb, 0, none⟩)] 53)) := (Chg.refl _ w1).alloc _
  have hz := g1.size
  refine bodyPost_ret (v := .tuple #[.pointer (some ⟨w1.heap.size, 0, none⟩), .int .i64 0]) ?_ rfl ⟨w1.heap.size, R, V, left, rfl, ⟨Blk.new w1 _ _, fun e => by have := hRlt.out _ e; omega, hDg.out _ (g1.trans gX), hso.out, hpe.out, hok.out, hnd.out⟩, hl64, hz, fun _ e => e, fun _ e => .inl e, Chg.of_grew (g1.trans gX)⟩
  simp [results, Tryz.results6, go_sem]
set_option maxRecDepth 100000 in
set_option maxHeartbeats 4000000 in
theorem rOpen_one (hD : RFD R w wb V false false left keep nu) (hl64 : -9223372036854775808 ≤ left ∧ left ≤ 9223372036854775807) (hnu : nu ≤ 1000000000000000000) (hkp : keep ≤ 9223372036854775807) {x : ByteArray} (hx : keyB x = true) (hv : DownV V Ob (some x)) (hlen : Ob.length < 1048576) (hok : ∀ o ∈ Ob, o.Ok) (hnd : (Ob.map OEnt.key).Nodup) :
    Calls Tryz.prog 6 #[.pointer (some ⟨wb, 0, none⟩)] w (OpenR R w wb Ob keep (nu + 1)) := by
  obtain ⟨F, hF, hp⟩ := hv.pe
  obtain ⟨f, rfl⟩ : ∃ f, F = [f] := by
    have := congrArg List.length hF
    rw [List.length_map] at this
    match F, this with
    | [f], _ => exact ⟨f, rfl⟩
  have hf : f.1 = tN ++ x := by simpa using hF
  have hVl : V.length = Ob.length + 1 := by rw [hp.length_eq]; simp []
  have hL := rList_any hD (by omega) tN rfl
  rw [down_names hv] at hL
  simp only [Option.toList_some, List.map_cons, List.map_nil, List.length_cons, List.length_nil, Nat.zero_add] at hL
  obtain ⟨hh, hat⟩ := hasV_mem (x := tN ++ x) hv.so (hp.mem_iff.2 (List.mem_append_left _ (List.mem_singleton.2 rfl))) hf
  have hDel := fun w1 (g : Grew w w1) => rDelete_ok (hD.grew g) hl64 (by omega) hv.vok (by omega) hkp (tN ++ x) (nm_t hx) hat hh rfl
  have hso := delV_sort hv.so (posV V (tN ++ x))
  have hpe : (V.eraseIdx (posV V (tN ++ x))).Perm (Ob.map OEnt.view) := List.Perm.cons_inv ((delV_perm hat).symm.trans hp)
  have hRlt := Lib.hid hD.lt
  have c1 : w.cell? ⟨wb, 1, none⟩ = some (.bool false) := by
    obtain ⟨_, _, _, _, h9⟩ := hD
    exact h9.hd.cell 1
  have hxs := keyB_size hx
  generalize V.eraseIdx (posV V (tN ++ x)) = V2 at *
  unfold tN at hL hDel
  generalize ((⟨#[116, 47]⟩ : ByteArray) ++ x) = y at *
  replace hDel := Lib.hid hDel
  replace hok := Lib.hid hok
  replace hnd := Lib.hid hnd
  replace hpe := Lib.hid hpe
  replace hso := Lib.hid hso
  clear hD hv hp hat hF hf hh
  go_enter Tryz.func6, Tryz.ntmps6
  go_wp2_with fail
  refine hL.mono ?_
  rintro e w1 ⟨A, c, rfl, hO, g1⟩
  obtain ⟨ad, y', rfl, hy, hcy⟩ := (hO.re (by decide)).at_ (k := 0) (by omega) (by decide)
  have hcy := hcy 0 _ rfl
  simp only [List.getElem?_cons_zero, Option.some.injEq] at hy
  subst hy
  simp only [Nat.zero_mul, Nat.add_zero] at hcy
  have z1 : ad.add 0 = ad := by unfold Addr.add; simp
  have hcy1 := hcy
  rw [z1] at hcy1
  have hcap := hO.cap
  clear hL z1 hO
  go_wp2
  refine wp_loop_rounds 2 ?_
  rw [rounds_succ]
  go_wp2_with fail
  refine (hDel.out w1 g1).mono ?_
  rintro e w2 ⟨rfl, R1, hD1, s1, s2, sc, sk⟩
  have hz := g1.size
  have hz2 := sc.size
  have hR1 := Lib.hid hD1.lt
  replace hD1 := Lib.hid hD1
  replace sc := Lib.hid sc
  replace s1 := Lib.hid s1
  replace s2 := Lib.hid s2
  clear sk
  go_wp2_with fail
  rw [rounds_succ]
  go_wp2
  have gX : Grew w2 (w2.alloc (.cells #[.pointer (some ⟨wb, 0, none⟩)] 53)) := (Chg.refl _ w2).alloc _
  refine bodyPost_ret (v := .tuple #[.pointer (some ⟨w2.heap.size, 0, none⟩), .int .i64 0]) ?_ rfl ⟨w2.heap.size, R1, V2, _, rfl, ⟨Blk.new w2 _ _, fun e => by have := hR1.out _ e; omega, hD1.out.grew gX, hso.out, hpe.out, hok.out, hnd.out⟩, leftG_rng hl64, by omega, s1.out, fun k e => (s2.out k e).imp id (by omega), ((Chg.of_grew g1).trans sc.out).grow gX⟩
  simp [results, Tryz.results6, go_sem]
end
end Go.Proofs.YtepncgeaehjhiaaGreat

namespace Go.Proofs.YtepncgeaehjhiaaGreat
open Go.RowKit

set_option maxHeartbeats 800000 in
theorem app_full {O : Nat → Prop} {w : World} {d m : Nat} {es : Array MapEntry} {clock : Nat} {up armed : Bool} {left keep : Int} {n : Nat} (hD : Dsk O w d m es clock up armed left keep n) (x : ByteArray) (hc : NmOk x)
    (h : Instr.findNow .string (.string x) es.toList 0 = some none) (hes : 1048576 ≤ es.size) (hes2 : es.size ≤ 2000000) {p q s : Nat} {A : Option Addr} {k cap : Nat} (hp : w.cell? ⟨p, 0, none⟩ = some (.string x)) (hq : w.cell? ⟨q, 0, none⟩ = some (.pointer (some ⟨d, 0, none⟩)))
    (hs : w.cell? ⟨s, 0, none⟩ = some (.slice A k cap)) :
    Calls Tryz.prog 100 #[.pointer (some ⟨p, 0, none⟩), .pointer (some ⟨q, 0, none⟩), .pointer (some ⟨s, 0, none⟩)] w fun e w' => e = .returned (.int .i64 63) ∧ ∃ k, w' = w.drewN k := by
  have hN := name_ok x hc
  have hl := look_disk hD.hm.drew h
  have c0 := hD.c0
  have hlen : (Builtin.len_ #[44] 3 #[.map (some m)]).run Tryz.prog w.drew.drew = .ok (.int .i64 (es.size : Int)) w.drew.drew := by
    have hb := hD.hm.drew.drew
    unfold MapB at hb
    simp [Builtin.len_, run_underlying Tryz.underlying44, MapKept.run_getObj_map hb, Result.andThen, goInt]
  have e1 : decide ((1048576 : Int) ≤ (es.size : Int)) = true := decide_eq_true (by omega)
  simp only [lookV] at hl
  clear h hD hc
  go_enter Tryz.func100, Tryz.ntmps100
  go_wp2_with fail
  refine (hN _).mono ?_
  rintro e w1 ⟨rfl, rfl⟩
  go_wp2_with fail
  refine wp_region_textS [] [q, d, p] (by kernel_rfl) (by kernel_rfl) (cellsIn_cons hq (cellsIn_cons c0 (cellsIn_cons hp (cellsIn_nil _)))) ?_
  simp only [wpU, tagOf, chk, List.nil_append, List.cons_append]
  intro K hK
  go_wp2_with fail
  refine OnlyN.normal (hK _ _ (fun _ => ⟨_, _, _, rfl, rfl, by simp⟩) ?_)
  clear hK K
  intro K hK
  go_wp2_with fail
  refine OnlyN.normal (hK _ _ (fun _ => ⟨_, _, _, rfl, rfl, by simp⟩) ?_)
  clear hK K
  intro K hK
  go_wp2_with fail
  refine OnlyN.normal (hK _ _ (fun _ => ⟨_, _, _, rfl, rfl, by simp⟩) ?_)
  clear hK K
  intro K hK
  go_wp2_with fail
  refine OnlyN.normal (hK _ _ (fun _ _ => rfl) ?_)
  clear hK K
  go_wp2_with fail
  refine OnlyN.normal ?_
  go_wp2_with fail
  refine wp_region_textS [(3, 1), (44, 9)] [q, d, s] (by kernel_rfl) (by kernel_rfl) (cellsIn_cons hq (cellsIn_cons c0 (cellsIn_cons hs (cellsIn_nil _)))) ?_
  simp only [wpU, tagOf, chk, look, Nat.reduceBEq, Bool.false_eq_true, if_true, if_false, List.cons_append, List.nil_append, List.getElem?_toArray, List.getElem?_cons_zero, Nat.reduceEqDiff]
  intro K hK
  go_wp2_with fail
  refine OnlyN.normal (hK _ _ (fun _ _ => rfl) ?_)
  clear hK K
  intro K hK
  go_wp2_with fail
  refine OnlyN.normal (hK _ _ (fun _ => ⟨_, _, _, rfl, rfl, by simp⟩) ?_)
  clear hK K
  intro K hK
  go_wp2_with fail
  refine OnlyN.normal (hK _ _ (fun _ => ⟨_, _, _, rfl, rfl, by simp⟩) ?_)
  clear hK K
  intro K hK
  go_wp2_with fail
  refine OnlyN.normal (hK _ _ (fun _ _ => rfl) ?_)
  clear hK K
  intro K hK
  go_wp2_with fail
  refine OnlyN.normal (hK _ _ (fun hw => by cases (show false = true from hw)) ?_)
  clear hK K
  intro K hK
  go_wp2_with fail
  refine OnlyN.normal (hK _ _ (fun _ _ => rfl) ?_)
  clear hK K
  intro K hK
  go_wp2_with fail
  refine OnlyN.normal (hK _ _ (fun hw => by cases (show false = true from hw)) ?_)
  clear hK K
  intro K hK
  go_wp2_with fail
  refine OnlyN.normal (hK _ _ (fun hw => by cases (show false = true from hw)) ?_)
  clear hK K
  go_wp2_with fail
  refine OnlyN.normal ?_
  go_wp2
  go_ret
  exact ⟨by simp, 2, rfl⟩

section
variable {S : Nat → Prop} {w w' : World} {s d m : Nat} {Ob : List OEnt} {E : List FEnt} {clock : Nat} {armed : Bool} {left kp : Int} {n : Nat}
set_option maxHeartbeats 1000000 in
theorem fs_append_full (h : FS S w d m E clock true armed left kp n) (x : ByteArray) (hx : NmOk x) (hno : ∀ e ∈ E, e.nm ≠ x) (hE : 1048576 ≤ E.length) (hE2 : E.length ≤ 2000000) (A : Option Addr) (k cap : Nat) :
    Calls Tryz.prog 75 #[.pointer (some ⟨d, 0, none⟩), .string x, .slice A k cap] w fun e w' => e = .returned (.int .i64 63) ∧ Grew w w' := by
  have hmf : ∀ (fn : Fn) (first cp : Array Value) (w : World), (Instr.makeFunc fn first cp).run Tryz.prog w = .ok (.func fn first cp) w := fun _ _ _ _ => rfl
  obtain ⟨W, hW, hgW, b1, b2, b3, hzW⟩ := three_boxes w (.pointer (some ⟨d, 0, none⟩)) (.string x) (.slice A k cap) 23 9 37
  have hnf : Instr.findNow .string (.string x) (E.map FEnt.ent).toArray.toList 0 = some none := by simpa using find_no E 0 hno
  have hes : 1048576 ≤ (E.map FEnt.ent).toArray.size := by simpa using hE
  have hes2 : (E.map FEnt.ent).toArray.size ≤ 2000000 := by simpa using hE2
  have hdl := h.dsk.hd.lt
  go_enter Tryz.func75, Tryz.ntmps75
  go_wp2_with fail
  rw [← hW]
  have hF := h.grew hgW
  clear hW
  refine (write_no hF.dsk 63 (by omega) _ entA2 _ _ _ (app_full hF.dsk x hx hnf hes hes2 (b2.cell 0) (b1.cell 0) (b3.cell 0))).mono ?_
  rintro e w' ⟨rfl, k, rfl⟩
  go_wp2
  go_ret
  exact ⟨by simp, hgW.drewN k⟩

set_option maxHeartbeats 1000000 in
theorem fs_delete_cut (h : FS S w d m E clock true true 0 kp n) (hn : n ≤ 4000000000000000000) (hkp : kp ≤ 9223372036854775807) {i : Nat} {f : FEnt} (hi : E[i]? = some f) (hx : NmOk f.nm) :
    Calls Tryz.prog 15 #[.pointer (some ⟨d, 0, none⟩), .string f.nm] w fun e w' => e = .returned (.int .i64 60) ∧ GoneF S w d m E clock kp (n + 1) w' := by
  have hmf : ∀ (fn : Fn) (first cp : Array Value) (w : World), (Instr.makeFunc fn first cp).run Tryz.prog w = .ok (.func fn first cp) w := fun _ _ _ _ => rfl
  obtain ⟨W, hW, hgW, b1, b2, hzW⟩ := two_boxes w (.pointer (some ⟨d, 0, none⟩)) (.string f.nm) 23 9
  have hf := h.find hi
  go_enter Tryz.func15, Tryz.ntmps15
  go_wp2_with fail
  rw [← hW]
  have hF := h.grew hgW
  clear hW
  refine (write_cut hF.dsk hn _ _ _ entD1 entNo _ _ _ ((del_ask hF.dsk f.nm hx hf (b2.cell 0) (b1.cell 0)).mono fun e w' ⟨h1, h2⟩ => ⟨h1, 0, by rw [← h2]; rfl⟩) (R := fun w1 w' => w1 = w' ∧ FS S w1 d m E clock true true 0 kp (n + 1)) (T := fun w2 w' => FS S w' d m (E.map (cutE kp)) clock false false 0 kp (n + 1) ∧ Chg S w2 w') ?_ ?_ ?_).mono ?_
  · intro w1 hc1 hD1
    exact (nothing_any w1).mono fun e w' ⟨h1, h2⟩ => ⟨h1, h2, hF.redo hD1 hc1⟩
  · rintro w1 w2 ⟨rfl, h1⟩
    exact h1.dsk.c4
  · rintro w1 w2 ⟨rfl, h1⟩
    exact fs_cut h1 kp hkp
  rintro e w' ⟨rfl, w1, w2, hc1, hD1, ⟨rfl, _⟩, k1, k2⟩
  go_wp2
  go_ret
  exact ⟨by simp, k1, ((Chg.of_grew hgW).trans (chg_d h.dsk.od hc1)).trans k2⟩

set_option maxRecDepth 100000 in
set_option maxHeartbeats 8000000 in
theorem put_full (h : Stor S w s d m Ob E clock armed left kp n) (hE : 1048576 ≤ Ob.length) (hE2 : Ob.length ≤ 2000000) (x : ByteArray) (hx : keyB x = true) (hg : genO Ob x + 1 < 18446744073709551616) (A : Option Addr) (k c : Nat) (data : List UInt8) (hr : RB w A k data) (hk : k ≤ 1048576) :
    Calls Tryz.prog 20 #[.pointer (some ⟨s, 0, none⟩), .string x, .slice A k c] w fun e w' => e = .returned (.tuple #[.int .u64 0, .int .i64 63]) ∧ Grew w w' := by
  have hmf : ∀ (fn : Fn) (first cp : Array Value) (w : World), (Instr.makeFunc fn first cp).run Tryz.prog w = .ok (.func fn first cp) w := fun _ _ _ _ => rfl
  have hM : ∀ w, Calls Tryz.prog 50 #[.string x, .slice A k c] w fun e w' => e = .returned (.int .i64 0) ∧ w = w' := fun w => may_ok hx A c hk w
  obtain ⟨er, her, hR⟩ := gen_read h x hx
  generalize hgo : genO Ob x = g at *
  have hsz := keyB_size hx
  go_enter Tryz.func20, Tryz.ntmps20
  go_wp2_with fail
  refine (hM _).mono ?_
  rintro e w1 ⟨rfl, rfl⟩
  go_wp2_with fail
  refine hR.mono ?_
  rintro e w1 ⟨⟨v, rfl⟩, hG1⟩
  clear hR hM
  have hs1 := hG1.size
  obtain ⟨W, hW, hgW, bp, bf, hzW⟩ := two_rows w1 #[.pointer (some ⟨s, 0, none⟩), .string x, .slice A k c, .int .u64 ((g : Int) + 1)]
    #[.func (.func 52) #[.pointer (some ⟨w1.heap.size, 0, none⟩)] #[], .func (.func 53) #[.pointer (some ⟨w1.heap.size, 0, none⟩)] #[], .func (.func 54) #[.pointer (some ⟨w1.heap.size, 0, none⟩)] #[], .func (.func 55) #[.pointer (some ⟨w1.heap.size, 0, none⟩)] #[]] 81 72
  have hGW := hG1.trans hgW
  have hh := h.grew hGW
  have hrW := hr.grew hGW
  have f0 := bf.cell 0
  have hClear := clear_none hh.fs.dsk w1.heap.size s x (.slice A k c) (.int .u64 ((g : Int) + 1)) bp hh.st (nm_t hx) (by omega) (find_no E 0 (hh.noT x))
  have hh := Lib.hid hh
  have hLay : Hid (∀ W2, Grew W W2 → Calls Tryz.prog 53 #[.pointer (some ⟨w1.heap.size, 0, none⟩)] W2 fun e w' => e = .returned (.int .i64 63) ∧ True ∧ Chg (fun _ => False) W2 w') := by
    intro W2 hg2
    have hz2 := hg2.size
    refine lay_step (R := fun _ => True) (S := fun _ => False) w1.heap.size s x A k c data (g + 1) (bp.grew hg2) (hh.out.st.grew hg2) (by omega) (hrW.grew hg2) hk hg (fun e => e) (fun e => e) fun B cap w3 hg3 hr3 hb3 => ?_
    refine (fs_append_full ((hh.out.fs.grew hg2).grew hg3) (tN ++ x) (nm_t hx) (hh.out.noT x) (by rw [hh.out.len]; exact hE) (by rw [hh.out.len]; exact hE2) B _ cap).mono ?_
    rintro e w4 ⟨rfl, hc4⟩
    exact ⟨rfl, trivial, hc4⟩
  clear hh h hx
  rcases her with rfl | rfl
  all_goals
    go_wp2_with fail
    rw [← hW]
    clear hW
    refine wp_loop_rounds 5 ?_
    rw [rounds_succ]
    go_wp2_with fail
    refine hClear.mono ?_
    rintro e W2 ⟨rfl, hG2⟩
    have f1 := (bf.grew hG2).cell 1
    clear f0
    go_wp2_with fail
    rw [rounds_succ]
    go_wp2_with fail
    refine (hLay.out W2 hG2).mono ?_
    rintro e W4 ⟨rfl, _, hc4⟩
    go_wp2
    go_ret2
    exact ⟨by simp, (hGW.trans hG2).trans hc4⟩
end
end Go.Proofs.YtepncgeaehjhiaaGreat
