/-
  Several texts in one:
  (block.read) walked: any bytes are a block's, and its series are read, or it gives up. Conditions: lengths that memory bears.
-/
import Derived.Test.YtlcaaacbookopaaGreatDoorPart30
import Derived.Test.YtlcaaacbookopaaGreatDoorPart24

namespace Go.Proofs.YtlcaaacbookopaaGreatDoor
open Go.RowKit

/-- what is read: the series whose bytes these are -/
structure RdOk (w w' : World) (lb : List UInt8) (A : Option Addr) (n c : Nat) (zs : List Ser) : Prop where
  ns : NS w' w.heap.size A n c zs
  v : BkV zs
  b : lb = blkB (tabT zs) zs
  g : Grew w w'

/-- all texts, or given up -/
theorem rtexts_any (own : Prop) (ss0 : List Ser) (w W : World) (l : List UInt8) (g gv ga : Nat) (B : Option Addr) (n c q most : Nat)
    (h : TxI w W l g gv ga B n c q none 0 0 []) (hn : n ≤ 1099511627776) (hc : n ≤ c ∧ c ≤ 9223372036854775807) (hm : most ≤ 1099511627776) (hml : n ≤ most) (hown : own → BkV ss0 ∧ l.drop q = uv (tabT ss0).length ++ remT (tabT ss0) ss0 0) :
    Calls Tryz.prog 46 #[.pointer (some ⟨g, 0, none⟩), .int .u64 (most : Int), .func (.func 82) #[] #[.pointer (some ⟨ga, 0, none⟩), .pointer (some ⟨gv, 0, none⟩)]] W
      fun e W' => (∃ q2 A p d al, e = .returned (.tuple #[]) ∧ p ≤ most ∧ TxI w W' l g gv ga B n c q2 A p d al ∧ (own → al = tabT ss0 ∧ l.drop q2 = uv ss0.length ++ remL (tabT ss0) ss0 0)) ∨ (GvU e ∧ Grew w W' ∧ ¬ own) := by
  have hll := h.kr.rd.rb.1
  have hTl : own → (tabT ss0).length ≤ 32768 ∧ (tabT ss0).length ≤ n := fun ho => by
    obtain ⟨h1, h2⟩ := hown ho
    refine ⟨h1.bks.tab, ?_⟩
    have h3 := remT_len (tabT ss0) ss0
    have h4 := congrArg List.length h2
    rw [List.length_drop, List.length_append] at h4
    omega
  have hX : RowsX g B n c l q most 82 #[.pointer (some ⟨ga, 0, none⟩), .pointer (some ⟨gv, 0, none⟩)] W
      (fun pp j V => ∃ q2 A d al, TxI w V l g gv ga B n c q2 A j d al ∧ (own → pp = (tabT ss0).length ∧ al = (tabT ss0).take j ∧ l.drop q2 = remT (tabT ss0) ss0 j))
      (fun V => Grew w V ∧ ¬ own) := {
    en := entT1
    rd := h.kr.rd
    nb := by omega
    m := by omega
    st := fun pp q2 V hT hd hle => ⟨q2, none, 0, [], h.to hT, fun ho => by
      have e := (hown ho).2.symm.trans hd
      obtain ⟨e1, e2⟩ := uv_cut (by have := (hTl ho).1; omega) (by omega) e
      exact ⟨e1.symm, rfl, e2.symm⟩⟩
    gn := fun V hg hno => ⟨h.kr.gr.trans hg, fun ho => no_num hno (by have := (hTl ho).1; omega) (hown ho).2⟩
    gm := fun pp q2 V hT hd hpp hlt => ⟨(h.kr.to hT).gr, fun ho => by
      have e := (hown ho).2.symm.trans hd
      have := (uv_cut (by have := (hTl ho).1; omega) hpp e).1
      have := (hTl ho).2
      omega⟩
    ea := fun pp j V hj hle ⟨q2, A, d, al, hT, hh⟩ => by
      refine (etext_any w V l g gv ga B n c q2 A j d al hT (by omega) hc (by omega)).mono ?_
      rintro e W' (⟨s, q3, A3, d3, hs, hd, rfl, hT3⟩ | ⟨he, hg, hno⟩)
      · refine .inl ⟨rfl, q3, A3, d3, _, hT3, fun ho => ?_⟩
        obtain ⟨h1, h2, h3⟩ := hh ho
        have hz : (tabT ss0)[j]? = some ((tabT ss0)[j]'(by omega)) := List.getElem?_eq_getElem _
        generalize (tabT ss0)[j]'(by omega) = z at hz
        have hzs := (hown ho).1.w.tx z (List.mem_of_getElem? hz)
        obtain ⟨e1, e2⟩ := wrdB_cancel hs hzs (hd.symm.trans (h3.trans (remT_step hz)))
        refine ⟨h1, ?_, e2⟩
        rw [h2, List.take_add_one, hz, e1]
        rfl
      · refine .inr ⟨he, hg, fun ho => ?_⟩
        obtain ⟨h1, h2, h3⟩ := hh ho
        have hz : (tabT ss0)[j]? = some ((tabT ss0)[j]'(by omega)) := List.getElem?_eq_getElem _
        generalize (tabT ss0)[j]'(by omega) = z at hz
        have hzs := (hown ho).1.w.tx z (List.mem_of_getElem? hz)
        exact no_txt hno hzs (h3.trans (remT_step hz)) }
  refine (rows_gen g B n c l q most _ _ W _ _ hX).mono ?_
  rintro e W' (⟨pp, hle, rfl, q2, A, d, al, hT, hh⟩ | ⟨he, hg, hno⟩)
  · refine .inl ⟨q2, A, pp, d, al, rfl, hle, hT, fun ho => ?_⟩
    obtain ⟨h1, h2, h3⟩ := hh ho
    refine ⟨take_all h2 h1, ?_⟩
    rw [h3, h1, remT_end]
  · exact .inr ⟨he, hg, hno⟩

/-- all series' labels, or given up -/
theorem rsers_any (own : Prop) (ss0 : List Ser) (w W : World) (l : List UInt8) (g gv ga go : Nat) (B : Option Addr) (n c q : Nat) (A : Option Addr) (p d : Nat) (al : List ByteArray)
    (h : P2 w W l g gv ga go B n c q A p d al none 0 0 []) (hn : n ≤ 1099511627776) (hp : p ≤ 1099511627776) (hown : own → BkV ss0 ∧ al = tabT ss0 ∧ l.drop q = uv ss0.length ++ remL (tabT ss0) ss0 0) :
    Calls Tryz.prog 46 #[.pointer (some ⟨g, 0, none⟩), .int .u64 1024, .func (.func 84) #[] #[.pointer (some ⟨gv, 0, none⟩), .pointer (some ⟨ga, 0, none⟩), .pointer (some ⟨go, 0, none⟩)]] W
      fun e W' => (∃ q2 O k oc out, e = .returned (.tuple #[]) ∧ k ≤ 1024 ∧ P2 w W' l g gv ga go B n c q2 A p d al O k oc out ∧ (∀ s ∈ out, s.pts = []) ∧ (own → out.map Ser.lbs = ss0.map Ser.lbs ∧ l.drop q2 = remP ss0 0)) ∨ (GvU e ∧ Grew w W' ∧ ¬ own) := by
  have hSl : own → ss0.length ≤ 1024 := fun ho => (hown ho).1.bks.n
  have hX : RowsX g B n c l q 1024 84 #[.pointer (some ⟨gv, 0, none⟩), .pointer (some ⟨ga, 0, none⟩), .pointer (some ⟨go, 0, none⟩)] W
      (fun pp k V => ∃ q2 O oc out, P2 w V l g gv ga go B n c q2 A p d al O k oc out ∧ (∀ s ∈ out, s.pts = []) ∧ (own → pp = ss0.length ∧ out.map Ser.lbs = (ss0.map Ser.lbs).take k ∧ l.drop q2 = remL (tabT ss0) ss0 k))
      (fun V => Grew w V ∧ ¬ own) := {
    en := entT2
    rd := h.tx.kr.rd
    nb := by omega
    m := by decide
    st := fun pp q2 V hT hd hle => ⟨q2, none, 0, [], h.chgG hT.ch hT.rd, fun s hs => (by cases hs), fun ho => by
      have e := (hown ho).2.2.symm.trans hd
      obtain ⟨e1, e2⟩ := uv_cut (by have := hSl ho; omega) (by omega) e
      exact ⟨e1.symm, rfl, e2.symm⟩⟩
    gn := fun V hg hno => ⟨h.tx.kr.gr.trans hg, fun ho => no_num hno (by have := hSl ho; omega) (hown ho).2.2⟩
    gm := fun pp q2 V hT hd hpp hlt => ⟨(h.tx.kr.to hT).gr, fun ho => by
      have e := (hown ho).2.2.symm.trans hd
      have := (uv_cut (by have := hSl ho; omega) hpp e).1
      have := hSl ho
      omega⟩
    ea := fun pp k V hk hle ⟨q2, O, oc, out, hP, hpt, hh⟩ => by
      refine (eser_any own ss0 w V l g gv ga go B n c q2 A p d al O k oc out hP (by omega) hp (by omega) fun ho => ⟨⟨(hown ho).1, (hown ho).2.1, (hh ho).2.2⟩, by have := (hh ho).1; omega⟩).mono ?_
      rintro e W' (⟨q3, O3, oc3, lb, rfl, hP3, hh3⟩ | ⟨he, hg, hno⟩)
      · refine .inl ⟨rfl, q3, O3, oc3, _, hP3, fun s hs => ?_, fun ho => ?_⟩
        · rcases List.mem_append.1 hs with hs | hs
          · exact hpt s hs
          · rcases List.mem_singleton.1 hs with rfl
            rfl
        · obtain ⟨h1, h2, h3⟩ := hh ho
          obtain ⟨h4, h5⟩ := hh3 ho
          refine ⟨h1, ?_, h5⟩
          rw [List.map_append, h2, List.take_add_one, List.getElem?_map, h4]
          rfl
      · exact .inr ⟨he, hg, hno⟩ }
  refine (rows_gen g B n c l q 1024 _ _ W _ _ hX).mono ?_
  rintro e W' (⟨pp, hle, rfl, q2, O, oc, out, hP, hpt, hh⟩ | ⟨he, hg, hno⟩)
  · refine .inl ⟨q2, O, pp, oc, out, rfl, hle, hP, hpt, fun ho => ?_⟩
    obtain ⟨h1, h2, h3⟩ := hh ho
    refine ⟨take_all h2 (by rw [List.length_map]; exact h1), ?_⟩
    rw [h3, h1, remL_end]
  · exact .inr ⟨he, hg, hno⟩

theorem wrdB_le {l s r : List UInt8} {q : Nat} (h : l.drop q = wrdB s ++ r) : s.length ≤ l.length := by
  have h1 := congrArg List.length h
  unfold wrdB at h1
  rw [List.length_drop, List.length_append, List.length_append] at h1
  omega
theorem pts_own {ss0 : List Ser} {i : Nat} {s0 : Ser} {s : List UInt8} {l r : List UInt8} {q : Nat} (hV : BkV ss0) (hs0 : ss0[i]? = some s0) (hs : s.length < 18446744073709551616) (hd : l.drop q = wrdB s ++ r) (h : l.drop q = remP ss0 i) : s = pack (encB s0.pts) ∧ r = remP ss0 (i + 1) ∧ DecIs (pack (encB s0.pts)) s0.pts 0 := by
  have hm := List.mem_of_getElem? hs0
  have hw := hV.w.pn s0 hm
  obtain ⟨e1, e2⟩ := wrdB_cancel hs hw.2.2.2 (hd.symm.trans (h.trans (remP_step hs0)))
  exact ⟨e1, e2, .inl ⟨rfl, hw.1, hw.2.1, hw.2.2.1, rfl⟩⟩

set_option maxRecDepth 100000 in
set_option maxHeartbeats 16000000 in
theorem read_any (own : Prop) (ss0 : List Ser) (B : Option Addr) (n c : Nat) (lb : List UInt8) (w : World) (h : RB w B n lb) (hn : n ≤ 1099511627776) (hc : n ≤ c ∧ c ≤ 9223372036854775807) (hown : own → BkV ss0 ∧ lb = blkB (tabT ss0) ss0) :
    Calls Tryz.prog 55 #[.slice B n c] w fun e w' => (∃ A m d zs, e = .returned (.slice A m d) ∧ RdOk w w' lb A m d zs) ∨ (GvU e ∧ Grew w w' ∧ ¬ own) := by
  have hO := kopen_any B n c lb w h (by omega) hc
  have hBlt : ∀ ad, B = some ad → 0 < n → ad.block < w.heap.size := fun ad e h0 => h.lt ad e h0
  have hmf : ∀ (fn : Fn) (first cap : Array Value) (w : World), (Instr.makeFunc fn first cap).run Tryz.prog w = .ok (.func fn first cap) w := fun _ _ _ _ => rfl
  have hnw : IntKind.u64.wrap (n : Int) = (n : Int) := by rw [IntKind.wrap_u64]; omega
  replace hown := Lib.hid hown
  unfold GvU
  go_enter Tryz.func55, Tryz.ntmps55
  go_wp2_with fail
  refine hO.mono ?_
  rintro e w1 (⟨g, l, r, kn, hlb, hlr, hNn, rfl, hg, hrd, hg1⟩ | ⟨he, hno, hg1⟩)
  rotate_left
  · unfold GvU at he
    subst he
    go_wp2
    exact ⟨rfl, .inr ⟨rfl, hg1, fun ho => hno _ (by rw [(hown.out ho).2]; unfold blkB; rw [bodyK_rem])⟩⟩
  have hst : Hid (own → BkV ss0 ∧ l.drop 4 = uv (tabT ss0).length ++ remT (tabT ss0) ss0 0) := Lib.hid fun ho => by
    obtain ⟨h1, h2⟩ := hown.out ho
    refine ⟨h1, ?_⟩
    have h3 : l = bodyK (tabT ss0) ss0 := sealB_inj (by rw [← hlb, h2]; rfl)
    rw [h3, bodyK_rem]
    rfl
  have hkn : kn ≤ n := by omega
  have hkc : kn ≤ c ∧ c ≤ 9223372036854775807 := by omega
  have hll : l.length = kn := hrd.rb.1
  have hkn2 : kn ≤ 1099511627776 := by omega
  clear hlr hNn hO
  replace hlb := Lib.hid hlb
  replace hll := Lib.hid hll
  obtain ⟨gv, hgv⟩ : ∃ gv, w1.heap.size = gv := ⟨_, rfl⟩
  obtain ⟨wa, hwa⟩ : ∃ wa, wa = w1.alloc (.cells #[.pointer (some ⟨g, 0, none⟩)] 70) := ⟨_, rfl⟩
  have ga1 : Grew w1 wa := by rw [hwa]; exact (Chg.refl _ w1).alloc _
  have hbv : Blk wa gv 70 #[.pointer (some ⟨g, 0, none⟩)] := by rw [hwa, ← hgv]; exact Blk.new _ _ _
  have hsa : wa.heap.size = gv + 1 := by rw [hwa, World.size_alloc, hgv]
  obtain ⟨wb, hwb⟩ : ∃ wb, wb = wa.alloc (.cells #[.slice none 0 0] 86) := ⟨_, rfl⟩
  have gb1 : Grew wa wb := by rw [hwb]; exact (Chg.refl _ wa).alloc _
  have hba : Blk wb (gv + 1) 86 #[.slice none 0 0] := by rw [hwb, ← hsa]; exact Blk.new _ _ _
  have hgvl : w.heap.size ≤ gv := by rw [← hgv]; exact hg1.size
  have hT0 : TxI w wb l g gv (gv + 1) B kn c 4 none 0 0 [] :=
    ⟨⟨(hrd.chg ga1 (fun e => e) (fun _ _ _ e => e)).chg gb1 (fun e => e) (fun _ _ _ e => e), hbv.grew gb1, (hg1.trans ga1).trans gb1, hg, fun ad e h0 => hBlt ad e (by omega)⟩, hba, OE.nil _ _ _, by omega⟩
  have v0 := hT0.kr.bv.cell 0
  simp only [List.getElem?_toArray, List.getElem?_cons_zero] at v0
  rw [hwb, hwa] at v0
  have hRt := rtexts_any own ss0 w wb l g gv (gv + 1) B kn c 4 n hT0 hkn2 hkc hn hkn hst.out
  clear hT0 hrd hg1 ga1 gb1 hbv hba hsa
  go_wp2_with fail
  rw [← hwa, ← hwb]
  clear hwa hwb v0
  refine hRt.mono ?_
  rintro e w2 (⟨q2, A, p, d, al, rfl, hp, hT, hh⟩ | ⟨he, hg9, hno⟩)
  rotate_left
  · unfold GvU at he
    subst he
    go_wp2
    exact ⟨rfl, .inr ⟨rfl, hg9, hno⟩⟩
  have hpn2 : p ≤ 1099511627776 := by omega
  have hst2 : Hid (own → BkV ss0 ∧ al = tabT ss0 ∧ l.drop q2 = uv ss0.length ++ remL (tabT ss0) ss0 0) := Lib.hid fun ho => ⟨(hst.out ho).1, (hh ho).1, (hh ho).2⟩
  obtain ⟨go, hgo⟩ : ∃ go, w2.heap.size = go := ⟨_, rfl⟩
  obtain ⟨wc, hwc⟩ : ∃ wc, wc = w2.alloc (.cells #[.slice none 0 0] 39) := ⟨_, rfl⟩
  have gc : Grew w2 wc := by rw [hwc]; exact (Chg.refl _ w2).alloc _
  have hbo : Blk wc go 39 #[.slice none 0 0] := by rw [hwc, ← hgo]; exact Blk.new _ _ _
  have hgol : w.heap.size ≤ go := by rw [← hgo]; exact hT.kr.gr.size
  have hP0 : P2 w wc l g gv (gv + 1) go B kn c q2 A p d al none 0 0 [] := ⟨hT.grew gc, hbo, NS.nil _ _, hgol⟩
  have hRs := rsers_any own ss0 w wc l g gv (gv + 1) go B kn c q2 A p d al hP0 hkn2 hpn2 hst2.out
  have v0 := hP0.tx.kr.bv.cell 0
  simp only [List.getElem?_toArray, List.getElem?_cons_zero] at v0
  rw [hwc] at v0
  clear hP0 hT hh hst hRt hbo gc hst2
  go_wp2_with fail
  rw [← hwc]
  clear hwc v0
  refine hRs.mono ?_
  rintro e w3 (⟨q3, O, k, oc, out, rfl, hk, hP, hpt, hh⟩ | ⟨he, hg9, hno⟩)
  rotate_left
  · unfold GvU at he
    subst he
    go_wp2
    exact ⟨rfl, .inr ⟨rfl, hg9, hno⟩⟩
  clear hRs
  have hlo : Hid (own → BkV ss0) := Lib.hid fun ho => (hown.out ho).1
  have o0 := hP.bo.cell 0
  simp only [List.getElem?_toArray, List.getElem?_cons_zero] at o0
  have hcap := hP.ns.cap
  have hst3 : Hid (own → out.map Ser.lbs = ss0.map Ser.lbs ∧ (∀ m : Nat, m < 0 → (out[m]?).map Ser.pts = (ss0[m]?).map Ser.pts) ∧ l.drop q3 = remP ss0 0) := Lib.hid fun ho => ⟨(hh ho).1, fun m hm => by omega, (hh ho).2⟩
  have hov : ∀ s ∈ out, Okv s.pts := fun s hs => by
    rw [hpt s hs]
    intro x hx
    cases hx
  replace hov := Lib.hid hov
  clear hh hpt
  go_wp2
  clear o0
  go_loopw [24] (fun i wr => ∃ (j q : Nat) (out : List Ser), j ≤ k ∧ i = .int .i64 (j : Int) ∧ P2 w wr l g gv (gv + 1) go B kn c q A p d al O k oc out ∧ Hid (∀ s ∈ out, Okv s.pts) ∧ Hid (own → out.map Ser.lbs = ss0.map Ser.lbs ∧ (∀ m : Nat, m < j → (out[m]?).map Ser.pts = (ss0[m]?).map Ser.pts) ∧ l.drop q = remP ss0 j)) (fun i _ => k - (intOf i).toNat)
  case atStart => exact ⟨0, q3, out, by omega, rfl, hP, hov, hst3⟩
  case round =>
    clear hP hov hst3
    obtain ⟨j, q, out, hj, rfl, hP, hov, hst⟩ := hrel
    by_cases hlt : j < k
    · have v0 := hP.tx.kr.bv.cell 0
      simp only [List.getElem?_toArray, List.getElem?_cons_zero] at v0
      have hol : out.length = k := hP.ns.len
      have hx : out[j]? = some (out[j]'(by omega)) := List.getElem?_eq_getElem _
      generalize out[j]'(by omega) = sx at hx
      have hs0 : own → ∃ s0, ss0[j]? = some s0 := fun ho => by
        have := congrArg List.length (hst.out ho).1
        rw [List.length_map, List.length_map] at this
        exact ⟨ss0[j]'(by omega), List.getElem?_eq_getElem _⟩
      replace hs0 := Lib.hid hs0
      replace hol := Lib.hid hol
      have hRx := rtext_any g B kn c l q wr hP.tx.kr.rd (by omega) hkc
      go_wp2_with fail
      refine hRx.mono ?_
      rintro e w5 (⟨s, q5, hs, hd, rfl, hT⟩ | ⟨he, hg9, hno⟩)
      rotate_left
      · unfold GvU at he
        subst he
        go_wp2
        exact ⟨rfl, .inr ⟨rfl, hP.tx.kr.gr.trans hg9, fun ho => by
          obtain ⟨s0, hs0⟩ := hs0.out ho
          have hw := (hlo.out ho).w.pn s0 (List.mem_of_getElem? hs0)
          exact no_txt hno hw.2.2.2 ((hst.out ho).2.2.trans (remP_step hs0))⟩⟩
      have hP5 := hP.chgG hT.ch hT.rd
      have hsl : s.length ≤ kn := by rw [← hll.out]; exact wrdB_le hd
      have hso : Hid (own → ∃ s0, ss0[j]? = some s0 ∧ s = pack (encB s0.pts) ∧ l.drop q5 = remP ss0 (j + 1) ∧ DecIs (pack (encB s0.pts)) s0.pts 0) := Lib.hid fun ho => by
        obtain ⟨s0, hs0⟩ := hs0.out ho
        exact ⟨s0, hs0, pts_own (hlo.out ho) hs0 hs hd (hst.out ho).2.2⟩
      clear hRx hT hP hs0 hd v0
      obtain ⟨X, hX⟩ : ∃ X : ByteArray, X = ⟨s.toArray⟩ := ⟨_, rfl⟩
      have hXs : X.size = s.length := by rw [hX]; simp [ByteArray.size]
      have hXd : X.data.toList = s := by rw [hX]
      rw [← hX]
      obtain ⟨c6, w6, hcv, hrb, hg6, hc6, hc7⟩ := conv_str w5 X (by omega)
      rw [hXd, hXs] at hrb
      rw [hXs] at hcv
      have hD := decode_any _ s.length c6 s w6 hrb (by omega)
      have hP6 := hP5.grew hg6
      clear hP5 hg6 hX hXs hXd
      go_wp2_with fail
      refine hD.mono ?_
      rintro e w7 ⟨D, m, d7, ps, er, hdi, rfl, o7, g7⟩
      have hP7 := hP6.grew g7
      have hsz6 := hP6.tx.kr.gr.size
      clear hD hcv hrb hP6 g7
      by_cases her : er = 0
      rotate_left
      · have e9 : ((er : Int) == 0) = false := by simp; omega
        have e8 : ¬ (er : Int) = 0 := by omega
        have hP7g := hP7.tx.kr.gr
        go_wp2_with fail
        refine (must_no _).mono ?_
        rintro e wz ⟨he, rfl⟩
        unfold GvU at he
        subst he
        go_wp2
        exact ⟨rfl, .inr ⟨rfl, hP7g, fun ho => by
          obtain ⟨s0, _, hse, _, hdd⟩ := hso.out ho
          rw [← hse] at hdd
          exact her (hdi.uniq hdd).2⟩⟩
      subst her
      have hso2 : Hid (own → ss0[j]?.map Ser.pts = some ps ∧ l.drop q5 = remP ss0 (j + 1)) := Lib.hid fun ho => by
        obtain ⟨s0, h1, hse, h2, hdd⟩ := hso.out ho
        rw [← hse] at hdd
        rw [h1, (hdi.uniq hdd).1]
        exact ⟨rfl, h2⟩
      have hpv : Okv ps := by
        rcases hdi with ⟨_, _, _, h4, _⟩ | ⟨h4, _⟩
        · exact h4
        · cases h4
      replace hpv := Lib.hid hpv
      clear hdi hso
      go_wp2_with fail
      refine (must_yes _).mono ?_
      rintro e wz ⟨rfl, rfl⟩
      obtain ⟨ms, hr1, hr2, hr3⟩ := id hP7.ns
      obtain ⟨gO, hOe, hbO, hlO, hcO, hfO, _⟩ := Own.at_ hr1 (by omega)
      subst hOe
      have hmj : ms[j]? = some (ms[j]'(by have := hol.out; omega)) := List.getElem?_eq_getElem _
      generalize ms[j]'(by have := hol.out; omega) = mj at hmj
      have z1 := hcO (j * 2 + 1) (by show j * 2 + 1 < k * 2; omega)
      have z2 := elSr.flat_get ms hmj (j := 1) (by decide)
      rw [show elSr.sz = 2 from rfl] at z2
      rw [z2] at z1
      clear z2
      have zf := hfO (j * 2 + 1)
      have o0 := hP7.bo.cell 0
      simp only [List.getElem?_toArray, List.getElem?_cons_zero] at o0
      have hP8 := hP7.setP hx o7 hsz6
      have hov8 : Hid (∀ s ∈ out.set j ⟨sx.lbs, ps⟩, Okv s.pts) := Lib.hid fun s hs => by
        rcases List.mem_or_eq_of_mem_set hs with hs | rfl
        · exact hov.out s hs
        · exact hpv.out
      have hst8 : Hid (own → (out.set j ⟨sx.lbs, ps⟩).map Ser.lbs = ss0.map Ser.lbs ∧ (∀ m : Nat, m < j + 1 → ((out.set j ⟨sx.lbs, ps⟩)[m]?).map Ser.pts = (ss0[m]?).map Ser.pts) ∧ l.drop q5 = remP ss0 (j + 1)) := Lib.hid fun ho => by
        obtain ⟨h1, h2, h3⟩ := hst.out ho
        obtain ⟨h4, h5⟩ := hso2.out ho
        refine ⟨?_, fun m hm => ?_, h5⟩
        · rw [List.map_set, ← h1]
          refine List.ext_getElem? fun i => ?_
          by_cases hi : i = j
          · subst hi
            rw [List.getElem?_set_self (by rw [List.length_map]; have := hol.out; omega), List.getElem?_map, hx]
            rfl
          · rw [List.getElem?_set_ne (by omega)]
        · by_cases hi : m = j
          · subst hi
            rw [List.getElem?_set_self (by have := hol.out; omega), h4]
            rfl
          · rw [List.getElem?_set_ne (by omega)]
            exact h2 m (by omega)
      clear hP7 hr1 hr2 hr3 hcO hfO o7 hov hst hso2 hpv hx hmj
      go_wp2
      go_roundw
      case rel => exact ⟨j + 1, q5, _, by omega, by go_num, hP8, hov8, hst8⟩
      case measure => simp [intOf] <;> omega
    · obtain rfl : j = k := by omega
      have hol : out.length = j := hP.ns.len
      have hfull : own → out = ss0 := fun ho => by
        obtain ⟨h1, h2, _⟩ := hst.out ho
        have h3 := congrArg List.length h1
        rw [List.length_map, List.length_map] at h3
        refine ser_ext h1 fun m => ?_
        by_cases hm : m < j
        · exact h2 m hm
        · rw [List.getElem?_eq_none (by omega), List.getElem?_eq_none (by omega)]
      replace hfull := Lib.hid hfull
      have o0 := hP.bo.cell 0
      simp only [List.getElem?_toArray, List.getElem?_cons_zero] at o0
      have hRS := hP.ns.rs
      replace hol := Lib.hid hol
      clear hst
      by_cases hok : BkOk out
      rotate_left
      · have hE := encK_no O j oc out wr hRS (by omega) hok
        unfold EncP at hE
        go_wp2_with fail
        refine hE.mono ?_
        rintro e w8 ⟨A8, c8, rfl, o8, g8⟩
        have hg8 := hP.tx.kr.gr.trans g8
        clear hE o8
        go_wp2_with fail
        refine (must_no _).mono ?_
        rintro e wz ⟨he, rfl⟩
        unfold GvU at he
        subst he
        go_wp2
        exact ⟨rfl, .inr ⟨rfl, hg8, fun ho => hok (by rw [hfull.out ho]; exact (hlo.out ho).1)⟩⟩
      have hE := encK_ok O j oc out wr hRS hok hov.out
      unfold EncP at hE
      obtain ⟨R, hR⟩ : ∃ R, blkB (tabT out) out = R := ⟨_, rfl⟩
      rw [hR] at hE
      replace hR := Lib.hid hR
      replace hok := Lib.hid hok
      go_wp2_with fail
      refine hE.mono ?_
      rintro e w8 ⟨A8, c8, rfl, o8, g8⟩
      have hP8 := hP.grew g8
      have hbe := bytesEqual_any A8 B R.length n c8 c R lb w8 o8.rb (h.grew hP8.tx.kr.gr)
      have o8' := hP8.bo.cell 0
      simp only [List.getElem?_toArray, List.getElem?_cons_zero] at o8'
      clear hE o8 hP o0
      by_cases heq : R = lb
      · have hb : (R == lb) = true := by simp [heq]
        rw [hb] at hbe
        replace heq := Lib.hid heq
        clear hb
        go_wp2_with fail
        refine hbe.mono ?_
        rintro e w9 ⟨rfl, rfl⟩
        go_wp2_with fail
        refine (must_yes _).mono ?_
        rintro e wz ⟨rfl, rfl⟩
        go_wp2
        go_ret
        exact .inl ⟨O, j, oc, out, by simp, hP8.ns, ⟨hok.out, hov.out⟩, by rw [hR.out, heq.out], hP8.tx.kr.gr⟩
      · have hb : (R == lb) = false := by simp [heq]
        rw [hb] at hbe
        replace heq := Lib.hid heq
        clear hb
        go_wp2_with fail
        refine hbe.mono ?_
        rintro e w9 ⟨rfl, rfl⟩
        go_wp2_with fail
        refine (must_no _).mono ?_
        rintro e wz ⟨he, rfl⟩
        unfold GvU at he
        subst he
        go_wp2
        exact ⟨rfl, .inr ⟨rfl, hP8.tx.kr.gr, fun ho => heq.out (by rw [← hR.out, hfull.out ho, (hown.out ho).2])⟩⟩
end Go.Proofs.YtlcaaacbookopaaGreatDoor
