/-
  Several texts in one:
  The document's disk: Read, List. Conditions: names that may be; lengths that memory bears.
  The codec's reference: frames read; the statements' awake. Conditions: lengths that memory bears.
-/
import Derived.Test.YtepncgeaehjhiaaGreatPart37
import Derived.Test.YtepncgeaehjhiaaGreatPart30
import Derived.Deep.RegionWith
import Derived.Deep.DrawnRows

namespace Go.Proofs.YtepncgeaehjhiaaGreat
open Go.RowKit

section
variable {R : Nat → Prop} {w : World} {wb : Nat} {V : List Vw} {down armed : Bool} {left keep : Int} {nu : Nat}
set_option maxRecDepth 100000 in
set_option maxHeartbeats 2000000 in
theorem rRead_ok (hD : RFD R w wb V false armed left keep nu) (x : ByteArray) (hx : NmOk x) {v : Vw} (hv : V[posV V x]? = some v) (hh : hasV V x = true) (hvl : v.2.1.length ≤ 4194304) :
    Calls Tryz.prog 78 #[.pointer (some ⟨wb, 0, none⟩), .string x] w fun e w' => ∃ A' c', e = .returned (.tuple #[.slice A' v.2.1.length c', .int .i64 0]) ∧ OB w' w.heap.size 5 A' v.2.1.length c' v.2.1 ∧ Grew w w' := by
  have hRd := rReady_any hD x hx true
  rw [hh, show (if (true && !true) = true then (62 : Int) else 0) = 0 from rfl] at hRd
  have hFi := Lib.hid fun w' (g : Grew w w') => rFind_any (hD.grew g) x
  rw [hh] at hFi
  obtain ⟨A, n, c, ms, hR⟩ := hD
  have hwl := hR.ln
  have hpn : posV V x < n := by have := (List.getElem?_eq_some_iff.1 hv).1; omega
  obtain ⟨g, m, v', rfl, hm, hv', hE, z0, z1, z2⟩ := hR.at_ hpn
  rw [hv] at hv'
  obtain rfl := Option.some.inj hv'
  have hb0 := Lib.hid fun w' (g : Grew w w') => (hR.hd.grew g).cell 0
  have hcap := hR.row.cap
  obtain ⟨vn, vl, vs⟩ := v
  obtain ⟨mn, da, dn, dc, sy⟩ := m
  have hda := hE.da
  dsimp only at hda z0 z1 z2 hvl ⊢
  have hdl : vl.length = dn := OB.len hda
  rw [hdl] at hvl ⊢
  have hdc := OB.cap hda
  have hrd := Lib.hid fun w' (g : Grew w w') => OB.rb (OB.grew hda g)
  clear hR hv hm hh hE hdl hda hwl
  generalize posV V x = p at *
  go_enter Tryz.func78, Tryz.ntmps78
  go_wp2_with fail
  refine hRd.mono ?_
  rintro e w1 ⟨rfl, g1⟩
  go_wp2_with fail
  refine (hFi.out _ g1).mono ?_
  rintro e w2 ⟨rfl, g2⟩
  have g02 := g1.trans g2
  have b2 := hb0.out _ g02
  have y1 := Chg.cell g02 z1 (fun e => e)
  have gE : Grew w (w2.alloc (.cells #[] 5)) := g02.alloc _
  have hz2 := g02.size
  have gX := hb0.out _ gE
  have y1E := Chg.cell gE z1 (fun e => e)
  have oE : OB (w2.alloc (.cells #[] 5)) w.heap.size 5 (some ⟨w2.heap.size, 0, none⟩) 0 0 [] := Own.made w2 w.heap.size 5 1 hz2
  have sT := hrd.out _ gE
  clear hRd hFi z0 z1 z2
  go_wp2_with (at_builtin; refine wpList_appB rfl _ _ rfl w.heap.size (some ⟨w2.heap.size, 0, none⟩) 0 0 [] rfl oE gE.size da dn _ vl rfl sT (by omega) ?_; intro A5 c5 w5 h5)
  have g5 : Grew w w5 := h5.grew gE (hd_le1 hz2)
  have o5 := h5.ob
  simp only [Nat.zero_add, List.nil_append] at o5
  clear h5 oE sT
  refine bodyPost_ret (v := .tuple #[.slice A5 dn c5, .int .i64 0]) ?_ rfl ⟨A5, c5, rfl, o5, g5⟩
  simp [results, Tryz.results78, go_sem]
set_option maxHeartbeats 1000000 in
theorem rRead_none (hD : RFD R w wb V false armed left keep nu) (x : ByteArray) (hx : NmOk x) (hh : hasV V x = false) :
    Calls Tryz.prog 78 #[.pointer (some ⟨wb, 0, none⟩), .string x] w fun e w' => e = .returned (.tuple #[.slice none 0 0, .int .i64 62]) ∧ Grew w w' := by
  have hRd := rReady_any hD x hx true
  rw [hh, show (if (true && !false) = true then (62 : Int) else 0) = 62 from rfl] at hRd
  clear hD
  go_enter Tryz.func78, Tryz.ntmps78
  go_wp2_with fail
  refine hRd.mono ?_
  rintro e w1 ⟨rfl, g1⟩
  go_wp2
  refine bodyPost_ret (v := .tuple #[.slice none 0 0, .int .i64 62]) ?_ rfl ⟨rfl, g1⟩
  simp [results, Tryz.results78, go_sem]
set_option maxHeartbeats 1000000 in
theorem rRead_off (hD : RFD R w wb V true armed left keep nu) (x : ByteArray) :
    Calls Tryz.prog 78 #[.pointer (some ⟨wb, 0, none⟩), .string x] w fun e w' => e = .returned (.tuple #[.slice none 0 0, .int .i64 60]) ∧ Grew w w' := by
  have hRd := rReady_off hD x true
  clear hD
  go_enter Tryz.func78, Tryz.ntmps78
  go_wp2_with fail
  refine hRd.mono ?_
  rintro e w1 ⟨rfl, g1⟩
  go_wp2
  refine bodyPost_ret (v := .tuple #[.slice none 0 0, .int .i64 60]) ?_ rfl ⟨rfl, g1⟩
  simp [results, Tryz.results78, go_sem]
def namesV (V : List Vw) (p : ByteArray) : List ByteArray := (V.filter fun v => Lib.hasPrefix (lst v.1) (lst p)).map Prod.fst
theorem namesV_len (V : List Vw) (p : ByteArray) : (namesV V p).length ≤ V.length := by
  unfold namesV
  rw [List.length_map]
  exact List.length_filter_le _ _
theorem namesV_snoc {V : List Vw} {p : ByteArray} {k : Nat} {v : Vw} (hv : V[k]? = some v) : namesV (V.take (k + 1)) p = namesV (V.take k) p ++ if Lib.hasPrefix (lst v.1) (lst p) = true then [v.1] else [] := by
  unfold namesV
  rw [List.take_add_one, hv, List.filter_append, List.map_append]
  congr 1
  by_cases h : Lib.hasPrefix (lst v.1) (lst p) = true
  · rw [if_pos h]
    simp [h]
  · rw [if_neg h]
    simp [h]
set_option maxRecDepth 100000 in
set_option maxHeartbeats 4000000 in
theorem rList_any (hD : RFD R w wb V false armed left keep nu) (hlen : V.length ≤ 1048577) (p : ByteArray) (hp : p.size = 2) :
    Calls Tryz.prog 16 #[.pointer (some ⟨wb, 0, none⟩), .string p] w fun e w' => ∃ A c, e = .returned (.slice A (namesV V p).length c) ∧ OE elNm w' w.heap.size 9 A (namesV V p).length c (namesV V p) ∧ Grew w w' := by
  obtain ⟨A, n, c, ms, hR⟩ := hD
  have hwl := hR.ln
  have hcap := hR.row.cap
  have hn17 : n ≤ 1048577 := by omega
  have hb := Lib.hid fun w' (g : Grew w w') => (hR.hd.grew g).cell 0
  have hb1 := Lib.hid fun w' (g : Grew w w') => (hR.hd.grew g).cell 1
  have hat := Lib.hid fun (k : Nat) (hk : k < n) w' (g : Grew w w') => (hR.grew g).at_ hk
  have b0 := hR.hd.cell 0
  clear hR hlen
  replace hwl := Lib.hid hwl
  go_enter Tryz.func16, Tryz.ntmps16
  go_wp2
  clear b0
  go_loopw [5, 6] (fun o i wr => ∃ (k q d : Nat) (B : Option Addr), k ≤ n ∧ i = .int .i64 (k : Int) ∧ o = .slice B q d ∧ q ≤ k ∧ OE elNm wr w.heap.size 9 B q d (namesV (V.take k) p) ∧ Grew w wr) (fun _ i _ => n - (intOf i).toNat)
  case atStart => exact ⟨0, 0, 0, none, by omega, rfl, rfl, by omega, OE.nil _ _ _, Chg.refl _ _⟩
  case round =>
    obtain ⟨k, q, dq, B, hk, rfl, rfl, hqk, hO, hg⟩ := hrel
    have b0 := hb.out _ hg
    have b1 := hb1.out _ hg
    by_cases hlt : k < n
    · obtain ⟨g, m, ⟨vn, vr⟩, rfl, _, hv, _, z0, _, _⟩ := hat.out k hlt wr hg
      have hsn := namesV_snoc (p := p) hv
      dsimp only at hsn z0
      have hgz := hg.size
      clear hv
      by_cases hsz : vn.size < 2
      · have e1 : decide (2 ≤ vn.size) = false := decide_eq_false (by omega)
        have e2 : decide ((2 : Int) ≤ (vn.size : Int)) = false := decide_eq_false (by omega)
        rw [pre_short vn p hp hsz, if_neg (by simp), List.append_nil] at hsn
        rw [← hsn] at hO
        clear hsn hsz
        go_wp2
        go_roundw
        case rel => exact ⟨k + 1, q, dq, B, by omega, by go_num, rfl, by omega, hO, hg⟩
        case measure => simp [intOf] <;> omega
      · have e1 : decide (2 ≤ vn.size) = true := decide_eq_true (by omega)
        have e2 : decide ((2 : Int) ≤ (vn.size : Int)) = true := decide_eq_true (by omega)
        have hs2 : 2 ≤ vn.size := by omega
        rw [pre2 vn p hp hs2] at hsn
        by_cases hpe : vn.extract 0 2 = p
        · rw [decide_eq_true hpe, if_pos rfl] at hsn
          have q1 : ((vn.extract 0 2).toList == p.toList) = true := by rw [hpe]; exact beq_self_eq_true _
          have q2 : (vn.extract 0 2).toList = p.toList := by rw [hpe]
          have hsrc : RE elNm (wr.alloc (.cells #[.string vn] 9)) (some ⟨wr.heap.size, 0, none⟩) 1 [vn] := RE.newAt rfl rfl rfl
          have hown : OE elNm (wr.alloc (.cells #[.string vn] 9)) w.heap.size 9 B q dq (namesV (V.take k) p) := hO.grew ((Chg.refl _ wr).alloc _)
          replace hsn := Lib.hid hsn
          clear hpe hsz
          go_wp2_with (at_builtin; refine wpList_appE rfl _ _ 47 9 infoNm rfl Tryz.underlying47 rfl w.heap.size B q dq (namesV (V.take k) p) rfl hown (by simp; omega) _ 1 1 [vn] rfl hsrc (by unfold maxLen; omega) (by omega) ?_; intro A3 c3 w3 h3)
          have hc3 : Grew w w3 := h3.grew (hg.alloc _) fun ad e => (Own.blk_lt hO ad e).1
          have ho3 := h3.oe
          rw [← hsn.out] at ho3
          clear h3 hsrc hown
          go_wp2
          go_roundw
          case rel => exact ⟨k + 1, q + 1, c3, A3, by omega, by go_num, rfl, by omega, ho3, hc3⟩
          case measure => simp [intOf] <;> omega
        · rw [decide_eq_false hpe, if_neg (by simp), List.append_nil] at hsn
          rw [← hsn] at hO
          have q2 : ¬ (vn.extract 0 2).toList = p.toList := fun e => hpe (by rw [ByteArray.toList_eq, ByteArray.toList_eq] at e; exact lst_inj.1 e)
          have q1 : ((vn.extract 0 2).toList == p.toList) = false := by rw [beq_eq_false_iff_ne]; exact q2
          clear hsn hsz hpe
          go_wp2
          go_roundw
          case rel => exact ⟨k + 1, q, dq, B, by omega, by go_num, rfl, by omega, hO, hg⟩
          case measure => simp [intOf] <;> omega
    · have hkn : k = n := by omega
      subst hkn
      rw [List.take_of_length_le (by rw [hwl.out]; exact Nat.le_refl _)] at hO
      have hl := hO.len (by decide)
      subst hl
      go_wp2
      go_ret
      exact ⟨B, dq, by simp, hO, hg⟩
set_option maxRecDepth 100000 in
set_option maxHeartbeats 4000000 in
theorem rList_off (hD : RFD R w wb V true armed left keep nu) (p : ByteArray) :
    Calls Tryz.prog 16 #[.pointer (some ⟨wb, 0, none⟩), .string p] w fun e w' => e = .returned (.slice none 0 0) ∧ Grew w w' := by
  obtain ⟨A, n, c, ms, hR⟩ := hD
  have hwl := hR.ln
  have hcap := hR.row.cap
  have hb := Lib.hid fun w' (g : Grew w w') => (hR.hd.grew g).cell 0
  have hb1 := Lib.hid fun w' (g : Grew w w') => (hR.hd.grew g).cell 1
  have hat := Lib.hid fun (k : Nat) (hk : k < n) w' (g : Grew w w') => (hR.grew g).at_ hk
  have b0 := hR.hd.cell 0
  clear hR
  replace hwl := Lib.hid hwl
  go_enter Tryz.func16, Tryz.ntmps16
  go_wp2
  clear b0
  go_loopw [5, 6] (fun o i wr => ∃ (k : Nat), k ≤ n ∧ i = .int .i64 (k : Int) ∧ o = .slice none 0 0 ∧ Grew w wr) (fun _ i _ => n - (intOf i).toNat)
  case atStart => exact ⟨0, by omega, rfl, rfl, Chg.refl _ _⟩
  case round =>
    obtain ⟨k, hk, rfl, rfl, hg⟩ := hrel
    have b0 := hb.out _ hg
    have b1 := hb1.out _ hg
    by_cases hlt : k < n
    · obtain ⟨g, m, v, rfl, _, hv, _, z0, _, _⟩ := hat.out k hlt wr hg
      clear hv
      go_wp2
      go_roundw
      case rel => exact ⟨k + 1, by omega, by go_num, rfl, hg⟩
      case measure => simp [intOf] <;> omega
    · go_wp2
      go_ret
      exact ⟨by simp, hg⟩
end
end Go.Proofs.YtepncgeaehjhiaaGreat

namespace Go.Proofs.YtepncgeaehjhiaaGreat
open Go.RowKit

set_option maxHeartbeats 1000000 in
theorem same_any (A B : Option Addr) (n m c d : Nat) (l r : List UInt8) (w : World) (ha : RB w A n l) (hb : RB w B m r) :
    Calls Tryz.prog 105 #[.slice A n c, .slice B m d] w fun e w' => e = .returned (.bool (l == r)) ∧ w' = w := by
  have h1 := run_conv_RB (P := Tryz.prog) (c := c) Tryz.underlying37 Tryz.underlying5 Tryz.underlying9 ha
  have h2 := run_conv_RB (P := Tryz.prog) (c := d) Tryz.underlying37 Tryz.underlying5 Tryz.underlying9 hb
  clear ha hb
  go_enter Tryz.func105, Tryz.ntmps105
  go_wp2
  go_ret
  exact ⟨by simp, rfl⟩

theorem four_inj (rec : List UInt8) (l4 : List UInt8) (h : l4.length = 4) : (four (crc rec) == l4) = decide (crc rec = beN l4) := by
  rw [Bool.eq_iff_iff]
  simp only [beq_iff_eq, decide_eq_true_eq]
  constructor
  · rintro rfl
    exact (beN_four _ (crc_lt rec)).symm
  · intro e
    rw [e, four_beN l4 h]

set_option maxRecDepth 100000 in
set_option maxHeartbeats 2000000 in
theorem refUnframe_any (A : Option Addr) (m c : Nat) (l : List UInt8) (at_ : Int) (w : World) (h : RB w A m l) (hm : m ≤ 140737488355328) (hc : m ≤ c ∧ c ≤ 9223372036854775807) :
    Calls Tryz.prog 79 #[.slice A m c, .int .i64 at_] w (UnfPost w (unfR l at_)) := by
  have hU := refUint_any A m c l at_ w h hm
  have hto := uintR_to l at_
  have hlt := uintR_lt l at_
  have hbad := uintR_bad l at_
  rw [h.1] at hto
  show Calls _ _ _ _ (UnfPost w (unfOf l (uintR l at_)))
  generalize uintR l at_ = r at hU hto hlt hbad ⊢
  obtain ⟨v, nx, er⟩ := r
  simp only at hto hlt hbad
  have HU := Lib.hid hU
  clear hU
  unfold UintPost uintEnd at HU
  simp only at HU
  by_cases he : er = 0
  · subst he
    clear hbad
    by_cases hv : 65536 < v
    · have h1 : Hid (unfOf l (v, nx, 0) = ([], 0, 23)) := by
        show _ = _
        have : lenE (v, nx, 0) = 23 := by unfold lenE; rw [if_neg (by simp), if_pos hv]
        unfold unfOf
        rw [this, if_pos (by omega)]
      go_enter Tryz.func79, Tryz.ntmps79
      go_wp2_with fail
      refine HU.out.mono ?_
      rintro e w2 ⟨rfl, rfl⟩
      go_wp2
      go_ret3
      rw [h1.out]
      exact ⟨none, 0, 0, by simp, Own.nil _ _ _ _, Chg.refl _ _⟩
    · have hv2 : v ≤ 65536 := by omega
      have hlen : lenE (v, nx, 0) = 0 := by unfold lenE; rw [if_neg (by simp), if_neg hv]
      clear hv
      by_cases hs : m - nx < v + 4
      · have h1 : Hid (unfOf l (v, nx, 0) = ([], 0, 20)) := by
          show _ = _
          have : recOf l nx v = ([], nx, 20) := by unfold recOf; rw [if_pos (by rw [h.1]; omega)]
          unfold unfOf
          rw [hlen, if_neg (by omega), this]
          rfl
        have hs2 : (m : Int) - nx < v + 4 := by omega
        clear hs hlen
        go_enter Tryz.func79, Tryz.ntmps79
        go_wp2_with fail
        refine HU.out.mono ?_
        rintro e w2 ⟨rfl, rfl⟩
        go_wp2
        go_ret3
        rw [h1.out]
        exact ⟨none, 0, 0, by simp, Own.nil _ _ _ _, Chg.refl _ _⟩
      · have hs2 : (v : Int) + 4 ≤ (m : Int) - nx := by omega
        have hmp : 0 < m := by omega
        obtain ⟨ad, x, rfl, _, _⟩ := h.at_ (k := 0) hmp
        have h1 : Hid (unfOf l (v, nx, 0) = if crc ((l.drop (nx + 4)).take v) ≠ beN ((l.drop nx).take 4) then ([], 0, 22) else ((l.drop (nx + 4)).take v, nx + 4 + v, 0)) := by
          show _ = _
          unfold unfOf
          rw [hlen, if_neg (by omega)]
          have : recOf l nx v = (if crc ((l.drop (nx + 4)).take v) ≠ beN ((l.drop nx).take 4) then ([], nx + 4 + v, 22) else ((l.drop (nx + 4)).take v, nx + 4 + v, 0)) := by
            unfold recOf
            rw [if_neg (by rw [h.1]; omega)]
          by_cases hq : crc ((l.drop (nx + 4)).take v) ≠ beN ((l.drop nx).take 4)
          · simp only [this, if_pos hq]
            rfl
          · simp only [this, if_neg hq]
            rfl
        have hrec : RB w (some (ad.add (nx + 4))) v ((l.drop (nx + 4)).take v) := (h.drop (nx + 4)).take (by omega)
        have h4 : RB w (some (ad.add nx)) 4 ((l.drop nx).take 4) := (h.drop nx).take (by omega)
        have hl4 := h4.1
        have hfi := four_inj ((l.drop (nx + 4)).take v) _ hl4
        generalize (l.drop (nx + 4)).take v = rec at h1 hrec hfi ⊢
        generalize (l.drop nx).take 4 = l4 at h1 h4 hfi ⊢
        have hcn : ¬ c = nx := by omega
        have Hfi := Lib.hid hfi
        have hv0 : ∀ B : Option Addr, v = 0 → RB w B v rec := fun B h0 => ⟨hrec.1, by
          have : rec = [] := List.eq_nil_of_length_eq_zero (by rw [hrec.1, h0])
          subst this
          exact Rd.nil _ _⟩
        have Hv0 := Lib.hid hv0
        clear hs hlen hl4 hfi hv0
        have hown : OB (w.alloc (.cells #[] 5)) w.heap.size 5 (some ⟨w.heap.size, 0, none⟩) 0 0 [] := Own.made w w.heap.size 5 1 (Nat.le_refl _)
        have e1 : nx + 4 + v - (nx + 4) = v := by omega
        have hr6 : RB (w.alloc (.cells #[] 5)) (some (ad.add (nx + 4))) (nx + 4 + v - (nx + 4)) rec := by rw [e1]; exact hrec.grew ((Chg.refl _ w).alloc (.cells #[] 5))
        have e2 : nx + 4 - nx = 4 := by omega
        go_enter Tryz.func79, Tryz.ntmps79
        go_wp2_with fail
        refine HU.out.mono ?_
        rintro e w2 ⟨rfl, rfl⟩
        by_cases hc4 : c = nx + 4
        · have hv0 : v = 0 := by omega
          subst hv0
          have hr7 : RB (w2.alloc (.cells #[] 5)) (some ad) 0 rec := RB.grew (Hv0.out (some ad) rfl) ((Chg.refl _ w2).alloc _)
          subst hc4
          go_wp2_with (at_builtin; go_loud (refine wpList_appB rfl _ _ rfl w2.heap.size _ 0 0 [] rfl hown (by simp) (some ad) 0 _ rec rfl hr7 (by omega) ?_); intro A3 c3 w3 h3; simp only [Nat.zero_add, List.nil_append] at h3 ⊢)
          have ho3 := h3.ob
          have hg3 : Grew w2 w3 := h3.grew ((Chg.refl _ w2).alloc _) (head_ge (Nat.le_refl _))
          have h43 := h4.grew hg3
          clear h3 hown hr6 h4 hrec
          have hcl := crc_lt rec
          have s3 := hg3.size
          have i1 : IntKind.i64.wrap ((nx : Int) + 4) = (nx : Int) + 4 := IntWalk.i64_in _ (by omega)
          have i2 : (0 : Int) ≤ (nx : Int) := by omega
          have i3 : (nx : Int) ≤ (nx : Int) + 4 := by omega
          have i4 : (nx : Int) + 4 ≤ ((nx + 4 : Nat) : Int) := by omega
          have i5 : ((nx : Int) + 4).toNat = nx + 4 := by omega
          have i6 : (0 : Int) ≤ (nx : Int) + 4 := by omega
          go_region_with (first
            | (go_at_call 82; refine (refSum_any A3 0 c3 rec _ (by exact ho3.rb) (by omega)).mono ?_; rintro e w4 ⟨rfl, rfl⟩)
            | (go_at_call 81; refine (four_any (crc rec) _ hcl).mono ?_; rintro e w5 ⟨A5, c5, rfl, ho5, hg5⟩)
            | (go_at_call 105; refine (same_any A5 _ 4 _ _ _ (four (crc rec)) l4 _ (by exact ho5.rb) (by first | exact RB.grew (w := w3.drew) h43 hg5 | exact h43.grew hg5)).mono ?_; rintro e w6 ⟨rfl, rfl⟩))
          all_goals
            have hg35 : Grew w2 w6 := (hg3.drew).trans hg5
            have hb35 : OB w6 w2.heap.size 5 A3 0 c3 rec := OB.grew (w := w3.drew) ho3 hg5
            rw [Hfi.out]
            by_cases hq : crc rec = beN l4
            · have hd : decide (crc rec = beN l4) = true := by simpa using hq
              have hres : Hid (unfOf l (0, nx, 0) = (rec, nx + 4 + 0, 0)) := by
                show _ = _
                rw [h1.out, if_neg (by simpa using hq)]
              rw [hd]
              clear hq hd
              go_wp2
              go_ret3
              rw [hres.out]
              exact ⟨A3, 0, c3, by simp, hb35, hg35⟩
            · have hd : decide (crc rec = beN l4) = false := by simpa using hq
              have hres : Hid (unfOf l (0, nx, 0) = ([], 0, 22)) := by
                show _ = _
                rw [h1.out, if_pos hq]
              rw [hd]
              clear hq hd
              go_wp2
              go_ret3
              rw [hres.out]
              exact ⟨none, 0, 0, by simp, Own.nil _ _ _ _, hg35⟩
        · go_wp2_with (at_builtin; refine wpList_appB rfl _ _ rfl w2.heap.size _ 0 0 [] rfl hown (by simp) (some (ad.add (nx + 4))) _ _ rec rfl hr6 (by omega) ?_; intro A3 c3 w3 h3; simp only [Nat.zero_add, List.nil_append, e1] at h3 ⊢)
          have ho3 := h3.ob
          have hg3 : Grew w2 w3 := h3.grew ((Chg.refl _ w2).alloc _) (head_ge (Nat.le_refl _))
          have h43 := h4.grew hg3
          clear h3 hown hr6 h4 hrec
          have hcl := crc_lt rec
          have s3 := hg3.size
          have i1 : IntKind.i64.wrap ((nx : Int) + 4) = (nx : Int) + 4 := IntWalk.i64_in _ (by omega)
          have i2 : (0 : Int) ≤ (nx : Int) := by omega
          have i3 : (nx : Int) ≤ (nx : Int) + 4 := by omega
          have i4 : (nx : Int) + 4 ≤ (c : Int) := by omega
          have i5 : ((nx : Int) + 4).toNat = nx + 4 := by omega
          have i6 : (0 : Int) ≤ (nx : Int) + 4 := by omega
          go_region_with (first
            | (go_at_call 82; refine (refSum_any A3 v c3 rec _ (by exact ho3.rb) (by omega)).mono ?_; rintro e w4 ⟨rfl, rfl⟩)
            | (go_at_call 81; refine (four_any (crc rec) _ hcl).mono ?_; rintro e w5 ⟨A5, c5, rfl, ho5, hg5⟩)
            | (go_at_call 105; refine (same_any A5 _ 4 _ _ _ (four (crc rec)) l4 _ (by exact ho5.rb) (by first | exact RB.grew (w := w3.drew) h43 hg5 | exact h43.grew hg5)).mono ?_; rintro e w6 ⟨rfl, rfl⟩))
          all_goals
            have hg35 : Grew w2 w6 := (hg3.drew).trans hg5
            have hb35 : OB w6 w2.heap.size 5 A3 v c3 rec := OB.grew (w := w3.drew) ho3 hg5
            rw [Hfi.out]
            by_cases hq : crc rec = beN l4
            · have hd : decide (crc rec = beN l4) = true := by simpa using hq
              have hres : Hid (unfOf l (v, nx, 0) = (rec, nx + 4 + v, 0)) := by
                show _ = _
                rw [h1.out, if_neg (by simpa using hq)]
              rw [hd]
              clear hq hd
              go_wp2
              go_ret3
              rw [hres.out]
              exact ⟨A3, v, c3, by simp, hb35, hg35⟩
            · have hd : decide (crc rec = beN l4) = false := by simpa using hq
              have hres : Hid (unfOf l (v, nx, 0) = ([], 0, 22)) := by
                show _ = _
                rw [h1.out, if_pos hq]
              rw [hd]
              clear hq hd
              go_wp2
              go_ret3
              rw [hres.out]
              exact ⟨none, 0, 0, by simp, Own.nil _ _ _ _, hg35⟩
  · have h1 : Hid (unfOf l (v, nx, er) = ([], 0, er)) := by
      show _ = _
      have : lenE (v, nx, er) = er := by unfold lenE; rw [if_pos he]
      unfold unfOf
      rw [this, if_pos he]
    have hq : ((er : Int) != 0) = true := by simp; omega
    clear he hbad
    go_enter Tryz.func79, Tryz.ntmps79
    go_wp2_with fail
    refine HU.out.mono ?_
    rintro e w2 ⟨rfl, rfl⟩
    go_wp2
    go_ret3
    rw [h1.out]
    exact ⟨none, 0, 0, by simp, Own.nil _ _ _ _, Chg.refl _ _⟩
end Go.Proofs.YtepncgeaehjhiaaGreat
