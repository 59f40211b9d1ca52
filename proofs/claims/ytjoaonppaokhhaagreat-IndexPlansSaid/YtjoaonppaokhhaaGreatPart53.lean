/-
  Several texts in one:
  (index.Plan) on any index. Conditions: lengths that a slice has.
  The statements' own list of numbers, a number added if it is not there; what a plan is, in plain words. Conditions: lengths that memory bears.
-/
import Derived.Test.YtjoaonppaokhhaaGreatPart52

namespace Go.Proofs.YtjoaonppaokhhaaGreat
open Go.RowKit

/-- the live metas, none of an index that may not be -/
def livC (fl : Int) (es : List Ent) : List Met := bif chkI fl es then livM es else []
theorem liveC_any (v : Nat) (fl : Int) (A : Option Addr) (n c : Nat) (es : List Ent) (w : World) (h : RX w A n es) (hn : n ≤ 9223372036854775807) :
    Calls Tryz.prog 33 #[.agg #[.int .u64 (v : Int), .int .i64 fl, .slice A n c]] w fun e w' => ∃ B p C ms, e = .returned (.slice B p C) ∧ MXo w' w.heap.size B p C ms ∧ ms.map MtM.m = livC fl es ∧ Grew w w' := by
  unfold livC
  cases hck : chkI fl es
  · refine (liveM_no v fl A n c es w h hn hck).mono ?_
    rintro e w' ⟨rfl, hg⟩
    exact ⟨none, 0, 0, [], rfl, ⟨OE.nil _ _ _, fun m hm => by cases hm⟩, rfl, hg⟩
  · exact liveM_ok v fl A n c es w h ((chkI_iff fl es).1 hck)
theorem livC_src (fl : Int) (es : List Ent) : ∀ m ∈ livC fl es, m.src.length ≤ 64 := by
  unfold livC
  cases hck : chkI fl es
  · intro m hm
    cases hm
  · exact plM_any es fl hck
theorem livC_len (fl : Int) (es : List Ent) : (livC fl es).length ≤ 256 := by
  unfold livC
  cases hck : chkI fl es
  · exact Nat.zero_le _
  · have h1 := ((chkI_iff fl es).1 hck).len
    have h2 : (livM es).length ≤ (livI es).length := by unfold livM metsAt; exact List.length_filterMap_le _ _
    have h3 : (livI es).length ≤ es.length := livF_len es 0
    show (livM es).length ≤ 256
    omega
theorem permIn_list {d d' : Array MtM} {n : Nat} (h : Go.Sort.PermIn 0 n d d') (hs : d.size = n) : d'.toList.Perm d.toList := by
  obtain ⟨h1, _, h3⟩ := h
  have e1 : d'.extract 0 n = d' := by rw [← hs, ← h1]; exact Array.extract_size
  have e2 : d.extract 0 n = d := by rw [← hs]; exact Array.extract_size
  rw [e1, e2] at h3
  exact h3

set_option maxRecDepth 100000 in
set_option maxHeartbeats 8000000 in
theorem plan_any (v : Nat) (fl now : Int) (A : Option Addr) (n c : Nat) (es : List Ent) (w : World) (h : RX w A n es) (hn : n ≤ 9223372036854775807) :
    Calls Tryz.prog 32 #[.agg #[.int .u64 (v : Int), .int .i64 fl, .slice A n c], .int .i64 now] w fun e w' => ∃ p B k cc, e = .returned (.slice B k cc) ∧ PlA (livC fl es) p ∧ OE elU w' w.heap.size 22 B k cc p ∧ Grew w w' := by
  obtain ⟨W, hW⟩ : ∃ W, W = w.alloc (.cells #[.int .u64 (v : Int), .int .i64 fl, .slice A n c] 25) := ⟨_, rfl⟩
  have gW : Grew w W := by rw [hW]; exact (Chg.refl _ w).alloc _
  have hL := liveC_any v fl A n c es W (h.grew gW) hn
  have hsrc := Lib.hid (livC_src fl es)
  have hlen := Lib.hid (livC_len fl es)
  generalize livC fl es = L at *
  clear h
  go_enter Tryz.func32, Tryz.ntmps32
  go_wp2_with fail
  rw [← hW]
  clear hW
  refine hL.mono ?_
  rintro e w1 ⟨B, p, C, ms, rfl, hM, hmm, g1⟩
  have hml := OE.len (by decide) hM.row
  have hp256 : p ≤ 256 := by
    have h1 := hlen.out
    rw [← hmm, List.length_map, hml] at h1
    exact h1
  clear hL
  by_cases hp0 : p = 0
  · subst hp0
    have hms : ms = [] := List.eq_nil_of_length_eq_zero hml
    have hA : Hid (PlA L []) := ⟨#[], by rw [← hmm, hms], .inl rfl, fun _ i' hi => by simp at hi⟩
    clear hM hmm hml hms
    have gw := gW.trans g1
    go_wp2_with fail
    refine (mstable_none B C _).mono ?_
    rintro e w2 ⟨rfl, rfl⟩
    go_wp2_with fail
    refine (upright_none B C _).mono ?_
    rintro e w3 ⟨rfl, g3⟩
    go_wp2_with fail
    refine (level_none B C now _).mono ?_
    rintro e w4 ⟨rfl, g4⟩
    have gf := (gw.trans g3).trans g4
    clear gw gW g1 g3 g4
    go_wp2
    go_ret
    exact ⟨[], none, 0, 0, rfl, hA.out, OE.nil _ _ _, gf⟩
  · obtain ⟨gb, rfl, hgb, _⟩ := Own.at_ hM.row (by omega)
    have hMA : MA w1 W.heap.size gb p C ms.toArray := hM.row
    have hS := mssort_any W.heap.size gb 0 p C ms.toArray w1 rfl hMA (by omega)
    have hel := Lib.hid hM.el
    have hrow := Lib.hid hM.row
    have hmm2 := Lib.hid hmm
    have hml2 := Lib.hid hml
    clear hM hmm hml hMA
    go_wp2_with fail
    refine hS.mono ?_
    rintro e w2 ⟨rfl, d', hpi, hd, hcg⟩
    have hsz : ms.toArray.size = p := by simpa using hml2.out
    have hperm : d'.toList.Perm ms := permIn_list hpi hsz
    have hds : d'.size = p := hpi.1.trans hsz
    have gw1 : Grew w w1 := gW.trans g1
    have gw2 : Grew w w2 := gw1.step hcg fun k hk e => by have := gW.size; omega
    have hPl : PlR w2 gb p C d' := ⟨⟨W.heap.size, hd⟩, fun x hx => by
      have hxm : x ∈ ms := hperm.mem_iff.1 hx
      have h1 := hel.out x hxm
      exact (OE.apartT h1 hrow.out (by decide) (hcg.mono fun k _ e => ⟨_, rfl, e⟩)).re (by decide), by omega, fun x hx => by
      have hxm : x ∈ ms := hperm.mem_iff.1 hx
      exact hsrc.out x.m (by rw [← hmm2.out]; exact List.mem_map_of_mem hxm)⟩
    have hpm : Hid ((d'.toList.map MtM.m).Perm L) := by rw [← hmm2.out]; exact hperm.map _
    have hU := upright_any gb 0 C p d' w2 rfl hPl (by omega)
    replace hds := Lib.hid hds
    clear hS hpi hcg hsz hperm hel hrow hmm2 hml2 hd gw1
    go_wp2_with fail
    refine hU.mono ?_
    rintro e w3 ⟨p1, B1, k1, c1, hu, rfl, o3, g3⟩
    have gw3 := gw2.trans g3
    have hk1 : p1.length = k1 := OE.len (by decide) o3
    have o3' : Hid (OE elU w3 w.heap.size 22 B1 k1 c1 p1) := Own.mono o3 gw2.size
    clear hU o3
    by_cases hk0 : k1 = 0
    · have hp1 : p1 = [] := List.eq_nil_of_length_eq_zero (by omega)
      have hnone := Lib.hid (hu.none hp1)
      subst hk0
      have hV := level_any gb 0 C p now d' w3 rfl (hPl.grew g3) (by omega)
      clear hu hp1 hk1 o3' hPl
      go_wp2_with fail
      refine hV.mono ?_
      rintro e w4 ⟨p2, B2, k2, c2, hv, rfl, o4, g4⟩
      have gf := gw3.trans g4
      have o5 : Hid (OE elU w4 w.heap.size 22 B2 k2 c2 p2) := Own.mono o4 gw3.size
      have hA : Hid (PlA L p2) := ⟨d', hpm.out, by rw [hds.out]; exact hv.good, fun _ => by rw [hds.out]; exact hnone.out⟩
      clear hV gw2 gw3 g3 g4 o4 hv
      go_wp2
      go_ret
      exact ⟨p2, B2, k2, c2, rfl, hA.out, o5.out, gf⟩
    · have hkz : (0 : Int) < (k1 : Int) := by omega
      have hA : Hid (PlA L p1) := ⟨d', hpm.out, by rw [hds.out]; exact hu.good, fun e => by rw [hds.out]; exact hu.none e⟩
      replace hk1 := Lib.hid hk1
      clear hu gw2 g3 hPl
      go_wp2
      go_ret
      exact ⟨p1, B1, k1, c1, rfl, hA.out, o3'.out, gw3⟩
end Go.Proofs.YtjoaonppaokhhaaGreat

namespace Go.Proofs.YtjoaonppaokhhaaGreat
open Go.RowKit

def addL (xs : List Nat) (x : Nat) : List Nat := bif decide (x ∈ xs) then xs else xs ++ [x]
theorem addL_mem (xs : List Nat) (x y : Nat) : y ∈ addL xs x ↔ y ∈ xs ∨ y = x := by
  unfold addL
  by_cases h : x ∈ xs
  · rw [decide_eq_true h]
    constructor
    · exact fun h => .inl h
    · rintro (h1 | rfl)
      · exact h1
      · exact h
  · rw [decide_eq_false h]
    show y ∈ xs ++ [x] ↔ _
    rw [List.mem_append, List.mem_singleton]
theorem addL_nodup {xs : List Nat} (h : xs.Nodup) (x : Nat) : (addL xs x).Nodup := by
  unfold addL
  by_cases hx : x ∈ xs
  · rw [decide_eq_true hx]
    exact h
  · rw [decide_eq_false hx]
    show (xs ++ [x]).Nodup
    rw [List.nodup_append]
    refine ⟨h, by simp, fun a ha b hb e => ?_⟩
    rw [List.mem_singleton.1 hb] at e
    exact hx (e ▸ ha)

set_option maxRecDepth 100000 in
set_option maxHeartbeats 8000000 in
theorem ladd14_any (A : Option Addr) (n c base x : Nat) (xs : List Nat) (w : World) (h : OE elU w base 22 A n c xs) (hb : base ≤ w.heap.size) (hn : n ≤ 100000) :
    Calls Tryz.prog 34 #[.slice A n c, .int .u64 (x : Int)] w fun e w' => ∃ B m d, e = .returned (.slice B m d) ∧ OE elU w' base 22 B m d (addL xs x) ∧ Chg (fun k => ∃ ad, A = some ad ∧ k = ad.block) w w' := by
  have hl : xs.length = n := OE.len (by decide) h
  have hr := h.re (by decide)
  replace hl := Lib.hid hl
  replace h := Lib.hid h
  go_enter Tryz.func34, Tryz.ntmps34
  go_wp2
  go_loopw [5] (fun i wr => ∃ k : Nat, k ≤ n ∧ i = .int .i64 (k : Int) ∧ (∀ j y, j < k → xs[j]? = some y → y ≠ x) ∧ Grew w wr) (fun i _ => n - (intOf i).toNat)
  case atStart => exact ⟨0, Nat.zero_le _, rfl, fun j y hj => by omega, Chg.refl _ _⟩
  case round =>
    obtain ⟨k, hk, rfl, hne, hg⟩ := hrel
    by_cases hlt : k < n
    · have hltz : (k : Int) < (n : Int) := by omega
      obtain ⟨ad, y, rfl, hy, y0⟩ := (hr.grew hg).uat hlt
      by_cases hxy : y = x
      · have hz : ((y : Int) == (x : Int)) = true := by simp [hxy]
        have hm : Hid (addL xs x = xs) := by
          have h1 : x ∈ xs := by rw [← hxy]; exact List.mem_of_getElem? hy
          unfold addL
          rw [decide_eq_true h1]
          rfl
        replace hxy := Lib.hid hxy
        clear hy hne
        go_wp2
        go_ret
        exact ⟨_, n, c, rfl, by rw [hm.out]; exact OE.grew h.out hg, Chg.of_grew hg⟩
      · have hz : ((y : Int) == (x : Int)) = false := by simp; omega
        have hN : Hid (∀ j y, j < k + 1 → xs[j]? = some y → y ≠ x) := fun j y' hj hy' => by
          rcases Nat.lt_or_ge j k with e | e
          · exact hne j y' e hy'
          · have : j = k := by omega
            subst this
            rw [hy] at hy'
            injection hy' with hy'
            rw [← hy']
            exact hxy
        replace hxy := Lib.hid hxy
        clear hy hne
        go_wp2
        go_roundw
        case rel => exact ⟨k + 1, by omega, by go_num, hN.out, hg⟩
        case measure => simp [intOf]; omega
    · have hltz : ¬ ((k : Int) < (n : Int)) := by omega
      have hm : Hid (addL xs x = xs ++ [x]) := by
        have h1 : x ∉ xs := fun h1 => by
          obtain ⟨j, hj⟩ := List.getElem?_of_mem h1
          have h2 := (List.getElem?_eq_some_iff.1 hj).1
          exact hne j x (by have := hl.out; omega) hj rfl
        unfold addL
        rw [decide_eq_false h1]
        rfl
      clear hne hr
      have gX : Grew wr (wr.alloc (.cells #[.int .u64 (x : Int)] 22)) := (Chg.refl _ wr).alloc _
      have rI : RE elU (wr.alloc (.cells #[.int .u64 (x : Int)] 22)) (some ⟨wr.heap.size, 0, none⟩) 1 [x] := RE.newAt (by simp) rfl rfl
      have oX := OE.grew (OE.grew h.out hg) gX
      go_wp2_with (at_builtin; refine wpList_appE rfl _ _ 26 22 infoU64 rfl Tryz.underlying26 rfl base A n c xs rfl oX (by have := hg.size; first | omega | (simp; omega)) _ 1 1 [x] rfl rI (by unfold maxLen; omega) (by omega) ?_; intro A5 c5 w5 h5)
      go_ret
      refine ⟨A5, n + 1, c5, rfl, by rw [hm.out]; exact h5.oe, (Chg.of_grew (hg.trans gX)).trans h5.chg⟩
theorem nodup_at {l : List Nat} (h : l.Nodup) {i j x : Nat} (hi : l[i]? = some x) (hj : l[j]? = some x) : i = j := by
  obtain ⟨li, e1⟩ := List.getElem?_eq_some_iff.1 hi
  obtain ⟨lj, e2⟩ := List.getElem?_eq_some_iff.1 hj
  have h2 := List.pairwise_iff_getElem.1 h
  rcases Nat.lt_trichotomy i j with c | c | c
  · exact absurd (e1.trans e2.symm) (h2 i j li lj c)
  · exact c
  · exact absurd (e2.trans e1.symm) (h2 j i lj li c)
/-- what the law asks of a plan -/
structure PlF (L : List Met) (p : List Nat) : Prop where
  two : 2 ≤ p.length
  ris : Ris p
  cnt : (L.filter fun m => decide (m.id ∈ p)).length = p.length
  fit : ∃ U : List Nat, U.length ≤ 64 ∧ ∀ m ∈ L, m.id ∈ p → m.id ∈ U ∧ ∀ s ∈ m.src, s ∈ U
theorem PlA.facts {L : List Met} {p : List Nat} (h : PlA L p) (hp : p ≠ []) (hnd : (L.map Met.id).Nodup) : PlF L p := by
  obtain ⟨d, hd, hg, _⟩ := h.ex
  rcases hg with hg | ⟨P, hP, h2, hlen, rfl⟩
  · exact absurd hg hp
  have hdn : ((d.toList.map MtM.m).map Met.id).Nodup := (hd.map Met.id).nodup_iff.2 hnd
  have hGL : ∀ m ∈ metP d P, m ∈ L := fun m hm => by
    unfold metP at hm
    obtain ⟨q, hq, rfl⟩ := List.mem_map.1 hm
    exact hd.mem_iff.1 (List.mem_map_of_mem (mem_getU (hP.lt q hq)))
  have hidn : ((metP d P).map Met.id).Nodup := by
    unfold metP
    rw [List.map_map]
    refine List.Pairwise.map _ (fun a b h => h) ?_ |> fun h => h
    have h0 : P.Pairwise fun a b => a ≠ b := hP.nd
    refine List.Pairwise.imp_of_mem (fun {a b} ha hb hab e => hab ?_) h0
    have la := hP.lt a ha
    have lb := hP.lt b hb
    have at_ : ∀ q, q < d.size → ((d.toList.map MtM.m).map Met.id)[q]? = some (d[q]!).m.id := fun q hq => by
      rw [List.getElem?_map, List.getElem?_map, Array.getElem?_toList, Array.getElem?_eq_getElem hq, getElem!_pos d q hq]
      rfl
    exact nodup_at hdn (at_ a la) (by rw [at_ b lb]; exact congrArg some e.symm)
  have hpm : ∀ x, x ∈ srtN ((metP d P).map Met.id) ↔ x ∈ (metP d P).map Met.id := fun x => (srtN_perm _).mem_iff
  have hpn : (srtN ((metP d P).map Met.id)).Nodup := (srtN_perm _).nodup_iff.2 hidn
  have hpl : (srtN ((metP d P).map Met.id)).length = P.length := by rw [srtN_len, List.length_map]; unfold metP; rw [List.length_map]
  refine ⟨by omega, ?_, ?_, allOf (metP d P), hlen, fun m hm hmp => ?_⟩
  · unfold Ris
    have h3 := srtN_le ((metP d P).map Met.id)
    exact (h3.and hpn).imp fun h => by omega
  · have hfn : ((L.filter fun m => decide (m.id ∈ srtN ((metP d P).map Met.id))).map Met.id).Nodup := hnd.sublist (List.filter_sublist.map _)
    have h3 : ((L.filter fun m => decide (m.id ∈ srtN ((metP d P).map Met.id))).map Met.id).length ≤ (srtN ((metP d P).map Met.id)).length := List.Nodup.length_le_of_subset hfn fun x hx => by
      obtain ⟨m, hm, rfl⟩ := List.mem_map.1 hx
      exact of_decide_eq_true (List.mem_filter.1 hm).2
    have h4 : (srtN ((metP d P).map Met.id)).length ≤ ((L.filter fun m => decide (m.id ∈ srtN ((metP d P).map Met.id))).map Met.id).length := List.Nodup.length_le_of_subset hpn fun x hx => by
      obtain ⟨m, hm, rfl⟩ := List.mem_map.1 ((hpm x).1 hx)
      exact List.mem_map_of_mem (List.mem_filter.2 ⟨hGL m hm, decide_eq_true hx⟩)
    rw [List.length_map] at h3 h4
    omega
  · obtain ⟨g, hg, hid⟩ := List.mem_map.1 ((hpm _).1 hmp)
    have hgm : g = m := by
      have h5 := hGL g hg
      obtain ⟨i, hi⟩ := List.getElem?_of_mem h5
      obtain ⟨j, hj⟩ := List.getElem?_of_mem hm
      have e := nodup_at hnd (i := i) (j := j) (x := g.id) (by rw [List.getElem?_map, hi]; rfl) (by rw [List.getElem?_map, hj]; exact congrArg some hid.symm)
      subst e
      rw [hi] at hj
      injection hj
    subst hgm
    have h6 := (allOf_facts (metP d P)).2
    exact ⟨(h6 _).2 ⟨g, hg, .inl rfl⟩, fun s hs => (h6 s).2 ⟨g, hg, .inr hs⟩⟩
theorem metsAt_livF : ∀ (es pre : List Ent), metsAt (pre ++ es) (livF pre.length es) = (es.filter fun e => !e.mkd).map Ent.m
  | [], pre => rfl
  | e :: r, pre => by
    have ih := metsAt_livF r (pre ++ [e])
    rw [List.length_append, List.length_singleton, List.append_assoc] at ih
    have he : (pre ++ e :: r)[pre.length]? = some e := by rw [List.getElem?_append_right (Nat.le_refl _), Nat.sub_self]; rfl
    unfold livF
    cases hm : e.mkd
    · rw [List.filter_cons_of_pos (by simp [hm]), List.map_cons, ← ih]
      unfold metsAt
      simp []
    · rw [List.filter_cons_of_neg (by simp [hm]), ← ih]
      rfl
theorem livM_eq (es : List Ent) : livM es = (es.filter fun e => !e.mkd).map Ent.m := metsAt_livF es []
theorem livC_nodup (fl : Int) (es : List Ent) : ((livC fl es).map Met.id).Nodup := by
  unfold livC
  cases hck : chkI fl es
  · exact List.nodup_nil
  · have hs : Srt es := ((chkI_iff fl es).1 hck).srt
    show ((livM es).map Met.id).Nodup
    rw [livM_eq, List.map_map]
    exact List.pairwise_map.2 ((hs.sublist List.filter_sublist).imp fun h => Nat.ne_of_lt h)
end Go.Proofs.YtjoaonppaokhhaaGreat
