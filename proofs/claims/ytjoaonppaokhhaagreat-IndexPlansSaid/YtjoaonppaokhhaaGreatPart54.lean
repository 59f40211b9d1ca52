/-
  Several texts in one:
  The walk of the statement 'IndexPlans'. Conditions: what an argument's opening gives.
  Arguments that came in, opened: an index, a block's meta. Conditions: none.
-/
import Derived.Test.YtjoaonppaokhhaaGreatPart53
import Derived.Test.YtjoaonppaokhhaaGreatPart2
import Derived.Test.YtjoaonppaokhhaaGreatPart36
import Derived.Test.YtjoaonppaokhhaaGreatPart12

namespace Go.Proofs.YtjoaonppaokhhaaGreat
open Go.RowKit

theorem mem_take_succ {p : List Nat} {k : Nat} (hk : k < p.length) (x : Nat) : x ∈ p.take (k + 1) ↔ x ∈ p.take k ∨ p.toArray[k]! = x := by
  have e : p.toArray[k]! = p[k] := by rw [getElem!_pos _ k (by simpa using hk)]; simp
  rw [List.take_add_one, List.getElem?_eq_getElem hk, e, List.mem_append]
  simp [eq_comm]
theorem filter_take_succ {L : List Met} {p : List Nat} {i : Nat} {m : Met} (h : L[i]? = some m) :
    ((L.take (i + 1)).filter fun m => decide (m.id ∈ p)).length = ((L.take i).filter fun m => decide (m.id ∈ p)).length + (bif decide (m.id ∈ p) then 1 else 0) := by
  rw [List.take_add_one, h, Option.toList_some, List.filter_append, List.length_append]
  by_cases hm : m.id ∈ p
  · rw [decide_eq_true hm, List.filter_cons_of_pos (by simpa using hm)]
    rfl
  · rw [decide_eq_false hm, List.filter_cons_of_neg (by simpa using hm)]
    rfl
/-- the list that the law gathers -/
structure Acc (W0 w : World) (U : List Nat) (A : Option Addr) (n c : Nat) (xs : List Nat) : Prop where
  oe : OE elU w W0.heap.size 22 A n c xs
  nd : xs.Nodup
  sub : ∀ x ∈ xs, x ∈ U
  gr : Grew W0 w
theorem Acc.len {W0 w : World} {U : List Nat} {A : Option Addr} {n c : Nat} {xs : List Nat} (h : Acc W0 w U A n c xs) (hU : U.length ≤ 64) : n ≤ 64 := by
  have h1 : xs.length = n := OE.len (by decide) h.oe
  have h2 := List.Nodup.length_le_of_subset h.nd h.sub
  omega
theorem Acc.grew {W0 w w' : World} {U : List Nat} {A : Option Addr} {n c : Nat} {xs : List Nat} (h : Acc W0 w U A n c xs) (hg : Grew w w') : Acc W0 w' U A n c xs := ⟨OE.grew h.oe hg, h.nd, h.sub, h.gr.trans hg⟩
theorem Acc.add {W0 w w' : World} {U : List Nat} {A B : Option Addr} {n c m d : Nat} {xs : List Nat} {x : Nat} (h : Acc W0 w U A n c xs) (hx : x ∈ U) (ho : OE elU w' W0.heap.size 22 B m d (addL xs x)) (hc : Chg (fun k => ∃ ad, A = some ad ∧ k = ad.block) w w') : Acc W0 w' U B m d (addL xs x) :=
  ⟨ho, addL_nodup h.nd x, fun y hy => by
    rcases (addL_mem xs x y).1 hy with h1 | h1
    · exact h.sub y h1
    · rw [h1]; exact hx, h.gr.step hc fun k hk ⟨ad, e, he⟩ => by
    have := (Own.blk_lt h.oe ad e).1
    omega⟩

set_option maxRecDepth 100000 in
set_option maxHeartbeats 16000000 in
theorem walk_indexPlans (v : Nat) (fl : Int) (A : Option Addr) (n c : Nat) (es : List Ent) (t : Int) (w : World) (h : RX w A n es) (hf : Fit es) :
    Calls Tryz.prog 6 #[.agg #[.int .u64 (v : Int), .int .i64 fl, .slice A n c], .int .i64 t] w
      fun e w' => e = .returned (.bool true) ∧ Grew w w' := by
  have hln : es.length = n := h.len
  have hn : n ≤ 9223372036854775807 := by have := hf.n; omega
  obtain ⟨W, hW⟩ : ∃ W, W = w.alloc (.cells #[.int .u64 (v : Int), .int .i64 fl, .slice A n c] 25) := ⟨_, rfl⟩
  have gW : Grew w W := by rw [hW]; exact (Chg.refl _ w).alloc _
  have bI : Blk W w.heap.size 25 #[.int .u64 (v : Int), .int .i64 fl, .slice A n c] := by rw [hW]; exact Blk.new _ _ _
  have hC := copyIndex_any v fl A n c es W (h.grew gW) hf
  replace hln := Lib.hid hln
  go_enter Tryz.func6, Tryz.ntmps6
  go_wp2_with fail
  rw [← hW]
  clear hW
  refine hC.mono ?_
  rintro e w1 ⟨B1, C1, rfl, x1, g1⟩
  have hP := plan_any v fl t B1 n C1 es w1 x1.rx hn
  clear hC x1
  go_wp2_with fail
  refine hP.mono ?_
  rintro e w2 ⟨p, Bp, k, cc, rfl, hA, oP, g2⟩
  have hpl : p.length = k := OE.len (by decide) oP
  have gw2 : Grew W w2 := g1.trans g2
  clear hP g1 g2
  by_cases hk0 : k = 0
  · have hkz : ((k : Int) == 0) = true := by simp [hk0]
    replace hk0 := Lib.hid hk0
    replace hpl := Lib.hid hpl
    have gf := gW.trans gw2
    clear hA oP gw2
    go_wp2_with fail
    refine (awake_any _).mono ?_
    rintro e w3 ⟨rfl, g3⟩
    go_wp2
    go_ret
    exact ⟨rfl, gf.trans g3⟩
  · have hkz : ((k : Int) == 0) = false := by simp [hk0]
    obtain ⟨gp, rfl, _⟩ := Own.at_ oP (by omega)
    have hF : PlF (livC fl es) p := hA.facts (fun e => by rw [e] at hpl; simp at hpl; omega) (livC_nodup fl es)
    have bI2 := bI.grew gw2
    have i0 := bI2.cell 0
    have i1 := bI2.cell 1
    have i2 := bI2.cell 2
    simp only [List.getElem?_toArray, List.getElem?_cons_succ, List.getElem?_cons_zero] at i0 i1 i2
    have li := bI2.lt
    have hC2 := copyIndex_any v fl A n c es w2 (h.grew (gW.trans gw2)) hf
    have hcap := OE.cap oP
    have hpU : UA w2 w1.heap.size 22 gp k cc p.toArray := oP
    replace hpl := Lib.hid hpl
    replace hpU := Lib.hid hpU
    clear hA oP bI2
    go_wp2_with fail
    refine hC2.mono ?_
    rintro e w3 ⟨B2, C2, rfl, x2, g3⟩
    have hV := liveC_any v fl B2 n C2 es w3 x2.rx hn
    clear hC2 x2 i0 i1 i2 li
    have hL256 := livC_len fl es
    have hLs := livC_src fl es
    generalize livC fl es = L at *
    go_wp2_with fail
    refine hV.mono ?_
    rintro e w4 ⟨Bl, q, Cl, ms, rfl, hM, hmm, g4⟩
    have gp4 : Grew w2 w4 := g3.trans g4
    have gw4 : Grew w w4 := (gW.trans gw2).trans gp4
    have hql : ms.length = q := OE.len (by decide) hM.row
    have hLq : L.length = q := by rw [← hmm, List.length_map]; exact hql
    obtain ⟨h2, hris, hcnt, U, hU, hUm⟩ := hF
    have hq0 : 0 < q := by
      rcases Nat.eq_zero_or_pos q with e | e
      · have : L = [] := List.eq_nil_of_length_eq_zero (by omega)
        rw [this] at hcnt
        simp at hcnt
        omega
      · exact e
    obtain ⟨gb, rfl, _⟩ := Own.at_ hM.row hq0
    have hMA : MA w4 w3.heap.size gb q Cl ms.toArray := hM.row
    have hel := hM.el
    have hq256 : q ≤ 256 := by omega
    have hUs : Hid (∀ (i : Nat) (m : Met), L[i]? = some m → m.id ∈ p → m.id ∈ U ∧ ∀ s ∈ m.src, s ∈ U) := fun i m hi hm => hUm m (List.mem_of_getElem? hi) hm
    have hmm2 := Lib.hid hmm
    replace hris := Lib.hid hris
    replace hcnt := Lib.hid hcnt
    replace hU := Lib.hid hU
    replace h2 := Lib.hid h2
    replace hql := Lib.hid hql
    replace hLq := Lib.hid hLq
    replace hMA := Lib.hid hMA
    replace hel := Lib.hid hel
    replace hLs := Lib.hid hLs
    clear hM hmm hV hUm hL256
    go_wp2
    go_loopw [7, 8, 9] (fun v7 v8 v9 wr => ∃ (i m ja ca : Nat) (Aa : Option Addr) (xs : List Nat), v7 = .slice Aa ja ca ∧ v8 = .int .i64 (m : Int) ∧ v9 = .int .i64 (i : Int) ∧ i ≤ q ∧ m = ((L.take i).filter fun m => decide (m.id ∈ p)).length ∧ m ≤ i ∧ Acc w4 wr U Aa ja ca xs) (fun _ _ v9 _ => q - (intOf v9).toNat)
    case atStart => exact ⟨0, 0, 0, 0, none, [], rfl, rfl, rfl, Nat.zero_le _, rfl, Nat.le_refl _, ⟨OE.nil _ _ _, List.nodup_nil, fun x hx => absurd hx List.not_mem_nil, Chg.refl _ _⟩⟩
    case round =>
      obtain ⟨i, m, ja, ca, Aa, xs, rfl, rfl, rfl, hi, hmc, hmi, hAc⟩ := hrel
      replace hmc := Lib.hid hmc
      by_cases hlt : i < q
      · have hltz : (i : Int) < (q : Int) := by omega
        obtain ⟨x, hx⟩ : ∃ x, ms.toArray[i]! = x := ⟨_, rfl⟩
        have hxm : ms[i]? = some x := by
          have hl : i < ms.length := by rw [hql.out]; exact hlt
          rw [List.getElem?_eq_getElem hl, ← hx, getElem!_pos _ i (by simpa using hl)]
          simp
        have hLi : L[i]? = some x.m := by rw [← hmm2.out, List.getElem?_map, hxm]; rfl
        have hxe := hel.out x (List.mem_of_getElem? hxm)
        have hc0 : Hid (∀ X, Grew w4 X → X.cell? ⟨gb, i * 7, none⟩ = some (.int .u64 (x.m.id : Int)) ∧ X.cell? ⟨gb, i * 7 + 4, none⟩ = some (.slice x.A x.n x.c)) := fun X hX => by
          have hM2 : MA X w3.heap.size gb q Cl ms.toArray := OE.grew hMA.out hX
          have h3 := hM2.cellAt (k := i) (j := 0) hlt (by decide)
          have h4 := hM2.cellAt (k := i) (j := 4) hlt (by decide)
          rw [hx] at h3 h4
          exact ⟨h3, h4⟩
        have hsr : RE elU w4 x.A x.n x.m.src := hxe.re (by decide)
        have hxn : x.n ≤ 64 := by
          rw [← hsr.1]
          exact hLs.out x.m (List.mem_of_getElem? hLi)
        have hflt := Lib.hid (filter_take_succ (p := p) hLi)
        have hUx := Lib.hid (hUs.out i x.m hLi)
        replace hsr := Lib.hid hsr
        clear hx hxm hLi hxe
        have hAc1 := Lib.hid hAc
        clear hAc
        go_wp2
        go_loopw [10, 11] (fun v10 v11 wq => ∃ (j : Nat) (b : Bool), v10 = .bool b ∧ v11 = .int .i64 (j : Int) ∧ j ≤ k ∧ b = decide (x.m.id ∈ p.take j) ∧ Acc w4 wq U Aa ja ca xs) (fun _ v11 _ => k - (intOf v11).toNat)
        case atStart => exact ⟨0, false, rfl, rfl, Nat.zero_le _, rfl, hAc1.out⟩
        case round =>
          clear hAc1
          obtain ⟨j, b, rfl, rfl, hj, hb, hAc⟩ := hrel
          replace hb := Lib.hid hb
          by_cases hjk : j < k
          · have hjkz : (j : Int) < (k : Int) := by omega
            have hpW : UA wr w1.heap.size 22 gp k cc p.toArray := OE.grew hpU.out (gp4.trans hAc.gr)
            obtain ⟨y, hy⟩ : ∃ y, p.toArray[j]! = y := ⟨_, rfl⟩
            have y0 : wr.cell? ⟨gp, j, none⟩ = some (.int .u64 (y : Int)) := by rw [← hy]; exact hpW.cell hjk
            obtain ⟨x0, _⟩ := hc0.out wr hAc.gr
            have hms : Hid (x.m.id ∈ p.take (j + 1) ↔ x.m.id ∈ p.take j ∨ y = x.m.id) := by
              rw [← hy]
              exact mem_take_succ (by rw [hpl.out]; exact hjk) _
            have hAc2 := Lib.hid (hAc.grew (Chg.refl _ wr).drew)
            clear hy hpW hAc
            cases b
            · by_cases hyx : y = x.m.id
              · have hyb : ((y : Int) == (x.m.id : Int)) = true := by simp [hyx]
                have hN : Hid (true = decide (x.m.id ∈ p.take (j + 1))) := (decide_eq_true (hms.out.2 (.inr hyx))).symm
                replace hyx := Lib.hid hyx
                go_wp2_with fail
                refine wp_region_text [(3, 1), (22, 1)] (by kernel_rfl) (by kernel_rfl) ?_
                simp only [instr, chk, look, Nat.reduceBEq, Bool.false_eq_true, if_true, if_false, Nat.reduceEqDiff, List.cons_append, List.nil_append]
                go_wp2_with fail
                refine OnlyN.normal ?_
                go_wp2
                go_roundw
                case rel => exact ⟨j + 1, true, rfl, by go_num, by omega, hN.out, hAc2.out⟩
                case measure => simp [intOf]; omega
              · have hyb : ((y : Int) == (x.m.id : Int)) = false := by simp; omega
                have hN : Hid (false = decide (x.m.id ∈ p.take (j + 1))) := by
                  refine (decide_eq_false fun h1 => ?_).symm
                  rcases hms.out.1 h1 with h3 | h3
                  · exact of_decide_eq_false hb.out.symm h3
                  · exact hyx h3
                replace hyx := Lib.hid hyx
                go_wp2_with fail
                refine wp_region_text [(3, 1), (22, 1)] (by kernel_rfl) (by kernel_rfl) ?_
                simp only [instr, chk, look, Nat.reduceBEq, Bool.false_eq_true, if_true, if_false, Nat.reduceEqDiff, List.cons_append, List.nil_append]
                go_wp2_with fail
                refine OnlyN.normal ?_
                go_wp2
                go_roundw
                case rel => exact ⟨j + 1, false, rfl, by go_num, by omega, hN.out, hAc2.out⟩
                case measure => simp [intOf]; omega
            · have hN : Hid (true = decide (x.m.id ∈ p.take (j + 1))) := (decide_eq_true (hms.out.2 (.inl (of_decide_eq_true hb.out.symm)))).symm
              go_wp2_with fail
              refine wp_region_text [(3, 1), (22, 1)] (by kernel_rfl) (by kernel_rfl) ?_
              simp only [instr, chk, look, Nat.reduceBEq, Bool.false_eq_true, if_true, if_false, Nat.reduceEqDiff, List.cons_append, List.nil_append]
              go_wp2_with fail
              refine OnlyN.normal ?_
              go_wp2
              go_roundw
              case rel => exact ⟨j + 1, true, rfl, by go_num, by omega, hN.out, hAc2.out⟩
              case measure => simp [intOf]; omega
          · have hjkz : ¬ ((j : Int) < (k : Int)) := by omega
            have hbp : Hid (b = decide (x.m.id ∈ p)) := by
              have h3 := hb.out
              rw [List.take_of_length_le (by have := hpl.out; omega)] at h3
              exact h3
            clear hb
            cases b
            · have hmc2 : Hid (m = ((L.take (i + 1)).filter fun m => decide (m.id ∈ p)).length) := by
                rw [hflt.out, ← hbp.out]
                exact hmc.out
              replace hAc := Lib.hid hAc
              go_wp2
              go_roundw
              case rel => exact ⟨i + 1, m, ja, ca, Aa, xs, rfl, rfl, by go_num, by omega, hmc2.out, by omega, hAc.out⟩
              case measure => simp [intOf]; omega
            · have hmc2 : Hid (m + 1 = ((L.take (i + 1)).filter fun m => decide (m.id ∈ p)).length) := by
                rw [hflt.out, ← hbp.out, ← hmc.out]
                rfl
              have hux := hUx.out (of_decide_eq_true hbp.out.symm)
              obtain ⟨x0, x4⟩ := hc0.out wr hAc.gr
              have hja := hAc.len hU.out
              have hQ := ladd14_any Aa ja ca w4.heap.size x.m.id xs wr hAc.oe hAc.gr.size (by omega)
              go_wp2_with fail
              refine hQ.mono ?_
              rintro e w5 ⟨Ab, jb, cb, rfl, hob, hcb⟩
              have hAb := Lib.hid (hAc.add hux.1 hob hcb)
              clear hQ x0 x4 hAc hob hcb hja
              go_wp2
              go_loopw [7, 12] (fun v7 v12 wq => ∃ (j ja ca : Nat) (Aa : Option Addr) (xs : List Nat), v7 = .slice Aa ja ca ∧ v12 = .int .i64 (j : Int) ∧ j ≤ x.n ∧ Acc w4 wq U Aa ja ca xs) (fun _ v12 _ => x.n - (intOf v12).toNat)
              case atStart => exact ⟨0, jb, cb, Ab, _, rfl, rfl, Nat.zero_le _, hAb.out⟩
              case round =>
                clear hAb
                obtain ⟨j2, ja, ca, Aa, xs, rfl, rfl, hj2, hAc⟩ := hrel
                obtain ⟨x0, x4⟩ := hc0.out wr hAc.gr
                by_cases hjx : j2 < x.n
                · have hjxz : (j2 : Int) < (x.n : Int) := by omega
                  obtain ⟨ad, y, had, hy, y0⟩ := (hsr.out.grew hAc.gr).uat hjx
                  rw [had] at x4
                  have hyU := hux.2 y (List.mem_of_getElem? hy)
                  have hja := hAc.len hU.out
                  have hQ := ladd14_any Aa ja ca w4.heap.size y xs wr hAc.oe hAc.gr.size (by omega)
                  replace had := Lib.hid had
                  clear hy
                  go_wp2_with fail
                  refine hQ.mono ?_
                  rintro e w5 ⟨Ab, jb, cb, rfl, hob, hcb⟩
                  have hAb := Lib.hid (hAc.add hyU hob hcb)
                  clear hQ x0 x4 hAc hob hcb hja y0
                  go_wp2
                  go_roundw
                  case rel => exact ⟨j2 + 1, jb, cb, Ab, _, rfl, by go_num, by omega, hAb.out⟩
                  case measure => simp [intOf]; omega
                · have hjxz : ¬ ((j2 : Int) < (x.n : Int)) := by omega
                  replace hAc := Lib.hid hAc
                  go_wp2
                  go_roundw
                  case rel => exact ⟨i + 1, m + 1, ja, ca, Aa, xs, rfl, by go_num, by go_num, by omega, hmc2.out, by omega, hAc.out⟩
                  case measure => simp [intOf]; omega
      · have hltz : ¬ ((i : Int) < (q : Int)) := by omega
        replace hAc := Lib.hid hAc
        go_wp2
        -- the plan rises
        go_loopw [13] (fun vi wq => ∃ j : Nat, 1 ≤ j ∧ j ≤ k ∧ vi = .int .i64 (j : Int) ∧ Acc w4 wq U Aa ja ca xs) (fun vi _ => k - (intOf vi).toNat)
        case atStart => exact ⟨1, Nat.le_refl _, by omega, rfl, hAc.out⟩
        case round =>
          clear hAc
          obtain ⟨j, hj1, hjk, rfl, hAc⟩ := hrel
          by_cases hlt : j < k
          · have hltz : (j : Int) < (k : Int) := by omega
            have hpW : UA wr w1.heap.size 22 gp k cc p.toArray := OE.grew hpU.out (gp4.trans hAc.gr)
            obtain ⟨u, hu0⟩ : ∃ u, u = j - 1 := ⟨_, rfl⟩
            have huz : (j : Int) - 1 = (u : Int) := by omega
            have huk : u < k := by omega
            obtain ⟨x, hx⟩ : ∃ x, p.toArray[j]! = x := ⟨_, rfl⟩
            obtain ⟨y, hy⟩ : ∃ y, p.toArray[u]! = y := ⟨_, rfl⟩
            have x0 : wr.cell? ⟨gp, j, none⟩ = some (.int .u64 (x : Int)) := by rw [← hx]; exact hpW.cell hlt
            have y0 : wr.cell? ⟨gp, u, none⟩ = some (.int .u64 (y : Int)) := by rw [← hy]; exact hpW.cell huk
            have y1 : wr.cell? ⟨gp, j - 1, none⟩ = some (.int .u64 (y : Int)) := by rw [← hu0]; exact y0
            have hxy : y < x := by
              have h1 := hris.out
              unfold Ris at h1
              rw [List.pairwise_iff_getElem] at h1
              have lj : j < p.length := by rw [hpl.out]; exact hlt
              have lu : u < p.length := by rw [hpl.out]; exact huk
              have h3 := h1 u j lu lj (by omega)
              rw [getElem!_pos _ j (by simpa using lj)] at hx
              rw [getElem!_pos _ u (by simpa using lu)] at hy
              simp at hx hy
              omega
            have hle : decide ((x : Int) ≤ (y : Int)) = false := decide_eq_false (by omega)
            have hle2 : ¬ x ≤ y := by omega
            have hAc2 := Lib.hid (hAc.grew (Chg.refl _ wr).drew)
            clear hu0 hx hy hxy hpW hAc
            go_wp2_with fail
            refine wp_region_text [(3, 1), (22, 1)] (by kernel_rfl) (by kernel_rfl) ?_
            simp only [instr, chk, look, Nat.reduceBEq, Bool.false_eq_true, if_true, if_false, Nat.reduceEqDiff, List.cons_append, List.nil_append]
            go_wp2_with fail
            refine OnlyN.normal ?_
            go_wp2
            go_roundw
            case rel => exact ⟨j + 1, by omega, by omega, by go_num, hAc2.out⟩
            case measure => simp [intOf]; omega
          · have hltz : ¬ ((j : Int) < (k : Int)) := by omega
            have hja := hAc.len hU.out
            have hkz2 : (2 : Int) ≤ (k : Int) := by have := hpl.out; have := h2.out; omega
            have hmk : m = k := by
              have h3 := hmc.out
              rw [List.take_of_length_le (by have := hLq.out; omega)] at h3
              rw [h3, hcnt.out, hpl.out]
            have hmb : ((m : Int) == (k : Int)) = true := by simp [hmk]
            have hjz : (ja : Int) ≤ 64 := by omega
            have gf := Lib.hid (gw4.trans hAc.gr)
            replace hmk := Lib.hid hmk
            clear hAc
            go_wp2_with fail
            refine (awake_any _).mono ?_
            rintro e w9 ⟨rfl, g9⟩
            go_wp2
            go_ret
            exact ⟨rfl, gf.out.trans g9⟩
end Go.Proofs.YtjoaonppaokhhaaGreat

namespace Go.Proofs.YtjoaonppaokhhaaGreat
open Go.ChangeShapes Go.WideShapes Go.ChangeAt Go.RowKit Go.Deep

section
variable {H : Type} {enc : TypeId × Value → H} {P : Program} {W : World} {base : Nat} {spare : Nat → Bool} {held : Bool}
theorem weights_all {e : TypeId} {d : DataW H} {z : Nat} (hz : z ∈ d.weights P e) : ∀ {l : List (DataW H)}, d ∈ l → z ∈ DataW.weightsAll P e l
  | x :: r, h => by
    simp only [DataW.weightsAll, List.mem_append]
    rcases List.mem_cons.1 h with rfl | h
    · exact .inl hz
    · exact .inr (weights_all hz h)
theorem open_elemsW {α : Type} (E : El α) (Q : α → DataW H → Prop) {t e : TypeId} (ht : P.underlying t = some (.slice e)) (ce : P.cellsOf e = E.sz)
    (dec : ∀ n cs x, DataW.trod enc P W base spare held n e cs = some x → cs.length = P.cellsOf e → ∃ y, cs = E.cells y ∧ Q y x.1)
    {A : Option Addr} {n c : Nat} {d : DataW H} {p : List MemPlace} (h : DataW.Trod enc P W base spare held t (.slice A n c) d p) (hw : ∀ z ∈ d.weights P t, z ≤ reachBytes) :
    ∃ l : List α, RE E W A n l ∧ n * P.bytesOf e ≤ reachBytes ∧ (n ≤ c ∧ c ≤ 9223372036854775807) ∧ ∀ y ∈ l, ∃ dd, Q y dd ∧ ∀ z ∈ dd.weights P e, z ≤ reachBytes := by
  obtain ⟨fuel, hf⟩ := h
  rcases open_slice ht hf with ⟨hcs, _⟩ | ⟨a, len, cap, m, n', D, Pl, hcs, hb, hl, hm, hmm, hx, hel⟩
  · simp [Value.cells] at hcs
    obtain ⟨rfl, rfl, rfl⟩ := hcs
    exact ⟨[], RE.nil _ _, by simp, by omega, fun y hy => by cases hy⟩
  · simp [Value.cells] at hcs
    obtain ⟨rfl, rfl, rfl⟩ := hcs
    simp only [Prod.mk.injEq] at hx
    obtain ⟨rfl, _⟩ := hx
    have hlm : n ≤ m := by rw [hmm]; split <;> omega
    have key : ∀ i, i < n → ∃ y, (∀ j u, (E.cells y)[j]? = some u → W.cell? (a.add (i * E.sz + j)) = some u) ∧ Q y (D i) := fun i hi => by
      obtain ⟨cs', h1, h2⟩ := hel i (by omega)
      obtain ⟨_, hlen, hcell⟩ := World.cells?_some h1
      obtain ⟨y, rfl, hq⟩ := dec _ _ _ h2 hlen
      refine ⟨y, fun j u hu => ?_, hq⟩
      have hj : j < (E.cells y).length := (List.getElem?_eq_some_iff.1 hu).1
      have h3 := hcell j (by rw [← hlen]; exact hj)
      rw [add_add, ce] at h3
      rw [h3]
      exact hu
    obtain ⟨l, hll, hlp⟩ := list_of n _ key
    simp only [DataW.weights, ht] at hw
    refine ⟨l, ⟨hll, fun k u hu => ⟨a, rfl, ?_⟩⟩, ?_, by unfold maxLen at hm; omega, fun y hy => ?_⟩
    · have hk := (List.getElem?_eq_some_iff.1 hu).1
      rw [El.flat_length, hll] at hk
      have hs : 0 < E.sz := by
        rcases Nat.eq_zero_or_pos E.sz with e0 | e0
        · rw [e0] at hk; omega
        · exact e0
      obtain ⟨i, j, rfl, hj⟩ : ∃ i j, k = i * E.sz + j ∧ j < E.sz := ⟨k / E.sz, k % E.sz, by rw [Nat.mul_comm]; exact (Nat.div_add_mod k E.sz).symm, Nat.mod_lt _ hs⟩
      have hi : i < n := by
        rcases Nat.lt_or_ge i n with h1 | h1
        · exact h1
        · have := Nat.mul_le_mul_right E.sz h1; omega
      have hx : l[i]? = some l[i] := List.getElem?_eq_getElem (by omega)
      rw [E.flat_get l hx hj] at hu
      exact (hlp i _ hx).1 j u hu
    · have := hw _ (List.mem_cons_self)
      simp only [List.length_map, List.length_range] at this
      exact Nat.le_trans (Nat.mul_le_mul_right _ (Nat.le_add_right _ _)) this
    · obtain ⟨i, hi⟩ := List.mem_iff_getElem?.1 hy
      have hin : i < n := by have := (List.getElem?_eq_some_iff.1 hi).1; omega
      refine ⟨D i, (hlp i y hi).2, fun z hz => hw z (List.mem_cons_of_mem _ (List.mem_append_left _ (weights_all hz (List.mem_map.2 ⟨i, List.mem_range.2 hin, rfl⟩))))⟩
end

section
variable {H : Type} {enc : TypeId × Value → H} {W : World} {base : Nat} {spare : Nat → Bool} {held : Bool}
theorem cells_i64 : Tryz.prog.cellsOf 2 = 1 := by kernel_rfl
theorem cells_bool : Tryz.prog.cellsOf 4 = 1 := by kernel_rfl
theorem cells_u64s : Tryz.prog.cellsOf 26 = 1 := by kernel_rfl
theorem cells_met : Tryz.prog.cellsOf 28 = 7 := by kernel_rfl
theorem cells_ents : Tryz.prog.cellsOf 23 = 1 := by kernel_rfl
theorem bytes_u64 : Tryz.prog.bytesOf 22 = 8 := by kernel_rfl
theorem bytes_ent : Tryz.prog.bytesOf 51 = 88 := by kernel_rfl
theorem slice_o2 {t e : TypeId} (ht : Tryz.prog.underlying t = some (.slice e)) {k : Nat} {v : Value} {y : DataW H × List MemPlace} (h : DataW.trod enc Tryz.prog W base spare held k t [v] = some y) : ∃ A n c, v = .slice A n c := by
  rcases open_slice ht h with ⟨hcs, _⟩ | ⟨a, len, cap, m, n', D, Pl, hcs, _⟩
  · exact ⟨none, 0, 0, (List.cons.inj hcs).1⟩
  · exact ⟨some a, len, cap, (List.cons.inj hcs).1⟩
theorem u64s_bound {A : Option Addr} {n c : Nat} {d : DataW H} {p : List MemPlace} (h : DataW.Trod enc Tryz.prog W base spare held 26 (.slice A n c) d p) (hw : ∀ z ∈ d.weights Tryz.prog 26, z ≤ reachBytes) : n ≤ 17592186043904 := by
  obtain ⟨l, _, h2, _⟩ := open_elemsW elU (fun _ _ => True) Tryz.underlying26 (by kernel_rfl) (fun n cs x hx hl => by
    obtain ⟨v, rfl⟩ := one_cell (hl.trans cells_u64)
    obtain ⟨z, e0, d0, hz⟩ := DataW.trod_int Tryz.underlying22 hx
    obtain rfl := (List.cons.inj e0).1
    have hb := Go.bounds_u64 hz
    exact ⟨z.toNat, by simp [elU]; omega, trivial⟩) h hw
  rw [bytes_u64] at h2
  unfold reachBytes at h2
  omega
/-- a meta's cells -/
def metC (m : Met) (A : Option Addr) (k c : Nat) : List Value := [.int .u64 (m.id : Int), .int .i64 m.lo, .int .i64 m.hi, .int .i64 m.lv, .slice A k c, .int .i64 m.sr, .int .i64 m.pt]
set_option maxRecDepth 100000 in
theorem dec_met (n : Nat) (cs : List Value) (x : DataW H × List MemPlace) (h : DataW.trod enc Tryz.prog W base spare held n 28 cs = some x) :
    ∃ m A k c, cs = metC m A k c ∧ RE elU W A k m.src ∧ (k ≤ c ∧ c ≤ 9223372036854775807) ∧ MetW m ∧ ((∀ z ∈ x.1.weights Tryz.prog 28, z ≤ reachBytes) → k ≤ 17592186043904) := by
  obtain ⟨xs, k, _, rfl, hl, hxl, hf⟩ := DataW.trod_struct Tryz.underlying28 h
  have hl2 : cs.length = 7 := hl.trans cells_met
  match xs, hxl, cs, hl2 with
  | [y0, y1, y2, y3, y4, y5, y6], _, [v0, v1, v2, v3, v4, v5, v6], _ =>
    have g0' : DataW.trod enc Tryz.prog W base spare held k 22 (([v0, v1, v2, v3, v4, v5, v6].drop 0).take (Tryz.prog.cellsOf 22)) = some y0 := hf 0 _ rfl
    rw [cells_u64] at g0'
    have g0 : DataW.trod enc Tryz.prog W base spare held k 22 [v0] = some y0 := g0'
    have g1' : DataW.trod enc Tryz.prog W base spare held k 2 (([v0, v1, v2, v3, v4, v5, v6].drop 1).take (Tryz.prog.cellsOf 2)) = some y1 := hf 1 _ rfl
    rw [cells_i64] at g1'
    have g1 : DataW.trod enc Tryz.prog W base spare held k 2 [v1] = some y1 := g1'
    have g2' : DataW.trod enc Tryz.prog W base spare held k 2 (([v0, v1, v2, v3, v4, v5, v6].drop 2).take (Tryz.prog.cellsOf 2)) = some y2 := hf 2 _ rfl
    rw [cells_i64] at g2'
    have g2 : DataW.trod enc Tryz.prog W base spare held k 2 [v2] = some y2 := g2'
    have g3' : DataW.trod enc Tryz.prog W base spare held k 3 (([v0, v1, v2, v3, v4, v5, v6].drop 3).take (Tryz.prog.cellsOf 3)) = some y3 := hf 3 _ rfl
    rw [cells_int] at g3'
    have g3 : DataW.trod enc Tryz.prog W base spare held k 3 [v3] = some y3 := g3'
    have g4' : DataW.trod enc Tryz.prog W base spare held k 26 (([v0, v1, v2, v3, v4, v5, v6].drop 4).take (Tryz.prog.cellsOf 26)) = some y4 := hf 4 _ rfl
    rw [cells_u64s] at g4'
    have g4 : DataW.trod enc Tryz.prog W base spare held k 26 [v4] = some y4 := g4'
    have g5' : DataW.trod enc Tryz.prog W base spare held k 3 (([v0, v1, v2, v3, v4, v5, v6].drop 5).take (Tryz.prog.cellsOf 3)) = some y5 := hf 5 _ rfl
    rw [cells_int] at g5'
    have g5 : DataW.trod enc Tryz.prog W base spare held k 3 [v5] = some y5 := g5'
    have g6' : DataW.trod enc Tryz.prog W base spare held k 3 (([v0, v1, v2, v3, v4, v5, v6].drop 6).take (Tryz.prog.cellsOf 3)) = some y6 := hf 6 _ rfl
    rw [cells_int] at g6'
    have g6 : DataW.trod enc Tryz.prog W base spare held k 3 [v6] = some y6 := g6'
    obtain ⟨z0, e0, d0, hz0⟩ := DataW.trod_int Tryz.underlying22 g0
    obtain ⟨z1, e1, d1, hz1⟩ := DataW.trod_int Tryz.underlying2 g1
    obtain ⟨z2, e2, d2, hz2⟩ := DataW.trod_int Tryz.underlying2 g2
    obtain ⟨z3, e3, d3, hz3⟩ := DataW.trod_int Tryz.underlying3 g3
    obtain ⟨z5, e5, d5, hz5⟩ := DataW.trod_int Tryz.underlying3 g5
    obtain ⟨z6, e6, d6, hz6⟩ := DataW.trod_int Tryz.underlying3 g6
    obtain rfl := (List.cons.inj e0).1
    obtain rfl := (List.cons.inj e1).1
    obtain rfl := (List.cons.inj e2).1
    obtain rfl := (List.cons.inj e3).1
    obtain rfl := (List.cons.inj e5).1
    obtain rfl := (List.cons.inj e6).1
    obtain ⟨A, m, c, rfl⟩ := slice_o2 Tryz.underlying26 g4
    have b0 := Go.bounds_u64 hz0
    have b1 := Go.bounds_i64 hz1
    have b2 := Go.bounds_i64 hz2
    have hT : DataW.Trod enc Tryz.prog W base spare held 26 (.slice A m c) y4.1 y4.2 := ⟨k, g4⟩
    obtain ⟨l, r1, r2, r3⟩ := open_u64s0 hT
    refine ⟨⟨z0.toNat, z1, z2, z3, l, z5, z6⟩, A, m, c, ?_, r1, r2, ⟨by show z0.toNat < _; omega, b1, b2, r3⟩, fun hw => ?_⟩
    · show [Value.int .u64 z0, Value.int .i64 z1, Value.int .i64 z2, Value.int .i64 z3, Value.slice A m c, Value.int .i64 z5, Value.int .i64 z6] = [Value.int .u64 (z0.toNat : Int), Value.int .i64 z1, Value.int .i64 z2, Value.int .i64 z3, Value.slice A m c, Value.int .i64 z5, Value.int .i64 z6]
      rw [Int.toNat_of_nonneg (by omega)]
    · simp only [DataW.weights, Tryz.underlying28] at hw
      exact u64s_bound hT fun z hz => hw z (DataW.weights_mem_each (j := 4) rfl rfl z hz)
/-- what an entry's cells are -/
def EnQ (W : World) (y : EnM) (d : DataW H) : Prop := EnIs W y ∧ EntW y.e ∧ ((∀ z ∈ d.weights Tryz.prog 51, z ≤ reachBytes) → y.n ≤ 17592186043904)
set_option maxRecDepth 100000 in
theorem dec_ent (n : Nat) (cs : List Value) (x : DataW H × List MemPlace) (h : DataW.trod enc Tryz.prog W base spare held n 51 cs = some x) (_hl : cs.length = Tryz.prog.cellsOf 51) : ∃ y, cs = elEn.cells y ∧ EnQ W y x.1 := by
  obtain ⟨xs, k, _, rfl, hl, hxl, hf⟩ := DataW.trod_struct Tryz.underlying51 h
  have hl2 : cs.length = 9 := hl.trans (by kernel_rfl)
  match xs, hxl, cs, hl2 with
  | [y0, y1, y2], _, [v0, v1, v2, v3, v4, v5, v6, v7, v8], _ =>
    have g0' : DataW.trod enc Tryz.prog W base spare held k 28 (([v0, v1, v2, v3, v4, v5, v6, v7, v8].drop 0).take (Tryz.prog.cellsOf 28)) = some y0 := hf 0 _ rfl
    rw [cells_met] at g0'
    have g0 : DataW.trod enc Tryz.prog W base spare held k 28 [v0, v1, v2, v3, v4, v5, v6] = some y0 := g0'
    have g1' : DataW.trod enc Tryz.prog W base spare held k 4 (([v0, v1, v2, v3, v4, v5, v6, v7, v8].drop 7).take (Tryz.prog.cellsOf 4)) = some y1 := hf 1 _ rfl
    rw [cells_bool] at g1'
    have g1 : DataW.trod enc Tryz.prog W base spare held k 4 [v7] = some y1 := g1'
    have g2' : DataW.trod enc Tryz.prog W base spare held k 2 (([v0, v1, v2, v3, v4, v5, v6, v7, v8].drop 8).take (Tryz.prog.cellsOf 2)) = some y2 := hf 2 _ rfl
    rw [cells_i64] at g2'
    have g2 : DataW.trod enc Tryz.prog W base spare held k 2 [v8] = some y2 := g2'
    obtain ⟨m, A, q, c, e0, r1, r2, r3, r4⟩ := dec_met _ _ _ g0
    obtain ⟨b, e1, d1⟩ := DataW.trod_bool Tryz.underlying4 g1
    obtain ⟨z2, e2, d2, hz2⟩ := DataW.trod_int Tryz.underlying2 g2
    obtain rfl := (List.cons.inj e1).1
    obtain rfl := (List.cons.inj e2).1
    unfold metC at e0
    simp only [List.cons.injEq, and_true] at e0
    obtain ⟨rfl, rfl, rfl, rfl, rfl, rfl, rfl⟩ := e0
    refine ⟨⟨⟨m, b, z2⟩, A, q, c⟩, rfl, ⟨r1, r2⟩, ⟨r3, Go.bounds_i64 hz2⟩, fun hw => ?_⟩
    simp only [DataW.weights, Tryz.underlying51] at hw
    exact r4 fun z hz => hw z (DataW.weights_mem_each (j := 0) rfl rfl z hz)
theorem open_ents {A : Option Addr} {n c : Nat} {d : DataW H} {p : List MemPlace} (h : DataW.Trod enc Tryz.prog W base spare held 23 (.slice A n c) d p) (hw : ∀ z ∈ d.weights Tryz.prog 23, z ≤ reachBytes) :
    ∃ es : List Ent, RX W A n es ∧ Fit es ∧ (n ≤ c ∧ c ≤ 9223372036854775807) ∧ ∀ e ∈ es, EntW e := by
  obtain ⟨l, h1, h2, h3, h4⟩ := open_elemsW elEn (EnQ W) Tryz.underlying23 (by kernel_rfl) dec_ent h hw
  rw [bytes_ent] at h2
  unfold reachBytes at h2
  refine ⟨l.map EnM.e, ⟨l, h1, rfl, fun m hm => by obtain ⟨dd, q1, _⟩ := h4 m hm; exact q1.1⟩, ⟨by rw [List.length_map, h1.1]; omega, fun e he => ?_⟩, h3, fun e he => ?_⟩
  · obtain ⟨m, hm, rfl⟩ := List.mem_map.1 he
    obtain ⟨dd, q1, q2⟩ := h4 m hm
    rw [q1.1.row.1]
    exact q1.2.2 q2
  · obtain ⟨m, hm, rfl⟩ := List.mem_map.1 he
    obtain ⟨dd, q1, q2⟩ := h4 m hm
    exact q1.2.1
set_option maxRecDepth 100000 in
theorem open_index {b0 : Nat} {r : Reach} {v : Value} {d : DataW H} {p : List MemPlace} (hval : Value.okWide Tryz.prog W r b0 25 v) (h : DataW.Trod enc Tryz.prog W base spare held 25 v d p) (hw : ∀ z ∈ d.weights Tryz.prog 25, z ≤ reachBytes) :
    ∃ (ve : Nat) (fl : Int) (A : Option Addr) (n c : Nat) (es : List Ent), v = .agg #[.int .u64 (ve : Int), .int .i64 fl, .slice A n c] ∧ ve < 18446744073709551616 ∧ (-9223372036854775808 ≤ fl ∧ fl ≤ 9223372036854775807) ∧ RX W A n es ∧ Fit es ∧ (n ≤ c ∧ c ≤ 9223372036854775807) ∧ ∀ e ∈ es, EntW e := by
  obtain ⟨cs, rfl, _⟩ := okWide_struct Tryz.underlying25 hval
  obtain ⟨fuel, hf⟩ := h
  have hc : Value.cells (.agg cs) = cs := rfl
  rw [hc] at hf
  obtain ⟨xs, k, _, hx, hl, hxl, hff⟩ := DataW.trod_struct Tryz.underlying25 hf
  have hl2 : cs.toList.length = 3 := hl.trans (by kernel_rfl)
  obtain ⟨cl⟩ := cs
  match xs, hxl, cl, hl2 with
  | [y0, y1, y2], _, [v0, v1, v2], _ =>
    have g0' : DataW.trod enc Tryz.prog W base spare held k 22 (([v0, v1, v2].drop 0).take (Tryz.prog.cellsOf 22)) = some y0 := hff 0 _ rfl
    rw [cells_u64] at g0'
    have g0 : DataW.trod enc Tryz.prog W base spare held k 22 [v0] = some y0 := g0'
    have g1' : DataW.trod enc Tryz.prog W base spare held k 2 (([v0, v1, v2].drop 1).take (Tryz.prog.cellsOf 2)) = some y1 := hff 1 _ rfl
    rw [cells_i64] at g1'
    have g1 : DataW.trod enc Tryz.prog W base spare held k 2 [v1] = some y1 := g1'
    have g2' : DataW.trod enc Tryz.prog W base spare held k 23 (([v0, v1, v2].drop 2).take (Tryz.prog.cellsOf 23)) = some y2 := hff 2 _ rfl
    rw [cells_ents] at g2'
    have g2 : DataW.trod enc Tryz.prog W base spare held k 23 [v2] = some y2 := g2'
    obtain ⟨z0, e0, d0, hz0⟩ := DataW.trod_int Tryz.underlying22 g0
    obtain ⟨z1, e1, d1, hz1⟩ := DataW.trod_int Tryz.underlying2 g1
    obtain rfl := (List.cons.inj e0).1
    obtain rfl := (List.cons.inj e1).1
    obtain ⟨A, m, c, rfl⟩ := slice_o2 Tryz.underlying23 g2
    have b0 := Go.bounds_u64 hz0
    injection hx with hd hp
    subst hd
    simp only [DataW.weights, Tryz.underlying25] at hw
    obtain ⟨es, r1, r2, r3, r4⟩ := open_ents ⟨k, g2⟩ fun z hz => hw z (DataW.weights_mem_each (j := 2) rfl rfl z hz)
    exact ⟨z0.toNat, z1, A, m, c, es, by rw [Int.toNat_of_nonneg (by omega)], by omega, Go.bounds_i64 hz1, r1, r2, r3, r4⟩
set_option maxRecDepth 100000 in
theorem open_meta {b0 : Nat} {r : Reach} {v : Value} {d : DataW H} {p : List MemPlace} (hval : Value.okWide Tryz.prog W r b0 28 v) (h : DataW.Trod enc Tryz.prog W base spare held 28 v d p) (hw : ∀ z ∈ d.weights Tryz.prog 28, z ≤ reachBytes) :
    ∃ (m : Met) (A : Option Addr) (n c : Nat), v = .agg #[.int .u64 (m.id : Int), .int .i64 m.lo, .int .i64 m.hi, .int .i64 m.lv, .slice A n c, .int .i64 m.sr, .int .i64 m.pt] ∧ RE elU W A n m.src ∧ (n ≤ c ∧ c ≤ 9223372036854775807) ∧ MetW m ∧ n ≤ 17592186043904 := by
  obtain ⟨cs, rfl, _⟩ := okWide_struct Tryz.underlying28 hval
  obtain ⟨fuel, hf⟩ := h
  have hc : Value.cells (.agg cs) = cs := rfl
  rw [hc] at hf
  obtain ⟨m, A, k, c, e, r1, r2, r3, r4⟩ := dec_met _ _ _ hf
  obtain ⟨cl⟩ := cs
  simp only at e
  subst e
  exact ⟨m, A, k, c, rfl, r1, r2, r3, r4 hw⟩
end
end Go.Proofs.YtjoaonppaokhhaaGreat
