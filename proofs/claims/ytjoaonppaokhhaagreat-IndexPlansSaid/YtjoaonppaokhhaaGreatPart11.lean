/-
  Several texts in one:
  (block.May) walked. Conditions: lengths that a slice has.
  (index.Check), (slices.Contains), (index.Covered) walked. Conditions: lengths that a slice has.
-/
import Derived.Test.YtjoaonppaokhhaaGreatPart10
import Derived.Test.YtjoaonppaokhhaaGreatPart5

namespace Go.Proofs.YtjoaonppaokhhaaGreat
open Go.RowKit

theorem RE.uat {w : World} {A : Option Addr} {n : Nat} {l : List Nat} (h : RE elU w A n l) {k : Nat} (hk : k < n) :
    ∃ ad x, A = some ad ∧ l[k]? = some x ∧ w.cell? (ad.add k) = some (.int .u64 (x : Int)) := by
  obtain ⟨ad, x, e, hx, hc⟩ := h.at_ hk (by decide)
  refine ⟨ad, x, e, hx, ?_⟩
  have := hc 0 _ rfl
  rwa [show k * elU.sz + 0 = k by simp [elU]] at this
theorem RE.iat {w : World} {A : Option Addr} {n : Nat} {l : List Int} (h : RE elI w A n l) {k : Nat} (hk : k < n) :
    ∃ ad x, A = some ad ∧ l[k]? = some x ∧ w.cell? (ad.add k) = some (.int .i64 x) := by
  obtain ⟨ad, x, e, hx, hc⟩ := h.at_ hk (by decide)
  refine ⟨ad, x, e, hx, ?_⟩
  have := hc 0 _ rfl
  rwa [show k * elI.sz + 0 = k by simp [elI]] at this

set_option maxRecDepth 100000 in
set_option maxHeartbeats 4000000 in
theorem may_any (m : Met) (A : Option Addr) (n c : Nat) (w : World) (h : RE elU w A n m.src) (hn : n ≤ 9223372036854775807) :
    Calls Tryz.prog 39 #[.agg #[.int .u64 (m.id : Int), .int .i64 m.lo, .int .i64 m.hi, .int .i64 m.lv, .slice A n c, .int .i64 m.sr, .int .i64 m.pt]] w fun e w' => e = .returned (.bool (metOk m)) ∧ Grew w w' := by
  obtain ⟨id, lo, hi, lv, src, sr, pt⟩ := m
  obtain ⟨z, hz⟩ : ∃ z, metOk ⟨id, lo, hi, lv, src, sr, pt⟩ = z := ⟨_, rfl⟩
  rw [hz]
  have hln : src.length = n := h.1
  obtain ⟨t, ht⟩ : ∃ t, (riseG none src && (decide (lo ≤ hi) && decide (src.length ≤ 64))) = t := ⟨_, rfl⟩
  have hz0 : Hid (z = (([lv, sr, pt].drop 0).all numOk && t)) := by rw [← hz, ← ht]; rfl
  rw [hln] at ht
  replace hln := Lib.hid hln
  replace ht := Lib.hid ht
  clear hz
  have h : RE elU w A n src := h
  go_enter Tryz.func39, Tryz.ntmps39
  go_wp2
  go_loopw [15] (fun i wr => ∃ k : Nat, k ≤ 3 ∧ i = .int .i64 (k : Int) ∧ Hid (z = (([lv, sr, pt].drop k).all numOk && t)) ∧ Blk wr w.heap.size 28 #[.int .u64 (id : Int), .int .i64 lo, .int .i64 hi, .int .i64 lv, .slice A n c, .int .i64 sr, .int .i64 pt] ∧ Blk wr (w.heap.size + 1) 3 #[.int .i64 lv, .int .i64 sr, .int .i64 pt] ∧ Grew w wr) (fun i _ => 3 - (intOf i).toNat)
  case atStart => exact ⟨0, by omega, rfl, hz0, (Blk.new w _ _).alloc _, by have := Blk.new (w.alloc (.cells #[.int .u64 (id : Int), .int .i64 lo, .int .i64 hi, .int .i64 lv, .slice A n c, .int .i64 sr, .int .i64 pt] 28)) 3 #[.int .i64 lv, .int .i64 sr, .int .i64 pt]; simpa using this, ((Chg.refl _ w).alloc _).alloc _⟩
  case round =>
    obtain ⟨k, hk, rfl, hc, hb, hb2, hg⟩ := hrel
    by_cases hlt : k < 3
    · obtain ⟨x, hx⟩ : ∃ x, [lv, sr, pt][k]? = some x := ⟨_, List.getElem?_eq_getElem (by simpa using hlt)⟩
      have hxc : wr.cell? ⟨w.heap.size + 1, k, none⟩ = some (.int .i64 x) := by
        rw [hb2.cell]
        match k, hlt, hx with
        | 0, _, hx => injection hx with hx; subst hx; rfl
        | 1, _, hx => injection hx with hx; subst hx; rfl
        | 2, _, hx => injection hx with hx; subst hx; rfl
      have hxd : [lv, sr, pt].drop k = x :: [lv, sr, pt].drop (k + 1) := by
        obtain ⟨h1, h2⟩ := List.getElem?_eq_some_iff.1 hx
        rw [List.drop_eq_getElem_cons h1, h2]
      have hv := hc.out
      rw [hxd, List.all_cons] at hv
      unfold numOk at hv
      clear hc hxd hx
      by_cases h0 : x < 0
      · rw [decide_eq_false (p := (0 : Int) ≤ x) (by omega)] at hv
        replace hv := Lib.hid hv
        clear hb2
        go_wp2
        go_ret
        exact ⟨by simp [hv.out], hg⟩
      rw [decide_eq_true (p := (0 : Int) ≤ x) (by omega)] at hv
      by_cases h1 : 2147483647 < x
      · rw [decide_eq_false (p := x ≤ (2147483647 : Int)) (by omega)] at hv
        replace hv := Lib.hid hv
        clear hb2
        go_wp2
        go_ret
        exact ⟨by simp [hv.out], hg⟩
      rw [decide_eq_true (p := x ≤ (2147483647 : Int)) (by omega)] at hv
      simp only [Bool.true_and] at hv
      replace hv := Lib.hid hv
      go_wp2
      go_roundw
      case rel => exact ⟨k + 1, by omega, by go_num, hv, hb, hb2, hg⟩
      case measure => simp [intOf]; omega
    · obtain rfl : k = 3 := by omega
      have hv := hc.out
      simp only [List.drop_succ_cons, List.drop_zero, List.all_nil, Bool.true_and] at hv
      rw [← ht.out] at hv
      have hv0 : Hid (z = (riseG (prevU src 0) (src.drop 0) && (decide (lo ≤ hi) && decide (n ≤ 64)))) := hv
      clear hc hv hb2 hz0 ht
      have b0 := hb.cell 0
      have b1 := hb.cell 1
      have b2 := hb.cell 2
      have b4 := hb.cell 4
      go_wp2
      generalize wr = wo at *
      go_loopw [29] (fun i wq => ∃ k : Nat, k ≤ n ∧ i = .int .i64 (k : Int) ∧ Hid (z = (riseG (prevU src k) (src.drop k) && (decide (lo ≤ hi) && decide (n ≤ 64)))) ∧ wq = wo) (fun i _ => n - (intOf i).toNat)
      case atStart => exact ⟨0, by omega, rfl, hv0, rfl⟩
      case round =>
        obtain ⟨k, hk, rfl, hc, rfl⟩ := hrel
        by_cases hlt : k < n
        · obtain ⟨ad, x, rfl, hx, x0⟩ := (h.grew hg).uat hlt
          have hxd : src.drop k = x :: src.drop (k + 1) := by
            obtain ⟨h1, h2⟩ := List.getElem?_eq_some_iff.1 hx
            rw [List.drop_eq_getElem_cons h1, h2]
          have hv := hc.out
          rw [hxd, riseG_cons] at hv
          have hpn : prevU src (k + 1) = some x := by
            unfold prevU
            rw [if_neg (by omega), Nat.add_sub_cancel, hx]
          rw [← hpn] at hv
          clear hc hxd hpn
          rcases k with _ | k
          · rw [show upU (prevU src 0) x = true from rfl, Bool.true_and] at hv
            replace hv := Lib.hid hv
            clear hx
            replace x0 : wr.cell? ad = some (.int .u64 (x : Int)) := x0
            go_wp2
            go_roundw
            case rel => exact ⟨1, by omega, by go_num, hv, by trivial⟩
            case measure => simp [intOf]; omega
          · obtain ⟨pd, y, hpe, hy, y0⟩ := (h.grew hg).uat (show k < n by omega)
            injection hpe with hpe
            subst hpe
            have hpl : prevU src (k + 1) = some y := by
              unfold prevU
              rw [if_neg (by omega), Nat.add_sub_cancel, hy]
            rw [hpl, show upU (some y) x = decide (y < x) from rfl] at hv
            clear hx hy hpl
            replace x0 : wr.cell? ⟨ad.block, ad.off + (k + 1), none⟩ = some (.int .u64 (x : Int)) := by rw [← add_pos (by omega)]; exact x0
            by_cases hyx : y < x
            · rw [decide_eq_true hyx, Bool.true_and] at hv
              replace hv := Lib.hid hv
              go_wp2
              go_roundw
              case rel => exact ⟨k + 1 + 1, by omega, by go_num, hv, by trivial⟩
              case measure => simp [intOf]; omega
            · rw [decide_eq_false hyx, Bool.false_and, Bool.false_and] at hv
              replace hv := Lib.hid hv
              go_wp2
              go_ret
              exact ⟨by simp [hv.out], hg⟩
        · obtain rfl : k = n := by omega
          have hv := hc.out
          rw [List.drop_of_length_le (by have := hln.out; omega), riseG, Bool.true_and] at hv
          replace hv := Lib.hid hv
          clear hc
          have e64 : decide ((k : Int) ≤ 64) = decide (k ≤ 64) := decide_eq_decide.2 (by omega)
          by_cases hlh : lo ≤ hi
          · go_wp2
            go_ret
            exact ⟨by simp [hv.out, hlh], hg⟩
          · go_wp2
            go_ret
            exact ⟨by rw [hv.out, decide_eq_false (by omega)]; simp, hg⟩
end Go.Proofs.YtjoaonppaokhhaaGreat

namespace Go.Proofs.YtjoaonppaokhhaaGreat
open Go.RowKit

/-- the number of an error of the form, or none -/
def errI : Bool → Int
  | true => 0
  | false => 140
set_option maxRecDepth 100000 in
set_option maxHeartbeats 4000000 in
theorem check_any (v : Nat) (fl : Int) (A : Option Addr) (n c : Nat) (es : List Ent) (w : World) (h : RX w A n es) (hn : n ≤ 9223372036854775807) :
    Calls Tryz.prog 16 #[.agg #[.int .u64 (v : Int), .int .i64 fl, .slice A n c]] w fun e w' => e = .returned (.int .i64 (errI (chkI fl es))) ∧ Grew w w' := by
  obtain ⟨z, hz⟩ : ∃ z, chkI fl es = z := ⟨_, rfl⟩
  rw [hz]
  have hln : es.length = n := h.len
  unfold chkI at hz
  rw [hln] at hz
  replace hln := Lib.hid hln
  by_cases h256 : 256 < n
  · rw [decide_eq_false (p := n ≤ 256) (by omega)] at hz
    replace hz := Lib.hid hz.symm
    have e0 : (256 : Int) < (n : Int) := by omega
    clear h256
    go_enter Tryz.func16, Tryz.ntmps16
    go_wp2
    go_ret
    exact ⟨by rw [hz.out]; rfl, (Chg.refl _ w).alloc _⟩
  rw [decide_eq_true (p := n ≤ 256) (by omega), Bool.true_and] at hz
  have e0 : ¬ (256 : Int) < (n : Int) := by omega
  by_cases hlo : fl < -1099511627776
  · rw [decide_eq_false (p := (-1099511627776 : Int) ≤ fl) (by omega), Bool.false_and, Bool.false_and] at hz
    replace hz := Lib.hid hz.symm
    clear h256
    go_enter Tryz.func16, Tryz.ntmps16
    go_wp2
    go_ret
    exact ⟨by rw [hz.out]; rfl, (Chg.refl _ w).alloc _⟩
  rw [decide_eq_true (p := (-1099511627776 : Int) ≤ fl) (by omega), Bool.true_and] at hz
  by_cases hhi : 1099511627776 < fl
  · rw [decide_eq_false (p := fl ≤ (1099511627776 : Int)) (by omega), Bool.false_and] at hz
    replace hz := Lib.hid hz.symm
    clear h256
    go_enter Tryz.func16, Tryz.ntmps16
    go_wp2
    go_ret
    exact ⟨by rw [hz.out]; rfl, (Chg.refl _ w).alloc _⟩
  rw [decide_eq_true (p := fl ≤ (1099511627776 : Int)) (by omega), Bool.true_and] at hz
  have hz0 : Hid (z = entG (prevE es 0) (es.drop 0)) := hz.symm
  have hn256 : n ≤ 256 := by omega
  clear h256 hz
  go_enter Tryz.func16, Tryz.ntmps16
  go_wp2
  go_loopw [22] (fun i wr => ∃ k : Nat, k ≤ n ∧ i = .int .i64 (k : Int) ∧ Hid (z = entG (prevE es k) (es.drop k)) ∧ Blk wr w.heap.size 25 #[.int .u64 (v : Int), .int .i64 fl, .slice A n c] ∧ Grew w wr) (fun i _ => n - (intOf i).toNat)
  case atStart => exact ⟨0, by omega, rfl, hz0, Blk.new w _ _, (Chg.refl _ w).alloc _⟩
  case round =>
    obtain ⟨k, hk, rfl, hc, hb, hg⟩ := hrel
    by_cases hlt : k < n
    · obtain ⟨ad, m, rfl, hx, hm, x0, x1, x2, x3, x4, x5, x6, x7, x8⟩ := (h.grew hg).at_ hlt
      have hxd : es.drop k = m.e :: es.drop (k + 1) := by
        obtain ⟨h1, h2⟩ := List.getElem?_eq_some_iff.1 hx
        rw [List.drop_eq_getElem_cons h1, h2]
      have hv := hc.out
      rw [hxd, entG_cons] at hv
      have hpn : prevE es (k + 1) = some m.e.m.id := by
        unfold prevE
        rw [if_neg (by omega), Nat.add_sub_cancel, hx]
        rfl
      rw [← hpn] at hv
      obtain ⟨W, hW⟩ : ∃ W, W = wr.alloc (.cells #[.int .u64 (m.e.m.id : Int), .int .i64 m.e.m.lo, .int .i64 m.e.m.hi, .int .i64 m.e.m.lv, .slice m.A m.n m.c, .int .i64 m.e.m.sr, .int .i64 m.e.m.pt, .bool m.e.mkd, .int .i64 m.e.tm] 51) := ⟨_, rfl⟩
      have hgW : Grew wr W := by rw [hW]; exact (Chg.refl _ wr).alloc _
      have hbW : Blk W wr.heap.size 51 #[.int .u64 (m.e.m.id : Int), .int .i64 m.e.m.lo, .int .i64 m.e.m.hi, .int .i64 m.e.m.lv, .slice m.A m.n m.c, .int .i64 m.e.m.sr, .int .i64 m.e.m.pt, .bool m.e.mkd, .int .i64 m.e.tm] := by rw [hW]; exact Blk.new wr _ _
      have hM := fun W1 (hW1 : Grew W W1) => may_any m.e.m m.A m.n m.c W1 (hm.row.grew (hgW.trans hW1)) (by have := hm.cap; omega)
      replace hM := Lib.hid hM
      clear hc hxd hpn
      have hgg : Grew w W := hg.trans hgW
      have hbix := hb.grew hgW
      go_wp2_with fail
      rw [← hW]
      clear hW x0 x1 x2 x3 x4 x5 x6 x7 x8
      have c0 := hbW.cell 0
      have c1 := hbW.cell 1
      have c2 := hbW.cell 2
      have c3 := hbW.cell 3
      have c4 := hbW.cell 4
      have c5 := hbW.cell 5
      have c6 := hbW.cell 6
      refine wp_region_text [(3, 1), (22, 1), (2, 1)] (by kernel_rfl) (by kernel_rfl) ?_
      simp only [instr, chk, look, Nat.reduceBEq, Bool.false_eq_true, if_true, if_false, Nat.reduceEqDiff, List.cons_append, List.nil_append]
      go_wp2_with fail
      refine (hM.out _ (Chg.refl _ _).drew).mono ?_
      rintro e w1 ⟨rfl, hg1⟩
      have hgw : Grew W w1 := (Chg.refl _ W).drew.trans hg1
      have hbW1 := hbW.grew hgw
      have hbix1 := hbix.grew hgw
      have d0 := hbW1.cell 0
      have d7 := hbW1.cell 7
      have d8 := hbW1.cell 8
      simp only [List.getElem?_toArray, List.getElem?_cons_succ, List.getElem?_cons_zero] at d0 d7 d8
      cases hmo : metOk m.e.m
      · rw [hmo, Bool.false_and, Bool.false_and, Bool.false_and] at hv
        replace hv := Lib.hid hv
        clear hmo
        go_wp2_with fail
        refine OnlyN.normal ?_
        go_wp2
        go_ret
        exact ⟨by rw [hv.out]; rfl, hgg.trans hgw⟩
      rw [hmo, Bool.true_and] at hv
      clear hmo
      rcases k with _ | k
      · rw [show upU (prevE es 0) m.e.m.id = true from rfl, Bool.true_and] at hv
        clear hx
        cases hmk : m.e.mkd
        · rw [hmk, Bool.false_or] at hv
          rw [hmk] at d7
          by_cases ht0 : m.e.tm = 0
          · rw [decide_eq_true ht0, Bool.true_and] at hv
            replace hv := Lib.hid hv
            rw [ht0] at d8
            have hbt : (m.e.tm != 0) = false := by rw [ht0]; rfl
            clear hmk
            go_wp2_with fail
            refine OnlyN.normal ?_
            go_wp2
            go_roundw
            case rel => exact ⟨1, by omega, by go_num, hv, hbix1, hgg.trans hgw⟩
            case measure => simp [intOf]; omega
          · rw [decide_eq_false ht0, Bool.false_and] at hv
            replace hv := Lib.hid hv
            have hbt : (m.e.tm != 0) = true := by simpa using ht0
            clear hmk
            go_wp2_with fail
            refine OnlyN.normal ?_
            go_wp2
            go_ret
            exact ⟨by rw [hv.out]; rfl, hgg.trans hgw⟩
        · rw [hmk, Bool.true_or, Bool.true_and] at hv
          rw [hmk] at d7
          replace hv := Lib.hid hv
          clear hmk
          go_wp2_with fail
          refine OnlyN.normal ?_
          go_wp2
          go_roundw
          case rel => exact ⟨1, by omega, by go_num, hv, hbix1, hgg.trans hgw⟩
          case measure => simp [intOf]; omega
      · obtain ⟨pd, y, hpe, hy, hym, y0, -, -, -, -, -, -, -, -⟩ := (h.grew (hgg.trans hgw)).at_ (show k < n by omega)
        injection hpe with hpe
        subst hpe
        have hpl : prevE es (k + 1) = some y.e.m.id := by
          unfold prevE
          rw [if_neg (by omega), Nat.add_sub_cancel, hy]
          rfl
        rw [hpl, show upU (some y.e.m.id) m.e.m.id = decide (y.e.m.id < m.e.m.id) from rfl] at hv
        have e2 := hbix1.cell 2
        clear hx hy hpl hym
        by_cases hyx : y.e.m.id < m.e.m.id
        · rw [decide_eq_true hyx, Bool.true_and] at hv
          cases hmk : m.e.mkd
          · rw [hmk, Bool.false_or] at hv
            rw [hmk] at d7
            by_cases ht0 : m.e.tm = 0
            · rw [decide_eq_true ht0, Bool.true_and] at hv
              replace hv := Lib.hid hv
              rw [ht0] at d8
              have hbt : (m.e.tm != 0) = false := by rw [ht0]; rfl
              clear hmk
              go_wp2_with fail
              refine OnlyN.normal ?_
              go_wp2
              go_roundw
              case rel => exact ⟨k + 1 + 1, by omega, by go_num, hv, hbix1, hgg.trans hgw⟩
              case measure => simp [intOf]; omega
            · rw [decide_eq_false ht0, Bool.false_and] at hv
              replace hv := Lib.hid hv
              have hbt : (m.e.tm != 0) = true := by simpa using ht0
              clear hmk
              go_wp2_with fail
              refine OnlyN.normal ?_
              go_wp2
              go_ret
              exact ⟨by rw [hv.out]; rfl, hgg.trans hgw⟩
          · rw [hmk, Bool.true_or, Bool.true_and] at hv
            rw [hmk] at d7
            replace hv := Lib.hid hv
            clear hmk
            go_wp2_with fail
            refine OnlyN.normal ?_
            go_wp2
            go_roundw
            case rel => exact ⟨k + 1 + 1, by omega, by go_num, hv, hbix1, hgg.trans hgw⟩
            case measure => simp [intOf]; omega
        · rw [decide_eq_false hyx, Bool.false_and, Bool.false_and] at hv
          replace hv := Lib.hid hv
          go_wp2_with fail
          refine OnlyN.normal ?_
          go_wp2
          go_ret
          exact ⟨by rw [hv.out]; rfl, hgg.trans hgw⟩
    · obtain rfl : k = n := by omega
      have hv := hc.out
      rw [List.drop_of_length_le (by have := hln.out; omega), entG] at hv
      replace hv := Lib.hid hv
      clear hc
      go_wp2
      go_ret
      exact ⟨by rw [hv.out]; rfl, hg⟩
end Go.Proofs.YtjoaonppaokhhaaGreat
