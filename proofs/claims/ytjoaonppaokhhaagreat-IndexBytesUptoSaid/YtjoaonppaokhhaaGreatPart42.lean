/-
  Several texts in one:
  The document's (tidewrackref9.MetaIs) walked. Conditions: lengths that a slice has.
  The document's (tidewrackref14.Check) walked. Conditions: lengths that a slice has.
-/
import Derived.Test.YtjoaonppaokhhaaGreatPart41

namespace Go.Proofs.YtjoaonppaokhhaaGreat
open Go.RowKit

theorem small_any (x : Int) (w : World) : Calls Tryz.prog 87 #[.int .i64 x] w fun e w' => e = .returned (.bool (numOk x)) ∧ w' = w := by
  unfold numOk
  by_cases h0 : 0 ≤ x
  · rw [decide_eq_true h0, Bool.true_and]
    go_enter Tryz.func87, Tryz.ntmps87
    go_wp2
    go_ret
    exact ⟨by simp, rfl⟩
  · rw [decide_eq_false h0, Bool.false_and]
    go_enter Tryz.func87, Tryz.ntmps87
    go_wp2
    go_ret
    exact ⟨by simp, rfl⟩
theorem rise_one (l : List Nat) : riseG none l = riseG (prevU l 1) (l.drop 1) := by
  cases l with
  | nil => rfl
  | cons x r => rw [riseG_cons, show upU none x = true from rfl, Bool.true_and]; rfl

set_option maxRecDepth 100000 in
set_option maxHeartbeats 4000000 in
theorem rsources_any (A : Option Addr) (n c : Nat) (src : List Nat) (w : World) (h : RE elU w A n src) (hn : n ≤ 9223372036854775807) :
    Calls Tryz.prog 88 #[.slice A n c] w fun e w' => e = .returned (.bool (riseG none src && decide (src.length ≤ 64))) ∧ Grew w w' := by
  have hln : src.length = n := h.1
  obtain ⟨z, hz⟩ : ∃ z, (riseG none src && decide (src.length ≤ 64)) = z := ⟨_, rfl⟩
  rw [hz]
  rw [rise_one, hln] at hz
  have hz0 : Hid (z = (riseG (prevU src 1) (src.drop 1) && decide (n ≤ 64))) := Lib.hid hz.symm
  replace hln := Lib.hid hln
  clear hz
  go_enter Tryz.func88, Tryz.ntmps88
  go_wp2
  go_loopw [3] (fun i wr => ∃ k : Nat, 1 ≤ k ∧ (k ≤ n ∨ k = 1) ∧ i = .int .i64 (k : Int) ∧ Hid (z = (riseG (prevU src k) (src.drop k) && decide (n ≤ 64))) ∧ Grew w wr) (fun i _ => n - (intOf i).toNat)
  case atStart => exact ⟨1, by omega, .inr rfl, rfl, hz0, Chg.refl _ _⟩
  case round =>
    obtain ⟨k, hk1, hk, rfl, hc, hg⟩ := hrel
    by_cases hlt : k < n
    · obtain ⟨j, rfl⟩ : ∃ j, k = j + 1 := ⟨k - 1, by omega⟩
      obtain ⟨ad, x, rfl, hx, x0⟩ := (h.grew hg).uat hlt
      obtain ⟨pd, y, hpe, hy, y0⟩ := (h.grew hg).uat (show j < n by omega)
      injection hpe with hpe
      subst hpe
      have hxd : src.drop (j + 1) = x :: src.drop (j + 1 + 1) := by
        obtain ⟨h1, h2⟩ := List.getElem?_eq_some_iff.1 hx
        rw [List.drop_eq_getElem_cons h1, h2]
      have hv := hc.out
      rw [hxd, riseG_cons] at hv
      have hpn : prevU src (j + 1 + 1) = some x := by
        unfold prevU
        rw [if_neg (by omega), Nat.add_sub_cancel, hx]
      have hpl : prevU src (j + 1) = some y := by
        unfold prevU
        rw [if_neg (by omega), Nat.add_sub_cancel, hy]
      rw [← hpn, hpl, show upU (some y) x = decide (y < x) from rfl] at hv
      clear hc hxd hpn hx hy hpl hz0
      replace x0 : wr.cell? ⟨ad.block, ad.off + (j + 1), none⟩ = some (.int .u64 (x : Int)) := by rw [← add_pos (by omega)]; exact x0
      by_cases hyx : y < x
      · have hxy : ¬ (x : Int) ≤ (y : Int) := by omega
        rw [decide_eq_true hyx, Bool.true_and] at hv
        replace hv := Lib.hid hv
        clear hyx
        go_wp2_with fail
        refine wp_region_text [(3, 1), (22, 1)] (by kernel_rfl) (by kernel_rfl) ?_
        simp only [instr, chk, look, Nat.reduceBEq, Bool.false_eq_true, if_true, if_false, Nat.reduceEqDiff, List.cons_append, List.nil_append]
        go_wp2
        refine OnlyN.normal ?_
        go_wp2
        go_roundw
        case rel => exact ⟨j + 1 + 1, by omega, by omega, by go_num, hv, hg.drew⟩
        case measure => simp [intOf]; omega
      · have hxy : (x : Int) ≤ (y : Int) := by omega
        rw [decide_eq_false hyx, Bool.false_and, Bool.false_and] at hv
        replace hv := Lib.hid hv
        clear hyx
        go_wp2_with fail
        refine wp_region_text [(3, 1), (22, 1)] (by kernel_rfl) (by kernel_rfl) ?_
        simp only [instr, chk, look, Nat.reduceBEq, Bool.false_eq_true, if_true, if_false, Nat.reduceEqDiff, List.cons_append, List.nil_append]
        go_wp2
        refine OnlyN.normal ?_
        go_wp2
        go_ret
        exact ⟨by simp [hv.out], hg.drew⟩
    · have hv := hc.out
      rw [List.drop_of_length_le (by have := hln.out; omega), riseG, Bool.true_and] at hv
      replace hv := Lib.hid hv
      have hlt2 : ¬ (k : Int) < (n : Int) := by omega
      have e64 : decide ((n : Int) ≤ 64) = decide (n ≤ 64) := decide_eq_decide.2 (by omega)
      clear hc hz0
      go_wp2
      go_ret
      exact ⟨by simp [hv.out], hg⟩

set_option maxRecDepth 100000 in
set_option maxHeartbeats 4000000 in
theorem metaIs_any (m : Met) (A : Option Addr) (n c : Nat) (w : World) (h : RE elU w A n m.src) (hn : n ≤ 9223372036854775807) :
    Calls Tryz.prog 48 #[.agg #[.int .u64 (m.id : Int), .int .i64 m.lo, .int .i64 m.hi, .int .i64 m.lv, .slice A n c, .int .i64 m.sr, .int .i64 m.pt]] w fun e w' => e = .returned (.bool (metOk m)) ∧ Grew w w' := by
  have hW := (Chg.refl (fun _ => False) w).alloc (.cells #[.int .u64 (m.id : Int), .int .i64 m.lo, .int .i64 m.hi, .int .i64 m.lv, .slice A n c, .int .i64 m.sr, .int .i64 m.pt] 28)
  have hS := fun w' (g : Grew w w') => rsources_any A n c m.src w' (h.grew g) hn
  have h1 := fun w => small_any m.lv w
  have h2 := fun w => small_any m.sr w
  have h3 := fun w => small_any m.pt w
  obtain ⟨z, hz⟩ : ∃ z, metOk m = z := ⟨_, rfl⟩
  rw [hz]
  unfold metOk at hz
  simp only [List.all_cons, List.all_nil, Bool.and_true] at hz
  obtain ⟨y, hy⟩ : ∃ y, (riseG none m.src && decide (m.src.length ≤ 64)) = y := ⟨_, rfl⟩
  have hz2 : z = (numOk m.lv && (numOk m.sr && (numOk m.pt && (decide (m.lo ≤ m.hi) && y)))) := by
    rw [← hz, ← hy]
    cases numOk m.lv <;> cases numOk m.sr <;> cases numOk m.pt <;> cases riseG none m.src <;> cases decide (m.lo ≤ m.hi) <;> simp
  rw [hy] at hS
  clear hz hy
  cases e1 : numOk m.lv
  · rw [e1] at h1 hz2
    replace hz2 := Lib.hid hz2
    clear e1
    go_enter Tryz.func48, Tryz.ntmps48
    go_wp2_with fail
    refine (h1 _).mono ?_
    rintro e w1 ⟨rfl, rfl⟩
    go_wp2
    go_ret
    exact ⟨by simp [hz2.out], hW⟩
  rw [e1] at h1 hz2
  cases e2 : numOk m.sr
  · rw [e2] at h2 hz2
    replace hz2 := Lib.hid hz2
    clear e1 e2
    go_enter Tryz.func48, Tryz.ntmps48
    go_wp2_with fail
    refine (h1 _).mono ?_
    rintro e w1 ⟨rfl, rfl⟩
    go_wp2_with fail
    refine (h2 _).mono ?_
    rintro e w1 ⟨rfl, rfl⟩
    go_wp2
    go_ret
    exact ⟨by simp [hz2.out], hW⟩
  rw [e2] at h2 hz2
  cases e3 : numOk m.pt
  · rw [e3] at h3 hz2
    replace hz2 := Lib.hid hz2
    clear e1 e2 e3
    go_enter Tryz.func48, Tryz.ntmps48
    go_wp2_with fail
    refine (h1 _).mono ?_
    rintro e w1 ⟨rfl, rfl⟩
    go_wp2_with fail
    refine (h2 _).mono ?_
    rintro e w1 ⟨rfl, rfl⟩
    go_wp2_with fail
    refine (h3 _).mono ?_
    rintro e w1 ⟨rfl, rfl⟩
    go_wp2
    go_ret
    exact ⟨by simp [hz2.out], hW⟩
  rw [e3] at h3 hz2
  clear e1 e2 e3
  by_cases hlh : m.lo ≤ m.hi
  · rw [decide_eq_true hlh] at hz2
    replace hz2 := Lib.hid hz2
    go_enter Tryz.func48, Tryz.ntmps48
    go_wp2_with fail
    refine (h1 _).mono ?_
    rintro e w1 ⟨rfl, rfl⟩
    go_wp2_with fail
    refine (h2 _).mono ?_
    rintro e w1 ⟨rfl, rfl⟩
    go_wp2_with fail
    refine (h3 _).mono ?_
    rintro e w1 ⟨rfl, rfl⟩
    go_wp2_with fail
    refine (hS _ hW).mono ?_
    rintro e w1 ⟨rfl, g1⟩
    go_wp2
    go_ret
    exact ⟨by simp [hz2.out], hW.trans g1⟩
  · rw [decide_eq_false hlh] at hz2
    replace hz2 := Lib.hid hz2
    have hlh2 : ¬ m.lo ≤ m.hi := hlh
    go_enter Tryz.func48, Tryz.ntmps48
    go_wp2_with fail
    refine (h1 _).mono ?_
    rintro e w1 ⟨rfl, rfl⟩
    go_wp2_with fail
    refine (h2 _).mono ?_
    rintro e w1 ⟨rfl, rfl⟩
    go_wp2_with fail
    refine (h3 _).mono ?_
    rintro e w1 ⟨rfl, rfl⟩
    go_wp2
    go_ret
    exact ⟨by simp [hz2.out], hW⟩
end Go.Proofs.YtjoaonppaokhhaaGreat

namespace Go.Proofs.YtjoaonppaokhhaaGreat
open Go.RowKit

set_option maxRecDepth 100000 in
set_option maxHeartbeats 8000000 in
theorem rcheck_any (v : Nat) (fl : Int) (A : Option Addr) (n c : Nat) (es : List Ent) (w : World) (h : RX w A n es) (hn : n ≤ 9223372036854775807) :
    Calls Tryz.prog 17 #[.agg #[.int .u64 (v : Int), .int .i64 fl, .slice A n c]] w fun e w' => e = .returned (.int .i64 (errI (chkI fl es))) ∧ Grew w w' := by
  obtain ⟨z, hz⟩ : ∃ z, chkI fl es = z := ⟨_, rfl⟩
  rw [hz]
  have hln : es.length = n := h.len
  unfold chkI at hz
  rw [hln] at hz
  replace hln := Lib.hid hln
  by_cases h256 : 256 < n
  · rw [decide_eq_false (p := n ≤ 256) (by omega)] at hz
    have e0 : (256 : Int) < (n : Int) := by omega
    replace hz := Lib.hid hz.symm
    clear h256
    go_enter Tryz.func17, Tryz.ntmps17
    go_wp2
    go_ret
    exact ⟨by rw [hz.out]; rfl, (Chg.refl _ w).alloc _⟩
  rw [decide_eq_true (p := n ≤ 256) (by omega), Bool.true_and] at hz
  have e0 : ¬ (256 : Int) < (n : Int) := by omega
  by_cases hlo : fl < -1099511627776
  · rw [decide_eq_false (p := (-1099511627776 : Int) ≤ fl) (by omega), Bool.false_and, Bool.false_and] at hz
    replace hz := Lib.hid hz.symm
    clear h256
    go_enter Tryz.func17, Tryz.ntmps17
    go_wp2
    go_ret
    exact ⟨by rw [hz.out]; rfl, (Chg.refl _ w).alloc _⟩
  rw [decide_eq_true (p := (-1099511627776 : Int) ≤ fl) (by omega), Bool.true_and] at hz
  by_cases hhi : 1099511627776 < fl
  · rw [decide_eq_false (p := fl ≤ (1099511627776 : Int)) (by omega), Bool.false_and] at hz
    replace hz := Lib.hid hz.symm
    clear h256
    go_enter Tryz.func17, Tryz.ntmps17
    go_wp2
    go_ret
    exact ⟨by rw [hz.out]; rfl, (Chg.refl _ w).alloc _⟩
  rw [decide_eq_true (p := fl ≤ (1099511627776 : Int)) (by omega), Bool.true_and] at hz
  have hz0 : Hid (z = entG (prevE es 0) (es.drop 0)) := hz.symm
  have hn256 : n ≤ 256 := by omega
  clear h256 hz
  go_enter Tryz.func17, Tryz.ntmps17
  go_wp2
  go_loopw [3] (fun i wr => ∃ k : Nat, k ≤ n ∧ i = .int .i64 (k : Int) ∧ Hid (z = entG (prevE es k) (es.drop k)) ∧ Blk wr w.heap.size 25 #[.int .u64 (v : Int), .int .i64 fl, .slice A n c] ∧ Grew w wr) (fun i _ => n - (intOf i).toNat)
  case atStart => exact ⟨0, by omega, rfl, hz0, Blk.new w _ _, (Chg.refl _ w).alloc _⟩
  case round =>
    obtain ⟨k, hk, rfl, hc, hb, hg⟩ := hrel
    have i2 : wr.cell? ⟨w.heap.size, 2, none⟩ = some (.slice A n c) := hb.cell 2
    by_cases hlt : k < n
    · obtain ⟨ad, m, rfl, hx, hm, x0, x1, x2, x3, x4, x5, x6, x7, x8⟩ := (h.grew hg).at_ hlt
      have hxd : es.drop k = m.e :: es.drop (k + 1) := by
        obtain ⟨h1, h2⟩ := List.getElem?_eq_some_iff.1 hx
        rw [List.drop_eq_getElem_cons h1, h2]
      have hv := hc.out
      rw [hxd, entG_cons] at hv
      have hpn : prevE es (k + 1) = some m.e.m.id := by
        unfold prevE
        rw [if_neg (by omega), Nat.add_sub_cancel, hx]
        rfl
      rw [← hpn] at hv
      have hM := fun W1 (hW1 : Grew wr W1) => metaIs_any m.e.m m.A m.n m.c W1 (hm.row.grew hW1) (by have := hm.cap; omega)
      replace hM := Lib.hid hM
      have hpv : Hid (∀ j, k = j + 1 → ∃ y, prevE es k = some y ∧ wr.cell? (ad.add (j * 9)) = some (.int .u64 (y : Int))) := Lib.hid fun j hj => by
        obtain ⟨pd, m2, hpe, hy, _, y0, _⟩ := (h.grew hg).at_ (show j < n by omega)
        injection hpe with hpe
        subst hpe
        subst hj
        exact ⟨m2.e.m.id, by unfold prevE; rw [if_neg (by omega), Nat.add_sub_cancel, hy]; rfl, y0⟩
      clear hc hxd hpn hx hz0
      go_wp2_with fail
      refine wp_region_text [(3, 1), (22, 1), (2, 1)] (by kernel_rfl) (by kernel_rfl) ?_
      simp only [instr, chk, look, Nat.reduceBEq, Bool.false_eq_true, if_true, if_false, Nat.reduceEqDiff, List.cons_append, List.nil_append]
      go_wp2_with fail
      refine (hM.out _ (Chg.refl _ _).drew).mono ?_
      rintro e w1 ⟨rfl, hg1⟩
      have hgw : Grew wr w1 := (Chg.refl _ wr).drew.trans hg1
      have hb1 := hb.grew hgw
      have j2 : w1.cell? ⟨w.heap.size, 2, none⟩ = some (.slice (some ad) n c) := hb1.cell 2
      have d0 := Chg.cell hgw x0 (fun e => e)
      have d7 := Chg.cell hgw x7 (fun e => e)
      have d8 := Chg.cell hgw x8 (fun e => e)
      have hgg := hg.trans hgw
      clear x0 x1 x2 x3 x4 x5 x6 x7 x8 i2
      cases hmo : metOk m.e.m
      · rw [hmo, Bool.false_and, Bool.false_and, Bool.false_and] at hv
        replace hv := Lib.hid hv
        clear hmo
        go_wp2_with fail
        refine OnlyN.normal ?_
        go_wp2
        go_ret
        exact ⟨by rw [hv.out]; rfl, hgg⟩
      rw [hmo, Bool.true_and] at hv
      clear hmo
      cases hmk : m.e.mkd
      · rw [hmk, Bool.false_or] at hv
        rw [hmk] at d7
        clear hmk
        by_cases ht0 : m.e.tm = 0
        · rw [decide_eq_true ht0, Bool.and_true] at hv
          rw [ht0] at d8
          clear ht0
          rcases k with _ | k
          · rw [show upU (prevE es 0) m.e.m.id = true from rfl, Bool.true_and] at hv
            replace hv := Lib.hid hv
            replace d7 : w1.cell? ⟨ad.block, ad.off + 7, none⟩ = some (.bool false) := d7
            replace d8 : w1.cell? ⟨ad.block, ad.off + 8, none⟩ = some (.int .i64 0) := d8
            go_wp2_with fail
            refine OnlyN.normal ?_
            go_wp2
            go_roundw
            case rel => exact ⟨0 + 1, by omega, by go_num, hv, hb1, hgg⟩
            case measure => simp [intOf]; omega
          · obtain ⟨y, hpy, y0⟩ := hpv.out k rfl
            have p0 := Chg.cell hgw y0 (fun e => e)
            rw [hpy, show upU (some y) m.e.m.id = decide (y < m.e.m.id) from rfl] at hv
            clear y0 hpy
            by_cases hyx : y < m.e.m.id
            · have hxy : ¬ (m.e.m.id : Int) ≤ (y : Int) := by omega
              rw [decide_eq_true hyx, Bool.true_and] at hv
              replace hv := Lib.hid hv
              clear hyx
              go_wp2_with fail
              refine OnlyN.normal ?_
              go_wp2
              go_roundw
              case rel => exact ⟨(k + 1) + 1, by omega, by go_num, hv, hb1, hgg⟩
              case measure => simp [intOf]; omega
            · have hxy : (m.e.m.id : Int) ≤ (y : Int) := by omega
              rw [decide_eq_false hyx, Bool.false_and] at hv
              replace hv := Lib.hid hv
              clear hyx
              go_wp2_with fail
              refine OnlyN.normal ?_
              go_wp2
              go_ret
              exact ⟨by rw [hv.out]; rfl, hgg⟩
        · rw [decide_eq_false ht0, Bool.and_false, Bool.false_and] at hv
          replace hv := Lib.hid hv
          have hbt : (m.e.tm != 0) = true := by simpa using ht0
          go_wp2_with fail
          refine OnlyN.normal ?_
          go_wp2
          go_ret
          exact ⟨by rw [hv.out]; rfl, hgg⟩
      · rw [hmk, Bool.true_or, Bool.and_true] at hv
        rw [hmk] at d7
        clear hmk
        rcases k with _ | k
        · rw [show upU (prevE es 0) m.e.m.id = true from rfl, Bool.true_and] at hv
          replace hv := Lib.hid hv
          replace d7 : w1.cell? ⟨ad.block, ad.off + 7, none⟩ = some (.bool true) := d7
          go_wp2_with fail
          refine OnlyN.normal ?_
          go_wp2
          go_roundw
          case rel => exact ⟨0 + 1, by omega, by go_num, hv, hb1, hgg⟩
          case measure => simp [intOf]; omega
        · obtain ⟨y, hpy, y0⟩ := hpv.out k rfl
          have p0 := Chg.cell hgw y0 (fun e => e)
          rw [hpy, show upU (some y) m.e.m.id = decide (y < m.e.m.id) from rfl] at hv
          clear y0 hpy
          by_cases hyx : y < m.e.m.id
          · have hxy : ¬ (m.e.m.id : Int) ≤ (y : Int) := by omega
            rw [decide_eq_true hyx, Bool.true_and] at hv
            replace hv := Lib.hid hv
            clear hyx
            go_wp2_with fail
            refine OnlyN.normal ?_
            go_wp2
            go_roundw
            case rel => exact ⟨(k + 1) + 1, by omega, by go_num, hv, hb1, hgg⟩
            case measure => simp [intOf]; omega
          · have hxy : (m.e.m.id : Int) ≤ (y : Int) := by omega
            rw [decide_eq_false hyx, Bool.false_and] at hv
            replace hv := Lib.hid hv
            clear hyx
            go_wp2_with fail
            refine OnlyN.normal ?_
            go_wp2
            go_ret
            exact ⟨by rw [hv.out]; rfl, hgg⟩
    · obtain rfl : k = n := by omega
      have hv := hc.out
      rw [List.drop_of_length_le (by have := hln.out; omega), entG] at hv
      clear hc hz0
      replace hv := Lib.hid hv
      go_wp2
      go_ret
      exact ⟨by rw [hv.out]; rfl, hg⟩
end Go.Proofs.YtjoaonppaokhhaaGreat
