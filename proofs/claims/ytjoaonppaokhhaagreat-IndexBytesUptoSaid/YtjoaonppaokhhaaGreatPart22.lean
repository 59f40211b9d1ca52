/-
  Several texts in one:
  (index.Due), (index.overlap), (index.Overlaps) walked. Conditions: lengths that a slice has; moments of 64 bits.
  (index.Overlaps) walked. Conditions: lengths that a slice has.
-/
import Derived.Test.YtjoaonppaokhhaaGreatPart21

namespace Go.Proofs.YtjoaonppaokhhaaGreat
open Go.RowKit

/-- may a marked entry go? -/
def dueB (now delay : Int) (e : Ent) : Bool := e.mkd && (decide (e.tm ≤ now) && decide (max delay 0 ≤ now - e.tm))
def dueL (es : List Ent) (now delay : Int) : List Nat := (es.filter (dueB now delay)).map fun e => e.m.id
theorem dueL_snoc {es : List Ent} {now delay : Int} {k : Nat} {e : Ent} (h : es[k]? = some e) : dueL (es.take (k + 1)) now delay = dueL (es.take k) now delay ++ if dueB now delay e = true then [e.m.id] else [] := by
  unfold dueL
  rw [List.take_add_one, h, List.filter_append, List.map_append]
  congr 1
  by_cases hd : dueB now delay e = true
  · simp [hd]
  · simp [hd]
theorem u64_sub {a b : Int} (ha : -9223372036854775808 ≤ a ∧ a ≤ 9223372036854775807) (hb : -9223372036854775808 ≤ b ∧ b ≤ 9223372036854775807) (h : b ≤ a) : IntKind.u64.wrap (IntKind.u64.wrap a - IntKind.u64.wrap b) = a - b := by
  simp only [IntKind.wrap_u64]
  omega
theorem u64_max {a : Int} (ha : -9223372036854775808 ≤ a ∧ a ≤ 9223372036854775807) : IntKind.u64.wrap (max a 0) = max a 0 := by
  simp only [IntKind.wrap_u64]
  omega

set_option maxRecDepth 100000 in
set_option maxHeartbeats 4000000 in
theorem due_ok (v : Nat) (fl : Int) (A : Option Addr) (n c : Nat) (es : List Ent) (now delay : Int) (w : World) (h : RX w A n es) (hok : IxOk fl es) (hb : ∀ e ∈ es, -9223372036854775808 ≤ e.tm ∧ e.tm ≤ 9223372036854775807) (hnow : -9223372036854775808 ≤ now ∧ now ≤ 9223372036854775807) (hdel : -9223372036854775808 ≤ delay ∧ delay ≤ 9223372036854775807) :
    Calls Tryz.prog 37 #[.agg #[.int .u64 (v : Int), .int .i64 fl, .slice A n c], .int .i64 now, .int .i64 delay] w fun e w' => ∃ B p C, e = .returned (.slice B p C) ∧ OE elU w' w.heap.size 22 B p C (dueL es now delay) ∧ Grew w w' := by
  have hgb : Grew w (w.alloc (.cells #[.int .u64 (v : Int), .int .i64 fl, .slice A n c] 25)) := (Chg.refl _ w).alloc _
  have hbi := Blk.new w 25 #[.int .u64 (v : Int), .int .i64 fl, .slice A n c]
  obtain ⟨W, hW⟩ : ∃ W, W = w.alloc (.cells #[.int .u64 (v : Int), .int .i64 fl, .slice A n c] 25) := ⟨_, rfl⟩
  rw [← hW] at hgb hbi
  have hln : es.length = n := h.len
  have hn : n ≤ 256 := by rw [← hln]; exact hok.len
  have hC := check_any v fl A n c es W (h.grew hgb) (by omega)
  rw [(chkI_iff fl es).2 hok] at hC
  replace hln := Lib.hid hln
  have hmx := u64_max hdel
  go_enter Tryz.func37, Tryz.ntmps37
  go_wp2_with fail
  rw [← hW]
  refine hC.mono ?_
  rintro e w2 ⟨rfl, hg1⟩
  unfold errI
  have g2 := hgb.trans hg1
  have bi2 := hbi.grew hg1
  have i2 := bi2.cell 2
  simp only [List.getElem?_toArray, List.getElem?_cons_succ, List.getElem?_cons_zero] at i2
  clear hC hW
  go_wp2
  go_loopw [7, 16] (fun s i wr => ∃ (k : Nat) (B : Option Addr) (p C : Nat), k ≤ n ∧ p ≤ k ∧ i = .int .i64 (k : Int) ∧ s = .slice B p C ∧ OE elU wr w.heap.size 22 B p C (dueL (es.take k) now delay) ∧ Grew w wr) (fun _ i _ => n - (intOf i).toNat)
  case atStart => exact ⟨0, none, 0, 0, by omega, by omega, rfl, rfl, OE.nil _ _ _, g2⟩
  case round =>
    clear i2 bi2 g2 hg1 hbi hgb
    obtain ⟨k, B, p, C, hk, hpk, rfl, rfl, ho, hg⟩ := hrel
    by_cases hlt : k < n
    · obtain ⟨ad, m, rfl, hx, hm, x0, x1, x2, x3, x4, x5, x6, x7, x8⟩ := (h.grew hg).at_ hlt
      have hst := dueL_snoc (now := now) (delay := delay) hx
      have hbm := hb m.e (List.mem_of_getElem? hx)
      have hgW : Grew wr (wr.alloc (.cells #[.int .u64 (m.e.m.id : Int), .int .i64 m.e.m.lo, .int .i64 m.e.m.hi, .int .i64 m.e.m.lv, .slice m.A m.n m.c, .int .i64 m.e.m.sr, .int .i64 m.e.m.pt, .bool m.e.mkd, .int .i64 m.e.tm] 51)) := (Chg.refl _ wr).alloc _
      have hcap := ho.cap
      have hsz := hg.size
      clear hx
      cases hmk : m.e.mkd
      · rw [show dueB now delay m.e = false by unfold dueB; rw [hmk]; rfl, if_neg (by simp), List.append_nil] at hst
        replace hst := Lib.hid hst
        rw [hmk] at x7 hgW
        clear hmk
        go_wp2
        go_roundw
        case rel => exact ⟨k + 1, B, p, C, by omega, by omega, by go_num, rfl, by rw [hst.out]; exact ho.grew hgW, hg.trans hgW⟩
        case measure => simp [intOf]; omega
      · rw [show dueB now delay m.e = (decide (m.e.tm ≤ now) && decide (max delay 0 ≤ now - m.e.tm)) by unfold dueB; rw [hmk]; rfl] at hst
        rw [hmk] at x7 hgW
        clear hmk
        by_cases hle : m.e.tm ≤ now
        · have hsb := u64_sub hnow hbm hle
          rw [decide_eq_true hle, Bool.true_and] at hst
          by_cases hdl : max delay 0 ≤ now - m.e.tm
          · rw [decide_eq_true hdl, if_pos rfl] at hst
            replace hst := Lib.hid hst
            have hsrc : RE elU ((wr.alloc (.cells #[.int .u64 (m.e.m.id : Int), .int .i64 m.e.m.lo, .int .i64 m.e.m.hi, .int .i64 m.e.m.lv, .slice m.A m.n m.c, .int .i64 m.e.m.sr, .int .i64 m.e.m.pt, .bool true, .int .i64 m.e.tm] 51)).alloc (.cells #[.int .u64 (m.e.m.id : Int)] 22)) (some ⟨wr.heap.size + 1, 0, none⟩) 1 [m.e.m.id] := RE.newAt (by simp) rfl rfl
            have hro := (ho.grew hgW).grew ((Chg.refl _ _).alloc (.cells #[.int .u64 (m.e.m.id : Int)] 22))
            go_wp2_with (at_builtin; go_loud (refine wpList_appE rfl _ _ 26 22 infoU64 rfl Tryz.underlying26 rfl w.heap.size B p C _ rfl hro (by simp; omega) _ 1 1 [m.e.m.id] rfl hsrc (by unfold maxLen; omega) (by omega) ?_); intro B2 C2 w5 h5)
            go_roundw
            case rel => exact ⟨k + 1, B2, p + 1, C2, by omega, by omega, by go_num, rfl, by rw [hst.out]; exact h5.oe, h5.grew ((hg.trans hgW).alloc _) (fun ad e => (Own.blk_lt ho ad e).1)⟩
            case measure => simp [intOf]; omega
          · rw [decide_eq_false hdl, if_neg (by simp), List.append_nil] at hst
            replace hst := Lib.hid hst
            go_wp2
            go_roundw
            case rel => exact ⟨k + 1, B, p, C, by omega, by omega, by go_num, rfl, by rw [hst.out]; exact ho.grew hgW, hg.trans hgW⟩
            case measure => simp [intOf]; omega
        · rw [decide_eq_false hle, Bool.false_and, if_neg (by simp), List.append_nil] at hst
          replace hst := Lib.hid hst
          go_wp2
          go_roundw
          case rel => exact ⟨k + 1, B, p, C, by omega, by omega, by go_num, rfl, by rw [hst.out]; exact ho.grew hgW, hg.trans hgW⟩
          case measure => simp [intOf]; omega
    · obtain rfl : k = n := by omega
      rw [List.take_of_length_le (by have := hln.out; omega)] at ho
      go_wp2
      go_ret
      exact ⟨B, p, C, rfl, ho, hg⟩

/-- do two blocks overlap? -/
def ovB (a b : Met) : Bool := decide (a.lo ≤ b.hi) && decide (b.lo ≤ a.hi)
def ovG : List Met → List Met → Bool
  | _, [] => false
  | p, a :: r => p.any (ovB a) || ovG (p ++ [a]) r
theorem ovG_cons (p : List Met) (a : Met) (r : List Met) : ovG p (a :: r) = (p.any (ovB a) || ovG (p ++ [a]) r) := rfl
/-- do some of them? -/
def ovL (ms : List Met) : Bool := ovG [] ms

set_option maxRecDepth 100000 in
set_option maxHeartbeats 4000000 in
theorem overlap_any (a b : Met) (A B : Option Addr) (n c m d : Nat) (w : World) :
    Calls Tryz.prog 81 #[.agg #[.int .u64 (a.id : Int), .int .i64 a.lo, .int .i64 a.hi, .int .i64 a.lv, .slice A n c, .int .i64 a.sr, .int .i64 a.pt],
      .agg #[.int .u64 (b.id : Int), .int .i64 b.lo, .int .i64 b.hi, .int .i64 b.lv, .slice B m d, .int .i64 b.sr, .int .i64 b.pt]] w fun e w' => e = .returned (.bool (ovB a b)) ∧ Grew w w' := by
  obtain ⟨z, hz⟩ : ∃ z, ovB a b = z := ⟨_, rfl⟩
  rw [hz]
  unfold ovB at hz
  by_cases h1 : a.lo ≤ b.hi
  · rw [decide_eq_true h1, Bool.true_and] at hz
    replace hz := Lib.hid hz
    go_enter Tryz.func81, Tryz.ntmps81
    go_wp2
    go_ret
    exact ⟨by rw [← hz.out]; simp, ((Chg.refl _ w).alloc _).alloc _⟩
  · rw [decide_eq_false h1, Bool.false_and] at hz
    replace hz := Lib.hid hz
    go_enter Tryz.func81, Tryz.ntmps81
    go_wp2
    go_ret
    exact ⟨by rw [← hz.out]; simp, ((Chg.refl _ w).alloc _).alloc _⟩
end Go.Proofs.YtjoaonppaokhhaaGreat

namespace Go.Proofs.YtjoaonppaokhhaaGreat
open Go.RowKit

theorem MXo.len {w : World} {base : Nat} {A : Option Addr} {n c : Nat} {ms : List MtM} (h : MXo w base A n c ms) : ms.length = n := OE.len (by decide) h.row
theorem map_get {α β : Type} {f : α → β} {l : List α} {r : List β} {k : Nat} {x : α} (h : l.map f = r) (hx : l[k]? = some x) : r[k]? = some (f x) := by
  rw [← h, List.getElem?_map, hx]
  rfl

set_option maxRecDepth 100000 in
set_option maxHeartbeats 4000000 in
theorem overlaps_ok (v : Nat) (fl : Int) (A : Option Addr) (n c : Nat) (es : List Ent) (w : World) (h : RX w A n es) (hok : IxOk fl es) :
    Calls Tryz.prog 35 #[.agg #[.int .u64 (v : Int), .int .i64 fl, .slice A n c]] w fun e w' => e = .returned (.bool (ovL (livM es))) ∧ Grew w w' := by
  have hgb : Grew w (w.alloc (.cells #[.int .u64 (v : Int), .int .i64 fl, .slice A n c] 25)) := (Chg.refl _ w).alloc _
  have hL := liveM_ok v fl A n c es _ (h.grew hgb) hok
  obtain ⟨z, hz⟩ : ∃ z, ovL (livM es) = z := ⟨_, rfl⟩
  rw [hz]
  generalize livM es = ls at *
  unfold ovL at hz
  replace hz := Lib.hid hz
  clear h hok
  go_enter Tryz.func35, Tryz.ntmps35
  go_wp2_with fail
  refine hL.mono ?_
  rintro e w1 ⟨B, p, C, ms, rfl, hm, hmap, hg1⟩
  have hg := hgb.trans hg1
  have hln : ls.length = p := by rw [← hmap, List.length_map]; exact hm.len
  have hz0 : Hid (z = ovG (ls.take 0) (ls.drop 0)) := Lib.hid hz.out.symm
  have hcap := hm.row.cap
  replace hln := Lib.hid hln
  replace hmap := Lib.hid hmap
  clear hL hz hgb hg1
  go_wp2
  go_loopw [12] (fun i wr => ∃ k : Nat, k ≤ p ∧ i = .int .i64 (k : Int) ∧ Hid (z = ovG (ls.take k) (ls.drop k)) ∧ Grew w1 wr) (fun i _ => p - (intOf i).toNat)
  case atStart => exact ⟨0, by omega, rfl, hz0, Chg.refl _ _⟩
  case round =>
    obtain ⟨k, hk, rfl, hc, hgr⟩ := hrel
    by_cases hlt : k < p
    · obtain ⟨ad, a, rfl, ha, hae, x0, x1, x2, x3, x4, x5, x6⟩ := (hm.grew hgr).at_ hlt
      have hla := map_get hmap.out ha
      have hv := hc.out
      rw [drop_at hla, ovG_cons] at hv
      have hz1 : Hid (z = (((ls.take k).drop 0).any (ovB a.m) || ovG (ls.take k ++ [a.m]) (ls.drop (k + 1)))) := Lib.hid hv
      have hkl : Hid ((ls.take k).length = k) := Lib.hid (by rw [List.length_take, hln.out]; omega)
      have htk : Hid (ls.take (k + 1) = ls.take k ++ [a.m]) := Lib.hid (by rw [List.take_add_one, hla]; rfl)
      obtain ⟨W, hW⟩ : ∃ W, W = wr.alloc (.cells #[.int .u64 (a.m.id : Int), .int .i64 a.m.lo, .int .i64 a.m.hi, .int .i64 a.m.lv, .slice a.A a.n a.c, .int .i64 a.m.sr, .int .i64 a.m.pt] 28) := ⟨_, rfl⟩
      have hgW : Grew wr W := by rw [hW]; exact (Chg.refl _ wr).alloc _
      have hbW : Blk W wr.heap.size 28 #[.int .u64 (a.m.id : Int), .int .i64 a.m.lo, .int .i64 a.m.hi, .int .i64 a.m.lv, .slice a.A a.n a.c, .int .i64 a.m.sr, .int .i64 a.m.pt] := by rw [hW]; exact Blk.new wr _ _
      have hgg := hgr.trans hgW
      clear hc hv hla ha hae
      go_wp2
      rw [← hW]
      clear x0 x1 x2 x3 x4 x5 x6 hW
      obtain ⟨gx, hgx⟩ : ∃ gx, wr.heap.size = gx := ⟨_, rfl⟩
      rw [hgx] at hbW ⊢
      clear hgx
      generalize W = wo at *
      go_loopw [21] (fun i wr2 => ∃ j : Nat, j ≤ k ∧ i = .int .i64 (j : Int) ∧ Hid (z = (((ls.take k).drop j).any (ovB a.m) || ovG (ls.take k ++ [a.m]) (ls.drop (k + 1)))) ∧ Grew wo wr2) (fun i _ => k - (intOf i).toNat)
      case atStart => exact ⟨0, by omega, rfl, hz1, Chg.refl _ _⟩
      case round =>
        obtain ⟨j, hj, rfl, hc, hg2⟩ := hrel
        by_cases hjk : j < k
        · obtain ⟨ad2, b, e2, hb, hbe, y0, y1, y2, y3, y4, y5, y6⟩ := (hm.grew (hgg.trans hg2)).at_ (k := j) (by omega)
          injection e2 with e2
          subst e2
          have hlb : (ls.take k)[j]? = some b.m := by rw [List.getElem?_take, if_pos hjk]; exact map_get hmap.out hb
          have hv := hc.out
          rw [drop_at hlb, List.any_cons] at hv
          obtain ⟨W2, hW2⟩ : ∃ W2, W2 = wr.alloc (.cells #[.int .u64 (b.m.id : Int), .int .i64 b.m.lo, .int .i64 b.m.hi, .int .i64 b.m.lv, .slice b.A b.n b.c, .int .i64 b.m.sr, .int .i64 b.m.pt] 28) := ⟨_, rfl⟩
          have hgW2 : Grew wr W2 := by rw [hW2]; exact (Chg.refl _ wr).alloc _
          have hO := overlap_any a.m b.m a.A b.A a.n a.c b.n b.c W2
          have hbx := (hbW.grew hg2).grew hgW2
          have q0 := hbx.cell 0
          have q1 := hbx.cell 1
          have q2 := hbx.cell 2
          have q3 := hbx.cell 3
          have q4 := hbx.cell 4
          have q5 := hbx.cell 5
          have q6 := hbx.cell 6
          simp only [List.getElem?_toArray, List.getElem?_cons_succ, List.getElem?_cons_zero] at q0 q1 q2 q3 q4 q5 q6
          rw [hW2] at q0 q1 q2 q3 q4 q5 q6
          clear hc hb hbe hlb
          generalize ovB a.m b.m = ob at *
          go_wp2_with fail
          rw [← hW2]
          refine hO.mono ?_
          rintro e w8 ⟨rfl, hg8⟩
          clear hO y0 y1 y2 y3 y4 y5 y6 q0 q1 q2 q3 q4 q5 q6 hbx hW2
          have g8 := (hg2.trans hgW2).trans hg8
          cases ob
          · rw [Bool.false_or] at hv
            replace hv := Lib.hid hv
            go_wp2
            go_roundw
            case rel => exact ⟨j + 1, by omega, by go_num, hv, g8⟩
            case measure => simp [intOf]; omega
          · rw [Bool.true_or, Bool.true_or] at hv
            replace hv := Lib.hid hv
            go_wp2
            go_ret
            exact ⟨by rw [hv.out]; rfl, hg.trans (hgg.trans g8)⟩
        · obtain rfl : j = k := by omega
          have hv := hc.out
          rw [List.drop_of_length_le (by have := hkl.out; omega), List.any_nil, Bool.false_or, ← htk.out] at hv
          replace hv := Lib.hid hv
          clear hc
          go_wp2
          go_roundw
          case rel => exact ⟨j + 1, by omega, by go_num, hv, hgg.trans hg2⟩
          case measure => simp [intOf]; omega
    · obtain rfl : k = p := by omega
      have hv := hc.out
      rw [List.drop_of_length_le (by have := hln.out; omega), ovG] at hv
      replace hv := Lib.hid hv
      clear hc
      go_wp2
      go_ret
      exact ⟨by rw [hv.out]; rfl, hg.trans hgr⟩
end Go.Proofs.YtjoaonppaokhhaaGreat
