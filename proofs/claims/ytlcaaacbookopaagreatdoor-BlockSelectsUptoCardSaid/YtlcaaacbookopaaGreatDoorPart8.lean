/-
  Several texts in one:
  (block.May) walked. Conditions: lengths that a slice has.
  (index.Check), (slices.Contains), (index.Covered) walked. Conditions: lengths that a slice has.
  (slices.Contains), (index.Covered), (index.live) walked. Conditions: lengths that a slice has.
  (index.Copy) walked. Conditions: lengths that memory bears.
  The statements' own copies of indexes and of rows of IDs. Conditions: lengths that memory bears.
  (index.find) walked: a binary search by a function. Conditions: IDs that rise.
  (slices.Insert) at rows of entries, one entry put in. Conditions: a place within the row; lengths that memory bears.
  (index.Add) walked. Conditions: lengths that a slice has.
  (index.Raise) walked. Conditions: lengths that a slice has.
  (index.Mark) walked. Conditions: lengths that a slice has.
  Rows of IDs, metas, indexes that are alike are said to be; the statements' own index. Conditions: lengths that a slice has.
  (slices.Delete) of one entry, (index.Remove) walked. Conditions: lengths that a slice has.
  (index.Remove) walked. Conditions: lengths that a slice has.
  (index.Live) walked. Conditions: lengths that a slice has.
  (index.Due), (index.overlap), (index.Overlaps) walked. Conditions: lengths that a slice has; moments of 64 bits.
  (index.Overlaps) walked. Conditions: lengths that a slice has.
  The statements' own helpers on lists of bytes: SameBytes, CopyBytes, LendBytes, KeptBytes, SpoilBytes: what each call does. Conditions: lengths that memory bears.
-/
import Derived.Test.YtlcaaacbookopaaGreatDoorPart7
import Derived.Test.YtlcaaacbookopaaGreatDoorPart6
import Derived.Shelf.Spec.SlicesInsertGrow
import Derived.Laws.CopyRow
import Derived.Test.YtlcaaacbookopaaGreatDoorPart1
import Derived.Test.YtlcaaacbookopaaGreatDoorRows

namespace Go.Proofs.YtlcaaacbookopaaGreatDoor
open Go.RowKit

theorem RE.uat {w : World} {A : Option Addr} {n : Nat} {l : List Nat} (h : RE elU w A n l) {k : Nat} (hk : k < n) :
    ∃ ad x, A = some ad ∧ l[k]? = some x ∧ w.cell? (ad.add k) = some (.int .u64 (x : Int)) := by
  obtain ⟨ad, x, e, hx, hc⟩ := h.at_ hk (by decide)
  refine ⟨ad, x, e, hx, ?_⟩
  have := hc 0 _ rfl
  rwa [show k * elU.sz + 0 = k by simp [elU]] at this
theorem RE.iat {w : World} {A : Option Addr} {n : Nat} {l : List Int} (h : RE elI w A n l) {k : Nat} (hk : k < n) :
    ∃ ad x, A = some ad ∧ l[k]? = some x ∧ w.cell? (ad.add k) = some (.int .i64 x) := by
  obtain ⟨ad, x, e, hx, hc⟩ := h.at_ hk (by decide)
  refine ⟨ad, x, e, hx, ?_⟩
  have := hc 0 _ rfl
  rwa [show k * elI.sz + 0 = k by simp [elI]] at this

set_option maxRecDepth 100000 in
set_option maxHeartbeats 4000000 in
theorem may_any (m : Met) (A : Option Addr) (n c : Nat) (w : World) (h : RE elU w A n m.src) (hn : n ≤ 9223372036854775807) :
    Calls Tryz.prog 35 #[.agg #[.int .u64 (m.id : Int), .int .i64 m.lo, .int .i64 m.hi, .int .i64 m.lv, .slice A n c, .int .i64 m.sr, .int .i64 m.pt]] w fun e w' => e = .returned (.bool (metOk m)) ∧ Grew w w' := by
  obtain ⟨id, lo, hi, lv, src, sr, pt⟩ := m
  obtain ⟨z, hz⟩ : ∃ z, metOk ⟨id, lo, hi, lv, src, sr, pt⟩ = z := ⟨_, rfl⟩
  rw [hz]
  have hln : src.length = n := h.1
  obtain ⟨t, ht⟩ : ∃ t, (riseG none src && (decide (lo ≤ hi) && decide (src.length ≤ 64))) = t := ⟨_, rfl⟩
  have hz0 : Hid (z = (([lv, sr, pt].drop 0).all numOk && t)) := by rw [← hz, ← ht]; rfl
  rw [hln] at ht
  replace hln := Lib.hid hln
  replace ht := Lib.hid ht
  clear hz
  have h : RE elU w A n src := h
  go_enter Tryz.func35, Tryz.ntmps35
  go_wp2
  go_loopw [15] (fun i wr => ∃ k : Nat, k ≤ 3 ∧ i = .int .i64 (k : Int) ∧ Hid (z = (([lv, sr, pt].drop k).all numOk && t)) ∧ Blk wr w.heap.size 25 #[.int .u64 (id : Int), .int .i64 lo, .int .i64 hi, .int .i64 lv, .slice A n c, .int .i64 sr, .int .i64 pt] ∧ Blk wr (w.heap.size + 1) 3 #[.int .i64 lv, .int .i64 sr, .int .i64 pt] ∧ Grew w wr) (fun i _ => 3 - (intOf i).toNat)
  case atStart => exact ⟨0, by omega, rfl, hz0, (Blk.new w _ _).alloc _, by have := Blk.new (w.alloc (.cells #[.int .u64 (id : Int), .int .i64 lo, .int .i64 hi, .int .i64 lv, .slice A n c, .int .i64 sr, .int .i64 pt] 25)) 3 #[.int .i64 lv, .int .i64 sr, .int .i64 pt]; simpa using this, ((Chg.refl _ w).alloc _).alloc _⟩
  case round =>
    obtain ⟨k, hk, rfl, hc, hb, hb2, hg⟩ := hrel
    by_cases hlt : k < 3
    · obtain ⟨x, hx⟩ : ∃ x, [lv, sr, pt][k]? = some x := ⟨_, List.getElem?_eq_getElem (by simpa using hlt)⟩
      have hxc : wr.cell? ⟨w.heap.size + 1, k, none⟩ = some (.int .i64 x) := by
        rw [hb2.cell]
        match k, hlt, hx with
        | 0, _, hx => injection hx with hx; subst hx; rfl
        | 1, _, hx => injection hx with hx; subst hx; rfl
        | 2, _, hx => injection hx with hx; subst hx; rfl
      have hxd : [lv, sr, pt].drop k = x :: [lv, sr, pt].drop (k + 1) := by
        obtain ⟨h1, h2⟩ := List.getElem?_eq_some_iff.1 hx
        rw [List.drop_eq_getElem_cons h1, h2]
      have hv := hc.out
      rw [hxd, List.all_cons] at hv
      unfold numOk at hv
      clear hc hxd hx
      by_cases h0 : x < 0
      · rw [decide_eq_false (p := (0 : Int) ≤ x) (by omega)] at hv
        replace hv := Lib.hid hv
        clear hb2
        go_wp2
        go_ret
        exact ⟨by simp [hv.out], hg⟩
      rw [decide_eq_true (p := (0 : Int) ≤ x) (by omega)] at hv
      by_cases h1 : 2147483647 < x
      · rw [decide_eq_false (p := x ≤ (2147483647 : Int)) (by omega)] at hv
        replace hv := Lib.hid hv
        clear hb2
        go_wp2
        go_ret
        exact ⟨by simp [hv.out], hg⟩
      rw [decide_eq_true (p := x ≤ (2147483647 : Int)) (by omega)] at hv
      simp only [Bool.true_and] at hv
      replace hv := Lib.hid hv
      go_wp2
      go_roundw
      case rel => exact ⟨k + 1, by omega, by go_num, hv, hb, hb2, hg⟩
      case measure => simp [intOf]; omega
    · obtain rfl : k = 3 := by omega
      have hv := hc.out
      simp only [List.drop_succ_cons, List.drop_zero, List.all_nil, Bool.true_and] at hv
      rw [← ht.out] at hv
      have hv0 : Hid (z = (riseG (prevU src 0) (src.drop 0) && (decide (lo ≤ hi) && decide (n ≤ 64)))) := hv
      clear hc hv hb2 hz0 ht
      have b0 := hb.cell 0
      have b1 := hb.cell 1
      have b2 := hb.cell 2
      have b4 := hb.cell 4
      go_wp2
      generalize wr = wo at *
      go_loopw [29] (fun i wq => ∃ k : Nat, k ≤ n ∧ i = .int .i64 (k : Int) ∧ Hid (z = (riseG (prevU src k) (src.drop k) && (decide (lo ≤ hi) && decide (n ≤ 64)))) ∧ wq = wo) (fun i _ => n - (intOf i).toNat)
      case atStart => exact ⟨0, by omega, rfl, hv0, rfl⟩
      case round =>
        obtain ⟨k, hk, rfl, hc, rfl⟩ := hrel
        by_cases hlt : k < n
        · obtain ⟨ad, x, rfl, hx, x0⟩ := (h.grew hg).uat hlt
          have hxd : src.drop k = x :: src.drop (k + 1) := by
            obtain ⟨h1, h2⟩ := List.getElem?_eq_some_iff.1 hx
            rw [List.drop_eq_getElem_cons h1, h2]
          have hv := hc.out
          rw [hxd, riseG_cons] at hv
          have hpn : prevU src (k + 1) = some x := by
            unfold prevU
            rw [if_neg (by omega), Nat.add_sub_cancel, hx]
          rw [← hpn] at hv
          clear hc hxd hpn
          rcases k with _ | k
          · rw [show upU (prevU src 0) x = true from rfl, Bool.true_and] at hv
            replace hv := Lib.hid hv
            clear hx
            replace x0 : wr.cell? ad = some (.int .u64 (x : Int)) := x0
            go_wp2
            go_roundw
            case rel => exact ⟨1, by omega, by go_num, hv, by trivial⟩
            case measure => simp [intOf]; omega
          · obtain ⟨pd, y, hpe, hy, y0⟩ := (h.grew hg).uat (show k < n by omega)
            injection hpe with hpe
            subst hpe
            have hpl : prevU src (k + 1) = some y := by
              unfold prevU
              rw [if_neg (by omega), Nat.add_sub_cancel, hy]
            rw [hpl, show upU (some y) x = decide (y < x) from rfl] at hv
            clear hx hy hpl
            replace x0 : wr.cell? ⟨ad.block, ad.off + (k + 1), none⟩ = some (.int .u64 (x : Int)) := by rw [← add_pos (by omega)]; exact x0
            by_cases hyx : y < x
            · rw [decide_eq_true hyx, Bool.true_and] at hv
              replace hv := Lib.hid hv
              go_wp2
              go_roundw
              case rel => exact ⟨k + 1 + 1, by omega, by go_num, hv, by trivial⟩
              case measure => simp [intOf]; omega
            · rw [decide_eq_false hyx, Bool.false_and, Bool.false_and] at hv
              replace hv := Lib.hid hv
              go_wp2
              go_ret
              exact ⟨by simp [hv.out], hg⟩
        · obtain rfl : k = n := by omega
          have hv := hc.out
          rw [List.drop_of_length_le (by have := hln.out; omega), riseG, Bool.true_and] at hv
          replace hv := Lib.hid hv
          clear hc
          have e64 : decide ((k : Int) ≤ 64) = decide (k ≤ 64) := decide_eq_decide.2 (by omega)
          by_cases hlh : lo ≤ hi
          · go_wp2
            go_ret
            exact ⟨by simp [hv.out, hlh], hg⟩
          · go_wp2
            go_ret
            exact ⟨by rw [hv.out, decide_eq_false (by omega)]; simp, hg⟩
end Go.Proofs.YtlcaaacbookopaaGreatDoor

namespace Go.Proofs.YtlcaaacbookopaaGreatDoor
open Go.RowKit

end Go.Proofs.YtlcaaacbookopaaGreatDoor

namespace Go.Proofs.YtlcaaacbookopaaGreatDoor
open Go.RowKit

theorem drop_at {α : Type} {l : List α} {k : Nat} {x : α} (hx : l[k]? = some x) : l.drop k = x :: l.drop (k + 1) := by
  obtain ⟨h1, h2⟩ := List.getElem?_eq_some_iff.1 hx
  rw [List.drop_eq_getElem_cons h1, h2]

end Go.Proofs.YtlcaaacbookopaaGreatDoor

namespace Go.Proofs.YtlcaaacbookopaaGreatDoor
open Go.RowKit

theorem Chg.cell1 (w : World) (g i : Nat) (u : Value) : Chg (fun k => k = g) w (w.setCell ⟨g, i, none⟩ u) := (Chg.refl (fun k => k = g) w).setCell (p := ⟨g, i, none⟩) (.inr rfl) u
theorem OE.farBlk {α : Type} {E : El α} {w : World} {base : Nat} {t t' : TypeId} {A : Option Addr} {n c g : Nat} {l : List α} {cs : Array Value} (h : OE E w base t A n c l) (hb : Blk w g t' cs) (hne : t ≠ t') (i : Nat) (u : Value) : OE E (w.setCell ⟨g, i, none⟩ u) base t A n c l :=
  h.chg (Chg.cell1 w g i u) fun ad e hk => Own.ne_blk h hb hne ad e hk
theorem ApE.ne_blk {α : Type} {E : El α} {w w' : World} {base g : Nat} {t t' : TypeId} {A A' : Option Addr} {n c c' k d : Nat} {l r : List α} {cs : Array Value} (h : ApE E w base t A n c l A' c' w') (ho : OE E w base t A k d r) (hb : Blk w g t' cs) (hne : t ≠ t') : Blk w' g t' cs :=
  hb.chg h.chg fun ⟨ad, e, hk⟩ => Own.ne_blk ho hb hne ad e hk.symm
theorem ApE.at00 {α : Type} {E : El α} {w w' : World} {base : Nat} {t : TypeId} {A A' : Option Addr} {n c c' : Nat} {l : List α} (h : ApE E w base t A (0 + n) c ([] ++ l) A' c' w') : OE E w' base t A' n c' l := by
  have := h.oe
  rwa [Nat.zero_add, List.nil_append] at this
theorem head_le0 {a b : Nat} (h : a ≤ b) : ∀ ad, some (⟨b, 0, none⟩ : Addr) = some ad → a ≤ ad.block := fun ad e => by
  injection e with e
  subst e
  exact h
/-- lengths that memory bears -/
structure Fit (es : List Ent) : Prop where
  n : es.length ≤ 1599289640354
  el : ∀ e ∈ es, e.m.src.length ≤ 17592186043904
theorem IxOk.fit {fl : Int} {es : List Ent} (h : IxOk fl es) : Fit es := by
  refine ⟨by have := h.len; omega, fun e he => ?_⟩
  have h1 := (h.el e he).1
  unfold metOk at h1
  simp only [Bool.and_eq_true, decide_eq_true_eq] at h1
  omega

end Go.Proofs.YtlcaaacbookopaaGreatDoor

namespace Go.Proofs.YtlcaaacbookopaaGreatDoor
open Go.RowKit

set_option maxRecDepth 100000 in
set_option maxHeartbeats 4000000 in
theorem copyIds_any (A : Option Addr) (n c : Nat) (l : List Nat) (w : World) (h : RE elU w A n l) (hn : n ≤ 17592186043904) :
    Calls Tryz.prog 34 #[.slice A n c] w fun e w' => ∃ B C, e = .returned (.slice B n C) ∧ OE elU w' w.heap.size 22 B n C l ∧ Grew w w' := by
  have oL : OE elU (w.alloc (.cells #[] 22)) w.heap.size 22 (some ⟨w.heap.size, 0, none⟩) 0 0 [] := OE.made w w.heap.size 22 (Nat.le_refl _)
  have rL := h.grew ((Chg.refl _ w).alloc (.cells #[] 22))
  go_enter Tryz.func34, Tryz.ntmps34
  go_wp2_with (at_builtin; go_loud (refine wpList_appE rfl _ _ 23 22 infoU64 rfl Tryz.underlying23 rfl w.heap.size (some ⟨w.heap.size, 0, none⟩) 0 0 [] rfl oL (by simp) A n c l rfl rL (by unfold maxLen; omega) (by omega) ?_); intro A2 c2 w2 h2)
  go_ret
  exact ⟨A2, c2, rfl, h2.at00, h2.grew ((Chg.refl _ w).alloc _) (head_le0 (Nat.le_refl _))⟩

end Go.Proofs.YtlcaaacbookopaaGreatDoor

namespace Go.Proofs.YtlcaaacbookopaaGreatDoor
open Go.RowKit

theorem Srt.le {es : List Ent} (h : Srt es) {i j : Nat} {a b : Ent} (hij : i ≤ j) (ha : es[i]? = some a) (hb : es[j]? = some b) : a.m.id ≤ b.m.id := by
  rcases Nat.lt_or_ge i j with h1 | h1
  · unfold Srt at h
    rw [List.pairwise_iff_getElem] at h
    obtain ⟨hi, rfl⟩ := List.getElem?_eq_some_iff.1 ha
    obtain ⟨hj, rfl⟩ := List.getElem?_eq_some_iff.1 hb
    exact Nat.le_of_lt (h i j hi hj h1)
  · obtain rfl : i = j := by omega
    rw [ha] at hb
    injection hb with hb
    subst hb
    exact Nat.le_refl _

end Go.Proofs.YtlcaaacbookopaaGreatDoor

namespace Go.Proofs.YtlcaaacbookopaaGreatDoor
open Go.RowKit

theorem Blk.row {w : World} {g : Nat} {t : TypeId} {cs : Array Value} (h : Blk w g t cs) (xs : Array Value) : Blk (w.setRow g xs) g t xs := setRow_heap w g cs xs t (0, 0) h
theorem Chg.row (w : World) (g : Nat) (xs : Array Value) : Chg (fun k => k = g) w (w.setRow g xs) := ⟨rfl, rfl, rfl, by simp, fun k _ hk => setRow_other w g k xs hk⟩
end Go.Proofs.YtlcaaacbookopaaGreatDoor

namespace Go.Proofs.YtlcaaacbookopaaGreatDoor
open Go.RowKit

end Go.Proofs.YtlcaaacbookopaaGreatDoor

namespace Go.Proofs.YtlcaaacbookopaaGreatDoor
open Go.RowKit

end Go.Proofs.YtlcaaacbookopaaGreatDoor

namespace Go.Proofs.YtlcaaacbookopaaGreatDoor
open Go.RowKit

theorem sameIn_of {S : Nat → Prop} {bs : List Nat} {W w : World} (hc : Chg S W w) (h : CellsIn bs W) (hn : ∀ k ∈ bs, ¬ S k) : SameIn bs W w := fun k hk => by
  obtain ⟨cs, t, fr, h1⟩ := h k hk
  exact hc.block k (Array.getElem?_eq_some_iff.1 h1).1 (hn k hk)
end Go.Proofs.YtlcaaacbookopaaGreatDoor

namespace Go.Proofs.YtlcaaacbookopaaGreatDoor
open Go.RowKit

set_option maxRecDepth 100000 in
set_option maxHeartbeats 4000000 in
theorem sameIds_eq (A B : Option Addr) (n c d : Nat) (l : List Nat) (w : World) (h : RE elU w A n l) (h2 : RE elU w B n l) (hn : n ≤ 9223372036854775807) :
    Calls Tryz.prog 48 #[.slice A n c, .slice B n d] w fun e w' => e = .returned (.bool true) ∧ Grew w w' := by
  go_enter Tryz.func48, Tryz.ntmps48
  go_wp2
  go_loopw [5] (fun i wr => ∃ k : Nat, k ≤ n ∧ i = .int .i64 (k : Int) ∧ Grew w wr) (fun i _ => n - (intOf i).toNat)
  case atStart => exact ⟨0, by omega, rfl, Chg.refl _ _⟩
  case round =>
    obtain ⟨k, hk, rfl, hg⟩ := hrel
    by_cases hlt : k < n
    · obtain ⟨ad, x, rfl, hx, x0⟩ := (h.grew hg).uat hlt
      obtain ⟨bd, y, rfl, hy, y0⟩ := (h2.grew hg).uat hlt
      rw [hx] at hy
      injection hy with hy
      subst hy
      clear hx
      go_wp2_with fail
      refine wp_region_text [(22, 1), (3, 1)] (by kernel_rfl) (by kernel_rfl) ?_
      simp only [instr, chk, look, Nat.reduceBEq, Bool.false_eq_true, if_true, if_false, Nat.reduceEqDiff, List.cons_append, List.nil_append]
      go_wp2_with fail
      refine OnlyN.normal ?_
      go_wp2
      go_roundw
      case rel => exact ⟨k + 1, by omega, by go_num, hg.drew⟩
      case measure => simp [intOf]; omega
    · obtain rfl : k = n := by omega
      go_wp2
      go_ret
      exact ⟨rfl, hg⟩

set_option maxRecDepth 100000 in
set_option maxHeartbeats 4000000 in
theorem sameMeta_eq (m : Met) (A B : Option Addr) (n c d : Nat) (w : World) (h : RE elU w A n m.src) (h2 : RE elU w B n m.src) (hn : n ≤ 9223372036854775807) :
    Calls Tryz.prog 16 #[.agg #[.int .u64 (m.id : Int), .int .i64 m.lo, .int .i64 m.hi, .int .i64 m.lv, .slice A n c, .int .i64 m.sr, .int .i64 m.pt],
      .agg #[.int .u64 (m.id : Int), .int .i64 m.lo, .int .i64 m.hi, .int .i64 m.lv, .slice B n d, .int .i64 m.sr, .int .i64 m.pt]] w fun e w' => e = .returned (.bool true) ∧ Grew w w' := by
  have hgW : Grew w ((w.alloc (.cells #[.int .u64 (m.id : Int), .int .i64 m.lo, .int .i64 m.hi, .int .i64 m.lv, .slice A n c, .int .i64 m.sr, .int .i64 m.pt] 25)).alloc (.cells #[.int .u64 (m.id : Int), .int .i64 m.lo, .int .i64 m.hi, .int .i64 m.lv, .slice B n d, .int .i64 m.sr, .int .i64 m.pt] 25)) := ((Chg.refl _ w).alloc _).alloc _
  have hS := sameIds_eq A B n c d m.src _ (h.grew hgW) (h2.grew hgW) hn
  have hb1 := (Blk.new w 25 #[.int .u64 (m.id : Int), .int .i64 m.lo, .int .i64 m.hi, .int .i64 m.lv, .slice A n c, .int .i64 m.sr, .int .i64 m.pt]).alloc (.cells #[.int .u64 (m.id : Int), .int .i64 m.lo, .int .i64 m.hi, .int .i64 m.lv, .slice B n d, .int .i64 m.sr, .int .i64 m.pt] 25)
  have hb2 := Blk.new (w.alloc (.cells #[.int .u64 (m.id : Int), .int .i64 m.lo, .int .i64 m.hi, .int .i64 m.lv, .slice A n c, .int .i64 m.sr, .int .i64 m.pt] 25)) 25 #[.int .u64 (m.id : Int), .int .i64 m.lo, .int .i64 m.hi, .int .i64 m.lv, .slice B n d, .int .i64 m.sr, .int .i64 m.pt]
  rw [World.size_alloc] at hb2
  go_enter Tryz.func16, Tryz.ntmps16
  go_wp2_with fail
  refine hS.mono ?_
  rintro e w1 ⟨rfl, hg1⟩
  have p5 := (hb1.grew hg1).cell 5
  have p6 := (hb1.grew hg1).cell 6
  have q5 := (hb2.grew hg1).cell 5
  have q6 := (hb2.grew hg1).cell 6
  simp only [List.getElem?_toArray, List.getElem?_cons_succ, List.getElem?_cons_zero] at p5 p6 q5 q6
  clear hS hb1 hb2
  go_wp2
  go_ret
  exact ⟨by simp, hgW.trans hg1⟩

end Go.Proofs.YtlcaaacbookopaaGreatDoor

namespace Go.Proofs.YtlcaaacbookopaaGreatDoor
open Go.RowKit

end Go.Proofs.YtlcaaacbookopaaGreatDoor

namespace Go.Proofs.YtlcaaacbookopaaGreatDoor
open Go.RowKit

end Go.Proofs.YtlcaaacbookopaaGreatDoor

namespace Go.Proofs.YtlcaaacbookopaaGreatDoor
open Go.RowKit

/-- a meta, and where its sources lie -/
structure MtM where
  m : Met
  A : Option Addr
  n : Nat
  c : Nat
def elMt : El MtM := ⟨fun x => [.int .u64 (x.m.id : Int), .int .i64 x.m.lo, .int .i64 x.m.hi, .int .i64 x.m.lv, .slice x.A x.n x.c, .int .i64 x.m.sr, .int .i64 x.m.pt], 7, fun _ => rfl, by
  intro x u hu
  simp only [List.mem_cons, List.not_mem_nil, or_false] at hu
  rcases hu with rfl | rfl | rfl | rfl | rfl | rfl | rfl <;> rfl⟩
/-- metas in a row of the call's own -/
structure MXo (w : World) (base : Nat) (A : Option Addr) (n c : Nat) (ms : List MtM) : Prop where
  row : OE elMt w base 25 A n c ms
  el : ∀ m ∈ ms, OE elU w base 22 m.A m.n m.c m.m.src
theorem MXo.grew {w w' : World} {base : Nat} {A : Option Addr} {n c : Nat} {ms : List MtM} (h : MXo w base A n c ms) (hc : Grew w w') : MXo w' base A n c ms := ⟨h.row.grew hc, fun m hm => OE.grew (h.el m hm) hc⟩
theorem MXo.mono {w : World} {base base' : Nat} {A : Option Addr} {n c : Nat} {ms : List MtM} (h : MXo w base A n c ms) (hb : base' ≤ base) : MXo w base' A n c ms := ⟨Own.mono h.row hb, fun m hm => Own.mono (h.el m hm) hb⟩
theorem MXo.app {w w' : World} {base : Nat} {A A' : Option Addr} {n k c c' : Nat} {ms : List MtM} {m : MtM} (h : MXo w base A n c ms) (hm : OE elU w base 22 m.A m.n m.c m.m.src) (ha : ApE elMt w base 25 A k c (ms ++ [m]) A' c' w') : MXo w' base A' k c' (ms ++ [m]) := by
  refine ⟨ha.oe, fun m' hm' => ?_⟩
  rcases List.mem_append.1 hm' with h1 | h1
  · exact OE.apartT (h.el m' h1) h.row (by decide) ha.chg
  · rcases List.mem_singleton.1 h1 with rfl
    exact OE.apartT hm h.row (by decide) ha.chg
theorem MXo.at_ {w : World} {base : Nat} {A : Option Addr} {n c : Nat} {ms : List MtM} (h : MXo w base A n c ms) {k : Nat} (hk : k < n) :
    ∃ ad m, A = some ad ∧ ms[k]? = some m ∧ OE elU w base 22 m.A m.n m.c m.m.src ∧ w.cell? (ad.add (k * 7)) = some (.int .u64 (m.m.id : Int)) ∧ w.cell? ⟨(ad.add (k * 7)).block, (ad.add (k * 7)).off + 1, none⟩ = some (.int .i64 m.m.lo) ∧
      w.cell? ⟨(ad.add (k * 7)).block, (ad.add (k * 7)).off + 2, none⟩ = some (.int .i64 m.m.hi) ∧ w.cell? ⟨(ad.add (k * 7)).block, (ad.add (k * 7)).off + 3, none⟩ = some (.int .i64 m.m.lv) ∧
      w.cell? ⟨(ad.add (k * 7)).block, (ad.add (k * 7)).off + 4, none⟩ = some (.slice m.A m.n m.c) ∧ w.cell? ⟨(ad.add (k * 7)).block, (ad.add (k * 7)).off + 5, none⟩ = some (.int .i64 m.m.sr) ∧
      w.cell? ⟨(ad.add (k * 7)).block, (ad.add (k * 7)).off + 6, none⟩ = some (.int .i64 m.m.pt) := by
  obtain ⟨ad, m, e, hm, hc⟩ := (h.row.re (by decide)).at_ hk (by decide)
  exact ⟨ad, m, e, hm, h.el m (List.mem_of_getElem? hm), hc 0 _ rfl, cell_off (by decide) (hc 1 _ rfl), cell_off (by decide) (hc 2 _ rfl), cell_off (by decide) (hc 3 _ rfl), cell_off (by decide) (hc 4 _ rfl), cell_off (by decide) (hc 5 _ rfl), cell_off (by decide) (hc 6 _ rfl)⟩
end Go.Proofs.YtlcaaacbookopaaGreatDoor

namespace Go.Proofs.YtlcaaacbookopaaGreatDoor
open Go.RowKit

end Go.Proofs.YtlcaaacbookopaaGreatDoor

namespace Go.Proofs.YtlcaaacbookopaaGreatDoor
open Go.RowKit

theorem MXo.len {w : World} {base : Nat} {A : Option Addr} {n c : Nat} {ms : List MtM} (h : MXo w base A n c ms) : ms.length = n := OE.len (by decide) h.row
end Go.Proofs.YtlcaaacbookopaaGreatDoor

namespace Go.Proofs.YtlcaaacbookopaaGreatDoor
open Go.RowKit

theorem infoU8 : (Tryz.prog.info? 5).map (fun i => (i.zero, i.size, i.bytes)) = some (some (.int .u8 0), 1, 1) := by kernel_rfl

/-- what an append of bytes leaves -/
def ApB (w : World) (base : Nat) (A : Option Addr) (n c : Nat) (l : List UInt8) (A' : Option Addr) (c' : Nat) (w' : World) : Prop := Apped w base 5 1 A n c (l.map byt) A' c' w'
theorem ApB.ob {w w' : World} {base : Nat} {A A' : Option Addr} {n c c' : Nat} {l : List UInt8} (h : ApB w base A n c l A' c' w') : OB w' base 5 A' n c' l := h.1
theorem ApB.chg {w w' : World} {base : Nat} {A A' : Option Addr} {n c c' : Nat} {l : List UInt8} (h : ApB w base A n c l A' c' w') : Chg (fun k => ∃ ad, A = some ad ∧ k = ad.block) w w' := h.2.1
/-- .. onto a row that was made just now: nothing older has turned -/
theorem ApB.grew {w0 w w' : World} {base : Nat} {A A' : Option Addr} {n c c' : Nat} {l : List UInt8} (h : ApB w base A n c l A' c' w') (hg : Grew w0 w) (hA : ∀ ad, A = some ad → w0.heap.size ≤ ad.block) : Grew w0 w' :=
  hg.step h.chg fun k hk ⟨ad, e, he⟩ => by have := hA ad e; omega

/-- append onto a row of bytes of the call's own -/
theorem wpList_appB {ops : Array Oper} {rest : List Oper} {o : Oper} {a : Act} {w : World} {Q : Exit → Act → World → Prop} (hgd : o.guard = none) (s x : Operand)
    (ho : o.op = .call { callee := .builtin .append, args := #[s, x], argTypes := #[26, 26] })
    (base : Nat) (A : Option Addr) (n c : Nat) (l : List UInt8) (hs : a.eval s = .slice A n c) (hown : OB w base 5 A n c l) (hbase : base ≤ w.heap.size)
    (B : Option Addr) (m d : Nat) (r : List UInt8) (hx : a.eval x = .slice B m d) (hr : RB w B m r) (hbytes : n + m ≤ 140737488355328)
    (h : ∀ A' c' w', ApB w base A (n + m) c (l ++ r) A' c' w' → wpList Tryz.prog ops Q rest (a.put o.dst (.slice A' (n + m) c')) w') : wpList Tryz.prog ops Q (o :: rest) a w := by
  obtain ⟨i0, hi, hz0, hz1, hz2⟩ := info_parts infoU8
  refine wpList_app w hgd s x 26 5 ho i0 (.int .u8 0) 1 1 Tryz.underlying26 hi hz0 hz1 hz2 rfl base A n c _ hs hown hbase B m d _ hx (by simpa using hr.1) hr.2 (byt_one r) (by unfold maxLen; omega) (by omega) ?_
  intro A' c' w' h1
  exact h A' c' w' (by unfold ApB; rw [List.map_append]; exact h1)

/-- new memory that holds these bytes; nothing that was there has turned -/
def NewB (w : World) (n : Nat) (l : List UInt8) (e : Ending) (w' : World) : Prop := ∃ A c, e = .returned (.slice A n c) ∧ OB w' w.heap.size 5 A n c l ∧ Grew w w'

theorem head_ge {w : World} {B : Nat} (h : B ≤ w.heap.size) : ∀ ad, (some ⟨w.heap.size, 0, none⟩ : Option Addr) = some ad → B ≤ ad.block := by
  rintro ad e
  injection e with e
  subst e
  exact h

/-- new bytes, laid by the walk -/
theorem RB.new (w : World) (l : List UInt8) (n : Nat) (cs : Array Value) (t : TypeId) (hn : l.length = n) (hc : cs = (l.map byt).toArray) : RB (w.alloc (.cells cs t)) (some ⟨w.heap.size, 0, none⟩) n l :=
  ⟨hn, by subst hc; exact Rd.new w (l.map byt).toArray t⟩
theorem RB.newAt {w : World} {B : Nat} {l : List UInt8} {n : Nat} {cs : Array Value} {t : TypeId} (hB : B = w.heap.size) (hn : l.length = n) (hc : cs = (l.map byt).toArray) : RB (w.alloc (.cells cs t)) (some ⟨B, 0, none⟩) n l := by
  subst hB
  exact RB.new w l n cs t hn hc
theorem RB.drop {w : World} {ad : Addr} {n : Nat} {l : List UInt8} (h : RB w (some ad) n l) (i : Nat) : RB w (some (ad.add i)) (n - i) (l.drop i) := by
  refine ⟨by rw [List.length_drop, h.1], ?_⟩
  rw [List.map_drop]
  exact h.2.drop i
theorem RB.take {w : World} {A : Option Addr} {n : Nat} {l : List UInt8} (h : RB w A n l) {i : Nat} (hi : i ≤ n) : RB w A i (l.take i) := by
  refine ⟨by rw [List.length_take, h.1]; omega, ?_⟩
  rw [List.map_take]
  exact h.2.take i

set_option maxHeartbeats 400000 in
theorem copyBytes_any (A : Option Addr) (n c : Nat) (l : List UInt8) (w : World) (h : RB w A n l) (hn : n ≤ 140737488355328) :
    Calls Tryz.prog 22 #[.slice A n c] w (NewB w n l) := by
  have hown : OB (w.alloc (.cells #[] 5)) w.heap.size 5 (some ⟨w.heap.size, 0, none⟩) 0 0 [] := Own.made w w.heap.size 5 1 (Nat.le_refl _)
  have hr : RB (w.alloc (.cells #[] 5)) A n l := h.grew ((Chg.refl _ w).alloc _)
  go_enter Tryz.func22, Tryz.ntmps22
  go_wp2_with (at_builtin; refine wpList_appB rfl _ _ rfl w.heap.size _ 0 0 [] rfl hown (by simp) A n c l rfl hr (by omega) ?_; intro A' c' w' h1)
  go_ret
  simp only [Nat.zero_add, List.nil_append] at h1
  exact ⟨A', c', by simp, h1.ob, h1.grew ((Chg.refl _ w).alloc _) (head_ge (Nat.le_refl _))⟩

set_option maxHeartbeats 400000 in
theorem sameBytes_any (A B : Option Addr) (n m c d : Nat) (l r : List UInt8) (w : World) (ha : RB w A n l) (hb : RB w B m r) (hn : n ≤ 9223372036854775807) (hm : m ≤ 9223372036854775807) :
    Calls Tryz.prog 15 #[.slice A n c, .slice B m d] w fun e w' => e = .returned (.bool (l == r)) ∧ ∃ k, w' = w.drewN k := by
  by_cases hnm : n = m
  · subst hnm
    go_enter Tryz.func15, Tryz.ntmps15
    go_wp2
    go_loopw [5] (fun i wr => ∃ k : Nat, k ≤ n ∧ i = .int .i64 k ∧ l.take k = r.take k ∧ ∃ j, wr = w.drewN j) (fun i _ => n - (intOf i).toNat)
    case atStart => exact ⟨0, Nat.zero_le _, rfl, rfl, 0, rfl⟩
    case round =>
      obtain ⟨k, hk, rfl, ht, j, rfl⟩ := hrel
      by_cases hlt : k < n
      · obtain ⟨ad, x, rfl, hx, hcx⟩ := ha.at_ hlt
        obtain ⟨bd, y, rfl, hy, hcy⟩ := hb.at_ hlt
        go_wp2
        go_quiet (fail)
        go_wp2
        · have hne : ((x.toNat : Int) != (y.toNat : Int)) = true := by assumption
          go_ret
          refine ⟨?_, j + nq, by simp⟩
          have : (l == r) = false := by
            simp only [beq_eq_false_iff_ne, ne_eq]
            rintro rfl
            rw [hx] at hy
            injection hy with hy
            subst hy
            simp at hne
          simp [this]
        · have he : ((x.toNat : Int) != (y.toNat : Int)) = false := by assumption
          go_roundw
          case rel =>
            refine ⟨k + 1, by omega, by go_num, ?_, _, rfl⟩
            have hxy : x = y := by
              simp only [bne_eq_false_iff_eq] at he
              exact UInt8.toNat_inj.1 (by omega)
            rw [List.take_add_one, List.take_add_one, ht, hx, hy, hxy]
          case measure => simp [intOf]; omega
      · have hkn : k = n := by omega
        subst hkn
        go_wp2
        go_ret
        refine ⟨?_, _, rfl⟩
        have h1 : l.take k = l := List.take_of_length_le (by rw [ha.1]; omega)
        have h2 : r.take k = r := List.take_of_length_le (by rw [hb.1]; omega)
        rw [h1, h2] at ht
        simp [ht]
  · go_enter Tryz.func15, Tryz.ntmps15
    go_wp2
    go_ret
    refine ⟨?_, 0, rfl⟩
    have : (l == r) = false := by
      have h1 := ha.1
      have h2 := hb.1
      simp only [beq_eq_false_iff_ne, ne_eq]
      rintro rfl
      omega
    simp [this]

theorem sameBytes_yes (A B : Option Addr) (n m c d : Nat) (l : List UInt8) (w : World) (ha : RB w A n l) (hb : RB w B m l) (hn : n ≤ 9223372036854775807) (hm : m ≤ 9223372036854775807) :
    Calls Tryz.prog 15 #[.slice A n c, .slice B m d] w fun e w' => e = .returned (.bool true) ∧ ∃ k, w' = w.drewN k := by
  have := sameBytes_any A B n m c d l l w ha hb hn hm
  simpa using this

/-- a list of bytes lent: a copy of them in new memory, two marks behind it -/
def LentB (w : World) (n : Nat) (l : List UInt8) (e : Ending) (w' : World) : Prop := ∃ A c, e = .returned (.slice A n c) ∧ OB w' w.heap.size 5 A (n + 2) c (l ++ [201, 201]) ∧ Grew w w'

set_option maxHeartbeats 400000 in
theorem lendBytes_any (A : Option Addr) (n c : Nat) (l : List UInt8) (w : World) (h : RB w A n l) (hn : n ≤ 140737488355320) :
    Calls Tryz.prog 10 #[.slice A n c] w (LentB w n l) := by
  go_enter Tryz.func10, Tryz.ntmps10
  go_wp2_with fail
  refine (copyBytes_any A n c l _ h (by omega)).mono ?_
  rintro e w1 ⟨A1, c1, rfl, h1, hg1⟩
  have h1a := h1.grew ((Chg.refl _ w1).alloc (.cells #[.int .u8 201, .int .u8 201] 5))
  have hr : RB (w1.alloc (.cells #[.int .u8 201, .int .u8 201] 5)) (some ⟨w1.heap.size, 0, none⟩) 2 [201, 201] := RB.new w1 [201, 201] 2 _ _ rfl rfl
  have hs1 := hg1.size
  go_wp2_with (at_builtin; refine wpList_appB rfl _ _ rfl w.heap.size A1 n c1 l rfl h1a (by simp; omega) _ 2 2 [201, 201] rfl hr (by omega) ?_; intro A2 c2 w2 h2; have hc2 := h2.ob.cap)
  go_ret
  refine ⟨A2, c2, by simp, h2.ob, ?_⟩
  exact h2.grew (hg1.alloc _) fun ad e => (Own.blk_lt h1 ad e).1

set_option maxHeartbeats 400000 in
theorem keptBytes_any (A : Option Addr) (n c : Nat) (l : List UInt8) (B : Option Addr) (d : Nat) (base : Nat) (w : World) (h : OB w base 5 A (n + 2) c (l ++ [201, 201])) (hb : RB w B n l) (hn : n ≤ 140737488355320) :
    Calls Tryz.prog 14 #[.slice A n c, .slice B n d] w fun e w' => e = .returned (.bool true) ∧ Chg (fun k => ∃ ad, A = some ad ∧ k = ad.block) w w' := by
  have hc := h.cap
  obtain ⟨g, rfl, hbg, hg, _⟩ := Own.at_ h (by omega)
  have hl : l.length = n := hb.1
  have ha : RB w (some ⟨g, 0, none⟩) n l := by have := h.rb.take (i := n) (by omega); rwa [List.take_left' hl] at this
  have hz : RB w (some ⟨g, n, none⟩) 2 [201, 201] := by
    have := h.rb.drop n
    rw [List.drop_left' hl, add_head] at this
    simpa using this
  go_enter Tryz.func14, Tryz.ntmps14
  go_wp2_with fail
  refine (sameBytes_yes _ _ n n c d l _ ha hb (by omega) (by omega)).mono ?_
  rintro e w1 ⟨rfl, k1, rfl⟩
  go_wp2_with fail
  have hr2 : RB ((w.drewN k1).alloc (.cells #[.int .u8 201, .int .u8 201] 5)) (some ⟨w.heap.size, 0, none⟩) 2 [201, 201] := RB.new (w.drewN k1) [201, 201] 2 _ _ rfl rfl
  refine (sameBytes_yes _ _ 2 2 _ _ [201, 201] _ ((hz.drewN k1).grew ((Chg.refl _ _).alloc _)) hr2 (by omega) (by omega)).mono ?_
  rintro e w2 ⟨rfl, k2, rfl⟩
  have hw : Wr (((w.drewN k1).alloc (.cells #[.int .u8 201, .int .u8 201] 5)).drewN k2) (some ⟨g, 0, none⟩) (n + 2) := by
    have := (Own.wr h).chg ((((Chg.refl (fun _ => False) w).drewN k1).alloc (.cells #[.int .u8 201, .int .u8 201] 5)).drewN k2) (fun _ _ e => e)
    simpa using this
  have hcg : Chg (fun k => ∃ ad, some (⟨g, 0, none⟩ : Addr) = some ad ∧ k = ad.block) w (((w.drewN k1).alloc (.cells #[.int .u8 201, .int .u8 201] 5)).drewN k2) := (((Chg.refl _ w).drewN k1).alloc _).drewN k2
  generalize (((w.drewN k1).alloc (.cells #[.int .u8 201, .int .u8 201] 5)).drewN k2) = w2 at hw hcg ⊢
  go_wp2
  go_loopw [7] (fun i wr => ∃ k : Nat, k ≤ n + 2 ∧ i = .int .i64 k ∧ Wr wr (some ⟨g, 0, none⟩) (n + 2) ∧ Chg (fun k => ∃ ad, some (⟨g, 0, none⟩ : Addr) = some ad ∧ k = ad.block) w wr) (fun i _ => n + 2 - (intOf i).toNat)
  case atStart => exact ⟨0, Nat.zero_le _, rfl, hw, hcg⟩
  case round =>
    obtain ⟨k, hk, rfl, hw, hcg⟩ := hrel
    by_cases hlt : k < n + 2
    · obtain ⟨ad, u, he, hcell, hfr⟩ := hw.at_ hlt
      injection he with he
      subst he
      rw [add_head] at hcell hfr
      go_wp2
      go_roundw
      case rel => exact ⟨k + 1, by omega, by go_num, hw.set _ _, hcg.setCell (p := ⟨g, k, none⟩) (.inr ⟨_, rfl, rfl⟩) _⟩
      case measure => simp [intOf]; omega
    · go_wp2
      go_ret
      exact ⟨by simp, hcg⟩

end Go.Proofs.YtlcaaacbookopaaGreatDoor
