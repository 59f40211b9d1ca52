/-
  Several texts in one:
  The document's (tidewrackref9.MetaIs) walked. Conditions: lengths that a slice has.
  The document's (tidewrackref14.Check) walked. Conditions: lengths that a slice has.
  The document's (tidewrackref14.Copy) walked. Conditions: lengths that memory bears.
  The document's (tidewrackref14.Raise) walked. Conditions: lengths that a slice has.
  The document's (tidewrackref14.find), (tidewrackref14.In) walked. Conditions: IDs that rise; lengths that a slice has.
  The document's (tidewrackref14.Remove) walked. Conditions: lengths that a slice has.
  The document's (tidewrackref14.Remove) walked. Conditions: lengths that a slice has.
  The document's (tidewrackref14.Add) where it refuses. Conditions: lengths that a slice has.
  Rows of IDs lent, kept. Conditions: lengths that memory bears.
  Rows of IDs written over. Conditions: lengths that memory bears.
  The document's (tidewrackref14.Mark) where it refuses. Conditions: lengths that a slice has.
  Rows written over whatever is in them: rows of IDs, an index. Conditions: lengths that memory bears.
  A region with several orders of what acts, whose last operation, behind all others, may store into what was loaded. Conditions: a check of the region that the kernel runs; no program in sight.
  The document's (tidewrackref14.Add) where it adds. Conditions: lengths that a slice has.
  The document's (tidewrackref14.Mark) where it marks. Conditions: lengths that a slice has.
  The changes of an index, the program's and the document's in one word each; boxes kept in a list. Conditions: lengths that memory bears.
  (tidewracklaw14.IndexChanges) walked. Conditions: lengths that memory bears.
  A block's reader where it gives up: must, (reader).number, (reader).signed, open. Conditions: lengths that memory bears.
  (block.open) where it gives up. Conditions: lengths that memory bears.
-/
import Derived.Test.YtlcaaacbookopaaGreatDoorPart25
import Derived.Test.YtlcaaacbookopaaGreatDoorPart7

namespace Go.Proofs.YtlcaaacbookopaaGreatDoor
open Go.RowKit

theorem small_any (x : Int) (w : World) : Calls Tryz.prog 63 #[.int .i64 x] w fun e w' => e = .returned (.bool (numOk x)) ∧ w' = w := by
  unfold numOk
  by_cases h0 : 0 ≤ x
  · rw [decide_eq_true h0, Bool.true_and]
    go_enter Tryz.func63, Tryz.ntmps63
    go_wp2
    go_ret
    exact ⟨by simp, rfl⟩
  · rw [decide_eq_false h0, Bool.false_and]
    go_enter Tryz.func63, Tryz.ntmps63
    go_wp2
    go_ret
    exact ⟨by simp, rfl⟩
theorem rise_one (l : List Nat) : riseG none l = riseG (prevU l 1) (l.drop 1) := by
  cases l with
  | nil => rfl
  | cons x r => rw [riseG_cons, show upU none x = true from rfl, Bool.true_and]; rfl

set_option maxRecDepth 100000 in
set_option maxHeartbeats 4000000 in
theorem rsources_any (A : Option Addr) (n c : Nat) (src : List Nat) (w : World) (h : RE elU w A n src) (hn : n ≤ 9223372036854775807) :
    Calls Tryz.prog 64 #[.slice A n c] w fun e w' => e = .returned (.bool (riseG none src && decide (src.length ≤ 64))) ∧ Grew w w' := by
  have hln : src.length = n := h.1
  obtain ⟨z, hz⟩ : ∃ z, (riseG none src && decide (src.length ≤ 64)) = z := ⟨_, rfl⟩
  rw [hz]
  rw [rise_one, hln] at hz
  have hz0 : Hid (z = (riseG (prevU src 1) (src.drop 1) && decide (n ≤ 64))) := Lib.hid hz.symm
  replace hln := Lib.hid hln
  clear hz
  go_enter Tryz.func64, Tryz.ntmps64
  go_wp2
  go_loopw [3] (fun i wr => ∃ k : Nat, 1 ≤ k ∧ (k ≤ n ∨ k = 1) ∧ i = .int .i64 (k : Int) ∧ Hid (z = (riseG (prevU src k) (src.drop k) && decide (n ≤ 64))) ∧ Grew w wr) (fun i _ => n - (intOf i).toNat)
  case atStart => exact ⟨1, by omega, .inr rfl, rfl, hz0, Chg.refl _ _⟩
  case round =>
    obtain ⟨k, hk1, hk, rfl, hc, hg⟩ := hrel
    by_cases hlt : k < n
    · obtain ⟨j, rfl⟩ : ∃ j, k = j + 1 := ⟨k - 1, by omega⟩
      obtain ⟨ad, x, rfl, hx, x0⟩ := (h.grew hg).uat hlt
      obtain ⟨pd, y, hpe, hy, y0⟩ := (h.grew hg).uat (show j < n by omega)
      injection hpe with hpe
      subst hpe
      have hxd : src.drop (j + 1) = x :: src.drop (j + 1 + 1) := by
        obtain ⟨h1, h2⟩ := List.getElem?_eq_some_iff.1 hx
        rw [List.drop_eq_getElem_cons h1, h2]
      have hv := hc.out
      rw [hxd, riseG_cons] at hv
      have hpn : prevU src (j + 1 + 1) = some x := by
        unfold prevU
        rw [if_neg (by omega), Nat.add_sub_cancel, hx]
      have hpl : prevU src (j + 1) = some y := by
        unfold prevU
        rw [if_neg (by omega), Nat.add_sub_cancel, hy]
      rw [← hpn, hpl, show upU (some y) x = decide (y < x) from rfl] at hv
      clear hc hxd hpn hx hy hpl hz0
      replace x0 : wr.cell? ⟨ad.block, ad.off + (j + 1), none⟩ = some (.int .u64 (x : Int)) := by rw [← add_pos (by omega)]; exact x0
      by_cases hyx : y < x
      · have hxy : ¬ (x : Int) ≤ (y : Int) := by omega
        rw [decide_eq_true hyx, Bool.true_and] at hv
        replace hv := Lib.hid hv
        clear hyx
        go_wp2_with fail
        refine wp_region_text [(3, 1), (22, 1)] (by kernel_rfl) (by kernel_rfl) ?_
        simp only [instr, chk, look, Nat.reduceBEq, Bool.false_eq_true, if_true, if_false, Nat.reduceEqDiff, List.cons_append, List.nil_append]
        go_wp2
        refine OnlyN.normal ?_
        go_wp2
        go_roundw
        case rel => exact ⟨j + 1 + 1, by omega, by omega, by go_num, hv, hg.drew⟩
        case measure => simp [intOf]; omega
      · have hxy : (x : Int) ≤ (y : Int) := by omega
        rw [decide_eq_false hyx, Bool.false_and, Bool.false_and] at hv
        replace hv := Lib.hid hv
        clear hyx
        go_wp2_with fail
        refine wp_region_text [(3, 1), (22, 1)] (by kernel_rfl) (by kernel_rfl) ?_
        simp only [instr, chk, look, Nat.reduceBEq, Bool.false_eq_true, if_true, if_false, Nat.reduceEqDiff, List.cons_append, List.nil_append]
        go_wp2
        refine OnlyN.normal ?_
        go_wp2
        go_ret
        exact ⟨by simp [hv.out], hg.drew⟩
    · have hv := hc.out
      rw [List.drop_of_length_le (by have := hln.out; omega), riseG, Bool.true_and] at hv
      replace hv := Lib.hid hv
      have hlt2 : ¬ (k : Int) < (n : Int) := by omega
      have e64 : decide ((n : Int) ≤ 64) = decide (n ≤ 64) := decide_eq_decide.2 (by omega)
      clear hc hz0
      go_wp2
      go_ret
      exact ⟨by simp [hv.out], hg⟩

set_option maxRecDepth 100000 in
set_option maxHeartbeats 4000000 in
theorem metaIs_any (m : Met) (A : Option Addr) (n c : Nat) (w : World) (h : RE elU w A n m.src) (hn : n ≤ 9223372036854775807) :
    Calls Tryz.prog 28 #[.agg #[.int .u64 (m.id : Int), .int .i64 m.lo, .int .i64 m.hi, .int .i64 m.lv, .slice A n c, .int .i64 m.sr, .int .i64 m.pt]] w fun e w' => e = .returned (.bool (metOk m)) ∧ Grew w w' := by
  have hW := (Chg.refl (fun _ => False) w).alloc (.cells #[.int .u64 (m.id : Int), .int .i64 m.lo, .int .i64 m.hi, .int .i64 m.lv, .slice A n c, .int .i64 m.sr, .int .i64 m.pt] 25)
  have hS := fun w' (g : Grew w w') => rsources_any A n c m.src w' (h.grew g) hn
  have h1 := fun w => small_any m.lv w
  have h2 := fun w => small_any m.sr w
  have h3 := fun w => small_any m.pt w
  obtain ⟨z, hz⟩ : ∃ z, metOk m = z := ⟨_, rfl⟩
  rw [hz]
  unfold metOk at hz
  simp only [List.all_cons, List.all_nil, Bool.and_true] at hz
  obtain ⟨y, hy⟩ : ∃ y, (riseG none m.src && decide (m.src.length ≤ 64)) = y := ⟨_, rfl⟩
  have hz2 : z = (numOk m.lv && (numOk m.sr && (numOk m.pt && (decide (m.lo ≤ m.hi) && y)))) := by
    rw [← hz, ← hy]
    cases numOk m.lv <;> cases numOk m.sr <;> cases numOk m.pt <;> cases riseG none m.src <;> cases decide (m.lo ≤ m.hi) <;> simp
  rw [hy] at hS
  clear hz hy
  cases e1 : numOk m.lv
  · rw [e1] at h1 hz2
    replace hz2 := Lib.hid hz2
    clear e1
    go_enter Tryz.func28, Tryz.ntmps28
    go_wp2_with fail
    refine (h1 _).mono ?_
    rintro e w1 ⟨rfl, rfl⟩
    go_wp2
    go_ret
    exact ⟨by simp [hz2.out], hW⟩
  rw [e1] at h1 hz2
  cases e2 : numOk m.sr
  · rw [e2] at h2 hz2
    replace hz2 := Lib.hid hz2
    clear e1 e2
    go_enter Tryz.func28, Tryz.ntmps28
    go_wp2_with fail
    refine (h1 _).mono ?_
    rintro e w1 ⟨rfl, rfl⟩
    go_wp2_with fail
    refine (h2 _).mono ?_
    rintro e w1 ⟨rfl, rfl⟩
    go_wp2
    go_ret
    exact ⟨by simp [hz2.out], hW⟩
  rw [e2] at h2 hz2
  cases e3 : numOk m.pt
  · rw [e3] at h3 hz2
    replace hz2 := Lib.hid hz2
    clear e1 e2 e3
    go_enter Tryz.func28, Tryz.ntmps28
    go_wp2_with fail
    refine (h1 _).mono ?_
    rintro e w1 ⟨rfl, rfl⟩
    go_wp2_with fail
    refine (h2 _).mono ?_
    rintro e w1 ⟨rfl, rfl⟩
    go_wp2_with fail
    refine (h3 _).mono ?_
    rintro e w1 ⟨rfl, rfl⟩
    go_wp2
    go_ret
    exact ⟨by simp [hz2.out], hW⟩
  rw [e3] at h3 hz2
  clear e1 e2 e3
  by_cases hlh : m.lo ≤ m.hi
  · rw [decide_eq_true hlh] at hz2
    replace hz2 := Lib.hid hz2
    go_enter Tryz.func28, Tryz.ntmps28
    go_wp2_with fail
    refine (h1 _).mono ?_
    rintro e w1 ⟨rfl, rfl⟩
    go_wp2_with fail
    refine (h2 _).mono ?_
    rintro e w1 ⟨rfl, rfl⟩
    go_wp2_with fail
    refine (h3 _).mono ?_
    rintro e w1 ⟨rfl, rfl⟩
    go_wp2_with fail
    refine (hS _ hW).mono ?_
    rintro e w1 ⟨rfl, g1⟩
    go_wp2
    go_ret
    exact ⟨by simp [hz2.out], hW.trans g1⟩
  · rw [decide_eq_false hlh] at hz2
    replace hz2 := Lib.hid hz2
    have hlh2 : ¬ m.lo ≤ m.hi := hlh
    go_enter Tryz.func28, Tryz.ntmps28
    go_wp2_with fail
    refine (h1 _).mono ?_
    rintro e w1 ⟨rfl, rfl⟩
    go_wp2_with fail
    refine (h2 _).mono ?_
    rintro e w1 ⟨rfl, rfl⟩
    go_wp2_with fail
    refine (h3 _).mono ?_
    rintro e w1 ⟨rfl, rfl⟩
    go_wp2
    go_ret
    exact ⟨by simp [hz2.out], hW⟩
end Go.Proofs.YtlcaaacbookopaaGreatDoor

namespace Go.Proofs.YtlcaaacbookopaaGreatDoor
open Go.RowKit

end Go.Proofs.YtlcaaacbookopaaGreatDoor

namespace Go.Proofs.YtlcaaacbookopaaGreatDoor
open Go.RowKit

end Go.Proofs.YtlcaaacbookopaaGreatDoor

namespace Go.Proofs.YtlcaaacbookopaaGreatDoor
open Go.RowKit

end Go.Proofs.YtlcaaacbookopaaGreatDoor

namespace Go.Proofs.YtlcaaacbookopaaGreatDoor
open Go.RowKit

end Go.Proofs.YtlcaaacbookopaaGreatDoor

namespace Go.Proofs.YtlcaaacbookopaaGreatDoor
open Go.RowKit

end Go.Proofs.YtlcaaacbookopaaGreatDoor

namespace Go.Proofs.YtlcaaacbookopaaGreatDoor
open Go.RowKit

end Go.Proofs.YtlcaaacbookopaaGreatDoor

namespace Go.Proofs.YtlcaaacbookopaaGreatDoor
open Go.RowKit

end Go.Proofs.YtlcaaacbookopaaGreatDoor

namespace Go.Proofs.YtlcaaacbookopaaGreatDoor
open Go.RowKit

def LentI (w : World) (n : Nat) (l : List Nat) (e : Ending) (w' : World) : Prop := ∃ A c, e = .returned (.slice A n c) ∧ OE elU w' w.heap.size 22 A (n + 2) c (l ++ [7777777, 7777777]) ∧ Grew w w'

set_option maxHeartbeats 800000 in
theorem lendIds_any (A : Option Addr) (n c : Nat) (l : List Nat) (w : World) (h : RE elU w A n l) (hn : n ≤ 17592186043904) :
    Calls Tryz.prog 9 #[.slice A n c] w (LentI w n l) := by
  go_enter Tryz.func9, Tryz.ntmps9
  go_wp2_with fail
  refine (copyIds_any A n c l _ h (by omega)).mono ?_
  rintro e w1 ⟨A1, c1, rfl, h1, hg1⟩
  have h1a := h1.grew ((Chg.refl _ w1).alloc (.cells #[.int .u64 7777777, .int .u64 7777777] 22))
  have hr : RE elU (w1.alloc (.cells #[.int .u64 7777777, .int .u64 7777777] 22)) (some ⟨w1.heap.size, 0, none⟩) 2 [7777777, 7777777] := RE.newAt rfl rfl rfl
  have hs1 := hg1.size
  go_wp2_with (at_builtin; go_loud (refine wpList_appE rfl _ _ 23 22 infoU64 rfl Tryz.underlying23 rfl w.heap.size A1 n c1 l rfl h1a (by simp; omega) _ 2 2 [7777777, 7777777] rfl hr (by unfold maxLen; omega) (by omega) ?_); intro A2 c2 w2 h2; have hc2 := h2.oe.cap)
  go_ret
  refine ⟨A2, c2, by simp, h2.oe, ?_⟩
  exact h2.grew (hg1.alloc _) fun ad e => (Own.blk_lt h1 ad e).1

set_option maxHeartbeats 800000 in
theorem keptIds_any (A : Option Addr) (n c : Nat) (l : List Nat) (B : Option Addr) (d : Nat) (base : Nat) (w : World) (h : OE elU w base 22 A (n + 2) c (l ++ [7777777, 7777777])) (hb : RE elU w B n l) (hn : n ≤ 17592186043904) :
    Calls Tryz.prog 13 #[.slice A n c, .slice B n d] w fun e w' => e = .returned (.bool true) ∧ Chg (fun k => ∃ ad, A = some ad ∧ k = ad.block) w w' := by
  have hc := h.cap
  obtain ⟨g, rfl, hbg, hg, _⟩ := Own.at_ h (by omega)
  have hl : l.length = n := hb.1
  have hre := h.re (by decide)
  have ha : RE elU w (some ⟨g, 0, none⟩) n l := by have := hre.take (i := n) (by omega); rwa [List.take_left' hl] at this
  have hz : RE elU w (some ⟨g, n, none⟩) 2 [7777777, 7777777] := by
    have := hre.drop n
    rw [List.drop_left' hl, add_head] at this
    simpa [elU] using this
  clear hre
  replace hl := Lib.hid hl
  go_enter Tryz.func13, Tryz.ntmps13
  go_wp2_with fail
  refine (sameIds_eq _ _ n c d l _ ha hb (by omega)).mono ?_
  rintro e w1 ⟨rfl, k1⟩
  have gX : Grew w1 (w1.alloc (.cells #[.int .u64 7777777, .int .u64 7777777] 22)) := (Chg.refl _ w1).alloc _
  go_wp2_with fail
  refine (sameIds_eq _ _ 2 _ _ [7777777, 7777777] _ (by exact (hz.grew k1).grew gX) (by exact RE.newAt (by simp) rfl rfl) (by omega)).mono ?_
  rintro e w2 ⟨rfl, k2⟩
  have g2 := (k1.trans gX).trans k2
  have hw : Wr w2 (some ⟨g, 0, none⟩) ((n + 2) * 1) := (Own.wr h).chg g2 (fun _ _ e => e)
  have hcg : Chg (fun k => ∃ ad, some (⟨g, 0, none⟩ : Addr) = some ad ∧ k = ad.block) w w2 := Chg.of_grew g2
  clear h hb ha hz k1 gX k2 g2
  go_wp2
  go_loopw [7] (fun i wr => ∃ k : Nat, k ≤ n + 2 ∧ i = .int .i64 k ∧ Wr wr (some ⟨g, 0, none⟩) ((n + 2) * 1) ∧ Chg (fun k => ∃ ad, some (⟨g, 0, none⟩ : Addr) = some ad ∧ k = ad.block) w wr) (fun i _ => n + 2 - (intOf i).toNat)
  case atStart => exact ⟨0, Nat.zero_le _, rfl, hw, hcg⟩
  case round =>
    clear hw hcg
    obtain ⟨k, hk, rfl, hw, hcg⟩ := hrel
    by_cases hlt : k < n + 2
    · obtain ⟨ad, u, he, hcell, hfr⟩ := hw.at_ (j := k) (by omega)
      injection he with he
      subst he
      rw [add_head] at hcell hfr
      go_wp2
      go_roundw
      case rel => exact ⟨k + 1, by omega, by go_num, hw.set _ _, hcg.setCell (p := ⟨g, k, none⟩) (.inr ⟨_, rfl, rfl⟩) _⟩
      case measure => simp [intOf]; omega
    · go_wp2
      go_ret
      exact ⟨by simp, hcg⟩
end Go.Proofs.YtlcaaacbookopaaGreatDoor

namespace Go.Proofs.YtlcaaacbookopaaGreatDoor
open Go.RowKit

end Go.Proofs.YtlcaaacbookopaaGreatDoor

namespace Go.Proofs.YtlcaaacbookopaaGreatDoor
open Go.RowKit

end Go.Proofs.YtlcaaacbookopaaGreatDoor

namespace Go.Proofs.YtlcaaacbookopaaGreatDoor
open Go.RowKit

/-- blocks keep their kind and their length -/
def Sh (w w' : World) : Prop := ∀ g cs t, Blk w g t cs → ∃ cs', Blk w' g t cs' ∧ cs'.size = cs.size
theorem Sh.refl (w : World) : Sh w w := fun _ cs _ h => ⟨cs, h, rfl⟩
theorem Sh.trans {a b c : World} (h : Sh a b) (h' : Sh b c) : Sh a c := fun g cs t hb => by
  obtain ⟨c1, k1, e1⟩ := h g cs t hb
  obtain ⟨c2, k2, e2⟩ := h' g c1 t k1
  exact ⟨c2, k2, e2.trans e1⟩
theorem Sh.of_grew {w w' : World} (h : Grew w w') : Sh w w' := fun _ cs _ hb => ⟨cs, hb.grew h, rfl⟩
theorem Sh.setCell {a b : World} (h : Sh a b) (g i : Nat) (u : Value) : Sh a (b.setCell ⟨g, i, none⟩ u) := fun k cs t hb => by
  obtain ⟨c1, k1, e1⟩ := h k cs t hb
  by_cases hk : k = g
  · subst hk
    exact ⟨_, k1.set i u, by rw [Array.size_setIfInBounds]; exact e1⟩
  · exact ⟨c1, k1.far (by exact hk) u, e1⟩
/-- a row of the call's own, whatever is in it -/
def OwX (w : World) (base : Nat) (t : TypeId) (sz : Nat) (A : Option Addr) (n c : Nat) : Prop := ∃ cs, Own w base t sz A n c cs
theorem Own.block {w : World} {base : Nat} {t : TypeId} {sz n c : Nat} {A : Option Addr} {cs : List Value} (h : Own w base t sz A n c cs) : ∀ ad, A = some ad → ∃ cur, Blk w ad.block t cur ∧ cur.size = c * sz := by
  rintro ad rfl
  rcases h.2 with ⟨e, _⟩ | ⟨g, cap, cur, e, _, hg, _, _, h5, _⟩
  · injection e with e1
    cases e1
  · injection e with e1 e2 e3
    injection e1 with e1
    subst e1
    exact ⟨cur, hg, by rw [h5, e3]⟩
theorem OwX.blk {w : World} {base : Nat} {t : TypeId} {sz n c : Nat} {A : Option Addr} (h : OwX w base t sz A n c) : ∀ ad, A = some ad → ∃ cur, Blk w ad.block t cur := fun ad e => by
  obtain ⟨cs, h⟩ := h
  obtain ⟨cur, k, _⟩ := h.block ad e
  exact ⟨cur, k⟩
theorem OwX.lo {w : World} {base : Nat} {t : TypeId} {sz n c : Nat} {A : Option Addr} (h : OwX w base t sz A n c) : ∀ ad, A = some ad → base ≤ ad.block ∧ ad.block < w.heap.size := fun ad e => by
  obtain ⟨cs, h⟩ := h
  exact h.blk_lt ad e
end Go.Proofs.YtlcaaacbookopaaGreatDoor

namespace Go.Proofs.YtlcaaacbookopaaGreatDoor

section
variable {P : Program} {Q : Exit → Act → World → Prop} {tys : List (Nat × Nat)} {S : World → Prop} {l : List Oper}

variable {bs : List Nat} {W : World}
end
end Go.Proofs.YtlcaaacbookopaaGreatDoor

namespace Go.Proofs.YtlcaaacbookopaaGreatDoor
open Go.RowKit

end Go.Proofs.YtlcaaacbookopaaGreatDoor

namespace Go.Proofs.YtlcaaacbookopaaGreatDoor
open Go.RowKit

end Go.Proofs.YtlcaaacbookopaaGreatDoor

namespace Go.Proofs.YtlcaaacbookopaaGreatDoor
open Go.RowKit

theorem Fit.nil : Fit [] := ⟨by simp, fun e he => by cases he⟩
end Go.Proofs.YtlcaaacbookopaaGreatDoor

namespace Go.Proofs.YtlcaaacbookopaaGreatDoor
open Go.RowKit

end Go.Proofs.YtlcaaacbookopaaGreatDoor

namespace Go.Proofs.YtlcaaacbookopaaGreatDoor
open Go.RowKit

/-- it gave up -/
def GvU (e : Ending) : Prop := e = .panicked [{ v := .iface 114 (.agg #[]), recovered := false }]

set_option maxRecDepth 100000 in
set_option maxHeartbeats 4000000 in
theorem must_no (w : World) : Calls Tryz.prog 44 #[.bool false] w fun e w' => GvU e ∧ w' = w := by
  unfold GvU
  go_enter Tryz.func44, Tryz.ntmps44
  go_wp2
  exact ⟨rfl, rfl, rfl⟩

theorem uintR_part {l : List UInt8} {q : Nat} (h : (uintR l (q : Int)).2.2 = 0) : ∃ v q2, uintR l (q : Int) = (v, q2, 0) ∧ v < 18446744073709551616 ∧ q2 ≤ l.length ∧ q < q2 ∧ l.take q2 = l.take q ++ uv v := by
  obtain ⟨t, h1, h2, h3, h4, h5, h6⟩ := uintR_ok l q h
  have ht : t = q := by omega
  subst ht
  refine ⟨(uintR l (t : Int)).1, (uintR l (t : Int)).2.1, ?_, h3, by omega, by have := uv_len1 (uintR l (t : Int)).1; omega, ?_⟩
  · rw [← h]
  · rw [h4, List.take_add, h5]

set_option maxRecDepth 100000 in
set_option maxHeartbeats 4000000 in
theorem rnumber_no (g : Nat) (B : Option Addr) (n c : Nat) (l : List UInt8) (q : Nat) (w : World) (h : RdS w g B n c l q) (hn : n ≤ 140737488355328) (hr : (uintR l (q : Int)).2.2 ≠ 0) :
    Calls Tryz.prog 43 #[.pointer (some ⟨g, 0, none⟩)] w fun e w' => GvU e ∧ Grew w w' := by
  have hU := fun W (hW : Grew w W) => uint_any B n c l (q : Int) W (h.rb.grew hW) hn
  obtain ⟨er, he⟩ : ∃ er, (uintR l (q : Int)).2.2 = er := ⟨_, rfl⟩
  unfold UintPost uintEnd at hU
  rw [he] at hU hr
  generalize (uintR l (q : Int)).1 = r1 at hU
  generalize (uintR l (q : Int)).2.1 = r2 at hU
  have her : ((er : Int) == 0) = false := by simp; omega
  have her2 : ¬ (er : Int) = 0 := by omega
  have her3 : ¬ er = 0 := hr
  replace hU := Lib.hid hU
  have c0 := h.bk.cell 0
  have c1 := h.bk.cell 1
  simp only [List.getElem?_toArray, List.getElem?_cons_succ, List.getElem?_cons_zero] at c0 c1
  clear he
  go_enter Tryz.func43, Tryz.ntmps43
  go_wp2
  refine wp_region_text [] (by kernel_rfl) (by kernel_rfl) ?_
  simp only [instr, chk, List.nil_append]
  go_wp2_with fail
  refine (hU.out _ (Chg.refl _ w).drew).mono ?_
  rintro e w1 ⟨rfl, rfl⟩
  go_wp2_with fail
  refine OnlyN.normal ?_
  go_wp2_with fail
  refine (must_no _).mono ?_
  rintro e w2 ⟨he, rfl⟩
  unfold GvU at he
  subst he
  go_wp2
  exact ⟨rfl, rfl, (Chg.refl _ w).drew⟩
set_option maxRecDepth 100000 in
set_option maxHeartbeats 4000000 in
theorem rsigned_no (g : Nat) (B : Option Addr) (n c : Nat) (l : List UInt8) (q : Nat) (w : World) (h : RdS w g B n c l q) (hn : n ≤ 140737488355328) (hr : (uintR l (q : Int)).2.2 ≠ 0) :
    Calls Tryz.prog 45 #[.pointer (some ⟨g, 0, none⟩)] w fun e w' => GvU e ∧ Grew w w' := by
  have hU := fun W (hW : Grew w W) => int_any B n c l (q : Int) W (h.rb.grew hW) hn
  obtain ⟨er, he⟩ : ∃ er, (uintR l (q : Int)).2.2 = er := ⟨_, rfl⟩
  unfold IntPost at hU
  rw [he] at hU hr
  generalize uz (uintR l (q : Int)).1 = r1 at hU
  generalize (uintR l (q : Int)).2.1 = r2 at hU
  have her : ((er : Int) == 0) = false := by simp; omega
  have her2 : ¬ (er : Int) = 0 := by omega
  have her3 : ¬ er = 0 := hr
  replace hU := Lib.hid hU
  have c0 := h.bk.cell 0
  have c1 := h.bk.cell 1
  simp only [List.getElem?_toArray, List.getElem?_cons_succ, List.getElem?_cons_zero] at c0 c1
  clear he
  go_enter Tryz.func45, Tryz.ntmps45
  go_wp2
  refine wp_region_text [] (by kernel_rfl) (by kernel_rfl) ?_
  simp only [instr, chk, List.nil_append]
  go_wp2_with fail
  refine (hU.out _ (Chg.refl _ w).drew).mono ?_
  rintro e w1 ⟨rfl, rfl⟩
  go_wp2_with fail
  refine OnlyN.normal ?_
  go_wp2_with fail
  refine (must_no _).mono ?_
  rintro e w2 ⟨he, rfl⟩
  unfold GvU at he
  subst he
  go_wp2
  exact ⟨rfl, rfl, (Chg.refl _ w).drew⟩

theorem rnumber_any (g : Nat) (B : Option Addr) (n c : Nat) (l : List UInt8) (q : Nat) (w : World) (h : RdS w g B n c l q) (hn : n ≤ 140737488355328) :
    Calls Tryz.prog 43 #[.pointer (some ⟨g, 0, none⟩)] w fun e w' =>
      (∃ v q2, v < 18446744073709551616 ∧ q2 ≤ l.length ∧ l.take q2 = l.take q ++ uv v ∧ e = .returned (.int .u64 (v : Int)) ∧ RdT w w' g B n c l q2) ∨ (GvU e ∧ Grew w w') := by
  by_cases hr : (uintR l (q : Int)).2.2 = 0
  · obtain ⟨v, q2, h1, h2, h3, _, h4⟩ := uintR_part hr
    exact (rnumber_ok g B n c l q v q2 w h hn h1).mono fun e w' ⟨he, hT⟩ => .inl ⟨v, q2, h2, h3, h4, he, hT⟩
  · exact (rnumber_no g B n c l q w h hn hr).mono fun e w' h => .inr h
end Go.Proofs.YtlcaaacbookopaaGreatDoor

namespace Go.Proofs.YtlcaaacbookopaaGreatDoor
open Go.RowKit

set_option maxRecDepth 100000 in
set_option maxHeartbeats 4000000 in
theorem open_short (B : Option Addr) (n c : Nat) (w : World) (hn : n < 8) :
    Calls Tryz.prog 42 #[.slice B n c, .string ⟨#[84, 87, 77, 1]⟩] w fun e w' => GvU e ∧ Grew w w' := by
  have h1 : ¬ (4 : Int) ≤ (n : Int) - 4 := by omega
  have h2 : wrap64 ((n : Int) - 4) = (n : Int) - 4 := by unfold wrap64; omega
  unfold GvU
  go_enter Tryz.func42, Tryz.ntmps42
  go_wp2_with fail
  refine (must_no _).mono ?_
  rintro e w2 ⟨he, rfl⟩
  unfold GvU at he
  subst he
  go_wp2
  exact ⟨rfl, rfl, Chg.refl _ _⟩

set_option maxRecDepth 100000 in
set_option maxHeartbeats 4000000 in
theorem open_head (B : Option Addr) (n c : Nat) (lb : List UInt8) (w : World) (h : RB w B (n + 4) lb) (hh : lb.take 4 ≠ headM) (h4n : 4 ≤ n) (hn : n ≤ 140737488350000) (hc : n + 4 ≤ c ∧ c ≤ 9223372036854775807) :
    Calls Tryz.prog 42 #[.slice B (n + 4) c, .string ⟨#[84, 87, 77, 1]⟩] w fun e w' => GvU e ∧ Grew w w' := by
  have hr4 : RB w B 4 (lb.take 4) := by
    refine ⟨by rw [List.length_take, h.1]; omega, ?_⟩
    have := h.2.take 4
    rwa [← List.map_take] at this
  have hcv := run_conv_RB (P := Tryz.prog) (c := c) Tryz.underlying26 Tryz.underlying5 Tryz.underlying9 hr4
  have h4i : (4 : Int) ≤ (n : Int) := by omega
  have hne : ¬ (⟨(lb.take 4).toArray⟩ : ByteArray).toList = [84, 87, 77, 1] := fun e => hh (by
    rw [ByteArray.toList_eq] at e
    simpa [headM] using e)
  generalize (⟨(lb.take 4).toArray⟩ : ByteArray) = x at hcv hne
  clear hr4 hh
  unfold GvU
  go_enter Tryz.func42, Tryz.ntmps42
  go_wp2_with fail
  refine (must_no _).mono ?_
  rintro e w2 ⟨he, rfl⟩
  unfold GvU at he
  subst he
  go_wp2
  exact ⟨rfl, rfl, Chg.refl _ _⟩

set_option maxRecDepth 100000 in
set_option maxHeartbeats 4000000 in
theorem open_sum (B : Option Addr) (n c : Nat) (lb : List UInt8) (w : World) (h : RB w B (n + 4) lb) (hh : lb.take 4 = headM) (hs : sealB (lb.take n) ≠ lb) (h4n : 4 ≤ n) (hn : n ≤ 140737488350000) (hc : n + 4 ≤ c ∧ c ≤ 9223372036854775807) :
    Calls Tryz.prog 42 #[.slice B (n + 4) c, .string ⟨#[84, 87, 77, 1]⟩] w fun e w' => GvU e ∧ Grew w w' := by
  have hr4 : RB w B 4 headM := by
    refine ⟨rfl, ?_⟩
    have := h.2.take 4
    rwa [← List.map_take, hh] at this
  have hrn : RB w B n (lb.take n) := by
    refine ⟨by rw [List.length_take, h.1]; omega, ?_⟩
    have := h.2.take n
    rwa [← List.map_take] at this
  have hcv := run_conv_RB (P := Tryz.prog) (c := c) Tryz.underlying26 Tryz.underlying5 Tryz.underlying9 hr4
  have oL : OB (w.alloc (.cells #[] 5)) w.heap.size 5 (some ⟨w.heap.size, 0, none⟩) 0 0 [] := Own.made w w.heap.size 5 1 (Nat.le_refl _)
  have rL := hrn.grew ((Chg.refl _ w).alloc (.cells #[] 5))
  have h4i : (4 : Int) ≤ (n : Int) := by omega
  have hb : (sealB (lb.take n) == lb) = false := by simp [hs]
  generalize lb.take n = l at *
  replace hb := Lib.hid hb
  unfold headM at hcv
  clear hr4 hh hs
  unfold GvU
  go_enter Tryz.func42, Tryz.ntmps42
  go_wp2_with (at_builtin; go_loud (refine wpList_appBw rfl _ _ rfl w.heap.size (some ⟨w.heap.size, 0, none⟩) 0 0 [] rfl oL (by simp) B n c l rfl rL (by omega) ?_); intro A2 c2 w2 h2)
  have ho2 : OB w2 w.heap.size 5 A2 n c2 l := by
    have := h2.ob
    rwa [Nat.zero_add, List.nil_append] at this
  have g2 : Grew w w2 := h2.grew ((Chg.refl _ w).alloc _) (head_le0 (Nat.le_refl _))
  clear h2 oL rL hcv
  refine (bsealed_any w.heap.size A2 n c2 l w2 ho2 g2.size (by omega)).mono ?_
  rintro e w3 ⟨A3, c3, rfl, ho3, hc3⟩
  have g3 : Grew w w3 := g2.step hc3 fun k hk ⟨ad, e, he⟩ => by have := (Own.blk_lt ho2 ad e).1; omega
  go_wp2_with fail
  refine (bytesEqual_any A3 B (n + 4) (n + 4) c3 c _ _ w3 ho3.rb (h.grew g3)).mono ?_
  rintro e w4 ⟨rfl, rfl⟩
  rw [hb.out]
  go_wp2_with fail
  refine (must_no _).mono ?_
  rintro e w5 ⟨he, rfl⟩
  unfold GvU at he
  subst he
  go_wp2
  exact ⟨rfl, rfl, g3⟩

/-- bytes that begin so and bear their sum are read; others are given up -/
theorem open_any (B : Option Addr) (n c : Nat) (lb : List UInt8) (w : World) (h : RB w B n lb) (hn : n ≤ 140737488350000) (hc : n ≤ c ∧ c ≤ 9223372036854775807) :
    Calls Tryz.prog 42 #[.slice B n c, .string ⟨#[84, 87, 77, 1]⟩] w fun e w' =>
      (∃ g l r k, lb = sealB l ∧ l = headM ++ r ∧ n = k + 4 ∧ e = .returned (.pointer (some ⟨g, 0, none⟩)) ∧ w.heap.size ≤ g ∧ RdS w' g B k c l 4 ∧ Grew w w') ∨ (GvU e ∧ (∀ r, lb ≠ sealB (headM ++ r)) ∧ Grew w w') := by
  have hl := h.1
  by_cases h8 : n < 8
  · refine (open_short B n c w h8).mono fun e w' ⟨he, hg⟩ => .inr ⟨he, fun r e => ?_, hg⟩
    rw [e, sealB_len, List.length_append] at hl
    have : headM.length = 4 := rfl
    omega
  · obtain ⟨k, rfl⟩ : ∃ k, n = k + 4 := ⟨n - 4, by omega⟩
    by_cases hh : lb.take 4 = headM
    · by_cases hs : sealB (lb.take k) = lb
      · have hlr : lb.take k = headM ++ (lb.take k).drop 4 := by
          have h1 := List.take_append_drop 4 (lb.take k)
          rw [List.take_take, Nat.min_eq_left (by omega), hh] at h1
          exact h1.symm
        refine (open_ok B k c (lb.take k) _ w (by rw [hs]; exact h) hlr (by omega) hc).mono fun e w' ⟨g, he, hg, hr, hgr⟩ => .inl ⟨g, lb.take k, _, k, hs.symm, hlr, rfl, he, hg, hr, hgr⟩
      · refine (open_sum B k c lb w h hh hs (by omega) (by omega) hc).mono fun e w' ⟨he, hg⟩ => .inr ⟨he, fun r e => hs ?_, hg⟩
        have h2 : (headM ++ r).length = k := by
          have := hl
          rw [e, sealB_len] at this
          omega
        have h3 : lb.take k = headM ++ r := by
          rw [e]
          unfold sealB
          exact List.take_left' h2
        rw [h3, ← e]
    · refine (open_head B k c lb w h hh (by omega) (by omega) hc).mono fun e w' ⟨he, hg⟩ => .inr ⟨he, fun r e => hh ?_, hg⟩
      rw [e]
      rfl
end Go.Proofs.YtlcaaacbookopaaGreatDoor
