/-
  Several texts in one:
  The document's order of labels. Conditions: none.
-/
import Derived.Test.YtailooldnelecaaDoorPart16
import Derived.Test.YtailooldnelecaaDoorPart20

namespace Go.Proofs.YtailooldnelecaaDoor
open Go.RowKit

theorem lessT (a b : ByteArray) : Op.bytesLess a.toList b.toList = decide (a.data.toList < b.data.toList) := by
  rw [ByteArray.toList_eq, ByteArray.toList_eq, less_eq]
set_option maxHeartbeats 1000000 in
theorem order3_any (a b : ByteArray) (w : World) : Calls Tryd.prog 26 #[.string a, .string b] w fun e w' => e = .returned (.int .i64 (cmpB a b)) ∧ w = w' := by
  have e1 := lessT a b
  have e2 := lessT b a
  unfold cmpB
  by_cases h1 : a.data.toList < b.data.toList
  · rw [if_pos h1]
    rw [decide_eq_true h1] at e1
    clear h1 e2
    go_enter Tryd.func26, Tryd.ntmps26
    go_wp2
    go_ret
    exact ⟨by simp, rfl⟩
  · rw [if_neg h1]
    rw [decide_eq_false h1] at e1
    by_cases h2 : b.data.toList < a.data.toList
    · have hne : ¬ a.data.toList = b.data.toList := fun e => by rw [e] at h2; exact List.lt_irrefl _ h2
      rw [if_neg hne]
      have e3 : (a.toList == b.toList) = false := by
        rw [ByteArray.toList_eq, ByteArray.toList_eq]
        simpa using hne
      clear h1 h2 hne e2
      go_enter Tryd.func26, Tryd.ntmps26
      go_wp2
      go_ret
      exact ⟨by simp, rfl⟩
    · have he : a.data.toList = b.data.toList := List.le_antisymm (List.not_lt.1 h2) (List.not_lt.1 h1)
      rw [if_pos he]
      have e3 : (a.toList == b.toList) = true := by
        rw [ByteArray.toList_eq, ByteArray.toList_eq, he]
        simp
      clear h1 h2 he e2
      go_enter Tryd.func26, Tryd.ntmps26
      go_wp2
      go_ret
      exact ⟨by simp, rfl⟩

/-- by the first, then by the second, then by the rest -/
structure TwoC (z1 z2 r e : Int) : Prop where
  a : z1 ≠ 0 → e = z1
  b : z1 = 0 → z2 ≠ 0 → e = z2
  c : z1 = 0 → z2 = 0 → e = r
theorem twoC {z1 z2 r e : Int} (h : e = if (if z1 ≠ 0 then z1 else z2) ≠ 0 then (if z1 ≠ 0 then z1 else z2) else r) : TwoC z1 z2 r e := by
  refine ⟨fun h1 => ?_, fun h1 h2 => ?_, fun h1 h2 => ?_⟩
  · rw [if_pos h1, if_pos h1] at h
    exact h
  · subst h1
    simp [h2] at h
    exact h
  · subst h1 h2
    simpa using h
set_option maxRecDepth 100000 in
set_option maxHeartbeats 4000000 in
theorem compare3_any (A B : Option Addr) (n c m d : Nat) (la lb : List Lab) (w : World) (ha : RE elLb w A n la) (hb : RE elLb w B m lb) (hn : n ≤ 9223372036854775807) (hm : m ≤ 9223372036854775807) :
    Calls Tryd.prog 12 #[.slice A n c, .slice B m d] w fun e w' => e = .returned (.int .i64 (cmpLs la lb)) ∧ Grew w w' := by
  have hal := ha.1
  have hbl := hb.1
  replace hal := Lib.hid hal
  replace hbl := Lib.hid hbl
  go_enter Tryd.func12, Tryd.ntmps12
  go_wp2
  go_loopw [5] (fun i wr => ∃ k : Nat, k ≤ n ∧ k ≤ m ∧ i = .int .i64 (k : Int) ∧ Hid (cmpLs la lb = cmpLs (la.drop k) (lb.drop k)) ∧ Grew w wr) (fun i _ => n - (intOf i).toNat)
  case atStart => exact ⟨0, by omega, by omega, rfl, rfl, Chg.refl _ _⟩
  case round =>
    obtain ⟨k, hk, hkm, rfl, hc, hg⟩ := hrel
    by_cases hlt : k < n
    · by_cases hltm : k < m
      · obtain ⟨ad, x, rfl, hx, x0, x1⟩ := (ha.grew hg).lb hlt
        have hxd : la.drop k = x :: la.drop (k + 1) := by
          obtain ⟨h1, h2⟩ := List.getElem?_eq_some_iff.1 hx
          rw [List.drop_eq_getElem_cons h1, h2]
        obtain ⟨bd, y, rfl, hy, y0, y1⟩ := (hb.grew hg).lb hltm
        have hyd : lb.drop k = y :: lb.drop (k + 1) := by
          obtain ⟨h1, h2⟩ := List.getElem?_eq_some_iff.1 hy
          rw [List.drop_eq_getElem_cons h1, h2]
        have hc0 : cmpLs la lb = if (if cmpB x.1 y.1 ≠ 0 then cmpB x.1 y.1 else cmpB x.2 y.2) ≠ 0 then (if cmpB x.1 y.1 ≠ 0 then cmpB x.1 y.1 else cmpB x.2 y.2) else cmpLs (la.drop (k + 1)) (lb.drop (k + 1)) := by
          have := hc.out
          rw [hxd, hyd] at this
          rw [this]
          rfl
        have HT : TwoC (cmpB x.1 y.1) (cmpB x.2 y.2) (cmpLs (la.drop (k + 1)) (lb.drop (k + 1))) (cmpLs la lb) := twoC hc0
        clear hc0
        have hO1 := fun w => order3_any x.1 y.1 w
        have hO2 := fun w => order3_any x.2 y.2 w
        have hcs : CellsIn [ad.block, bd.block] wr := by
          have h1 := ex_cell x0
          have h2 := ex_cell y0
          rw [block_add] at h1 h2
          exact cellsIn_cons h1 (cellsIn_cons h2 (cellsIn_nil _))
        have hsame : Hid (∀ W1, Grew wr W1 → SameIn [ad.block, bd.block] wr W1) := fun W1 h1 => sameIn_of h1 hcs fun _ _ e => e
        generalize cmpB x.1 y.1 = z1 at *
        generalize cmpB x.2 y.2 = z2 at *
        replace hO1 := Lib.hid hO1
        replace hO2 := Lib.hid hO2
        clear hxd hyd hc hx hy
        go_wp2
        refine wp_region_textS [(3, 1)] [ad.block, bd.block] (by kernel_rfl) (by kernel_rfl) hcs ?_
        simp only [wpU, tagOf, chk, List.nil_append, List.cons_append]
        intro K hK
        go_wp2_with fail
        refine OnlyN.normal (hK _ _ (fun _ => ⟨_, _, _, rfl, rfl, by simp [block_add]⟩) ?_)
        clear hK K
        intro K hK
        go_wp2_with fail
        refine OnlyN.normal (hK _ _ (fun _ => ⟨_, _, _, rfl, rfl, by simp [block_add]⟩) ?_)
        clear hK K
        intro K hK
        go_wp2_with fail
        refine (hO1.out _).mono ?_
        rintro e w1 ⟨rfl, rfl⟩
        go_wp2_with fail
        refine OnlyN.normal (hK _ _ (hsame.out _ (Chg.refl _ wr).drew) ?_)
        clear hK K
        go_wp2_with fail
        refine OnlyN.normal ?_
        by_cases hz1 : z1 = 0
        · subst hz1
          have hs2 : Hid (∀ W1, Grew wr.drew W1 → SameIn [ad.block, bd.block] wr.drew W1) := fun W1 h1 => sameIn_of h1 (fun k hk => hcs k hk) fun _ _ e => e
          go_wp2
          refine wp_region_textS [(3, 1)] [ad.block, bd.block] (by kernel_rfl) (by kernel_rfl) (fun k hk => hcs k hk) ?_
          simp only [wpU, tagOf, chk, List.nil_append, List.cons_append]
          intro K hK
          go_wp2_with fail
          refine OnlyN.normal (hK _ _ (fun _ => ⟨_, _, _, rfl, rfl, by simp [block_add]⟩) ?_)
          clear hK K
          intro K hK
          go_wp2_with fail
          refine OnlyN.normal (hK _ _ (fun _ => ⟨_, _, _, rfl, rfl, by simp [block_add]⟩) ?_)
          clear hK K
          intro K hK
          go_wp2_with fail
          refine (hO2.out _).mono ?_
          rintro e w1 ⟨rfl, rfl⟩
          go_wp2_with fail
          refine OnlyN.normal (hK _ _ (hs2.out _ (Chg.refl _ wr.drew).drew) ?_)
          clear hK K
          go_wp2_with fail
          refine OnlyN.normal ?_
          have hgg : Grew w wr.drew.drew := hg.drew.drew
          clear hs2 hsame hcs x0 x1 y0 y1 hO1 hO2
          by_cases hz2 : z2 = 0
          · subst hz2
            have hc' : Hid (cmpLs la lb = cmpLs (la.drop (k + 1)) (lb.drop (k + 1))) := HT.c rfl rfl
            go_wp2
            go_roundw
            case rel => exact ⟨k + 1, by omega, by omega, by go_num, hc', hgg⟩
            case measure => simp [intOf]; omega
          · have e1 : (z2 != 0) = true := by simpa using hz2
            have hc' := Lib.hid (HT.b rfl hz2)
            go_wp2
            go_ret
            exact ⟨by rw [hc'.out]; simp, hgg⟩
        · have e1 : (z1 != 0) = true := by simpa using hz1
          have hc' := Lib.hid (HT.a hz1)
          go_wp2
          go_ret
          exact ⟨by rw [hc'.out]; simp, hg.drew⟩
      · have hyd : lb.drop k = [] := List.drop_of_length_le (by have := hbl.out; omega)
        have hc' : Hid (cmpLs la lb = 1) := by
          have := hc.out
          rw [hyd] at this
          cases hxd : la.drop k with
          | nil =>
            have := congrArg List.length hxd
            rw [List.length_drop] at this
            simp at this
            have := hal.out
            omega
          | cons y r => rw [hxd] at this; exact this
        have e2 : decide (n < m) = false := decide_eq_false (by omega)
        have e3 : decide (m < n) = true := decide_eq_true (by omega)
        clear hyd hc
        go_wp2
        go_ret
        exact ⟨by rw [hc'.out]; simp, hg⟩
    · obtain rfl : k = n := by omega
      have hxd : la.drop k = [] := List.drop_of_length_le (by have := hal.out; omega)
      by_cases hltm : k < m
      · have hc' : Hid (cmpLs la lb = -1) := by
          have := hc.out
          rw [hxd] at this
          cases hyd : lb.drop k with
          | nil =>
            have := congrArg List.length hyd
            rw [List.length_drop] at this
            simp at this
            have := hbl.out
            omega
          | cons y r => rw [hyd] at this; exact this
        clear hxd hc
        go_wp2
        go_ret
        exact ⟨by rw [hc'.out]; simp, hg⟩
      · obtain rfl : k = m := by omega
        have hc' : Hid (cmpLs la lb = 0) := by
          have := hc.out
          rw [hxd, List.drop_of_length_le (by have := hbl.out; omega)] at this
          exact this
        clear hxd hc
        go_wp2
        go_ret
        exact ⟨by rw [hc'.out]; simp, hg⟩

end Go.Proofs.YtailooldnelecaaDoor
