/-
  Several texts in one:
  The document's order of labels. Conditions: none.
  The document's order of labels, and what a list has at a place. Conditions: none.
  The law SeriesGreatest, walked. Conditions: lengths that memory bears; the longest text that the library takes is as it is set.
  The document's merge of two lists of points. Conditions: none; no program in sight.
  The document's two lists of points as one. Conditions: lengths that memory bears.
-/
import Derived.Test.YtlcaaacbookopaaGreatDoorPart38
import Derived.Test.YtlcaaacbookopaaGreatDoorPart16
import Derived.Test.YtlcaaacbookopaaGreatDoorPart39

namespace Go.Proofs.YtlcaaacbookopaaGreatDoor
open Go.RowKit

theorem lessT (a b : ByteArray) : Op.bytesLess a.toList b.toList = decide (a.data.toList < b.data.toList) := by
  rw [ByteArray.toList_eq, ByteArray.toList_eq, less_eq]
set_option maxHeartbeats 1000000 in
theorem order3_any (a b : ByteArray) (w : World) : Calls Tryz.prog 117 #[.string a, .string b] w fun e w' => e = .returned (.int .i64 (cmpB a b)) ∧ w = w' := by
  have e1 := lessT a b
  have e2 := lessT b a
  unfold cmpB
  by_cases h1 : a.data.toList < b.data.toList
  · rw [if_pos h1]
    rw [decide_eq_true h1] at e1
    clear h1 e2
    go_enter Tryz.func117, Tryz.ntmps117
    go_wp2
    go_ret
    exact ⟨by simp, rfl⟩
  · rw [if_neg h1]
    rw [decide_eq_false h1] at e1
    by_cases h2 : b.data.toList < a.data.toList
    · have hne : ¬ a.data.toList = b.data.toList := fun e => by rw [e] at h2; exact List.lt_irrefl _ h2
      rw [if_neg hne]
      have e3 : (a.toList == b.toList) = false := by
        rw [ByteArray.toList_eq, ByteArray.toList_eq]
        simpa using hne
      clear h1 h2 hne e2
      go_enter Tryz.func117, Tryz.ntmps117
      go_wp2
      go_ret
      exact ⟨by simp, rfl⟩
    · have he : a.data.toList = b.data.toList := List.le_antisymm (List.not_lt.1 h2) (List.not_lt.1 h1)
      rw [if_pos he]
      have e3 : (a.toList == b.toList) = true := by
        rw [ByteArray.toList_eq, ByteArray.toList_eq, he]
        simp
      clear h1 h2 he e2
      go_enter Tryz.func117, Tryz.ntmps117
      go_wp2
      go_ret
      exact ⟨by simp, rfl⟩

/-- by the first, then by the second, then by the rest -/
structure TwoC (z1 z2 r e : Int) : Prop where
  a : z1 ≠ 0 → e = z1
  b : z1 = 0 → z2 ≠ 0 → e = z2
  c : z1 = 0 → z2 = 0 → e = r
theorem twoC {z1 z2 r e : Int} (h : e = if (if z1 ≠ 0 then z1 else z2) ≠ 0 then (if z1 ≠ 0 then z1 else z2) else r) : TwoC z1 z2 r e := by
  refine ⟨fun h1 => ?_, fun h1 h2 => ?_, fun h1 h2 => ?_⟩
  · rw [if_pos h1, if_pos h1] at h
    exact h
  · subst h1
    simp [h2] at h
    exact h
  · subst h1 h2
    simpa using h
set_option maxRecDepth 100000 in
set_option maxHeartbeats 4000000 in
theorem compare3_any (A B : Option Addr) (n c m d : Nat) (la lb : List Lab) (w : World) (ha : RE elLb w A n la) (hb : RE elLb w B m lb) (hn : n ≤ 9223372036854775807) (hm : m ≤ 9223372036854775807) :
    Calls Tryz.prog 98 #[.slice A n c, .slice B m d] w fun e w' => e = .returned (.int .i64 (cmpLs la lb)) ∧ Grew w w' := by
  have hal := ha.1
  have hbl := hb.1
  replace hal := Lib.hid hal
  replace hbl := Lib.hid hbl
  go_enter Tryz.func98, Tryz.ntmps98
  go_wp2
  go_loopw [5] (fun i wr => ∃ k : Nat, k ≤ n ∧ k ≤ m ∧ i = .int .i64 (k : Int) ∧ Hid (cmpLs la lb = cmpLs (la.drop k) (lb.drop k)) ∧ Grew w wr) (fun i _ => n - (intOf i).toNat)
  case atStart => exact ⟨0, by omega, by omega, rfl, rfl, Chg.refl _ _⟩
  case round =>
    obtain ⟨k, hk, hkm, rfl, hc, hg⟩ := hrel
    by_cases hlt : k < n
    · by_cases hltm : k < m
      · obtain ⟨ad, x, rfl, hx, x0, x1⟩ := (ha.grew hg).lb hlt
        have hxd : la.drop k = x :: la.drop (k + 1) := by
          obtain ⟨h1, h2⟩ := List.getElem?_eq_some_iff.1 hx
          rw [List.drop_eq_getElem_cons h1, h2]
        obtain ⟨bd, y, rfl, hy, y0, y1⟩ := (hb.grew hg).lb hltm
        have hyd : lb.drop k = y :: lb.drop (k + 1) := by
          obtain ⟨h1, h2⟩ := List.getElem?_eq_some_iff.1 hy
          rw [List.drop_eq_getElem_cons h1, h2]
        have hc0 : cmpLs la lb = if (if cmpB x.1 y.1 ≠ 0 then cmpB x.1 y.1 else cmpB x.2 y.2) ≠ 0 then (if cmpB x.1 y.1 ≠ 0 then cmpB x.1 y.1 else cmpB x.2 y.2) else cmpLs (la.drop (k + 1)) (lb.drop (k + 1)) := by
          have := hc.out
          rw [hxd, hyd] at this
          rw [this]
          rfl
        have HT : TwoC (cmpB x.1 y.1) (cmpB x.2 y.2) (cmpLs (la.drop (k + 1)) (lb.drop (k + 1))) (cmpLs la lb) := twoC hc0
        clear hc0
        have hO1 := fun w => order3_any x.1 y.1 w
        have hO2 := fun w => order3_any x.2 y.2 w
        have hcs : CellsIn [ad.block, bd.block] wr := by
          have h1 := ex_cell x0
          have h2 := ex_cell y0
          rw [block_add] at h1 h2
          exact cellsIn_cons h1 (cellsIn_cons h2 (qcellsIn_nil _))
        have hsame : Hid (∀ W1, Grew wr W1 → SameIn [ad.block, bd.block] wr W1) := fun W1 h1 => qsameIn_of h1 hcs fun _ _ e => e
        generalize cmpB x.1 y.1 = z1 at *
        generalize cmpB x.2 y.2 = z2 at *
        replace hO1 := Lib.hid hO1
        replace hO2 := Lib.hid hO2
        clear hxd hyd hc hx hy
        go_wp2
        refine wp_region_textS [(3, 1)] [ad.block, bd.block] (by kernel_rfl) (by kernel_rfl) hcs ?_
        simp only [wpU, tagOf, chk, List.nil_append, List.cons_append]
        intro K hK
        go_wp2_with fail
        refine OnlyN.normal (hK _ _ (fun _ => ⟨_, _, _, rfl, rfl, by simp [block_add]⟩) ?_)
        clear hK K
        intro K hK
        go_wp2_with fail
        refine OnlyN.normal (hK _ _ (fun _ => ⟨_, _, _, rfl, rfl, by simp [block_add]⟩) ?_)
        clear hK K
        intro K hK
        go_wp2_with fail
        refine (hO1.out _).mono ?_
        rintro e w1 ⟨rfl, rfl⟩
        go_wp2_with fail
        refine OnlyN.normal (hK _ _ (hsame.out _ (Chg.refl _ wr).drew) ?_)
        clear hK K
        go_wp2_with fail
        refine OnlyN.normal ?_
        by_cases hz1 : z1 = 0
        · subst hz1
          have hs2 : Hid (∀ W1, Grew wr.drew W1 → SameIn [ad.block, bd.block] wr.drew W1) := fun W1 h1 => qsameIn_of h1 (fun k hk => hcs k hk) fun _ _ e => e
          go_wp2
          refine wp_region_textS [(3, 1)] [ad.block, bd.block] (by kernel_rfl) (by kernel_rfl) (fun k hk => hcs k hk) ?_
          simp only [wpU, tagOf, chk, List.nil_append, List.cons_append]
          intro K hK
          go_wp2_with fail
          refine OnlyN.normal (hK _ _ (fun _ => ⟨_, _, _, rfl, rfl, by simp [block_add]⟩) ?_)
          clear hK K
          intro K hK
          go_wp2_with fail
          refine OnlyN.normal (hK _ _ (fun _ => ⟨_, _, _, rfl, rfl, by simp [block_add]⟩) ?_)
          clear hK K
          intro K hK
          go_wp2_with fail
          refine (hO2.out _).mono ?_
          rintro e w1 ⟨rfl, rfl⟩
          go_wp2_with fail
          refine OnlyN.normal (hK _ _ (hs2.out _ (Chg.refl _ wr.drew).drew) ?_)
          clear hK K
          go_wp2_with fail
          refine OnlyN.normal ?_
          have hgg : Grew w wr.drew.drew := hg.drew.drew
          clear hs2 hsame hcs x0 x1 y0 y1 hO1 hO2
          by_cases hz2 : z2 = 0
          · subst hz2
            have hc' : Hid (cmpLs la lb = cmpLs (la.drop (k + 1)) (lb.drop (k + 1))) := HT.c rfl rfl
            go_wp2
            go_roundw
            case rel => exact ⟨k + 1, by omega, by omega, by go_num, hc', hgg⟩
            case measure => simp [intOf]; omega
          · have e1 : (z2 != 0) = true := by simpa using hz2
            have hc' := Lib.hid (HT.b rfl hz2)
            go_wp2
            go_ret
            exact ⟨by rw [hc'.out]; simp, hgg⟩
        · have e1 : (z1 != 0) = true := by simpa using hz1
          have hc' := Lib.hid (HT.a hz1)
          go_wp2
          go_ret
          exact ⟨by rw [hc'.out]; simp, hg.drew⟩
      · have hyd : lb.drop k = [] := List.drop_of_length_le (by have := hbl.out; omega)
        have hc' : Hid (cmpLs la lb = 1) := by
          have := hc.out
          rw [hyd] at this
          cases hxd : la.drop k with
          | nil =>
            have := congrArg List.length hxd
            rw [List.length_drop] at this
            simp at this
            have := hal.out
            omega
          | cons y r => rw [hxd] at this; exact this
        have e2 : decide (n < m) = false := decide_eq_false (by omega)
        have e3 : decide (m < n) = true := decide_eq_true (by omega)
        clear hyd hc
        go_wp2
        go_ret
        exact ⟨by rw [hc'.out]; simp, hg⟩
    · obtain rfl : k = n := by omega
      have hxd : la.drop k = [] := List.drop_of_length_le (by have := hal.out; omega)
      by_cases hltm : k < m
      · have hc' : Hid (cmpLs la lb = -1) := by
          have := hc.out
          rw [hxd] at this
          cases hyd : lb.drop k with
          | nil =>
            have := congrArg List.length hyd
            rw [List.length_drop] at this
            simp at this
            have := hbl.out
            omega
          | cons y r => rw [hyd] at this; exact this
        clear hxd hc
        go_wp2
        go_ret
        exact ⟨by rw [hc'.out]; simp, hg⟩
      · obtain rfl : k = m := by omega
        have hc' : Hid (cmpLs la lb = 0) := by
          have := hc.out
          rw [hxd, List.drop_of_length_le (by have := hbl.out; omega)] at this
          exact this
        clear hxd hc
        go_wp2
        go_ret
        exact ⟨by rw [hc'.out]; simp, hg⟩

end Go.Proofs.YtlcaaacbookopaaGreatDoor

namespace Go.Proofs.YtlcaaacbookopaaGreatDoor
open Go.RowKit

end Go.Proofs.YtlcaaacbookopaaGreatDoor

namespace Go.Proofs.YtlcaaacbookopaaGreatDoor
open Go.RowKit

end Go.Proofs.YtlcaaacbookopaaGreatDoor

namespace Go.Proofs.YtlcaaacbookopaaGreatDoor
open Go.RowKit

/-- two lists of points as one -/
def ptsM : List Ptn → List Ptn → List Ptn
  | [], b => b
  | p :: a, [] => p :: a
  | p :: a, q :: b => if p.1 < q.1 then p :: ptsM a (q :: b) else if q.1 < p.1 then q :: ptsM (p :: a) b else (p.1, max p.2 q.2) :: ptsM a b
termination_by a b => a.length + b.length

/-- two lists of series as one -/
def twoM : List Ser → List Ser → List Ser
  | [], b => b
  | s :: a, [] => s :: a
  | s :: a, r :: b => if cmpLs s.lbs r.lbs < 0 then s :: twoM a (r :: b) else if 0 < cmpLs s.lbs r.lbs then r :: twoM (s :: a) b else ⟨s.lbs, ptsM s.pts r.pts⟩ :: twoM a b
termination_by a b => a.length + b.length
end Go.Proofs.YtlcaaacbookopaaGreatDoor

namespace Go.Proofs.YtlcaaacbookopaaGreatDoor
open Go.RowKit

theorem udrop_at {α : Type} {l : List α} {k : Nat} {x : α} (h : l[k]? = some x) : l.drop k = x :: l.drop (k + 1) := by
  obtain ⟨h1, h2⟩ := List.getElem?_eq_some_iff.1 h
  rw [List.drop_eq_getElem_cons h1, h2]
theorem ptsM_r (a : List Ptn) : ptsM a [] = a := by cases a <;> rw [ptsM]
theorem ptsM_l (b : List Ptn) : ptsM [] b = b := by rw [ptsM]
theorem ptsM_lt {p q : Ptn} {a b : List Ptn} (h : p.1 < q.1) : ptsM (p :: a) (q :: b) = p :: ptsM a (q :: b) := by rw [ptsM, if_pos h]
theorem ptsM_gt {p q : Ptn} {a b : List Ptn} (h : q.1 < p.1) : ptsM (p :: a) (q :: b) = q :: ptsM (p :: a) b := by rw [ptsM, if_neg (by omega), if_pos h]
theorem ptsM_eq {p q : Ptn} {a b : List Ptn} (h : p.1 = q.1) : ptsM (p :: a) (q :: b) = (p.1, max p.2 q.2) :: ptsM a b := by rw [ptsM, if_neg (by omega), if_neg (by omega)]
theorem lenN {w : World} {base : Nat} {t : TypeId} {A : Option Addr} {n c : Nat} {l : List Ptn} (h : OE elPt w base t A n c l) : l.length = n := h.len (by decide)

set_option maxRecDepth 100000 in
set_option maxHeartbeats 8000000 in
theorem points10_any (A B : Option Addr) (n c m d : Nat) (ps qs : List Ptn) (w : World) (h : RE elPt w A n ps) (hb : RE elPt w B m qs) (hs : n + m ≤ 8796093022208) :
    Calls Tryz.prog 100 #[.slice A n c, .slice B m d] w (NewPt w (ptsM ps qs).length (ptsM ps qs)) := by
  obtain ⟨l, hl⟩ : ∃ l, ptsM ps qs = l := ⟨_, rfl⟩
  rw [hl]
  have hz0 : Hid ([] ++ ptsM (ps.drop 0) (qs.drop 0) = l) := hl
  have hln : Hid (ps.length = n) := h.1
  have hlm : Hid (qs.length = m) := hb.1
  clear hl
  go_enter Tryz.func100, Tryz.ntmps100
  go_wp2
  go_loopw [5, 6, 7] (fun o i j wr => ∃ (k q s e : Nat) (D : Option Addr) (out : List Ptn), o = .slice D s e ∧ i = .int .i64 (k : Int) ∧ j = .int .i64 (q : Int) ∧ k ≤ n ∧ q ≤ m ∧ s ≤ k + q ∧ Hid (out ++ ptsM (ps.drop k) (qs.drop q) = l) ∧ OE elPt wr w.heap.size 82 D s e out ∧ Grew w wr) (fun _ i j _ => n + m - ((intOf i).toNat + (intOf j).toNat))
  case atStart => exact ⟨0, 0, 0, 0, none, [], rfl, rfl, rfl, by omega, by omega, by omega, hz0, OE.nil _ _ _, Chg.refl _ _⟩
  case round =>
    clear hz0
    obtain ⟨k, q, s, e, D, out, rfl, rfl, rfl, hk, hq, hse, hv, ho, hg⟩ := hrel
    have hsz := hg.size
    have hA : Hid (∀ ad, D = some ad → w.heap.size ≤ ad.block) := fun ad e => (Own.blk_lt ho ad e).1
    by_cases hkn : k < n
    · obtain ⟨ad, p, rfl, hp, p0, p1⟩ := (h.grew hg).pt hkn
      have hpd := udrop_at hp
      have ek : decide ((k : Int) < (n : Int)) = true := decide_eq_true (by omega)
      have ek2 : ((k : Int) == (n : Int)) = false := by simp; omega
      by_cases hqm : q < m
      · obtain ⟨bd, r, rfl, hr, r0, r1⟩ := (hb.grew hg).pt hqm
        have hrd := udrop_at hr
        have eq2 : ((q : Int) == (m : Int)) = false := by simp; omega
        have hv := hv.out
        rw [hpd, hrd] at hv
        have hadW := World.block_lt_of_cell? wr _ p0
        have hbdW := World.block_lt_of_cell? wr _ r0
        rw [block_add] at hadW hbdW
        have hcA := ex_cell p0
        have hcB := ex_cell r0
        rw [block_add] at hcA hcB
        have hcs : CellsIn [ad.block, bd.block] wr := cellsIn_cons hcA (cellsIn_cons hcB (qcellsIn_nil _))
        obtain ⟨ad', p', e1, _, hw0, _⟩ := h.pt hkn
        injection e1 with e1
        subst e1
        obtain ⟨bd', r', e2, _, hw1, _⟩ := hb.pt hqm
        injection e2 with e2
        subst e2
        have hadO := World.block_lt_of_cell? w _ hw0
        have hbdO := World.block_lt_of_cell? w _ hw1
        rw [block_add] at hadO hbdO
        clear hw0 hw1
        rcases Int.lt_trichotomy p.1 r.1 with h1 | h1 | h1
        · rw [ptsM_lt h1, ← hrd] at hv
          replace hv := Lib.hid (push_l hv)
          have e3 : decide (p.1 < r.1) = true := decide_eq_true h1
          clear h1 hpd hrd hp hr
          go_wp2_with fail
          refine wp_region_text [(3, 1), (2, 1)] (by kernel_rfl) (by kernel_rfl) ?_
          simp only [instr, chk, look, Nat.reduceBEq, if_true, if_false, Nat.reduceEqDiff, List.cons_append, List.nil_append]
          go_wp2_with fail
          refine OnlyN.normal ?_
          have ho1 : OE elPt (wr.drew.alloc (.cells #[.int .i64 p.1, .int .u64 (p.2 : Int)] 82)) w.heap.size 82 D s e out := (ho.drewN 1).grew ((Chg.refl _ _).alloc _)
          have hg1 : Grew w (wr.drew.alloc (.cells #[.int .i64 p.1, .int .u64 (p.2 : Int)] 82)) := hg.drew.alloc _
          have hsrc : RE elPt (wr.drew.alloc (.cells #[.int .i64 p.1, .int .u64 (p.2 : Int)] 82)) (some ⟨wr.heap.size, 0, none⟩) 1 [p] := RE.newAt rfl rfl rfl
          go_wp2_with (at_builtin; refine wpList_appE rfl _ _ 83 82 infoPt rfl Tryz.underlying83 rfl w.heap.size D s e out rfl ho1 (by simp; omega) _ 1 1 [p] rfl hsrc (by unfold maxLen; omega) (by omega) ?_; intro D2 e2 w2 h2)
          go_roundw
          case rel => exact ⟨k + 1, q, s + 1, e2, D2, out ++ [p], rfl, by go_num, rfl, by omega, by omega, by omega, hv, h2.oe, h2.grew hg1 hA.out⟩
          case measure => simp [intOf] <;> omega
        · rw [ptsM_eq h1] at hv
          replace hv := Lib.hid (push_l hv)
          have e3 : decide (p.1 < r.1) = false := decide_eq_false (by omega)
          have e4 : decide (r.1 < p.1) = false := decide_eq_false (by omega)
          have hmx : (max (p.2 : Int) (r.2 : Int)) = ((max p.2 r.2 : Nat) : Int) := by omega
          have hs2 : Hid (∀ W1, Chg (fun k => w.heap.size ≤ k) wr W1 → SameIn [ad.block, bd.block] wr W1) := fun W1 h1 i hi => by
            simp only [List.mem_cons, List.not_mem_nil, or_false] at hi
            rcases hi with rfl | rfl
            · exact h1.block _ hadW (fun e => by omega)
            · exact h1.block _ hbdW (fun e => by omega)
          clear h1 hpd hrd hp hr
          go_wp2_with fail
          refine wp_region_text [(3, 1), (2, 1)] (by kernel_rfl) (by kernel_rfl) ?_
          simp only [instr, chk, look, Nat.reduceBEq, if_true, if_false, Nat.reduceEqDiff, List.cons_append, List.nil_append]
          go_wp2_with fail
          refine OnlyN.normal ?_
          go_wp2_with fail
          refine wp_region_text [(3, 1), (2, 1)] (by kernel_rfl) (by kernel_rfl) ?_
          simp only [instr, chk, look, Nat.reduceBEq, if_true, if_false, Nat.reduceEqDiff, List.cons_append, List.nil_append]
          go_wp2_with fail
          refine OnlyN.normal ?_
          have ho1 : OE elPt (wr.drew.drew.drew.alloc (.cells #[.int .i64 p.1, .int .u64 ((max p.2 r.2 : Nat) : Int)] 82)) w.heap.size 82 D s e out := (ho.drewN 3).grew ((Chg.refl _ _).alloc _)
          have hg1 : Grew w (wr.drew.drew.drew.alloc (.cells #[.int .i64 p.1, .int .u64 ((max p.2 r.2 : Nat) : Int)] 82)) := hg.drew.drew.drew.alloc _
          have hsrc : RE elPt (wr.drew.drew.drew.alloc (.cells #[.int .i64 p.1, .int .u64 ((max p.2 r.2 : Nat) : Int)] 82)) (some ⟨wr.heap.size, 0, none⟩) 1 [(p.1, max p.2 r.2)] := RE.newAt rfl rfl rfl
          go_wp2_with fail
          refine wp_region_textS [(3, 1)] [ad.block, bd.block] (by kernel_rfl) (by kernel_rfl) hcs ?_
          simp only [wpU, tagOf, chk, List.nil_append, List.cons_append]
          intro K hK
          go_wp2_with fail
          refine OnlyN.normal (hK _ _ (fun _ => ⟨_, _, _, rfl, rfl, by simp [block_add]⟩) ?_)
          clear hK K
          intro K hK
          go_wp2_with fail
          refine OnlyN.normal (hK _ _ (fun _ => ⟨_, _, _, rfl, rfl, by simp [block_add]⟩) ?_)
          clear hK K
          intro K hK
          go_wp2_with fail
          refine OnlyN.normal (hK _ _ (fun _ => ⟨_, _, _, rfl, rfl, by simp [block_add]⟩) ?_)
          clear hK K
          intro K hK
          go_wp2_with fail
          refine OnlyN.normal (hK _ _ (hs2.out _ (Chg.refl _ wr).drew.drew.drew) ?_)
          clear hK K
          intro K hK
          go_wp2_with fail
          refine OnlyN.normal (hK _ _ (hs2.out _ ((Chg.refl _ wr).drew.drew.drew.alloc _)) ?_)
          clear hK K
          intro K hK
          go_wp2_with (at_builtin; refine wpList_appE rfl _ _ 83 82 infoPt rfl Tryz.underlying83 rfl w.heap.size D s e out rfl ho1 (by simp; omega) _ 1 1 [(p.1, max p.2 r.2)] rfl hsrc (by unfold maxLen; omega) (by omega) ?_; intro D2 e2 w2 h2)
          refine OnlyN.normal (hK _ _ (hs2.out _ (((Chg.refl _ wr).drew.drew.drew.alloc _).trans (h2.chg.mono fun x _ ⟨ad2, e5, e6⟩ => by rw [e6]; exact hA.out ad2 e5))) ?_)
          clear hK K
          go_wp2_with fail
          refine OnlyN.normal ?_
          go_wp2
          go_roundw
          case rel => exact ⟨k + 1, q + 1, s + 1, e2, D2, out ++ [(p.1, max p.2 r.2)], rfl, by go_num, by go_num, by omega, by omega, by omega, hv, h2.oe, h2.grew hg1 hA.out⟩
          case measure => simp [intOf] <;> omega
        · rw [ptsM_gt h1, ← hpd] at hv
          replace hv := Lib.hid (push_l hv)
          have e3 : decide (p.1 < r.1) = false := decide_eq_false (by omega)
          have e4 : decide (r.1 < p.1) = true := decide_eq_true h1
          clear h1 hpd hrd hp hr
          go_wp2_with fail
          refine wp_region_text [(3, 1), (2, 1)] (by kernel_rfl) (by kernel_rfl) ?_
          simp only [instr, chk, look, Nat.reduceBEq, if_true, if_false, Nat.reduceEqDiff, List.cons_append, List.nil_append]
          go_wp2_with fail
          refine OnlyN.normal ?_
          go_wp2_with fail
          refine wp_region_text [(3, 1), (2, 1)] (by kernel_rfl) (by kernel_rfl) ?_
          simp only [instr, chk, look, Nat.reduceBEq, if_true, if_false, Nat.reduceEqDiff, List.cons_append, List.nil_append]
          go_wp2_with fail
          refine OnlyN.normal ?_
          have ho1 : OE elPt (wr.drew.drew.alloc (.cells #[.int .i64 r.1, .int .u64 (r.2 : Int)] 82)) w.heap.size 82 D s e out := (ho.drewN 2).grew ((Chg.refl _ _).alloc _)
          have hg1 : Grew w (wr.drew.drew.alloc (.cells #[.int .i64 r.1, .int .u64 (r.2 : Int)] 82)) := hg.drew.drew.alloc _
          have hsrc : RE elPt (wr.drew.drew.alloc (.cells #[.int .i64 r.1, .int .u64 (r.2 : Int)] 82)) (some ⟨wr.heap.size, 0, none⟩) 1 [r] := RE.newAt rfl rfl rfl
          go_wp2_with (at_builtin; refine wpList_appE rfl _ _ 83 82 infoPt rfl Tryz.underlying83 rfl w.heap.size D s e out rfl ho1 (by simp; omega) _ 1 1 [r] rfl hsrc (by unfold maxLen; omega) (by omega) ?_; intro D2 e2 w2 h2)
          go_roundw
          case rel => exact ⟨k, q + 1, s + 1, e2, D2, out ++ [r], rfl, rfl, by go_num, by omega, by omega, by omega, hv, h2.oe, h2.grew hg1 hA.out⟩
          case measure => simp [intOf] <;> omega
      · obtain rfl : q = m := by omega
        have eq2 : ((q : Int) == (q : Int)) = true := by simp
        have hv := hv.out
        rw [List.drop_of_length_le (l := qs) (by have := hlm.out; omega), ptsM_r, hpd] at hv
        have hv2 : out ++ p :: ptsM (ps.drop (k + 1)) (qs.drop q) = l := by
          rw [List.drop_of_length_le (l := qs) (by have := hlm.out; omega), ptsM_r]
          exact hv
        replace hv := Lib.hid (push_l hv2)
        clear hv2 hpd hp
        go_wp2_with fail
        refine wp_region_text [(3, 1), (2, 1)] (by kernel_rfl) (by kernel_rfl) ?_
        simp only [instr, chk, look, Nat.reduceBEq, if_true, if_false, Nat.reduceEqDiff, List.cons_append, List.nil_append]
        go_wp2_with fail
        all_goals try exact (absP (by assumption)).elim
        refine OnlyN.normal ?_
        have ho1 : OE elPt (wr.drew.alloc (.cells #[.int .i64 p.1, .int .u64 (p.2 : Int)] 82)) w.heap.size 82 D s e out := (ho.drewN 1).grew ((Chg.refl _ _).alloc _)
        have hg1 : Grew w (wr.drew.alloc (.cells #[.int .i64 p.1, .int .u64 (p.2 : Int)] 82)) := hg.drew.alloc _
        have hsrc : RE elPt (wr.drew.alloc (.cells #[.int .i64 p.1, .int .u64 (p.2 : Int)] 82)) (some ⟨wr.heap.size, 0, none⟩) 1 [p] := RE.newAt rfl rfl rfl
        go_wp2_with (at_builtin; refine wpList_appE rfl _ _ 83 82 infoPt rfl Tryz.underlying83 rfl w.heap.size D s e out rfl ho1 (by simp; omega) _ 1 1 [p] rfl hsrc (by unfold maxLen; omega) (by omega) ?_; intro D2 e2 w2 h2)
        go_roundw
        case rel => exact ⟨k + 1, q, s + 1, e2, D2, out ++ [p], rfl, by go_num, rfl, by omega, by omega, by omega, hv, h2.oe, h2.grew hg1 hA.out⟩
        case measure => simp [intOf] <;> omega
    · obtain rfl : k = n := by omega
      have ek : decide ((k : Int) < (k : Int)) = false := decide_eq_false (by omega)
      have ek2 : ((k : Int) == (k : Int)) = true := by simp
      by_cases hqm : q < m
      · obtain ⟨bd, r, rfl, hr, r0, r1⟩ := (hb.grew hg).pt hqm
        have hrd := udrop_at hr
        have eq2 : ((q : Int) == (m : Int)) = false := by simp; omega
        have hv := hv.out
        rw [List.drop_of_length_le (l := ps) (by have := hln.out; omega), ptsM_l, hrd] at hv
        have hv2 : out ++ r :: ptsM (ps.drop k) (qs.drop (q + 1)) = l := by
          rw [List.drop_of_length_le (l := ps) (by have := hln.out; omega), ptsM_l]
          exact hv
        replace hv := Lib.hid (push_l hv2)
        clear hv2 hrd hr
        go_wp2_with fail
        refine wp_region_text [(3, 1), (2, 1)] (by kernel_rfl) (by kernel_rfl) ?_
        simp only [instr, chk, look, Nat.reduceBEq, if_true, if_false, Nat.reduceEqDiff, List.cons_append, List.nil_append]
        go_wp2_with fail
        refine OnlyN.normal ?_
        go_wp2_with fail
        refine wp_region_text [(3, 1), (2, 1)] (by kernel_rfl) (by kernel_rfl) ?_
        simp only [instr, chk, look, Nat.reduceBEq, if_true, if_false, Nat.reduceEqDiff, List.cons_append, List.nil_append]
        go_wp2_with fail
        refine OnlyN.normal ?_
        have ho1 : OE elPt (wr.drew.drew.alloc (.cells #[.int .i64 r.1, .int .u64 (r.2 : Int)] 82)) w.heap.size 82 D s e out := (ho.drewN 2).grew ((Chg.refl _ _).alloc _)
        have hg1 : Grew w (wr.drew.drew.alloc (.cells #[.int .i64 r.1, .int .u64 (r.2 : Int)] 82)) := hg.drew.drew.alloc _
        have hsrc : RE elPt (wr.drew.drew.alloc (.cells #[.int .i64 r.1, .int .u64 (r.2 : Int)] 82)) (some ⟨wr.heap.size, 0, none⟩) 1 [r] := RE.newAt rfl rfl rfl
        go_wp2_with (at_builtin; refine wpList_appE rfl _ _ 83 82 infoPt rfl Tryz.underlying83 rfl w.heap.size D s e out rfl ho1 (by simp; omega) _ 1 1 [r] rfl hsrc (by unfold maxLen; omega) (by omega) ?_; intro D2 e2 w2 h2)
        go_roundw
        case rel => exact ⟨k, q + 1, s + 1, e2, D2, out ++ [r], rfl, rfl, by go_num, by omega, by omega, by omega, hv, h2.oe, h2.grew hg1 hA.out⟩
        case measure => simp [intOf] <;> omega
      · obtain rfl : q = m := by omega
        have hv := hv.out
        rw [List.drop_of_length_le (l := ps) (by have := hln.out; omega), ptsM_l, List.drop_of_length_le (l := qs) (by have := hlm.out; omega), List.append_nil] at hv
        replace hv := Lib.hid hv
        have hlen : Hid (out.length = s) := lenN ho
        go_wp2
        go_ret
        exact ⟨D, e, by rw [← hv.out, hlen.out]; simp, by rw [← hv.out, hlen.out]; exact ho, hg⟩
end Go.Proofs.YtlcaaacbookopaaGreatDoor
