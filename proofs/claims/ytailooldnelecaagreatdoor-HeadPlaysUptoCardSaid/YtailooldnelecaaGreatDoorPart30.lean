/-
  Several texts in one:
  The law's awake: a head with one series, call by call. Conditions: the longest text that the library takes is as it is set.
  The law HeadCuts, walked. Conditions: the longest text that the library takes is as it is set.
  The document's order of labels. Conditions: none.
  Select with matchers; the law HeadSelects, walked. Conditions: texts that memory bears; the longest text that the library takes is as it is set.
  Arguments that came in, opened: bytes, with the form's own reach. Conditions: none; no program in sight.
  The bound of the second form, opened: bytes that came in are no longer than their bulk. Conditions: none; no program in sight.
-/
import Derived.Test.YtailooldnelecaaGreatDoorPart29
import Derived.Test.YtailooldnelecaaGreatDoorPart15
import Derived.OpenShut
import Derived.Test.YtailooldnelecaaGreatDoorPart11
import Derived.Test.YtailooldnelecaaGreatDoorPart1
import Derived.ProofKit
import Derived.ShutString
import Derived.ChangeOld
import Derived.SizedLaws
import Derived.Deep.Slices
import Derived.Deep.Fields
import Derived.Test.YtailooldnelecaaGreatDoorRows

namespace Go.Proofs.YtailooldnelecaaGreatDoor
open Go.RowKit

def lbX : List Lab := [(⟨#[97]⟩, ⟨#[120]⟩)]
def lbY : List Lab := [(⟨#[97]⟩, ⟨#[121]⟩)]
def sX : Ser := ⟨lbX, [(5, 1)]⟩
theorem aw_f1 : fateS 1 [] lbX 5 1 = 1 := by kernel_rfl
theorem aw_a1 : addT 1 [] lbX 5 1 = [sX] := by kernel_rfl
theorem aw_f2 : fateS 1 [sX] lbX 5 2 = 4 := by kernel_rfl
theorem aw_f3 : fateS 1 [sX] lbY 9 1 = 5 := by kernel_rfl
theorem aw_a3 : addT 1 [sX] lbY 9 1 = [sX] := by kernel_rfl
theorem aw_sp : spanS [sX] = (5, 5, true) := by kernel_rfl
theorem aw_cut : selS (-1099511627776) (6 - 1) [sX] = [sX] := by kernel_rfl
theorem aw_left : selS 6 1099511627776 [sX] = [] := by kernel_rfl
theorem aw_sel : selS 0 9 ([] : List Ser) = [] := rfl
/-- one series as a literal lays it -/
theorem rs_lit {w : World} {A P : Option Addr} {n c m d : Nat} {s : Ser} (hl : RE elLb w A n s.lbs) (hp : RE elPt w P m s.pts) (hc : n ≤ c ∧ c ≤ 9223372036854775807) (hd : m ≤ d ∧ d ≤ 9223372036854775807) {B : Option Addr} (hr : RE elSr w B 1 [⟨A, n, c, P, m, d⟩]) : RS w B 1 [s] :=
  ⟨[⟨A, n, c, P, m, d⟩], hr, rfl, fun i mm s' hm hs => by
    cases i with
    | zero =>
      obtain rfl := Option.some.inj hm
      obtain rfl := Option.some.inj hs
      exact ⟨hl, hp, hc, hd⟩
    | succ i => simp at hm⟩
theorem Chg.new {S : Nat → Prop} {w0 w w' : World} (h : Grew w0 w) (hc : Chg S w w') (hs : ∀ k, S k → w0.heap.size ≤ k) : Grew w0 w' := Chg.step h hc fun k hk e => by
  have := hs k e
  omega

set_option maxRecDepth 100000 in
set_option maxHeartbeats 8000000 in
theorem awake8_any (w : World) (hm : MaxL w) : Calls Tryz.prog 9 #[] w fun e w' => e = .returned (.bool true) ∧ Grew w w' := by
  have hN := new_hd 1 w (by decide)
  go_enter Tryz.func9, Tryz.ntmps9
  go_wp2_with fail
  refine hN.mono ?_
  rintro e w1 ⟨h, S1, rfl, hD1, g1, hs1⟩
  rw [show (min (max 1 0) 1024 : Int).toNat = 1 from rfl] at hD1
  clear hN
  obtain ⟨W, hW⟩ : ∃ W, W = w1.alloc (.cells #[.string ⟨#[97]⟩, .string ⟨#[120]⟩] 72) := ⟨_, rfl⟩
  have gW : Grew w1 W := by rw [hW]; exact (Chg.refl _ w1).alloc _
  have hl : RE elLb W (some ⟨w1.heap.size, 0, none⟩) 1 lbX := by rw [hW]; exact RE.newAt rfl rfl rfl
  have hsW : W.heap.size = w1.heap.size + 1 := by rw [hW]; simp
  generalize hb : w1.heap.size = lb at *
  go_wp2_with fail
  rw [← hW]
  clear hW
  have hA1 := add_hd (some ⟨lb, 0, none⟩) 1 1 lbX 5 1 (hD1.grew gW) hl (by decide)
  rw [aw_f1, aw_a1] at hA1
  refine hA1.mono ?_
  rintro e w2 ⟨rfl, S2, hD2, hs12, hs21, hc2⟩
  have hs2 : ∀ k, S2 k → w.heap.size ≤ k := fun k hk => by
    have := g1.size
    rcases hs21 k hk with h | h
    · exact hs1 k h
    · omega
  have g2 : Grew w w2 := Chg.new (g1.trans gW) hc2 hs1
  have hlb2 : RE elLb w2 (some ⟨lb, 0, none⟩) 1 lbX := hl.chg hc2 fun ad e1 e2 => by
    injection e1 with e1
    subst e1
    have := hD1.lt _ e2
    dsimp only at this
    omega
  have hlS2 : ¬ S2 lb := fun hk => by
    rcases hs21 lb hk with h | h
    · have := hD1.lt _ h
      omega
    · omega
  have hlt2 : lb < w2.heap.size := by have := hc2.size; omega
  clear hA1 hl gW hc2 hD1 hs12 hs21
  go_wp2_with fail
  have hF := fate_hd (some ⟨lb, 0, none⟩) 1 1 lbX 5 2 hD2 hlb2 (by decide)
  rw [aw_f2] at hF
  refine hF.mono ?_
  rintro e w3 ⟨rfl, g3⟩
  have hD3 := hD2.grew g3
  have hlb3 := hlb2.grew g3
  have g03 := g2.trans g3
  clear hF hD2 hlb2
  obtain ⟨W, hW⟩ : ∃ W, W = w3.alloc (.cells #[.string ⟨#[97]⟩, .string ⟨#[121]⟩] 72) := ⟨_, rfl⟩
  have gW : Grew w3 W := by rw [hW]; exact (Chg.refl _ w3).alloc _
  have hl : RE elLb W (some ⟨w3.heap.size, 0, none⟩) 1 lbY := by rw [hW]; exact RE.newAt rfl rfl rfl
  go_wp2_with fail
  rw [← hW]
  clear hW
  have hA2 := add_hd (some ⟨w3.heap.size, 0, none⟩) 1 1 lbY 9 1 (hD3.grew gW) hl (by decide)
  rw [aw_f3, aw_a3] at hA2
  refine hA2.mono ?_
  rintro e w4 ⟨rfl, S4, hD4, hs24, hs42, hc4⟩
  have hlS4 : ¬ S4 lb := fun hk => by
    have := g3.size
    have := gW.size
    rcases hs42 lb hk with h | h
    · exact hlS2 h
    · omega
  have hs4 : ∀ k, S4 k → w.heap.size ≤ k := fun k hk => by
    have := g03.size
    have := gW.size
    rcases hs42 k hk with h | h
    · exact hs2 k h
    · omega
  have g4 : Grew w w4 := Chg.new (g03.trans gW) hc4 hs2
  have hlb4 : RE elLb w4 (some ⟨lb, 0, none⟩) 1 lbX := (hlb3.grew gW).chg hc4 fun ad e1 e2 => by
    injection e1 with e1
    subst e1
    exact hlS2 e2
  clear hA2 hl gW hc4 hD3 hs24 hlb3
  go_wp2_with fail
  refine (span_hd hD4).mono ?_
  rintro e w5 ⟨tt, hp, rfl, g5⟩
  obtain rfl : tt = [sX] := List.perm_singleton.1 hp
  rw [aw_sp]
  have hD5 := hD4.grew g5
  have hlb5 := hlb4.grew g5
  have g05 := g4.trans g5
  clear hD4 hlb4 hp
  go_wp2_with fail
  refine (count_hd hD5).mono ?_
  rintro e w6 ⟨rfl, g6⟩
  rw [show tot [sX] = 1 from rfl, show ([sX] : List Ser).length = 1 from rfl]
  have hD6 := hD5.grew g6
  have hlb6 := hlb5.grew g6
  have g06 := g05.trans g6
  clear hD5 hlb5
  go_wp2_with fail
  have hC := cut_hd 6 hD6 (hm.grew g06)
  rw [aw_cut, aw_left, srtS_one] at hC
  refine hC.mono ?_
  rintro e w7 ⟨B, d, rfl, hNS, hc7, hD7⟩
  have g7 : Grew w w7 := Chg.new g06 hc7 hs4
  have hlb7 : RE elLb w7 (some ⟨lb, 0, none⟩) 1 lbX := hlb6.chg hc7 fun ad e1 e2 => by
    injection e1 with e1
    subst e1
    exact hlS4 e2
  have hcB := hNS.cap
  clear hC hc7 hD6 hlb6
  rw [show ([sX] : List Ser).length = 1 from rfl] at *
  obtain ⟨x1, hx1, gx1, z1, r1⟩ : ∃ W, W = w7.alloc (.cells #[.int .i64 5, .int .u64 1] 69) ∧ Grew w7 W ∧ W.heap.size = w7.heap.size + 1 ∧ RE elPt W (some ⟨w7.heap.size, 0, none⟩) 1 [(5, 1)] := ⟨_, rfl, (Chg.refl _ w7).alloc _, by simp, RE.newAt rfl rfl rfl⟩
  obtain ⟨x2, hx2, gx2, z2, r2⟩ : ∃ W, W = x1.alloc (.cells #[.slice (some ⟨lb, 0, none⟩) 1 1, .slice (some ⟨w7.heap.size, 0, none⟩) 1 1] 61) ∧ Grew x1 W ∧ W.heap.size = x1.heap.size + 1 ∧ RE elSr W (some ⟨w7.heap.size + 1, 0, none⟩) 1 [⟨some ⟨lb, 0, none⟩, 1, 1, some ⟨w7.heap.size, 0, none⟩, 1, 1⟩] := ⟨_, rfl, (Chg.refl _ x1).alloc _, by simp, RE.newAt (by rw [z1]) rfl rfl⟩
  have hRx : RS x2 (some ⟨w7.heap.size + 1, 0, none⟩) 1 [sX] := rs_lit (hlb7.grew (gx1.trans gx2)) (r1.grew gx2) (by decide) (by decide) r2
  have hRB := (hNS.grew (gx1.trans gx2)).rs
  have hDx := hD7.grew (gx1.trans gx2)
  have g72 := gx1.trans gx2
  have hE := sameS_any B (some ⟨w7.heap.size + 1, 0, none⟩) 1 1 d 1 [sX] [sX] x2 hRB hRx (by decide) (by decide)
  rw [eqB_true rfl] at hE
  rw [hx1] at hx2
  clear hx1 gx1 gx2 r1 r2 z1 z2 hNS hlb7 hD7
  go_wp2_with fail
  rw [← hx2]
  clear hx2
  refine hE.mono ?_
  rintro e w8 ⟨rfl, g8⟩
  have hD8 := hDx.grew g8
  have g78 := g7.trans (g72.trans g8)
  clear hE hDx hRx hRB
  have hS := sel_hd 0 9 hD8 (hm.grew g78)
  rw [aw_sel, srtS_nil] at hS
  go_wp2_with fail
  refine hS.mono ?_
  rintro e w9 ⟨B2, d2, rfl, _, g9⟩
  go_wp2
  go_ret
  exact ⟨by simp, g78.trans g9⟩
end Go.Proofs.YtailooldnelecaaGreatDoor

namespace Go.Proofs.YtailooldnelecaaGreatDoor
open Go.RowKit

theorem tot_parts (t : Int) : ∀ ss : List Ser, tot (ss.filterMap (cutOff t)) + tot (ss.filterMap (cutLeft t)) = tot ss
  | [] => rfl
  | s :: r => by
    have ih := tot_parts t r
    have h1 := cutN_le t s.pts
    rw [List.filterMap_cons, List.filterMap_cons, tot_cons1]
    have h2 : cutOff t s = if cutN t s.pts = 0 then none else some ⟨s.lbs, s.pts.take (cutN t s.pts)⟩ := rfl
    have h3 : cutLeft t s = if cutN t s.pts = s.pts.length then none else some ⟨s.lbs, s.pts.drop (cutN t s.pts)⟩ := rfl
    rw [h2, h3]
    by_cases h4 : cutN t s.pts = 0
    · by_cases h5 : cutN t s.pts = s.pts.length
      · rw [if_pos h4, if_pos h5]
        simp only
        omega
      · rw [if_pos h4, if_neg h5]
        simp only [tot_cons1, List.length_drop]
        omega
    · by_cases h5 : cutN t s.pts = s.pts.length
      · rw [if_neg h4, if_pos h5]
        simp only [tot_cons1, List.length_take]
        omega
      · rw [if_neg h4, if_neg h5]
        simp only [tot_cons1, List.length_take, List.length_drop]
        omega
theorem tot_srt (ss : List Ser) : tot (srtS ss) = tot ss := tot_perm1 (srtS_perm ss)
theorem sel_sel_none (a b c d : Int) (h : c < b) (ss : List Ser) : selS a c (selS b d ss) = [] := fm_none fun s' hs' => by
  obtain ⟨s, _, h1⟩ := List.mem_filterMap.1 hs'
  refine selF_none fun p hp => ?_
  split at h1
  · cases h1
  · injection h1 with h1
    subst h1
    have := (List.mem_filter.1 hp).2
    unfold inR at this
    simp only [Bool.and_eq_true, decide_eq_true_eq] at this
    omega
/-- what the selects about a cut tell -/
structure CutF (t : Int) (ss all cut left : List Ser) : Prop where
  all : all = srtS ss
  cut : cut = srtS (selS (-1099511627776) (t - 1) ss)
  left : left = srtS (selS t 1099511627776 ss)
theorem CutF.sum {lim : Nat} {t : Int} {ss all cut left : List Ser} (h : CutF t ss all cut left) (hv : HV lim ss) : tot cut + tot left = tot all := by
  rw [h.all, h.cut, h.left, tot_srt, tot_srt, tot_srt, ← hv.cutOff, ← hv.cutLeft, tot_parts]
theorem CutF.early {lim : Nat} {t : Int} {ss all cut left : List Ser} (h : CutF t ss all cut left) (hv : HV lim ss) (ht : t ≤ -1099511627776) : cut = [] ∧ left = all := by
  rw [h.all, h.cut, h.left, hv.sel_none (.inl (by omega)), hv.sel_all ht (by omega)]
  exact ⟨srtS_nil, rfl⟩

end Go.Proofs.YtailooldnelecaaGreatDoor

namespace Go.Proofs.YtailooldnelecaaGreatDoor
open Go.RowKit

theorem lessT (a b : ByteArray) : Op.bytesLess a.toList b.toList = decide (a.data.toList < b.data.toList) := by
  rw [ByteArray.toList_eq, ByteArray.toList_eq, less_eq]
set_option maxHeartbeats 1000000 in
theorem order3_any (a b : ByteArray) (w : World) : Calls Tryz.prog 66 #[.string a, .string b] w fun e w' => e = .returned (.int .i64 (cmpB a b)) ∧ w = w' := by
  have e1 := lessT a b
  have e2 := lessT b a
  unfold cmpB
  by_cases h1 : a.data.toList < b.data.toList
  · rw [if_pos h1]
    rw [decide_eq_true h1] at e1
    clear h1 e2
    go_enter Tryz.func66, Tryz.ntmps66
    go_wp2
    go_ret
    exact ⟨by simp, rfl⟩
  · rw [if_neg h1]
    rw [decide_eq_false h1] at e1
    by_cases h2 : b.data.toList < a.data.toList
    · have hne : ¬ a.data.toList = b.data.toList := fun e => by rw [e] at h2; exact List.lt_irrefl _ h2
      rw [if_neg hne]
      have e3 : (a.toList == b.toList) = false := by
        rw [ByteArray.toList_eq, ByteArray.toList_eq]
        simpa using hne
      clear h1 h2 hne e2
      go_enter Tryz.func66, Tryz.ntmps66
      go_wp2
      go_ret
      exact ⟨by simp, rfl⟩
    · have he : a.data.toList = b.data.toList := List.le_antisymm (List.not_lt.1 h2) (List.not_lt.1 h1)
      rw [if_pos he]
      have e3 : (a.toList == b.toList) = true := by
        rw [ByteArray.toList_eq, ByteArray.toList_eq, he]
        simp
      clear h1 h2 he e2
      go_enter Tryz.func66, Tryz.ntmps66
      go_wp2
      go_ret
      exact ⟨by simp, rfl⟩

/-- by the first, then by the second, then by the rest -/
structure TwoC (z1 z2 r e : Int) : Prop where
  a : z1 ≠ 0 → e = z1
  b : z1 = 0 → z2 ≠ 0 → e = z2
  c : z1 = 0 → z2 = 0 → e = r
theorem twoC {z1 z2 r e : Int} (h : e = if (if z1 ≠ 0 then z1 else z2) ≠ 0 then (if z1 ≠ 0 then z1 else z2) else r) : TwoC z1 z2 r e := by
  refine ⟨fun h1 => ?_, fun h1 h2 => ?_, fun h1 h2 => ?_⟩
  · rw [if_pos h1, if_pos h1] at h
    exact h
  · subst h1
    simp [h2] at h
    exact h
  · subst h1 h2
    simpa using h
set_option maxRecDepth 100000 in
set_option maxHeartbeats 4000000 in
theorem compare3_any (A B : Option Addr) (n c m d : Nat) (la lb : List Lab) (w : World) (ha : RE elLb w A n la) (hb : RE elLb w B m lb) (hn : n ≤ 9223372036854775807) (hm : m ≤ 9223372036854775807) :
    Calls Tryz.prog 50 #[.slice A n c, .slice B m d] w fun e w' => e = .returned (.int .i64 (cmpLs la lb)) ∧ Grew w w' := by
  have hal := ha.1
  have hbl := hb.1
  replace hal := Lib.hid hal
  replace hbl := Lib.hid hbl
  go_enter Tryz.func50, Tryz.ntmps50
  go_wp2
  go_loopw [5] (fun i wr => ∃ k : Nat, k ≤ n ∧ k ≤ m ∧ i = .int .i64 (k : Int) ∧ Hid (cmpLs la lb = cmpLs (la.drop k) (lb.drop k)) ∧ Grew w wr) (fun i _ => n - (intOf i).toNat)
  case atStart => exact ⟨0, by omega, by omega, rfl, rfl, Chg.refl _ _⟩
  case round =>
    obtain ⟨k, hk, hkm, rfl, hc, hg⟩ := hrel
    by_cases hlt : k < n
    · by_cases hltm : k < m
      · obtain ⟨ad, x, rfl, hx, x0, x1⟩ := (ha.grew hg).lb hlt
        have hxd : la.drop k = x :: la.drop (k + 1) := by
          obtain ⟨h1, h2⟩ := List.getElem?_eq_some_iff.1 hx
          rw [List.drop_eq_getElem_cons h1, h2]
        obtain ⟨bd, y, rfl, hy, y0, y1⟩ := (hb.grew hg).lb hltm
        have hyd : lb.drop k = y :: lb.drop (k + 1) := by
          obtain ⟨h1, h2⟩ := List.getElem?_eq_some_iff.1 hy
          rw [List.drop_eq_getElem_cons h1, h2]
        have hc0 : cmpLs la lb = if (if cmpB x.1 y.1 ≠ 0 then cmpB x.1 y.1 else cmpB x.2 y.2) ≠ 0 then (if cmpB x.1 y.1 ≠ 0 then cmpB x.1 y.1 else cmpB x.2 y.2) else cmpLs (la.drop (k + 1)) (lb.drop (k + 1)) := by
          have := hc.out
          rw [hxd, hyd] at this
          rw [this]
          rfl
        have HT : TwoC (cmpB x.1 y.1) (cmpB x.2 y.2) (cmpLs (la.drop (k + 1)) (lb.drop (k + 1))) (cmpLs la lb) := twoC hc0
        clear hc0
        have hO1 := fun w => order3_any x.1 y.1 w
        have hO2 := fun w => order3_any x.2 y.2 w
        have hcs : CellsIn [ad.block, bd.block] wr := by
          have h1 := ex_cell x0
          have h2 := ex_cell y0
          rw [block_add] at h1 h2
          exact cellsIn_cons h1 (cellsIn_cons h2 (cellsIn_nil _))
        have hsame : Hid (∀ W1, Grew wr W1 → SameIn [ad.block, bd.block] wr W1) := fun W1 h1 => sameIn_of h1 hcs fun _ _ e => e
        generalize cmpB x.1 y.1 = z1 at *
        generalize cmpB x.2 y.2 = z2 at *
        replace hO1 := Lib.hid hO1
        replace hO2 := Lib.hid hO2
        clear hxd hyd hc hx hy
        go_wp2
        refine wp_region_textS [(3, 1)] [ad.block, bd.block] (by kernel_rfl) (by kernel_rfl) hcs ?_
        simp only [wpU, tagOf, chk, List.nil_append, List.cons_append]
        intro K hK
        go_wp2_with fail
        refine OnlyN.normal (hK _ _ (fun _ => ⟨_, _, _, rfl, rfl, by simp [block_add]⟩) ?_)
        clear hK K
        intro K hK
        go_wp2_with fail
        refine OnlyN.normal (hK _ _ (fun _ => ⟨_, _, _, rfl, rfl, by simp [block_add]⟩) ?_)
        clear hK K
        intro K hK
        go_wp2_with fail
        refine (hO1.out _).mono ?_
        rintro e w1 ⟨rfl, rfl⟩
        go_wp2_with fail
        refine OnlyN.normal (hK _ _ (hsame.out _ (Chg.refl _ wr).drew) ?_)
        clear hK K
        go_wp2_with fail
        refine OnlyN.normal ?_
        by_cases hz1 : z1 = 0
        · subst hz1
          have hs2 : Hid (∀ W1, Grew wr.drew W1 → SameIn [ad.block, bd.block] wr.drew W1) := fun W1 h1 => sameIn_of h1 (fun k hk => hcs k hk) fun _ _ e => e
          go_wp2
          refine wp_region_textS [(3, 1)] [ad.block, bd.block] (by kernel_rfl) (by kernel_rfl) (fun k hk => hcs k hk) ?_
          simp only [wpU, tagOf, chk, List.nil_append, List.cons_append]
          intro K hK
          go_wp2_with fail
          refine OnlyN.normal (hK _ _ (fun _ => ⟨_, _, _, rfl, rfl, by simp [block_add]⟩) ?_)
          clear hK K
          intro K hK
          go_wp2_with fail
          refine OnlyN.normal (hK _ _ (fun _ => ⟨_, _, _, rfl, rfl, by simp [block_add]⟩) ?_)
          clear hK K
          intro K hK
          go_wp2_with fail
          refine (hO2.out _).mono ?_
          rintro e w1 ⟨rfl, rfl⟩
          go_wp2_with fail
          refine OnlyN.normal (hK _ _ (hs2.out _ (Chg.refl _ wr.drew).drew) ?_)
          clear hK K
          go_wp2_with fail
          refine OnlyN.normal ?_
          have hgg : Grew w wr.drew.drew := hg.drew.drew
          clear hs2 hsame hcs x0 x1 y0 y1 hO1 hO2
          by_cases hz2 : z2 = 0
          · subst hz2
            have hc' : Hid (cmpLs la lb = cmpLs (la.drop (k + 1)) (lb.drop (k + 1))) := HT.c rfl rfl
            go_wp2
            go_roundw
            case rel => exact ⟨k + 1, by omega, by omega, by go_num, hc', hgg⟩
            case measure => simp [intOf]; omega
          · have e1 : (z2 != 0) = true := by simpa using hz2
            have hc' := Lib.hid (HT.b rfl hz2)
            go_wp2
            go_ret
            exact ⟨by rw [hc'.out]; simp, hgg⟩
        · have e1 : (z1 != 0) = true := by simpa using hz1
          have hc' := Lib.hid (HT.a hz1)
          go_wp2
          go_ret
          exact ⟨by rw [hc'.out]; simp, hg.drew⟩
      · have hyd : lb.drop k = [] := List.drop_of_length_le (by have := hbl.out; omega)
        have hc' : Hid (cmpLs la lb = 1) := by
          have := hc.out
          rw [hyd] at this
          cases hxd : la.drop k with
          | nil =>
            have := congrArg List.length hxd
            rw [List.length_drop] at this
            simp at this
            have := hal.out
            omega
          | cons y r => rw [hxd] at this; exact this
        have e2 : decide (n < m) = false := decide_eq_false (by omega)
        have e3 : decide (m < n) = true := decide_eq_true (by omega)
        clear hyd hc
        go_wp2
        go_ret
        exact ⟨by rw [hc'.out]; simp, hg⟩
    · obtain rfl : k = n := by omega
      have hxd : la.drop k = [] := List.drop_of_length_le (by have := hal.out; omega)
      by_cases hltm : k < m
      · have hc' : Hid (cmpLs la lb = -1) := by
          have := hc.out
          rw [hxd] at this
          cases hyd : lb.drop k with
          | nil =>
            have := congrArg List.length hyd
            rw [List.length_drop] at this
            simp at this
            have := hbl.out
            omega
          | cons y r => rw [hyd] at this; exact this
        clear hxd hc
        go_wp2
        go_ret
        exact ⟨by rw [hc'.out]; simp, hg⟩
      · obtain rfl : k = m := by omega
        have hc' : Hid (cmpLs la lb = 0) := by
          have := hc.out
          rw [hxd, List.drop_of_length_le (by have := hbl.out; omega)] at this
          exact this
        clear hxd hc
        go_wp2
        go_ret
        exact ⟨by rw [hc'.out]; simp, hg⟩

end Go.Proofs.YtailooldnelecaaGreatDoor

namespace Go.Proofs.YtailooldnelecaaGreatDoor
open Go.RowKit

def pickH (ms : List Mat) (ss : List Ser) : List Ser := ss.filter fun s => saysB ms s.lbs
theorem HV.pick {lim : Nat} {ss : List Ser} (h : HV lim ss) (ms : List Mat) : HV lim (pickH ms ss) :=
  ⟨fun s hs => h.chk s (List.mem_filter.1 hs).1, fun s hs => h.ris s (List.mem_filter.1 hs).1, fun s hs => h.non s (List.mem_filter.1 hs).1, fun s hs => h.bnd s (List.mem_filter.1 hs).1, h.dis.filter _, Nat.le_trans (List.length_filter_le _ _) h.len⟩
theorem HV.pts_len {lim : Nat} {ss : List Ser} (h : HV lim ss) {s : Ser} (hs : s ∈ ss) : s.pts.length ≤ 2199023255553 := by
  rcases rise_len (h.ris s hs) (h.bnd s hs) with h1 | h1
  · omega
  · exact absurd h1 (h.non s hs)
/-- matchers of a size -/
def MatOk (ms : List Mat) : Prop := ∀ x ∈ ms, x.2.1.size ≤ 1048576 ∧ x.2.2.size ≤ 1048576
theorem narrow_any {S : Nat → Prop} {h b p cb cp lim : Nat} {L : List HEnt} {PL : List PEnt} (A : Option Addr) (n c : Nat) (ms : List Mat) (w : World) (hH : HS S w h b p L cb PL cp lim) (hR : RE elMa w A n ms) (hn : n ≤ 9223372036854775807) (hms : MatOk ms) (hx : MaxL w) :
    Calls Tryz.prog 28 #[.pointer (some ⟨h, 0, none⟩), .slice A n c] w (NarQ w L ms) := by
  have hm1 : ∀ x ∈ ms, x.2.2.size ≤ 16777216 := fun x hx => by have := hms x hx; omega
  have hl := hR.1
  rcases Nat.eq_zero_or_pos n with h0 | h0
  · exact narrow_all A n c ms w hH hR hn hm1 hx (.inl h0)
  · obtain ⟨⟨k, nm, v⟩, h1⟩ : ∃ x, ms[0]? = some x := ⟨_, List.getElem?_eq_getElem (by omega)⟩
    by_cases hk : k = 1 ∧ v ≠ ⟨#[]⟩
    · obtain ⟨rfl, hv⟩ := hk
      have := hms _ (List.mem_of_getElem? h1)
      exact narrow_lab A n c ms nm v w hH hR hn hm1 hx h1 hv (by unfold maxLen; dsimp only at this; omega)
    · refine narrow_all A n c ms w hH hR hn hm1 hx (.inr ⟨_, h1, ?_⟩)
      by_cases hk1 : k = 1
      · exact .inr (Classical.byContradiction fun h => hk ⟨hk1, h⟩)
      · exact .inl hk1
section
variable {S : Nat → Prop} {w : World} {h lim : Nat} {ss : List Ser}
theorem sel_ms (A : Option Addr) (n c : Nat) (ms : List Mat) (u0 u1 : Int) (hD : HD S w h lim ss) (hR : RE elMa w A n ms) (hn : n ≤ 9223372036854775807) (hms : MatOk ms) (hx : MaxL w) :
    Calls Tryz.prog 8 #[.pointer (some ⟨h, 0, none⟩), .slice A n c, .int .i64 u0, .int .i64 u1] w fun e w' => ∃ B d, e = .returned (.slice B (srtS (selS u0 u1 (pickH ms ss))).length d) ∧ NS w' w.heap.size B (srtS (selS u0 u1 (pickH ms ss))).length d (srtS (selS u0 u1 (pickH ms ss))) ∧ Grew w w' := by
  obtain ⟨b, p, L, cb, PL, cp, hH, rfl⟩ := hD
  have hlen := hH.len
  have hml := hH.ml
  refine (select_any (fun V => V.Perm (L.filter fun e => saysB ms e.s.lbs)) A n c u0 u1 w hH ((narrow_any A n c ms w hH hR hn hms hx).mono ?_)).mono ?_
  · rintro e w' ⟨V, B, d, hp, rfl, ho, hg⟩
    have := List.length_filter_le (fun e : HEnt => saysB ms e.s.lbs) L
    exact ⟨V, B, d, hp, fun e he => (List.mem_filter.1 (hp.mem_iff.1 he)).1, by rw [hp.length_eq]; omega, rfl, ho, hg⟩
  · rintro e w' ⟨B, m, d, he, V, out, hp, hN, hs, hw, hg⟩
    have hv := (hH.hv.pick ms).sel u0 u1
    have hpp : out.Perm (selS u0 u1 (pickH ms (L.map HEnt.s))) := by
      refine hs.trans ?_
      rw [selV_eq]
      have h1 : (V.map HEnt.s).Perm (pickH ms (L.map HEnt.s)) := by
        refine (hp.map HEnt.s).trans ?_
        unfold pickH
        rw [List.filter_map]
        exact List.Perm.refl _
      exact h1.filterMap _
    have h1 : out = srtS (selS u0 u1 (pickH ms (L.map HEnt.s))) := srt_of hpp hv.dis hw (srtS_sort hv.dis) (srtS_perm _)
    have h2 := hN.len
    subst h2
    rw [h1] at he hN
    exact ⟨B, d, he, hN, hg⟩
end

/-! ### What two selects gather of a series -/
def gath (l : List Lab) (ss : List Ser) : List Ptn := (ss.filter fun s => decide (s.lbs = l)).flatMap Ser.pts
theorem gath_yes {l : List Lab} {ss : List Ser} {k : Nat} {s : Ser} (h : ss[k]? = some s) (hs : s.lbs = l) : gath l (ss.take (k + 1)) = gath l (ss.take k) ++ s.pts := by
  unfold gath
  rw [take_sn h, List.filter_append, List.flatMap_append]
  simp [hs]
theorem gath_no {l : List Lab} {ss : List Ser} {k : Nat} {s : Ser} (h : ss[k]? = some s) (hs : s.lbs ≠ l) : gath l (ss.take (k + 1)) = gath l (ss.take k) := by
  unfold gath
  rw [take_sn h, List.filter_append, List.flatMap_append]
  simp [hs]
theorem gath_le (l : List Lab) (ss : List Ser) (k : Nat) : (gath l (ss.take k)).length ≤ (gath l ss).length := by
  unfold gath
  conv => rhs; rw [← List.take_append_drop k ss]
  rw [List.filter_append, List.flatMap_append, List.length_append]
  omega
theorem filter_one {l : List Lab} : ∀ {P : List Ser}, (P.Pairwise fun a b => a.lbs ≠ b.lbs) → ∀ {s : Ser}, s ∈ P → s.lbs = l → (P.filter fun s => decide (s.lbs = l)) = [s]
  | [], _, s, h, _ => by cases h
  | x :: r, hd, s, h, hs => by
    rw [List.pairwise_cons] at hd
    rcases List.mem_cons.1 h with rfl | h
    · rw [List.filter_cons, if_pos (by simpa using hs), List.filter_eq_nil_iff.2 fun y hy => ?_]
      have := hd.1 y hy
      simp only [decide_eq_true_eq]
      exact fun e => this (hs.trans e.symm)
    · have := hd.1 s h
      rw [List.filter_cons, if_neg (by simp only [decide_eq_true_eq]; exact fun e => this (e.trans hs.symm))]
      exact filter_one hd.2 h hs
theorem filter_sel (a b : Int) (l : List Lab) : ∀ P : List Ser, ((selS a b P).filter fun s => decide (s.lbs = l)) = selS a b (P.filter fun s => decide (s.lbs = l))
  | [] => rfl
  | s :: r => by
    have ih := filter_sel a b l r
    rw [selS_fm, selS_fm] at ih ⊢
    rw [List.filterMap_cons, List.filter_cons]
    by_cases hs : s.lbs = l
    · rw [if_pos (by simpa using hs), List.filterMap_cons]
      cases h : selF a b s with
      | none => exact ih
      | some s' =>
        have := selF_lbs h
        simp only
        rw [List.filter_cons, if_pos (by simp [this, hs]), ih]
    · rw [if_neg (by simpa using hs)]
      cases h : selF a b s with
      | none => exact ih
      | some s' =>
        have := selF_lbs h
        simp only
        rw [List.filter_cons, if_neg (by simp [this, hs]), ih]
theorem gath_sel {lim : Nat} {P : List Ser} (h : HV lim P) (a b : Int) {s : Ser} (hs : s ∈ P) : gath s.lbs (srtS (selS a b P)) = s.pts.filter (inR a b) := by
  have h1 : ((srtS (selS a b P)).filter fun x => decide (x.lbs = s.lbs)).Perm (selS a b [s]) := by
    have := (srtS_perm (selS a b P)).filter fun x => decide (x.lbs = s.lbs)
    rwa [filter_sel, filter_one h.dis hs rfl] at this
  unfold gath
  have h2 : selS a b [s] = if (s.pts.filter (inR a b)).length = 0 then [] else [⟨s.lbs, s.pts.filter (inR a b)⟩] := by
    unfold selS
    rw [List.filterMap_cons, List.filterMap_nil]
    by_cases h3 : (s.pts.filter (inR a b)).length = 0
    · rw [if_pos h3, if_pos h3]
    · rw [if_neg h3, if_neg h3]
  rw [h2] at h1
  by_cases h3 : (s.pts.filter (inR a b)).length = 0
  · rw [if_pos h3] at h1
    rw [List.perm_nil.1 h1, List.eq_nil_of_length_eq_zero h3]
    rfl
  · rw [if_neg h3] at h1
    rw [List.perm_singleton.1 h1]
    simp
/-- of each series of one select, what two selects have of it -/
structure TwoF (a b c : List Ser) (N : Nat) : Prop where
  all : ∀ s ∈ c, gath s.lbs a ++ gath s.lbs b = s.pts ∧ s.pts.length ≤ 2199023255553
  sum : tot a + tot b = tot c
  top : tot c ≤ N
theorem tot_two {x m y : Int} (h1 : x ≤ m) (h2 : m ≤ y) : ∀ P : List Ser, tot (selS x m P) + tot (selS (m + 1) y P) = tot (selS x y P)
  | [] => rfl
  | s :: r => by
    have ih := tot_two h1 h2 r
    have hs := selF_tot h1 h2 s.pts
    have key : ∀ u v : Int, tot (selS u v (s :: r)) = (s.pts.filter (inR u v)).length + tot (selS u v r) := fun u v => by
      rw [selS_fm, selS_fm, List.filterMap_cons]
      have h3 : selF u v s = if (s.pts.filter (inR u v)).length = 0 then none else some ⟨s.lbs, s.pts.filter (inR u v)⟩ := rfl
      rw [h3]
      by_cases h4 : (s.pts.filter (inR u v)).length = 0
      · rw [if_pos h4]
        simp only
        omega
      · rw [if_neg h4]
        simp only [tot_cons1]
    rw [key, key, key]
    omega
theorem tot_sel_le (a b : Int) : ∀ P : List Ser, tot (selS a b P) ≤ tot P
  | [] => Nat.le_refl _
  | s :: r => by
    have ih := tot_sel_le a b r
    rw [selS_fm, List.filterMap_cons, tot_cons1]
    have h3 : selF a b s = if (s.pts.filter (inR a b)).length = 0 then none else some ⟨s.lbs, s.pts.filter (inR a b)⟩ := rfl
    have h5 := List.length_filter_le (inR a b) s.pts
    rw [h3]
    by_cases h4 : (s.pts.filter (inR a b)).length = 0
    · rw [if_pos h4]
      simp only
      rw [← selS_fm]
      omega
    · rw [if_neg h4]
      simp only [tot_cons1]
      rw [← selS_fm]
      omega
theorem twoF_of {lim N : Nat} {P : List Ser} (h : HV lim P) (ht : tot P ≤ N) {x m y : Int} (h1 : x ≤ m) (h2 : m ≤ y) : TwoF (srtS (selS x m P)) (srtS (selS (m + 1) y P)) (srtS (selS x y P)) N := by
  refine ⟨fun s hs => ?_, by rw [tot_srt, tot_srt, tot_srt, tot_two h1 h2], by rw [tot_srt]; exact Nat.le_trans (tot_sel_le _ _ _) ht⟩
  have hs := (srtS_perm _).mem_iff.1 hs
  have hl := (h.sel x y).pts_len hs
  refine ⟨?_, hl⟩
  obtain ⟨s0, hs0, h3⟩ := List.mem_filterMap.1 hs
  split at h3
  · cases h3
  · injection h3 with h3
    rw [← h3]
    simp only
    rw [gath_sel h x m hs0, gath_sel h (m + 1) y hs0, rise_split h1 h2 (h.ris s0 hs0)]
theorem tot_pick (ms : List Mat) : ∀ P : List Ser, tot (pickH ms P) ≤ tot P
  | [] => Nat.le_refl _
  | s :: r => by
    have ih := tot_pick ms r
    unfold pickH at *
    rw [List.filter_cons, tot_cons1]
    split
    · rw [tot_cons1]
      omega
    · omega
theorem cmp_zero {a b : List Lab} : ((cmpLs a b == 0) = true) ↔ a = b := by
  rw [beq_iff_eq]
  exact cmpLs_ok.zero a b

end Go.Proofs.YtailooldnelecaaGreatDoor

namespace Go.Proofs.YtailooldnelecaaGreatDoor
open Go.ChangeShapes Go.WideShapes Go.ChangeAt Go.RowKit

theorem u8_of_wf {z : Int} (h : (Lit.int .u8 z).wf = true) : ((UInt8.ofNat z.toNat).toNat : Int) = z := by
  have := Go.bounds_u8 h
  rw [UInt8.toNat_ofNat']
  omega

theorem open_bytes {H : Type} {enc : TypeId × Value → H} {P : Program} {W : World} {base : Nat} {spare : Nat → Bool} {held : Bool} {t e : TypeId} (ht : P.underlying t = some (.slice e)) (he : P.underlying e = some (.int .u8)) (hC : P.cellsOf e = 1) (hB : P.bytesOf e = 1)
    {ts : List TypeId} {ds : List (DataW H)} {j : Nat} {d : DataW H} (hsz : (DataW.weightsEach P ts ds).all (· ≤ reachBytes) = true) (htj : ts[j]? = some t) (hdj : ds[j]? = some d)
    {A : Option Addr} {n c : Nat} {p : List MemPlace} (h : DataW.Trod enc P W base spare held t (.slice A n c) d p) : ∃ l : List UInt8, RB W A n l ∧ n ≤ 140737488351232 := by
  obtain ⟨fuel, hf⟩ := h
  rcases open_ints ht he hC hf with ⟨hcs, _⟩ | ⟨x, l, c', zs, hcs, _, hl, hm, hz, hx, hcell, hwz⟩
  · simp [Value.cells] at hcs
    obtain ⟨rfl, rfl, rfl⟩ := hcs
    exact ⟨[], ⟨rfl, Rd.nil _ _⟩, by omega⟩
  · simp [Value.cells] at hcs
    obtain ⟨rfl, rfl, rfl⟩ := hcs
    simp only [Prod.mk.injEq] at hx
    obtain ⟨rfl, _⟩ := hx
    have hlen : n ≤ zs.length := by rw [hz]; split <;> omega
    refine ⟨(zs.take n).map fun z => UInt8.ofNat z.toNat, ⟨by simp; omega, ?_⟩, ?_⟩
    · intro k u hu
      refine ⟨x, rfl, ?_⟩
      simp only [List.map_map, List.getElem?_map, List.getElem?_take] at hu
      split at hu
      · rename_i hk
        rw [hcell k (by omega)]
        rw [List.getElem?_eq_getElem (by omega)] at hu
        simp only [Option.map_some, Option.some.injEq, Function.comp, byt] at hu
        rw [← hu, u8_of_wf (hwz _ (List.getElem_mem _)), List.getD_eq_getElem?_getD, List.getElem?_eq_getElem (by omega)]
        rfl
      · simp at hu
    · have := sized_slice hsz htj hdj ht
      rw [hB] at this
      simp only [Go.ChangeShapes.lits, List.length_map, List.length_take, List.length_drop, reachBytes] at this
      omega

theorem open_bytes2 {H : Type} {enc : TypeId × Value → H} {P : Program} {W : World} {base : Nat} {spare : Nat → Bool} {held : Bool} {t e : TypeId} (ht : P.underlying t = some (.slice e)) (he : P.underlying e = some (.int .u8)) (hC : P.cellsOf e = 1) (hB : P.bytesOf e = 1)
    {ts : List TypeId} {ds : List (DataW H)} {j : Nat} {d : DataW H} (hsz : (DataW.weightsEach P ts ds).all (· ≤ reachBytes) = true) (htj : ts[j]? = some t) (hdj : ds[j]? = some d)
    {A : Option Addr} {n c : Nat} {p : List MemPlace} (h : DataW.Trod enc P W base spare held t (.slice A n c) d p) : ∃ l : List UInt8, RB W A n l ∧ n ≤ 140737488351232 ∧ (n ≤ c ∧ c ≤ 9223372036854775807) := by
  have hc : n ≤ c ∧ c ≤ 9223372036854775807 := by
    obtain ⟨fuel, hf⟩ := h
    rcases open_ints ht he hC hf with ⟨hcs, _⟩ | ⟨x, l, c', zs, hcs, _, hl, hm, hz, hx, hcell, hwz⟩
    · simp [Value.cells] at hcs
      obtain ⟨rfl, rfl, rfl⟩ := hcs
      omega
    · simp [Value.cells] at hcs
      obtain ⟨rfl, rfl, rfl⟩ := hcs
      unfold maxLen at hm
      omega
  obtain ⟨l, h1, h2⟩ := open_bytes ht he hC hB hsz htj hdj h
  exact ⟨l, h1, h2, hc⟩
end Go.Proofs.YtailooldnelecaaGreatDoor

namespace Go.Proofs.YtailooldnelecaaGreatDoor
open Go.ChangeShapes Go.WideShapes Go.ChangeAt Go.RowKit

theorem bulk_one {H : Type} (d : DataW H) : 1 ≤ Rows.uptoBulk d := by
  cases d with
  | lit l => cases l <;> simp [Rows.uptoBulk]
  | _ => simp [Rows.uptoBulk]
theorem bulk_len {H : Type} (l : List (DataW H)) : l.length ≤ Rows.uptoBulkAll l := by
  induction l with
  | nil => simp [Rows.uptoBulkAll]
  | cons x r ih => have := bulk_one x; simp only [Rows.uptoBulkAll, List.length_cons]; omega

theorem open_bulk {H : Type} {enc : TypeId × Value → H} {P : Program} {W : World} {base : Nat} {spare : Nat → Bool} {held : Bool} {t e : TypeId} (ht : P.underlying t = some (.slice e)) (he : P.underlying e = some (.int .u8)) (hC : P.cellsOf e = 1)
    {d : DataW H} {A : Option Addr} {n c : Nat} {p : List MemPlace} (h : DataW.Trod enc P W base spare held t (.slice A n c) d p) : n ≤ Rows.uptoBulk d := by
  obtain ⟨fuel, hf⟩ := h
  rcases open_ints ht he hC hf with ⟨hcs, _⟩ | ⟨x, l, c', zs, hcs, _, hl, hm, hz, hx, hcell, hwz⟩
  · simp [Value.cells] at hcs
    obtain ⟨rfl, rfl, rfl⟩ := hcs
    exact Nat.zero_le _
  · simp [Value.cells] at hcs
    obtain ⟨rfl, rfl, rfl⟩ := hcs
    simp only [Prod.mk.injEq] at hx
    obtain ⟨rfl, _⟩ := hx
    have hlen : n ≤ zs.length := by rw [hz]; split <;> omega
    have := bulk_len (H := H) (Go.ChangeShapes.lits .u8 (zs.take n))
    simp only [Go.ChangeShapes.lits, List.length_map, List.length_take] at this
    simp only [Rows.uptoBulk, Go.ChangeShapes.lits]
    omega
end Go.Proofs.YtailooldnelecaaGreatDoor
