/-
  Several texts in one:
  A heap of cursors in memory: what the methods of a list of cursors answer. Conditions: lengths that memory bears.
  Lists of labels and of series compared. Conditions: lengths that memory bears.
  A block's length; what every program answers, call by call (awake). Conditions: the table that the library reads.
  What every program answers, call by call (awake). Conditions: the table that the library reads.
  Declarations of elder texts that this law reaches. Conditions: as they say.
  A heap of cursors in memory: Swap, Push and Pop of a list of cursors. Conditions: lengths that memory bears.
  A heap of cursors: moving up and down over the library's heap. Conditions: lengths that memory bears.
  A heap of cursors: moving up over the library's heap. Conditions: lengths that memory bears.
  A heap of cursors: moving down over the library's heap. Conditions: lengths that memory bears.
  A heap of cursors: Push, Fix and Pop of the library's heap. Conditions: lengths that memory bears.
  A range over a function whose iterator keeps state of its own in cells: what iterator and body owe each other, and the law of the loop. Conditions: none; no program in sight.
  Lists of series on the way to one, in plain words. Conditions: none; no program in sight.
  The iterator over lists of series by their labels: what comes, and that a loop's body may do what it likes beside it. Conditions: lengths that memory bears.
  Lists of series copied. Conditions: lengths that memory bears.
-/
import Derived.Test.YtlcaaacbookopaaGreatDoorPart29
import Derived.Test.YtlcaaacbookopaaGreatDoorPart37
import Derived.Test.YtlcaaacbookopaaGreatDoorPart7
import Derived.RegionTactic
import Derived.ChangeAlike
import Derived.Test.YtlcaaacbookopaaGreatDoorPart36
import Derived.Test.YtlcaaacbookopaaGreatDoorPart8
import Derived.Test.YtlcaaacbookopaaGreatDoorPart12
import Derived.Test.YtlcaaacbookopaaGreatDoorPart1
import Derived.RangeFuncWrites
import Derived.Test.YtlcaaacbookopaaGreatDoorPart14
import Derived.RangeFuncCalls
import Derived.RangeFuncLeaves
import Derived.Shelf.Abstract
import Derived.OwnWalkIn
import Derived.TacticsInMore
import Derived.LoopNIn
import Derived.LoopIn
import Derived.Sort.LoopGhostIn
import Derived.Test.YtlcaaacbookopaaGreatDoorPart25

namespace Go.Proofs.YtlcaaacbookopaaGreatDoor
open Go.RowKit

theorem qcellsIn_nil (W : World) : CellsIn [] W := fun k hk => by cases hk
theorem cellsIn_cons {k : Nat} {bs : List Nat} {W : World} (h : ∃ cs t fr, W.heap[k]? = some (.cells cs t fr)) (h' : CellsIn bs W) : CellsIn (k :: bs) W := fun i hi => by
  rcases List.mem_cons.1 hi with rfl | hi
  · exact h
  · exact h' i hi
theorem ex_cell {w : World} {ad : Addr} {u : Value} (h : w.cell? ad = some u) : ∃ cs t fr, w.heap[ad.block]? = some (.cells cs t fr) := cellsIn_cell h _ (by simp)
theorem qsameIn_of {S : Nat → Prop} {bs : List Nat} {W w : World} (hc : Chg S W w) (h : CellsIn bs W) (hn : ∀ k ∈ bs, ¬ S k) : SameIn bs W w := fun k hk => by
  obtain ⟨cs, t, fr, h1⟩ := h k hk
  exact hc.block k (Array.getElem?_eq_some_iff.1 h1).1 (hn k hk)
end Go.Proofs.YtlcaaacbookopaaGreatDoor

namespace Go.Proofs.YtlcaaacbookopaaGreatDoor
open Go.RowKit

/-- are two alike? -/
noncomputable def eqB {α : Type} (a b : α) : Bool := @decide (a = b) (Classical.propDecidable _)
theorem eqB_true {α : Type} {a b : α} (h : a = b) : eqB a b = true := by unfold eqB; exact @decide_eq_true _ (Classical.propDecidable _) h
theorem eqB_false {α : Type} {a b : α} (h : a ≠ b) : eqB a b = false := by unfold eqB; exact @decide_eq_false _ (Classical.propDecidable _) h
theorem toL_inj {a b : ByteArray} (h : a.toList = b.toList) : a = b := by
  rw [ByteArray.toList_eq, ByteArray.toList_eq] at h
  exact data_inj h
set_option maxHeartbeats 2000000 in
theorem sameLabels_any (A B : Option Addr) (n m c d : Nat) (l r : List Lab) (w : World) (ha : RE elLb w A n l) (hb : RE elLb w B m r) (hn : n ≤ 9223372036854775807) (hm : m ≤ 9223372036854775807) :
    Calls Tryz.prog 56 #[.slice A n c, .slice B m d] w fun e w' => e = .returned (.bool (eqB l r)) ∧ Grew w w' := by
  by_cases hnm : n = m
  · subst hnm
    go_enter Tryz.func56, Tryz.ntmps56
    go_wp2
    go_loopw [5] (fun i wr => ∃ k : Nat, k ≤ n ∧ i = .int .i64 k ∧ l.take k = r.take k ∧ Grew w wr) (fun i _ => n - (intOf i).toNat)
    case atStart => exact ⟨0, Nat.zero_le _, rfl, rfl, Chg.refl _ _⟩
    case round =>
      obtain ⟨k, hk, rfl, ht, hg⟩ := hrel
      by_cases hlt : k < n
      · obtain ⟨ad, x, rfl, hx, hcx1, hcx2⟩ := (ha.grew hg).lb hlt
        obtain ⟨bd, y, rfl, hy, hcy1, hcy2⟩ := (hb.grew hg).lb hlt
        by_cases hxy : x = y
        · subst hxy
          have hst := Lib.hid (take_step ht hx hy)
          clear ht hx hy
          go_wp2
          refine wp_region_text [(3, 1)] (by kernel_rfl) (by kernel_rfl) ?_
          simp only [instr, chk, look, Nat.reduceBEq, Bool.false_eq_true, if_true, if_false, Nat.reduceEqDiff, List.nil_append]
          go_wp2
          refine OnlyN.normal ?_
          go_wp2
          go_roundw
          case rel => exact ⟨k + 1, by omega, by go_num, hst.out, hg.drew⟩
          case measure => simp [intOf]; omega
        · have hne := Lib.hid (ne_at hx hy hxy)
          have hd : ¬ x.1.toList = y.1.toList ∨ (x.1.toList = y.1.toList ∧ ¬ x.2.toList = y.2.toList) := by
            by_cases h1 : x.1 = y.1
            · exact .inr ⟨by rw [h1], fun h2 => hxy (Prod.ext h1 (toL_inj h2))⟩
            · exact .inl fun h2 => h1 (toL_inj h2)
          clear ht hx hy hxy
          rcases hd with h1 | ⟨h1, h2⟩
          all_goals
            go_wp2
            refine wp_region_text [(3, 1)] (by kernel_rfl) (by kernel_rfl) ?_
            simp only [instr, chk, look, Nat.reduceBEq, Bool.false_eq_true, if_true, if_false, Nat.reduceEqDiff, List.nil_append]
            go_wp2
            refine OnlyN.normal ?_
            go_wp2
            go_ret
            exact ⟨by rw [eqB_false hne.out]; simp, hg.drew⟩
      · have hkn : k = n := by omega
        subst hkn
        have h1 : l.take k = l := List.take_of_length_le (by rw [ha.1]; omega)
        have h2 : r.take k = r := List.take_of_length_le (by rw [hb.1]; omega)
        rw [h1, h2] at ht
        have ht := Lib.hid ht
        go_wp2
        go_ret
        exact ⟨by rw [eqB_true ht.out]; simp, hg⟩
  · have hlr : Hid (l ≠ r) := by
      show l ≠ r
      have h1 := ha.1
      have h2 := hb.1
      rintro rfl
      omega
    go_enter Tryz.func56, Tryz.ntmps56
    go_wp2
    go_ret
    exact ⟨by rw [eqB_false hlr.out]; simp, Chg.refl _ _⟩

theorem RS.rows {w : World} {A : Option Addr} {n : Nat} {ss : List Ser} (h : RS w A n ss) {k : Nat} (hk : k < n) :
    ∃ ad m s, A = some ad ∧ ss[k]? = some s ∧ SrIs w m s ∧ w.cell? (ad.add (k * 2)) = some (.slice m.la m.ln m.lc) ∧ w.cell? ⟨(ad.add (k * 2)).block, (ad.add (k * 2)).off + 1, none⟩ = some (.slice m.pa m.pn m.pc) := h.at_ hk

set_option maxRecDepth 100000 in
set_option maxHeartbeats 4000000 in
theorem sameS_any (A B : Option Addr) (n m c d : Nat) (l r : List Ser) (w : World) (ha : RS w A n l) (hb : RS w B m r) (hn : n ≤ 9223372036854775807) (hm : m ≤ 9223372036854775807) :
    Calls Tryz.prog 21 #[.slice A n c, .slice B m d] w fun e w' => e = .returned (.bool (eqB l r)) ∧ Grew w w' := by
  by_cases hnm : n = m
  · subst hnm
    go_enter Tryz.func21, Tryz.ntmps21
    go_wp2
    go_loopw [5] (fun i wr => ∃ k : Nat, k ≤ n ∧ i = .int .i64 k ∧ l.take k = r.take k ∧ Grew w wr) (fun i _ => n - (intOf i).toNat)
    case atStart => exact ⟨0, Nat.zero_le _, rfl, rfl, Chg.refl _ _⟩
    case round =>
      obtain ⟨k, hk, rfl, ht, hg⟩ := hrel
      by_cases hlt : k < n
      · obtain ⟨ad, mx, x, rfl, hx, hxi, x0, x1⟩ := (ha.grew hg).at_ hlt
        obtain ⟨bd, my, y, rfl, hy, hyi, y0, y1⟩ := (hb.grew hg).at_ hlt
        have hL := fun W1 (hW1 : Grew wr W1) => sameLabels_any mx.la my.la mx.ln my.ln mx.lc my.lc x.lbs y.lbs W1 (hxi.lb.grew hW1) (hyi.lb.grew hW1) (by have := hxi.lc; omega) (by have := hyi.lc; omega)
        have hcs : CellsIn [ad.block, bd.block] wr := by
          have h1 := ex_cell x0
          have h2 := ex_cell y0
          rw [block_add] at h1 h2
          exact cellsIn_cons h1 (cellsIn_cons h2 (qcellsIn_nil _))
        have hsame : Hid (∀ W1, Grew wr W1 → SameIn [ad.block, bd.block] wr W1) := fun W1 h1 => qsameIn_of h1 hcs fun _ _ e => e
        by_cases hxy : x.lbs = y.lbs
        · have hP := fun W1 (hW1 : Grew wr W1) => samePoints_any mx.pa my.pa mx.pn my.pn mx.pc my.pc x.pts y.pts W1 (hxi.pt.grew hW1) (hyi.pt.grew hW1) (by have := hxi.pc; omega) (by have := hyi.pc; omega)
          rw [eqB_true hxy] at hL
          replace hL := Lib.hid hL
          by_cases hpq : x.pts = y.pts
          · have hst := Lib.hid (take_step ht hx (by rw [hy]; congr 1; cases x; cases y; simp only at hxy hpq; rw [hxy, hpq]))
            rw [decide_eq_true hpq] at hP
            replace hP := Lib.hid hP
            clear ht hx hy hxy hpq hxi hyi
            go_wp2
            refine wp_region_textS [(3, 1)] [ad.block, bd.block] (by kernel_rfl) (by kernel_rfl) hcs ?_
            simp only [wpU, tagOf, chk, List.nil_append, List.cons_append]
            intro K hK
            go_wp2_with fail
            refine OnlyN.normal (hK _ _ (fun _ => ⟨_, _, _, rfl, rfl, by simp [block_add]⟩) ?_)
            clear hK K
            intro K hK
            go_wp2_with fail
            refine OnlyN.normal (hK _ _ (fun _ => ⟨_, _, _, rfl, rfl, by simp [block_add]⟩) ?_)
            clear hK K
            intro K hK
            go_wp2_with fail
            refine (hL.out _ (Chg.refl _ wr).drew).mono ?_
            rintro e w1 ⟨rfl, hg1⟩
            have hgg : Grew wr w1 := (Chg.refl _ wr).drew.trans hg1
            go_wp2_with fail
            refine OnlyN.normal (hK _ _ (hsame.out _ hgg) ?_)
            clear hK K
            have x1 := hgg.cell x1 (fun e => e)
            have y1 := hgg.cell y1 (fun e => e)
            intro K hK
            go_wp2_with fail
            refine OnlyN.normal (hK _ _ (fun _ => ⟨_, _, _, rfl, rfl, by simp [block_add]⟩) ?_)
            clear hK K
            intro K hK
            go_wp2_with fail
            refine OnlyN.normal (hK _ _ (fun _ => ⟨_, _, _, rfl, rfl, by simp [block_add]⟩) ?_)
            clear hK K
            intro K hK
            go_wp2_with fail
            refine (hP.out _ hgg).mono ?_
            rintro e w2 ⟨rfl, q, rfl⟩
            have hgg2 : Grew wr (w1.drewN q) := hgg.drewN q
            go_wp2_with fail
            refine OnlyN.normal (hK _ _ (hsame.out _ hgg2) ?_)
            clear hK K
            go_wp2_with fail
            refine OnlyN.normal ?_
            have hg0 := hg.trans hgg2
            clear hgg hg1 hgg2 hsame hcs
            go_wp2
            go_roundw
            case rel => exact ⟨k + 1, by omega, by go_num, hst.out, hg0⟩
            case measure => simp [intOf] <;> omega
          · have hne := Lib.hid (ne_at hx hy (fun e => hpq (by rw [e])))
            rw [decide_eq_false hpq] at hP
            replace hP := Lib.hid hP
            clear ht hx hy hxy hpq hxi hyi
            go_wp2
            refine wp_region_textS [(3, 1)] [ad.block, bd.block] (by kernel_rfl) (by kernel_rfl) hcs ?_
            simp only [wpU, tagOf, chk, List.nil_append, List.cons_append]
            intro K hK
            go_wp2_with fail
            refine OnlyN.normal (hK _ _ (fun _ => ⟨_, _, _, rfl, rfl, by simp [block_add]⟩) ?_)
            clear hK K
            intro K hK
            go_wp2_with fail
            refine OnlyN.normal (hK _ _ (fun _ => ⟨_, _, _, rfl, rfl, by simp [block_add]⟩) ?_)
            clear hK K
            intro K hK
            go_wp2_with fail
            refine (hL.out _ (Chg.refl _ wr).drew).mono ?_
            rintro e w1 ⟨rfl, hg1⟩
            have hgg : Grew wr w1 := (Chg.refl _ wr).drew.trans hg1
            go_wp2_with fail
            refine OnlyN.normal (hK _ _ (hsame.out _ hgg) ?_)
            clear hK K
            have x1 := hgg.cell x1 (fun e => e)
            have y1 := hgg.cell y1 (fun e => e)
            intro K hK
            go_wp2_with fail
            refine OnlyN.normal (hK _ _ (fun _ => ⟨_, _, _, rfl, rfl, by simp [block_add]⟩) ?_)
            clear hK K
            intro K hK
            go_wp2_with fail
            refine OnlyN.normal (hK _ _ (fun _ => ⟨_, _, _, rfl, rfl, by simp [block_add]⟩) ?_)
            clear hK K
            intro K hK
            go_wp2_with fail
            refine (hP.out _ hgg).mono ?_
            rintro e w2 ⟨rfl, q, rfl⟩
            have hgg2 : Grew wr (w1.drewN q) := hgg.drewN q
            go_wp2_with fail
            refine OnlyN.normal (hK _ _ (hsame.out _ hgg2) ?_)
            clear hK K
            go_wp2_with fail
            refine OnlyN.normal ?_
            have hg0 := hg.trans hgg2
            clear hgg hg1 hgg2 hsame hcs
            go_wp2
            go_ret
            exact ⟨by rw [eqB_false hne.out]; simp, hg0⟩
        · have hne := Lib.hid (ne_at hx hy (fun e => hxy (by rw [e])))
          rw [eqB_false hxy] at hL
          replace hL := Lib.hid hL
          clear ht hx hy hxy hxi hyi
          go_wp2
          refine wp_region_textS [(3, 1)] [ad.block, bd.block] (by kernel_rfl) (by kernel_rfl) hcs ?_
          simp only [wpU, tagOf, chk, List.nil_append, List.cons_append]
          intro K hK
          go_wp2_with fail
          refine OnlyN.normal (hK _ _ (fun _ => ⟨_, _, _, rfl, rfl, by simp [block_add]⟩) ?_)
          clear hK K
          intro K hK
          go_wp2_with fail
          refine OnlyN.normal (hK _ _ (fun _ => ⟨_, _, _, rfl, rfl, by simp [block_add]⟩) ?_)
          clear hK K
          intro K hK
          go_wp2_with fail
          refine (hL.out _ (Chg.refl _ wr).drew).mono ?_
          rintro e w1 ⟨rfl, hg1⟩
          have hgg : Grew wr w1 := (Chg.refl _ wr).drew.trans hg1
          go_wp2_with fail
          refine OnlyN.normal (hK _ _ (hsame.out _ hgg) ?_)
          clear hK K
          intro K hK
          go_wp2_with fail
          refine OnlyN.normal (hK _ _ (fun hw => by cases (show false = true from hw)) ?_)
          clear hK K
          intro K hK
          go_wp2_with fail
          refine OnlyN.normal (hK _ _ (fun hw => by cases (show false = true from hw)) ?_)
          clear hK K
          intro K hK
          go_wp2_with fail
          refine OnlyN.normal (hK _ _ (hsame.out _ hgg) ?_)
          clear hK K
          go_wp2_with fail
          refine OnlyN.normal ?_
          go_wp2
          go_ret
          exact ⟨by rw [eqB_false hne.out]; simp, hg.trans hgg⟩
      · have hkn : k = n := by omega
        subst hkn
        have h1 : l.take k = l := List.take_of_length_le (by rw [ha.len]; omega)
        have h2 : r.take k = r := List.take_of_length_le (by rw [hb.len]; omega)
        rw [h1, h2] at ht
        have ht := Lib.hid ht
        go_wp2
        go_ret
        exact ⟨by rw [eqB_true ht.out]; simp, hg⟩
  · have hlr : Hid (l ≠ r) := by
      show l ≠ r
      have h1 := ha.len
      have h2 := hb.len
      rintro rfl
      omega
    go_enter Tryz.func21, Tryz.ntmps21
    go_wp2
    go_ret
    exact ⟨by rw [eqB_false hlr.out]; simp, Chg.refl _ _⟩
end Go.Proofs.YtlcaaacbookopaaGreatDoor

namespace Go.Proofs.YtlcaaacbookopaaGreatDoor
open Go.RowKit

theorem blkB_len {ss : List Ser} (h : BkS ss) : (blkB (tabT ss) ss).length ≤ 300000000 := by
  have hT := h.tab
  have hW := h.bkw
  have h1 : ((tabT ss).flatMap (fun t => wrdB t.data.toList)).length ≤ 266 * (tabT ss).length := flat_le _ _ fun t ht => by
    obtain ⟨s, hs, h1⟩ := List.mem_flatMap.1 (mem_uniT.1 ht)
    obtain ⟨l, hl, h2⟩ := List.mem_flatMap.1 h1
    have h3 := (h.lb s hs).2 l hl
    have h4 : t.size ≤ 256 := by
      simp only [List.mem_cons, List.not_mem_nil, or_false] at h2
      rcases h2 with rfl | rfl <;> omega
    have h5 : t.data.toList.length = t.size := Array.length_toList
    have h6 := uv_len10 (v := t.data.toList.length) (by omega)
    unfold wrdB
    rw [List.length_append]
    omega
  have h2 : ((ss.map Ser.lbs).flatMap (labsB (tabT ss))).length ≤ 330 * (ss.map Ser.lbs).length := flat_le _ _ fun ls hls => by
    obtain ⟨s, hs, rfl⟩ := List.mem_map.1 hls
    have h3 := (h.lb s hs).1
    have h4 := uv_len10 (v := s.lbs.length) (by omega)
    have h5 := flat_le (labB (tabT ss)) 20 (l := s.lbs) fun x hx => labB_len hT (mem_tabT hs hx).1 (mem_tabT hs hx).2
    unfold labsB
    rw [List.length_append]
    omega
  have h3 : ((ss.map Ser.pts).flatMap pntsB).length ≤ 150010 * (ss.map Ser.pts).length := flat_le _ _ fun ps hps => by
    obtain ⟨s, hs, rfl⟩ := List.mem_map.1 hps
    have h3 := h.en s hs
    have h4 := (h.pt s hs).1
    have h5 : (pack (encB s.pts)).length ≤ 150000 := by
      rw [length_pack]
      omega
    have h6 := uv_len10 (v := (pack (encB s.pts)).length) (by omega)
    unfold pntsB wrdB
    rw [List.length_append]
    omega
  have h4 := uv_len10 (v := (tabT ss).length) (by omega)
  have h5 := h.n
  have h6 := uv_len10 (v := ss.length) (by omega)
  rw [List.length_map] at h2 h3
  unfold blkB
  rw [sealB_len]
  unfold bodyK
  simp only [List.length_append]
  have h7 : headK.length = 4 := rfl
  omega

theorem rs_oneK {w : World} {A P : Option Addr} {n c m d : Nat} {s : Ser} (hl : RE elLb w A n s.lbs) (hp : RE elPt w P m s.pts) (hc : n ≤ c ∧ c ≤ 9223372036854775807) (hd : m ≤ d ∧ d ≤ 9223372036854775807) {B : Option Addr} (hr : RE elSr w B 1 [⟨A, n, c, P, m, d⟩]) : RS w B 1 [s] :=
  ⟨[⟨A, n, c, P, m, d⟩], hr, rfl, fun i mm s' hm hs => by
    cases i with
    | zero =>
      obtain rfl := Option.some.inj hm
      obtain rfl := Option.some.inj hs
      exact ⟨hl, hp, hc, hd⟩
    | succ i => simp at hm⟩
/-- awake's series -/
def serW : List Ser := [⟨[(⟨#[97]⟩, ⟨#[120]⟩)], [(5, 1), (9, 1)]⟩]
theorem serW_ok : BkOk serW := ⟨by decide, by decide, by decide +kernel⟩
theorem serW_v : BkV serW := ⟨serW_ok, fun s hs p hp => by
  rcases List.mem_singleton.1 hs with rfl
  simp only [List.mem_cons, List.not_mem_nil, or_false] at hp
  rcases hp with rfl | rfl <;> decide⟩
theorem serW_sel : selK [] 6 9 serW = [⟨[(⟨#[97]⟩, ⟨#[120]⟩)], [(9, 1)]⟩] := by rfl
theorem metW_ok (lo hi : Int) (h : lo ≤ hi) : metOk ⟨7, lo, hi, 1, [], 1, 2⟩ = true := (metOk_iff _).2 ⟨by simp, by simp, by simp, rfl, h, by simp⟩
theorem not_ok_nil : ¬ BkOk [] := fun h => by have := h.1; simp at this
end Go.Proofs.YtlcaaacbookopaaGreatDoor

namespace Go.Proofs.YtlcaaacbookopaaGreatDoor
open Go.RowKit

theorem NS.one_pn {w : World} {base : Nat} {A : Option Addr} {c : Nat} {s : Ser} (h : NS w base A 1 c [s]) : ∃ ad la ln lc pa pc, A = some ad ∧ w.cell? ad = some (.slice la ln lc) ∧ w.cell? ⟨ad.block, ad.off + 1, none⟩ = some (.slice pa s.pts.length pc) := by
  obtain ⟨ad, m, s', e, hs, hn, h1, h2⟩ := h.at_ (k := 0) (by omega)
  have e0 : ad.add (0 * 2) = ad := rfl
  rw [e0] at h1 h2
  obtain rfl := Option.some.inj hs
  have hl : s.pts.length = m.pn := hn.is.pt.1
  exact ⟨ad, _, _, _, m.pa, m.pc, e, h1, by rw [hl]; exact h2⟩

theorem kencM_len {m : Met} (hok : metOk m = true) (hw : MetW m) : ∃ k, (encM m).length = k + 4 ∧ k ≤ 1000 := by
  have h1 : (encM m).length = (metB m).length + 4 := sealB_len _
  refine ⟨_, h1, ?_⟩
  rw [metB_nums, List.length_append]
  have h2 := flat_le uv 10 (l := numsM m) fun x hx => uv_len10 (numsM_lt hok hw x hx)
  have h3 : (numsM m).length = 7 + m.src.length := by unfold numsM; simp; omega
  have h4 := ((metOk_iff m).1 hok).2.2.2.2.2
  have h5 : headM.length = 4 := rfl
  omega

set_option maxRecDepth 100000 in
set_option maxHeartbeats 8000000 in
theorem bawake_any (w : World) (hm : MaxL w) : Calls Tryz.prog 17 #[] w fun e w' => e = .returned (.bool true) ∧ Grew w w' := by
  obtain ⟨W, hW⟩ : ∃ W, W = ((w.alloc (.cells #[.string ⟨#[97]⟩, .string ⟨#[120]⟩] 79)).alloc (.cells #[.int .i64 5, .int .u64 1, .int .i64 9, .int .u64 1] 82)).alloc (.cells #[.slice (some ⟨w.heap.size, 0, none⟩) 1 1, .slice (some ⟨w.heap.size + 1, 0, none⟩) 2 2] 85) := ⟨_, rfl⟩
  have gW : Grew w W := by rw [hW]; exact (((Chg.refl _ w).alloc _).alloc _).alloc _
  have hRS : RS W (some ⟨w.heap.size + 2, 0, none⟩) 1 serW := by
    rw [hW]
    refine rs_oneK (n := 1) (m := 2) (c := 1) (d := 2) (A := some ⟨w.heap.size, 0, none⟩) (P := some ⟨w.heap.size + 1, 0, none⟩) ?_ ?_ (by omega) (by omega) ?_
    · exact RE.grew (RE.newAt rfl rfl rfl) (((Chg.refl _ _).alloc _).alloc _)
    · exact RE.grew (RE.newAt (by rw [World.size_alloc]) rfl rfl) ((Chg.refl _ _).alloc _)
    · exact RE.newAt (by rw [World.size_alloc, World.size_alloc]) rfl rfl
  have hlen := blkB_len serW_v.bks
  obtain ⟨R, hR⟩ : ∃ R, blkB (tabT serW) serW = R := ⟨_, rfl⟩
  have hE := encK_ok _ 1 1 serW W hRS serW_ok serW_v.2
  unfold EncP at hE
  rw [hR] at hE hlen
  replace hR := Lib.hid hR
  replace hm := Lib.hid hm
  go_enter Tryz.func17, Tryz.ntmps17
  go_wp2_with fail
  rw [← hW]
  clear hW
  generalize w.heap.size + 2 = gs at *
  refine hE.mono ?_
  rintro e w1 ⟨B, c, rfl, ho, g1⟩
  have hrb := ho.rb
  have hcp := Own.cap ho
  unfold maxLen at hcp
  obtain ⟨n, hn⟩ : ∃ n, R.length = n := ⟨_, rfl⟩
  rw [hn] at hrb hlen hcp ⊢
  have gg1 := gW.trans g1
  clear hE ho hn
  go_wp2_with fail
  refine (decodeK_any B n c R w1 hrb (by omega) (by omega)).mono ?_
  rintro e w2 (⟨A2, m2, d2, zs, rfl, hz⟩ | ⟨_, _, hno⟩)
  rotate_left
  · exact absurd hR.out.symm (hno serW serW_v)
  have hzs : zs = serW := hz.v.inj serW_v (by rw [← hz.b, hR.out])
  subst hzs
  have gg2 := gg1.trans hz.g
  have hN2 := hz.ns
  have hRb2 := hrb.grew hz.g
  have hRS2 := (hRS.grew g1).grew hz.g
  clear hz hRS hrb
  go_wp2_with fail
  refine (selectK_any B n c R none 0 0 [] 6 9 w2 hRb2 (by omega) (by omega) (RE.nil _ _) (by omega) (fun x hx => by cases hx) (hm.out.grew gg2)).mono ?_
  rintro e w3 (⟨A3, m3, d3, zs, hv, hb, rfl, hN3, g3⟩ | ⟨_, _, hno⟩)
  rotate_left
  · exact absurd hR.out.symm (hno serW serW_v)
  have hzs : zs = serW := hv.inj serW_v (by rw [← hb, hR.out])
  subst hzs
  rw [serW_sel] at hN3
  have hl3 : m3 = 1 := hN3.len.symm
  subst hl3
  obtain ⟨ad, la, ln, lc, pa, pc, rfl, y0, y1⟩ := hN3.one_pn
  dsimp only [List.length_cons, List.length_nil] at y1
  have gg3 := gg2.trans g3
  have hN2' := hN2.grew g3
  have hRS3 := hRS2.grew g3
  clear hv hb hN3 hN2 hRS2 hRb2
  go_wp2_with fail
  refine (metaK_nil _ 1 1 serW 7 1 w3 hRS3 (by omega) (by omega) (by omega)).mono ?_
  rintro e w4 (⟨hno, _⟩ | ⟨_, lo, hi, D, d, hlo, hlh, hhi, rfl, g4⟩)
  · exact absurd serW_ok hno
  rw [show totK serW = 2 from rfl]
  have gg4 := gg3.trans g4
  obtain ⟨V, hV⟩ : ∃ V, V = w4.alloc (.cells #[.int .u64 7, .int .i64 lo, .int .i64 hi, .int .i64 1, .slice D 0 d, .int .i64 1, .int .i64 2] 25) := ⟨_, rfl⟩
  have gV : Grew w4 V := by rw [hV]; exact (Chg.refl _ w4).alloc _
  have hbV : Blk V w4.heap.size 25 #[.int .u64 7, .int .i64 lo, .int .i64 hi, .int .i64 1, .slice D 0 d, .int .i64 1, .int .i64 2] := by rw [hV]; exact Blk.new w4 _ _
  have hok := metW_ok lo hi hlh
  have hmw : MetW ⟨7, lo, hi, 1, [], 1, 2⟩ := ⟨by show 7 < _; omega, ⟨by show _ ≤ lo; omega, by show lo ≤ _; omega⟩, ⟨by show _ ≤ hi; omega, by show hi ≤ _; omega⟩, fun x hx => by cases hx⟩
  have hEm := encodeMeta_ok ⟨7, lo, hi, 1, [], 1, 2⟩ D 0 d V (RE.nil _ _) hok hmw
  obtain ⟨k, hk, hk2⟩ := kencM_len hok hmw
  unfold EncP at hEm
  dsimp only at hEm
  rw [hk] at hEm
  have gg5 := gg4.trans gV
  go_wp2_with fail
  rw [← hV]
  clear hV
  refine hEm.mono ?_
  rintro e w5 ⟨B5, c5, rfl, o5, g5⟩
  have hcp5 := Own.cap o5
  unfold maxLen at hcp5
  have hDm := decodeMeta_ok ⟨7, lo, hi, 1, [], 1, 2⟩ hok hmw w5 B5 k c5 o5.rb (by omega) (by omega)
  unfold MtR at hDm
  dsimp only at hDm
  have hb5 := hbV.grew g5
  have gg6 := gg5.trans g5
  clear hEm o5 hk hbV
  go_wp2_with fail
  refine hDm.mono ?_
  rintro e w6 ⟨D6, d6, rfl, o6, g6⟩
  simp only [List.length_nil]
  obtain ⟨X, hX⟩ : ∃ X, X = w6.alloc (.cells #[.int .u64 7, .int .i64 lo, .int .i64 hi, .int .i64 1, .slice D6 0 d6, .int .i64 1, .int .i64 2] 25) := ⟨_, rfl⟩
  have gX : Grew w6 X := by rw [hX]; exact (Chg.refl _ w6).alloc _
  have hbX : Blk X w6.heap.size 25 #[.int .u64 7, .int .i64 lo, .int .i64 hi, .int .i64 1, .slice D6 0 d6, .int .i64 1, .int .i64 2] := by rw [hX]; exact Blk.new w6 _ _
  have g3X : Grew w3 X := (g4.trans (gV.trans (g5.trans g6))).trans gX
  have hb8 := (hb5.grew g6).grew gX
  have oX := o6.grew gX
  have hNX := hN2'.grew g3X
  have hRX := hRS3.grew g3X
  have ggX : Grew w X := gg3.trans g3X
  have hl2 : m2 = 1 := hN2'.len.symm
  subst hl2
  have hcN := hN2'.cap
  have y1X := g3X.cell y1 (fun e => e)
  rw [hX] at y1X
  have hSs := sameS_any A2 (some ⟨gs, 0, none⟩) 1 1 d2 1 serW serW X hNX.rs hRX (by omega) (by omega)
  rw [eqB_true rfl] at hSs
  clear hDm gV
  have yX := g3X.cell y1 (fun e => e)
  go_wp2_with fail
  rw [← hX]
  clear hX y1X y1
  refine hSs.mono ?_
  rintro e w7 ⟨rfl, g7⟩
  have y7 := g7.cell yX (fun e => e)
  have b7 := hb8.grew g7
  have x7 := hbX.grew g7
  have p0 := b7.cell 0
  have p1 := b7.cell 1
  have p2 := b7.cell 2
  have p3 := b7.cell 3
  have p4 := b7.cell 4
  have p5 := b7.cell 5
  have p6 := b7.cell 6
  have q0 := x7.cell 0
  have q1 := x7.cell 1
  have q2 := x7.cell 2
  have q3 := x7.cell 3
  have q4 := x7.cell 4
  have q5 := x7.cell 5
  have q6 := x7.cell 6
  simp only [List.getElem?_toArray, List.getElem?_cons_succ, List.getElem?_cons_zero] at p0 p1 p2 p3 p4 p5 p6 q0 q1 q2 q3 q4 q5 q6
  have hSm := sameMeta_eq ⟨7, lo, hi, 1, [], 1, 2⟩ D D6 0 d d6 w7 (RE.nil _ _) (RE.nil _ _) (by omega)
  have gg7 := ggX.trans g7
  clear hSs yX hb8 hbX hNX hRX hN2' hRS3 y0
  go_wp2_with fail
  refine hSm.mono ?_
  rintro e w8 ⟨rfl, g8⟩
  have p8 := g8.cell p6 (fun e => e)
  have hCk := bcheck_any none 0 0 [] w8 (RS.nil _ _) (by omega)
  rw [errK_of not_ok_nil] at hCk
  have gg8 := gg7.trans g8
  clear hSm p0 p1 p2 p3 p4 p5 p6 q0 q1 q2 q3 q4 q5 q6 y7
  go_wp2_with fail
  refine hCk.mono ?_
  rintro e w9 ⟨rfl, g9⟩
  go_wp2
  go_ret
  exact ⟨by simp, gg8.trans g9⟩
end Go.Proofs.YtlcaaacbookopaaGreatDoor

namespace Go.Proofs.YtlcaaacbookopaaGreatDoor
theorem El.flat_one {α : Type} (E : El α) (x : α) : E.flat [x] = E.cells x := by simp [El.flat]
end Go.Proofs.YtlcaaacbookopaaGreatDoor

namespace Go.Proofs.YtlcaaacbookopaaGreatDoor
open Go.RowKit
def upP : List Ptn → Bool
  | p :: q :: r => decide (p.1 < q.1) && upP (q :: r)
  | _ => true
theorem upP_iff : ∀ {ps : List Ptn}, upP ps = true ↔ Rise ps
  | [] => by simp [upP, Rise]
  | [p] => by simp [upP, Rise]
  | p :: q :: r => by
    rw [upP, Bool.and_eq_true, decide_eq_true_iff, upP_iff]
    unfold Rise
    rw [List.pairwise_cons (a := p), List.pairwise_cons (a := q)]
    constructor
    · rintro ⟨h1, h2, h3⟩
      refine ⟨fun x hx => ?_, h2, h3⟩
      rcases List.mem_cons.1 hx with rfl | hx
      · exact h1
      · have := h2 x hx
        omega
    · rintro ⟨h1, h2⟩
      exact ⟨h1 q (by simp), h2⟩
theorem upP_drop {ps : List Ptn} {k : Nat} {p q : Ptn} (hp : ps[k]? = some p) (hq : ps[k + 1]? = some q) : upP (ps.drop k) = (decide (p.1 < q.1) && upP (ps.drop (k + 1))) := by
  obtain ⟨h1, h2⟩ := List.getElem?_eq_some_iff.1 hp
  obtain ⟨h3, h4⟩ := List.getElem?_eq_some_iff.1 hq
  rw [List.drop_eq_getElem_cons h1, List.drop_eq_getElem_cons h3, h2, h4, upP]
def risB (ps : List Ptn) : Bool := upP ps && decide (0 < ps.length)
theorem risB_iff {ps : List Ptn} : risB ps = true ↔ Rise ps ∧ ps ≠ [] := by
  unfold risB
  rw [Bool.and_eq_true, upP_iff, decide_eq_true_iff, List.length_pos_iff]
end Go.Proofs.YtlcaaacbookopaaGreatDoor

namespace Go.Proofs.YtlcaaacbookopaaGreatDoor
open Go.RowKit
def okS : Option (List Lab) → List Ser → Bool
  | _, [] => true
  | prev, s :: r => decide (chkL s.lbs = 0) && (risB s.pts && (onB s.lbs prev && okS (some s.lbs) r))
theorem okS_cons (prev : Option (List Lab)) (s : Ser) (r : List Ser) : okS prev (s :: r) = (decide (chkL s.lbs = 0) && (risB s.pts && (onB s.lbs prev && okS (some s.lbs) r))) := rfl
def errS (ss : List Ser) : Nat := if okS none ss then 0 else 100
theorem absP {b : Bool} (h : some undef = some (Value.bool b)) : False := by simp [undef] at h
end Go.Proofs.YtlcaaacbookopaaGreatDoor

namespace Go.Proofs.YtlcaaacbookopaaGreatDoor
open Go.RowKit
theorem RS.at0 {w : World} {A : Option Addr} {n : Nat} {ss : List Ser} (h : RS w A n ss) (hn : 0 < n) :
    ∃ ad m s, A = some ad ∧ ss[0]? = some s ∧ SrIs w m s ∧ w.cell? ad = some (.slice m.la m.ln m.lc) ∧ w.cell? ⟨ad.block, ad.off + 1, none⟩ = some (.slice m.pa m.pn m.pc) := by
  obtain ⟨ad, m, s, e, hs, hi, h1, h2⟩ := h.at_ hn
  have e0 : ad.add (0 * 2) = ad := rfl
  rw [e0] at h1 h2
  exact ⟨ad, m, s, e, hs, hi, h1, h2⟩
/-- a cursor: where it lies, and what it has left -/
structure Cur where
  g : Nat
  la : Option Addr
  ln : Nat
  lc : Nat
  ss : List Ser
end Go.Proofs.YtlcaaacbookopaaGreatDoor

namespace Go.Proofs.YtlcaaacbookopaaGreatDoor
open Go.RowKit

end Go.Proofs.YtlcaaacbookopaaGreatDoor

namespace Go.Proofs.YtlcaaacbookopaaGreatDoor
open Go.RowKit

end Go.Proofs.YtlcaaacbookopaaGreatDoor

namespace Go.Proofs.YtlcaaacbookopaaGreatDoor
open Go.RowKit

/-- none of the first m is spent -/
def Live (m : Nat) (l : List Cur) : Prop := ∀ i x, i < m → l[i]? = some x → 0 < x.ln
theorem Live.swap {m i j : Nat} {l : List Cur} (h : Live m l) (hi : i < m) (hj : j < m) : Live m (swapL l i j) := by
  intro k x hk hx
  unfold swapL at hx
  split at hx
  · rename_i y z hy hz
    rw [List.getElem?_set] at hx
    split at hx
    · split at hx
      · injection hx with hx
        rw [← hx]
        exact h i y hi hy
      · cases hx
    · rw [List.getElem?_set] at hx
      split at hx
      · split at hx
        · injection hx with hx
          rw [← hx]
          exact h j z hj hz
        · cases hx
      · exact h k x hk hx
  · exact h k x hk hx
end Go.Proofs.YtlcaaacbookopaaGreatDoor

namespace Go.Proofs.YtlcaaacbookopaaGreatDoor
open Go.RowKit

end Go.Proofs.YtlcaaacbookopaaGreatDoor

namespace Go.Proofs.YtlcaaacbookopaaGreatDoor
open Go.RowKit

theorem Own.heapTy {w : World} {base sz n c : Nat} {A : Option Addr} {t : TypeId} {cs : List Value} (h : Own w base t sz A n c cs) {k : Nat} (hk : ∃ ad, A = some ad ∧ k = ad.block) : base ≤ k ∧ ∃ cs fr, w.heap[k]? = some (.cells cs t fr) := by
  obtain ⟨ad, rfl, rfl⟩ := hk
  rcases h.2 with ⟨e, h3⟩ | ⟨g, cap, cur, e, hb, hg, _⟩
  · cases e
  · injection e with e1 e2 e3
    injection e1 with e1
    subst e1
    exact ⟨hb, _, _, hg⟩
end Go.Proofs.YtlcaaacbookopaaGreatDoor

namespace Go.Proofs.YtlcaaacbookopaaGreatDoor
open Go.RowKit

section
variable {F : Fence} {n : Nat} {P : Program}

end
end Go.Proofs.YtlcaaacbookopaaGreatDoor

namespace Go.Proofs.YtlcaaacbookopaaGreatDoor

end Go.Proofs.YtlcaaacbookopaaGreatDoor

namespace Go.Proofs.YtlcaaacbookopaaGreatDoor
open Go.RowKit
attribute [local go_sem] Oper.semAt_some

/-- a list of series as it lies in a cell -/
structure QLst where
  a : Option Addr
  n : Nat
  c : Nat
  ss : List Ser
def elLs : El QLst := ⟨fun x => [.slice x.a x.n x.c], 1, fun _ => rfl, by
  intro x u hu
  simp only [List.mem_cons, List.not_mem_nil, or_false] at hu
  rcases hu with rfl
  rfl⟩
def sss (ls : List QLst) : List (List Ser) := ls.map QLst.ss
theorem RE.ls {w : World} {A : Option Addr} {n : Nat} {l : List QLst} (h : RE elLs w A n l) {k : Nat} (hk : k < n) : ∃ ad x, A = some ad ∧ l[k]? = some x ∧ w.cell? (ad.add k) = some (.slice x.a x.n x.c) := by
  obtain ⟨ad, x, e, hx, hc⟩ := h.at_ hk (by decide)
  have := hc 0 _ rfl
  rw [show k * elLs.sz + 0 = k by show k * 1 + 0 = k; omega] at this
  exact ⟨ad, x, e, hx, this⟩
end Go.Proofs.YtlcaaacbookopaaGreatDoor

namespace Go.Proofs.YtlcaaacbookopaaGreatDoor
open Go.RowKit

theorem infoSer : (Tryz.prog.info? 85).map (fun i => (i.zero, i.size, i.bytes)) = some (some (.agg #[.slice none 0 0, .slice none 0 0]), 2, 48) := by kernel_rfl
theorem NsE.mono {w : World} {base base' : Nat} {m : SerM} {s : Ser} (h : NsE w base m s) (hb : base' ≤ base) : NsE w base' m s := ⟨Own.mono h.lb hb, Own.mono h.pt hb⟩
/-- lengths that memory bears -/
structure Small (ss : List Ser) : Prop where
  n : ss.length ≤ 1073741824
  el : ∀ s ∈ ss, s.lbs.length ≤ 1048576 ∧ s.pts.length ≤ 1099511627776
/-- new series: their labels and points lie in rows of the call's own -/
def NewS (w : World) (ss : List Ser) (e : Ending) (w' : World) : Prop := ∃ A c, e = .returned (.slice A ss.length c) ∧ NS w' w.heap.size A ss.length c ss ∧ Grew w w'
end Go.Proofs.YtlcaaacbookopaaGreatDoor
