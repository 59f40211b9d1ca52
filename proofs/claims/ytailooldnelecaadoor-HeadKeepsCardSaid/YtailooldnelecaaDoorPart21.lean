/-
  Several texts in one:
  Lists of labels and of series compared. Conditions: lengths that memory bears.
  A series' last point; a sample's fate. Conditions: sets that may be.
-/
import Derived.Test.YtailooldnelecaaDoorPart20
import Derived.Test.YtailooldnelecaaDoorPart16
import Derived.Test.YtailooldnelecaaDoorPart18

namespace Go.Proofs.YtailooldnelecaaDoor
open Go.RowKit

/-- are two alike? -/
noncomputable def eqB {α : Type} (a b : α) : Bool := @decide (a = b) (Classical.propDecidable _)
theorem eqB_true {α : Type} {a b : α} (h : a = b) : eqB a b = true := by unfold eqB; exact @decide_eq_true _ (Classical.propDecidable _) h
theorem eqB_false {α : Type} {a b : α} (h : a ≠ b) : eqB a b = false := by unfold eqB; exact @decide_eq_false _ (Classical.propDecidable _) h
theorem eqB_iff {α : Type} {a b : α} : eqB a b = true ↔ a = b := by
  constructor
  · intro h
    refine Classical.byContradiction fun hn => ?_
    rw [eqB_false hn] at h
    cases h
  · exact eqB_true

theorem toL_inj {a b : ByteArray} (h : a.toList = b.toList) : a = b := by
  rw [ByteArray.toList_eq, ByteArray.toList_eq] at h
  exact data_inj h
set_option maxHeartbeats 2000000 in
theorem sameLabels_any (A B : Option Addr) (n m c d : Nat) (l r : List Lab) (w : World) (ha : RE elLb w A n l) (hb : RE elLb w B m r) (hn : n ≤ 9223372036854775807) (hm : m ≤ 9223372036854775807) :
    Calls Tryd.prog 29 #[.slice A n c, .slice B m d] w fun e w' => e = .returned (.bool (eqB l r)) ∧ Grew w w' := by
  by_cases hnm : n = m
  · subst hnm
    go_enter Tryd.func29, Tryd.ntmps29
    go_wp2
    go_loopw [5] (fun i wr => ∃ k : Nat, k ≤ n ∧ i = .int .i64 k ∧ l.take k = r.take k ∧ Grew w wr) (fun i _ => n - (intOf i).toNat)
    case atStart => exact ⟨0, Nat.zero_le _, rfl, rfl, Chg.refl _ _⟩
    case round =>
      obtain ⟨k, hk, rfl, ht, hg⟩ := hrel
      by_cases hlt : k < n
      · obtain ⟨ad, x, rfl, hx, hcx1, hcx2⟩ := (ha.grew hg).lb hlt
        obtain ⟨bd, y, rfl, hy, hcy1, hcy2⟩ := (hb.grew hg).lb hlt
        by_cases hxy : x = y
        · subst hxy
          have hst := Lib.hid (take_step ht hx hy)
          clear ht hx hy
          go_wp2
          refine wp_region_text [(3, 1)] (by kernel_rfl) (by kernel_rfl) ?_
          simp only [instr, chk, look, Nat.reduceBEq, Bool.false_eq_true, if_true, if_false, Nat.reduceEqDiff, List.nil_append]
          go_wp2
          refine OnlyN.normal ?_
          go_wp2
          go_roundw
          case rel => exact ⟨k + 1, by omega, by go_num, hst.out, hg.drew⟩
          case measure => simp [intOf]; omega
        · have hne := Lib.hid (ne_at hx hy hxy)
          have hd : ¬ x.1.toList = y.1.toList ∨ (x.1.toList = y.1.toList ∧ ¬ x.2.toList = y.2.toList) := by
            by_cases h1 : x.1 = y.1
            · exact .inr ⟨by rw [h1], fun h2 => hxy (Prod.ext h1 (toL_inj h2))⟩
            · exact .inl fun h2 => h1 (toL_inj h2)
          clear ht hx hy hxy
          rcases hd with h1 | ⟨h1, h2⟩
          all_goals
            go_wp2
            refine wp_region_text [(3, 1)] (by kernel_rfl) (by kernel_rfl) ?_
            simp only [instr, chk, look, Nat.reduceBEq, Bool.false_eq_true, if_true, if_false, Nat.reduceEqDiff, List.nil_append]
            go_wp2
            refine OnlyN.normal ?_
            go_wp2
            go_ret
            exact ⟨by rw [eqB_false hne.out]; simp, hg.drew⟩
      · have hkn : k = n := by omega
        subst hkn
        have h1 : l.take k = l := List.take_of_length_le (by rw [ha.1]; omega)
        have h2 : r.take k = r := List.take_of_length_le (by rw [hb.1]; omega)
        rw [h1, h2] at ht
        have ht := Lib.hid ht
        go_wp2
        go_ret
        exact ⟨by rw [eqB_true ht.out]; simp, hg⟩
  · have hlr : Hid (l ≠ r) := by
      show l ≠ r
      have h1 := ha.1
      have h2 := hb.1
      rintro rfl
      omega
    go_enter Tryd.func29, Tryd.ntmps29
    go_wp2
    go_ret
    exact ⟨by rw [eqB_false hlr.out]; simp, Chg.refl _ _⟩

theorem RS.rows {w : World} {A : Option Addr} {n : Nat} {ss : List Ser} (h : RS w A n ss) {k : Nat} (hk : k < n) :
    ∃ ad m s, A = some ad ∧ ss[k]? = some s ∧ SrIs w m s ∧ w.cell? (ad.add (k * 2)) = some (.slice m.la m.ln m.lc) ∧ w.cell? ⟨(ad.add (k * 2)).block, (ad.add (k * 2)).off + 1, none⟩ = some (.slice m.pa m.pn m.pc) := h.at_ hk

set_option maxRecDepth 100000 in
set_option maxHeartbeats 4000000 in
theorem sameS_any (A B : Option Addr) (n m c d : Nat) (l r : List Ser) (w : World) (ha : RS w A n l) (hb : RS w B m r) (hn : n ≤ 9223372036854775807) (hm : m ≤ 9223372036854775807) :
    Calls Tryd.prog 15 #[.slice A n c, .slice B m d] w fun e w' => e = .returned (.bool (eqB l r)) ∧ Grew w w' := by
  by_cases hnm : n = m
  · subst hnm
    go_enter Tryd.func15, Tryd.ntmps15
    go_wp2
    go_loopw [5] (fun i wr => ∃ k : Nat, k ≤ n ∧ i = .int .i64 k ∧ l.take k = r.take k ∧ Grew w wr) (fun i _ => n - (intOf i).toNat)
    case atStart => exact ⟨0, Nat.zero_le _, rfl, rfl, Chg.refl _ _⟩
    case round =>
      obtain ⟨k, hk, rfl, ht, hg⟩ := hrel
      by_cases hlt : k < n
      · obtain ⟨ad, mx, x, rfl, hx, hxi, x0, x1⟩ := (ha.grew hg).at_ hlt
        obtain ⟨bd, my, y, rfl, hy, hyi, y0, y1⟩ := (hb.grew hg).at_ hlt
        have hL := fun W1 (hW1 : Grew wr W1) => sameLabels_any mx.la my.la mx.ln my.ln mx.lc my.lc x.lbs y.lbs W1 (hxi.lb.grew hW1) (hyi.lb.grew hW1) (by have := hxi.lc; omega) (by have := hyi.lc; omega)
        have hcs : CellsIn [ad.block, bd.block] wr := by
          have h1 := ex_cell x0
          have h2 := ex_cell y0
          rw [block_add] at h1 h2
          exact cellsIn_cons h1 (cellsIn_cons h2 (cellsIn_nil _))
        have hsame : Hid (∀ W1, Grew wr W1 → SameIn [ad.block, bd.block] wr W1) := fun W1 h1 => sameIn_of h1 hcs fun _ _ e => e
        by_cases hxy : x.lbs = y.lbs
        · have hP := fun W1 (hW1 : Grew wr W1) => samePoints_any mx.pa my.pa mx.pn my.pn mx.pc my.pc x.pts y.pts W1 (hxi.pt.grew hW1) (hyi.pt.grew hW1) (by have := hxi.pc; omega) (by have := hyi.pc; omega)
          rw [eqB_true hxy] at hL
          replace hL := Lib.hid hL
          by_cases hpq : x.pts = y.pts
          · have hst := Lib.hid (take_step ht hx (by rw [hy]; congr 1; cases x; cases y; simp only at hxy hpq; rw [hxy, hpq]))
            rw [decide_eq_true hpq] at hP
            replace hP := Lib.hid hP
            clear ht hx hy hxy hpq hxi hyi
            go_wp2
            refine wp_region_textS [(3, 1)] [ad.block, bd.block] (by kernel_rfl) (by kernel_rfl) hcs ?_
            simp only [wpU, tagOf, chk, List.nil_append, List.cons_append]
            intro K hK
            go_wp2_with fail
            refine OnlyN.normal (hK _ _ (fun _ => ⟨_, _, _, rfl, rfl, by simp [block_add]⟩) ?_)
            clear hK K
            intro K hK
            go_wp2_with fail
            refine OnlyN.normal (hK _ _ (fun _ => ⟨_, _, _, rfl, rfl, by simp [block_add]⟩) ?_)
            clear hK K
            intro K hK
            go_wp2_with fail
            refine (hL.out _ (Chg.refl _ wr).drew).mono ?_
            rintro e w1 ⟨rfl, hg1⟩
            have hgg : Grew wr w1 := (Chg.refl _ wr).drew.trans hg1
            go_wp2_with fail
            refine OnlyN.normal (hK _ _ (hsame.out _ hgg) ?_)
            clear hK K
            have x1 := hgg.cell x1 (fun e => e)
            have y1 := hgg.cell y1 (fun e => e)
            intro K hK
            go_wp2_with fail
            refine OnlyN.normal (hK _ _ (fun _ => ⟨_, _, _, rfl, rfl, by simp [block_add]⟩) ?_)
            clear hK K
            intro K hK
            go_wp2_with fail
            refine OnlyN.normal (hK _ _ (fun _ => ⟨_, _, _, rfl, rfl, by simp [block_add]⟩) ?_)
            clear hK K
            intro K hK
            go_wp2_with fail
            refine (hP.out _ hgg).mono ?_
            rintro e w2 ⟨rfl, q, rfl⟩
            have hgg2 : Grew wr (w1.drewN q) := hgg.drewN q
            go_wp2_with fail
            refine OnlyN.normal (hK _ _ (hsame.out _ hgg2) ?_)
            clear hK K
            go_wp2_with fail
            refine OnlyN.normal ?_
            have hg0 := hg.trans hgg2
            clear hgg hg1 hgg2 hsame hcs
            go_wp2
            go_roundw
            case rel => exact ⟨k + 1, by omega, by go_num, hst.out, hg0⟩
            case measure => simp [intOf] <;> omega
          · have hne := Lib.hid (ne_at hx hy (fun e => hpq (by rw [e])))
            rw [decide_eq_false hpq] at hP
            replace hP := Lib.hid hP
            clear ht hx hy hxy hpq hxi hyi
            go_wp2
            refine wp_region_textS [(3, 1)] [ad.block, bd.block] (by kernel_rfl) (by kernel_rfl) hcs ?_
            simp only [wpU, tagOf, chk, List.nil_append, List.cons_append]
            intro K hK
            go_wp2_with fail
            refine OnlyN.normal (hK _ _ (fun _ => ⟨_, _, _, rfl, rfl, by simp [block_add]⟩) ?_)
            clear hK K
            intro K hK
            go_wp2_with fail
            refine OnlyN.normal (hK _ _ (fun _ => ⟨_, _, _, rfl, rfl, by simp [block_add]⟩) ?_)
            clear hK K
            intro K hK
            go_wp2_with fail
            refine (hL.out _ (Chg.refl _ wr).drew).mono ?_
            rintro e w1 ⟨rfl, hg1⟩
            have hgg : Grew wr w1 := (Chg.refl _ wr).drew.trans hg1
            go_wp2_with fail
            refine OnlyN.normal (hK _ _ (hsame.out _ hgg) ?_)
            clear hK K
            have x1 := hgg.cell x1 (fun e => e)
            have y1 := hgg.cell y1 (fun e => e)
            intro K hK
            go_wp2_with fail
            refine OnlyN.normal (hK _ _ (fun _ => ⟨_, _, _, rfl, rfl, by simp [block_add]⟩) ?_)
            clear hK K
            intro K hK
            go_wp2_with fail
            refine OnlyN.normal (hK _ _ (fun _ => ⟨_, _, _, rfl, rfl, by simp [block_add]⟩) ?_)
            clear hK K
            intro K hK
            go_wp2_with fail
            refine (hP.out _ hgg).mono ?_
            rintro e w2 ⟨rfl, q, rfl⟩
            have hgg2 : Grew wr (w1.drewN q) := hgg.drewN q
            go_wp2_with fail
            refine OnlyN.normal (hK _ _ (hsame.out _ hgg2) ?_)
            clear hK K
            go_wp2_with fail
            refine OnlyN.normal ?_
            have hg0 := hg.trans hgg2
            clear hgg hg1 hgg2 hsame hcs
            go_wp2
            go_ret
            exact ⟨by rw [eqB_false hne.out]; simp, hg0⟩
        · have hne := Lib.hid (ne_at hx hy (fun e => hxy (by rw [e])))
          rw [eqB_false hxy] at hL
          replace hL := Lib.hid hL
          clear ht hx hy hxy hxi hyi
          go_wp2
          refine wp_region_textS [(3, 1)] [ad.block, bd.block] (by kernel_rfl) (by kernel_rfl) hcs ?_
          simp only [wpU, tagOf, chk, List.nil_append, List.cons_append]
          intro K hK
          go_wp2_with fail
          refine OnlyN.normal (hK _ _ (fun _ => ⟨_, _, _, rfl, rfl, by simp [block_add]⟩) ?_)
          clear hK K
          intro K hK
          go_wp2_with fail
          refine OnlyN.normal (hK _ _ (fun _ => ⟨_, _, _, rfl, rfl, by simp [block_add]⟩) ?_)
          clear hK K
          intro K hK
          go_wp2_with fail
          refine (hL.out _ (Chg.refl _ wr).drew).mono ?_
          rintro e w1 ⟨rfl, hg1⟩
          have hgg : Grew wr w1 := (Chg.refl _ wr).drew.trans hg1
          go_wp2_with fail
          refine OnlyN.normal (hK _ _ (hsame.out _ hgg) ?_)
          clear hK K
          intro K hK
          go_wp2_with fail
          refine OnlyN.normal (hK _ _ (fun hw => by cases (show false = true from hw)) ?_)
          clear hK K
          intro K hK
          go_wp2_with fail
          refine OnlyN.normal (hK _ _ (fun hw => by cases (show false = true from hw)) ?_)
          clear hK K
          intro K hK
          go_wp2_with fail
          refine OnlyN.normal (hK _ _ (hsame.out _ hgg) ?_)
          clear hK K
          go_wp2_with fail
          refine OnlyN.normal ?_
          go_wp2
          go_ret
          exact ⟨by rw [eqB_false hne.out]; simp, hg.trans hgg⟩
      · have hkn : k = n := by omega
        subst hkn
        have h1 : l.take k = l := List.take_of_length_le (by rw [ha.len]; omega)
        have h2 : r.take k = r := List.take_of_length_le (by rw [hb.len]; omega)
        rw [h1, h2] at ht
        have ht := Lib.hid ht
        go_wp2
        go_ret
        exact ⟨by rw [eqB_true ht.out]; simp, hg⟩
  · have hlr : Hid (l ≠ r) := by
      show l ≠ r
      have h1 := ha.len
      have h2 := hb.len
      rintro rfl
      omega
    go_enter Tryd.func15, Tryd.ntmps15
    go_wp2
    go_ret
    exact ⟨by rw [eqB_false hlr.out]; simp, Chg.refl _ _⟩
end Go.Proofs.YtailooldnelecaaDoor

namespace Go.Proofs.YtailooldnelecaaDoor
open Go.RowKit

set_option maxRecDepth 100000 in
set_option maxHeartbeats 1000000 in
theorem last_any (g : Nat) (la pa : Option Addr) (ln lc pn pc : Nat) (ps : List Ptn) (q : Ptn) (w : World) (hb : Blk w g 67 #[.slice la ln lc, .slice pa pn pc]) (hp : RE elPt w pa pn ps) (hn : 0 < pn) (hc : pn ≤ 9223372036854775807) (hq : ps[pn - 1]? = some q) :
    Calls Tryd.prog 22 #[.pointer (some ⟨g, 0, none⟩)] w fun e w' => e = .returned (.agg #[.int .i64 q.1, .int .u64 (q.2 : Int)]) ∧ Grew w w' := by
  obtain ⟨W, hW⟩ : ∃ W, W = w.alloc (.cells #[.int .i64 0, .int .u64 0] 39) := ⟨_, rfl⟩
  have hgW : Grew w W := by rw [hW]; exact (Chg.refl _ w).alloc _
  have hbz : Blk W w.heap.size 39 #[.int .i64 0, .int .u64 0] := by rw [hW]; exact Blk.new w _ _
  obtain ⟨ad, q', rfl, hq', p0, p1⟩ := (hp.grew hgW).pt (show pn - 1 < pn by omega)
  obtain rfl : q = q' := by
    rw [hq] at hq'
    injection hq'
  have hbW := hb.grew hgW
  have x1 := hbW.cell 1
  have hg0 := hb.lt
  have hadl : ad.block < w.heap.size := by
    have := hp.lt (by decide) ad rfl hn
    exact this
  have z0 : W.cell? ⟨w.heap.size, 0, none⟩ = some (.int .i64 0) := by rw [hbz.cell]; rfl
  have z1 : W.cell? ⟨w.heap.size, 1, none⟩ = some (.int .u64 0) := by rw [hbz.cell]; rfl
  have f0 := hbz.frozen 0
  have f1 := hbz.frozen 1
  have hcA := ex_cell p0
  rw [block_add] at hcA
  have hcs : CellsIn [g, ad.block] W := cellsIn_cons hbW.ex (cellsIn_cons hcA (cellsIn_nil _))
  have hch : Chg (fun x => x = w.heap.size) W ((W.setCell ⟨w.heap.size, 0, none⟩ (.int .i64 q.1)).setCell ⟨w.heap.size, 1, none⟩ (.int .u64 (q.2 : Int))) := (Chg.one _ _ _ _).setCell (p := ⟨w.heap.size, 1, none⟩) (.inr rfl) _
  have hb5 : Blk ((W.setCell ⟨w.heap.size, 0, none⟩ (.int .i64 q.1)).setCell ⟨w.heap.size, 1, none⟩ (.int .u64 (q.2 : Int))) w.heap.size 39 #[.int .i64 q.1, .int .u64 (q.2 : Int)] := by simpa using (hbz.set 0 (.int .i64 q.1)).set 1 (.int .u64 (q.2 : Int))
  have r0 := hb5.cell 0
  have r1 := hb5.cell 1
  have hg5 : Grew w ((W.setCell ⟨w.heap.size, 0, none⟩ (.int .i64 q.1)).setCell ⟨w.heap.size, 1, none⟩ (.int .u64 (q.2 : Int))) := (hgW.setCell (p := ⟨w.heap.size, 0, none⟩) (.inl (Nat.le_refl _)) _).setCell (p := ⟨w.heap.size, 1, none⟩) (.inl (Nat.le_refl _)) _
  have hsame := sameIn_of hch hcs (fun k hk e => by
    simp only [List.mem_cons, List.not_mem_nil, or_false] at hk
    omega)
  clear hq hq' hp hb hcA hch hb5 hbz
  go_enter Tryd.func22, Tryd.ntmps22
  go_wp2_with fail
  rw [← hW]
  clear hW
  refine wp_region_textS [(3, 1)] [g, ad.block] (by kernel_rfl) (by kernel_rfl) hcs ?_
  simp only [wpU, tagOf, chk, look, Nat.reduceBEq, if_true, if_false, Nat.reduceEqDiff, List.nil_append, List.cons_append]
  intro K hK
  go_wp2_with fail
  refine OnlyN.normal (hK _ _ (fun _ => ⟨_, _, _, rfl, rfl, by simp⟩) ?_)
  clear hK K
  intro K hK
  go_wp2_with fail
  refine OnlyN.normal (hK _ _ (fun _ => ⟨_, _, _, rfl, rfl, by simp⟩) ?_)
  clear hK K
  intro K hK
  go_wp2_with fail
  refine OnlyN.normal (hK _ _ (fun _ => ⟨_, _, _, rfl, rfl, by simp [block_add]⟩) ?_)
  clear hK K
  intro K hK
  go_wp2_with fail
  refine OnlyN.normal (hK _ _ hsame ?_)
  clear hK K
  go_wp2_with fail
  refine OnlyN.normal ?_
  generalize (W.setCell ⟨w.heap.size, 0, none⟩ (.int .i64 q.1)).setCell ⟨w.heap.size, 1, none⟩ (.int .u64 (q.2 : Int)) = w5 at *
  clear z0 z1 f0 f1
  go_wp2
  exact bodyPost_ret (v := .agg #[.int .i64 q.1, .int .u64 (q.2 : Int)]) (by simp [results, Tryd.results22, go_sem, r0, r1]) rfl ⟨rfl, hg5.drew⟩
end Go.Proofs.YtailooldnelecaaDoor
