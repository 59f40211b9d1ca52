/-
  Several texts in one:
  A sample's fate. Conditions: lengths that memory bears.
-/
import Derived.Test.YtailooldnelecaaGreatDoorPart15

namespace Go.Proofs.YtailooldnelecaaGreatDoor
open Go.RowKit

theorem chkG_sizes : ∀ {prev : Option ByteArray} {L : List Lab}, chkG prev L = 0 → ∀ x ∈ L, x.1.size ≤ 64 ∧ x.2.size ≤ 256
  | _, [], _, x, hx => by cases hx
  | prev, l :: r, h, x, hx => by
    rw [chkG_cons] at h
    by_cases h1 : nameL l.1 = false
    · rw [if_pos h1] at h
      cases h
    rw [if_neg h1] at h
    by_cases h2 : txtB l.2 = false
    · rw [if_pos h2] at h
      cases h
    rw [if_neg h2] at h
    by_cases h3 : upB l.1 prev = true
    · rw [if_pos h3] at h
      cases h
    rw [if_neg h3] at h
    rcases List.mem_cons.1 hx with rfl | hx
    · refine ⟨?_, ?_⟩
      · by_cases h : x.1.size ≤ 64
        · exact h
        · exact absurd (by unfold nameL; rw [decide_eq_false h]; simp) h1
      · by_cases h : x.2.size ≤ 256
        · exact h
        · exact absurd (by unfold txtB; rw [decide_eq_false h]; simp) h2
    · exact chkG_sizes h x hx
theorem chkL_sizes {L : List Lab} (h : chkL L = 0) : L.length ≤ 16 ∧ ∀ x ∈ L, x.1.size ≤ 64 ∧ x.2.size ≤ 256 := by
  unfold chkL at h
  by_cases h1 : 16 < L.length
  · rw [if_pos h1] at h
    cases h
  · rw [if_neg h1] at h
    exact ⟨by omega, chkG_sizes h⟩
theorem chkL_sm {L : List Lab} (h : chkL L = 0) : SmL L := by
  obtain ⟨h1, h2⟩ := chkL_sizes h
  exact ⟨by omega, fun l hl => by have := h2 l hl; omega⟩
theorem key_lbs {a b : List Lab} (ha : chkL a = 0) (hb : chkL b = 0) : encK a = encK b ↔ a = b := ⟨encK_inj (chkL_sm ha) (chkL_sm hb), fun e => by rw [e]⟩

theorem absU {b : Bool} (h : some undef = some (Value.bool b)) : False := by simp [undef] at h
/-- a sample that may be: its labels' form, its moment -/
def okT (T : Int) : Prop := -1099511627776 ≤ T ∧ T ≤ 1099511627776
instance (T : Int) : Decidable (okT T) := by unfold okT; infer_instance
def fateO (lim n : Nat) (o : Option Ptn) (T : Int) (V : Nat) : Int :=
  match o with
  | none => if lim ≤ n then 5 else 1
  | some q => if q.1 < T then 1 else if T < q.1 then 3 else if V = q.2 then 2 else 4
/-- the series with these labels -/
def entL (L : List HEnt) (lbs : List Lab) : Option HEnt := L.find? fun e => decide (e.s.lbs = lbs)
def lastL (L : List HEnt) (lbs : List Lab) : Option Ptn := (entL L lbs).bind fun e => e.s.pts.getLast?
def fateL (lim : Nat) (L : List HEnt) (lbs : List Lab) (T : Int) (V : Nat) : Int := if chkL lbs = 0 ∧ okT T then fateO lim L.length (lastL L lbs) T V else 3
theorem entL_none {L : List HEnt} {lbs : List Lab} (h : entL L lbs = none) : ∀ e ∈ L, e.s.lbs ≠ lbs := fun e he e1 => by
  have := List.find?_eq_none.1 h e he
  simp at this
  exact this e1
theorem entL_some {L : List HEnt} {lbs : List Lab} {e : HEnt} (h : entL L lbs = some e) : e ∈ L ∧ e.s.lbs = lbs := ⟨List.mem_of_find?_eq_some h, by
  have := List.find?_some h
  simpa using this⟩
theorem last_at {l : List Ptn} (h : l ≠ []) : ∃ q, l.getLast? = some q ∧ l[l.length - 1]? = some q := by
  obtain ⟨q, hq⟩ : ∃ q, l.getLast? = some q := by
    cases hl : l.getLast? with
    | none => exact absurd (List.getLast?_eq_none_iff.1 hl) h
    | some q => exact ⟨q, rfl⟩
  exact ⟨q, hq, by rw [← List.getLast?_eq_getElem?]; exact hq⟩

set_option maxRecDepth 100000 in
set_option maxHeartbeats 4000000 in
theorem fate_no (h : Nat) (la : Option Addr) (ln lc : Nat) (lbs : List Lab) (T : Int) (V : Nat) (w : World) (hl : RE elLb w la ln lbs) (hlc : ln ≤ lc ∧ lc ≤ 9223372036854775807) (hno : ¬ (chkL lbs = 0 ∧ okT T)) :
    Calls Tryz.prog 13 #[.pointer (some ⟨h, 0, none⟩), .agg #[.slice la ln lc, .int .i64 T, .int .u64 (V : Int)]] w fun e w' => e = .returned (.int .i64 3) ∧ Grew w w' := by
  have hC := fun w' (hg : Grew w w') => chk_any la ln lc lbs w' (hl.grew hg) (by omega)
  obtain ⟨W, hW⟩ : ∃ W, W = w.alloc (.cells #[.slice la ln lc, .int .i64 T, .int .u64 (V : Int)] 31) := ⟨_, rfl⟩
  have hgW : Grew w W := by rw [hW]; exact (Chg.refl _ w).alloc _
  have hbx : Blk W w.heap.size 31 #[.slice la ln lc, .int .i64 T, .int .u64 (V : Int)] := by rw [hW]; exact Blk.new w _ _
  have x0 := hbx.cell 0
  have hx1 := fun w' (g : Grew W w') => (hbx.grew g).cell 1
  replace hC := Lib.hid hC
  replace hx1 := Lib.hid hx1
  unfold okT at hno
  generalize chkL lbs = ck at *
  by_cases hck : ck = 0
  · subst hck
    by_cases h1 : T < -1099511627776
    · have e1 : decide (T < -1099511627776) = true := decide_eq_true h1
      clear hno hbx
      go_enter Tryz.func13, Tryz.ntmps13
      go_wp2_with fail
      rw [← hW]
      clear hW
      refine (hC.out _ hgW).mono ?_
      rintro e w1 ⟨rfl, g1⟩
      have g01 := hgW.trans g1
      have y1 := hx1.out _ g1
      go_wp2
      go_ret
      exact ⟨by simp, g01⟩
    · have e1 : decide (T < -1099511627776) = false := decide_eq_false h1
      have e2 : decide ((1099511627776 : Int) < T) = true := decide_eq_true (by
        by_cases h2 : T ≤ 1099511627776
        · exact absurd ⟨rfl, by omega, h2⟩ hno
        · omega)
      clear hno hbx
      go_enter Tryz.func13, Tryz.ntmps13
      go_wp2_with fail
      rw [← hW]
      clear hW
      refine (hC.out _ hgW).mono ?_
      rintro e w1 ⟨rfl, g1⟩
      have g01 := hgW.trans g1
      have y1 := hx1.out _ g1
      go_wp2
      go_ret
      exact ⟨by simp, g01⟩
  · have e1 : ((ck : Int) != 0) = true := by simp; omega
    clear hno hbx
    go_enter Tryz.func13, Tryz.ntmps13
    go_wp2_with fail
    rw [← hW]
    clear hW
    refine (hC.out _ hgW).mono ?_
    rintro e w1 ⟨rfl, g1⟩
    have g01 := hgW.trans g1
    go_wp2
    go_ret
    exact ⟨by simp, g01⟩

set_option maxRecDepth 100000 in
set_option maxHeartbeats 8000000 in
theorem fate_yes {S : Nat → Prop} {h b p cb cp lim : Nat} {L : List HEnt} {PL : List PEnt} (la : Option Addr) (ln lc : Nat) (lbs : List Lab) (T : Int) (V : Nat) (w : World) (hH : HS S w h b p L cb PL cp lim) (hl : RE elLb w la ln lbs) (hlc : ln ≤ lc ∧ lc ≤ 9223372036854775807) (hck : chkL lbs = 0) (hT : okT T) :
    Calls Tryz.prog 13 #[.pointer (some ⟨h, 0, none⟩), .agg #[.slice la ln lc, .int .i64 T, .int .u64 (V : Int)]] w fun e w' => e = .returned (.int .i64 (fateO lim L.length (lastL L lbs) T V)) ∧ Grew w w' := by
  have hC := fun w' (hg : Grew w w') => chk_any la ln lc lbs w' (hl.grew hg) (by omega)
  rw [hck] at hC
  obtain ⟨hz1, hz2⟩ := chkL_sizes hck
  have hln := hl.1
  have hEn := fun w' (hg : Grew w w') => encL_any la ln lc lbs w' (hl.grew hg) (by omega) (fun l hx => by have := hz2 l hx; omega)
  obtain ⟨W, hW⟩ : ∃ W, W = w.alloc (.cells #[.slice la ln lc, .int .i64 T, .int .u64 (V : Int)] 31) := ⟨_, rfl⟩
  have hgW : Grew w W := by rw [hW]; exact (Chg.refl _ w).alloc _
  have hbx : Blk W w.heap.size 31 #[.slice la ln lc, .int .i64 T, .int .u64 (V : Int)] := by rw [hW]; exact Blk.new w _ _
  have x0 := hbx.cell 0
  have hx := fun w' (g : Grew W w') => hbx.grew g
  have hHw := fun w' (g : Grew w w') => hH.grew g
  have e1 : decide (T < -1099511627776) = false := decide_eq_false (by unfold okT at hT; omega)
  have e2 : decide ((1099511627776 : Int) < T) = false := decide_eq_false (by unfold okT at hT; omega)
  have hcv := fun w' (A : Option Addr) (n c : Nat) (hr : RB w' A n (encL lbs)) => run_conv_RB (P := Tryz.prog) (c := c) Tryz.underlying73 Tryz.underlying5 Tryz.underlying9 hr
  have hcs : ∀ w', Grew w w' → Grew W w' → CellsIn [h, w.heap.size] w' := fun w' g1 g2 => cellsIn_cons (hHw w' g1).hd.ex (cellsIn_cons (hx w' g2).ex (cellsIn_nil _))
  have hsm : ∀ w1 w2, Grew w w1 → Grew W w1 → Grew w1 w2 → SameIn [h, w.heap.size] w1 w2 := fun w1 w2 g1 g2 g3 => sameIn_of g3 (hcs w1 g1 g2) fun _ _ e => e
  have hhl := hH.hd.lt
  have hlen := hH.len
  have hml := hH.ml
  replace hC := Lib.hid hC
  replace hEn := Lib.hid hEn
  replace hx := Lib.hid hx
  replace hHw := Lib.hid hHw
  replace hcv := Lib.hid hcv
  replace hcs := Lib.hid hcs
  replace hsm := Lib.hid hsm
  replace hln := Lib.hid hln
  obtain ⟨N, hN⟩ : ∃ N, L.length = N := ⟨_, rfl⟩
  rw [hN] at hlen ⊢
  have hsz : (L.map HEnt.ent).toArray.size = N := by simp [hN]
  cases hE : entL L lbs with
  | none =>
    have hno := entL_none hE
    have hask := fun w' (g : Grew w w') => (hHw.out w' g).tb.askN (s := encK lbs) fun e he e1 => hno e he ((key_lbs ((hH.tb.ok e he).chk) hck).1 (by rw [← (hH.tb.ok e he).key]; exact e1))
    replace hask := Lib.hid hask
    have hlast : lastL L lbs = none := by unfold lastL; rw [hE]; rfl
    rw [hlast]
    clear hno hE hlast hbx hH hz1 hz2
    obtain ⟨fz, hfz⟩ : ∃ fz, fateO lim N none T V = fz := ⟨_, rfl⟩
    rw [hfz]
    go_enter Tryz.func13, Tryz.ntmps13
    go_wp2_with fail
    rw [← hW]
    clear hW
    refine (hC.out _ hgW).mono ?_
    rintro e w1 ⟨rfl, g1⟩
    have g01 := hgW.trans g1
    have y1 := (hx.out _ g1).cell 1
    have y0 := (hx.out _ g1).cell 0
    have hk1 := hHw.out _ g01
    have k0 := hk1.hd.cell 0
    go_wp2_with fail
    refine wp_region_textS [(3, 1), (2, 1)] [h, w.heap.size] (by kernel_rfl) (by kernel_rfl) (hcs.out _ g01 g1) ?_
    simp only [wpU, tagOf, chk, look, Nat.reduceBEq, List.nil_append, List.cons_append]
    intro K hK
    go_wp2_with fail
    refine OnlyN.normal (hK _ _ (fun _ => ⟨_, _, _, rfl, rfl, by simp⟩) ?_)
    clear hK K
    intro K hK
    go_wp2_with fail
    refine OnlyN.normal (hK _ _ (fun _ => ⟨_, _, _, rfl, rfl, by simp⟩) ?_)
    clear hK K
    intro K hK
    go_wp2_with fail
    refine (hEn.out _ g01.drew).mono ?_
    rintro e w2 ⟨B, d, rfl, h2, g2⟩
    have g02 := g01.drew.trans g2
    have g12 : Grew w1 w2 := (Chg.refl _ w1).drew.trans g2
    have gW2 := g1.trans g12
    have hc1 := hcv.out w2 B _ d h2.rb
    have hl1 := hask.out w2 g02
    rw [show encK lbs = ⟨(encL lbs).toArray⟩ from rfl] at hl1
    go_wp2_with fail
    refine OnlyN.normal (hK _ _ (hsm.out _ _ g01 g1 g12) ?_)
    clear hK K
    intro K hK
    go_wp2_with fail
    refine OnlyN.normal (hK _ _ (hsm.out _ _ g01 g1 g12) ?_)
    clear hK K
    intro K hK
    go_wp2_with fail
    refine OnlyN.normal (hK _ _ (hsm.out _ _ g01 g1 g12) ?_)
    clear hK K
    go_wp2_with fail
    refine OnlyN.normal ?_
    go_wp2_with fail
    have hk2 := hHw.out _ g02
    have m0 := hk2.hd.cell 0
    have m2 := hk2.hd.cell 2
    have hmb := run_lenM (P := Tryz.prog) (ty := 3) Tryz.underlying42 (hk2.tb.grew (Chg.refl _ w2).drew).mb
    rw [hsz] at hmb
    by_cases hlm : lim ≤ N
    · have hf5 : fz = 5 := by rw [← hfz]; unfold fateO; rw [if_pos hlm]
      have e4 : decide ((lim : Int) ≤ (N : Int)) = true := decide_eq_true (by omega)
      subst hf5
      clear hfz
      refine wp_region_textS [(3, 1), (42, 9)] [h, w.heap.size] (by kernel_rfl) (by kernel_rfl) (hcs.out _ g02 gW2) ?_
      simp only [wpU, tagOf, chk, look, Nat.reduceBEq, Bool.false_eq_true, if_true, if_false, Nat.reduceEqDiff, List.nil_append, List.cons_append, List.getElem?_toArray, List.getElem?_cons_zero]
      intro K hK
      go_wp2_with fail
      refine OnlyN.normal (hK _ _ (hsm.out _ _ g02 gW2 (Chg.refl _ w2).drew) ?_)
      clear hK K
      intro K hK
      go_wp2_with fail
      refine OnlyN.normal (hK _ _ (fun _ => ⟨_, _, _, rfl, rfl, by simp⟩) ?_)
      clear hK K
      intro K hK
      go_wp2_with fail
      refine OnlyN.normal (hK _ _ (hsm.out _ _ g02 gW2 (Chg.refl _ w2).drew) ?_)
      clear hK K
      intro K hK
      go_wp2_with fail
      refine OnlyN.normal (hK _ _ (fun _ => ⟨_, _, _, rfl, rfl, by simp⟩) ?_)
      clear hK K
      go_wp2_with fail
      refine OnlyN.normal ?_
      go_wp2
      go_ret
      exact ⟨by simp, g02.drew⟩
    · have hf1 : fz = 1 := by rw [← hfz]; unfold fateO; rw [if_neg hlm]
      have e4 : decide ((lim : Int) ≤ (N : Int)) = false := decide_eq_false (by omega)
      subst hf1
      clear hfz
      refine wp_region_textS [(3, 1), (42, 9)] [h, w.heap.size] (by kernel_rfl) (by kernel_rfl) (hcs.out _ g02 gW2) ?_
      simp only [wpU, tagOf, chk, look, Nat.reduceBEq, Bool.false_eq_true, if_true, if_false, Nat.reduceEqDiff, List.nil_append, List.cons_append, List.getElem?_toArray, List.getElem?_cons_zero]
      intro K hK
      go_wp2_with fail
      refine OnlyN.normal (hK _ _ (hsm.out _ _ g02 gW2 (Chg.refl _ w2).drew) ?_)
      clear hK K
      intro K hK
      go_wp2_with fail
      refine OnlyN.normal (hK _ _ (fun _ => ⟨_, _, _, rfl, rfl, by simp⟩) ?_)
      clear hK K
      intro K hK
      go_wp2_with fail
      refine OnlyN.normal (hK _ _ (hsm.out _ _ g02 gW2 (Chg.refl _ w2).drew) ?_)
      clear hK K
      intro K hK
      go_wp2_with fail
      refine OnlyN.normal (hK _ _ (fun _ => ⟨_, _, _, rfl, rfl, by simp⟩) ?_)
      clear hK K
      go_wp2_with fail
      refine OnlyN.normal ?_
      go_wp2_with fail
      refine wp_region_textS [(2, 1)] [h, w.heap.size] (by kernel_rfl) (by kernel_rfl) (hcs.out _ g02.drew gW2.drew) ?_
      simp only [wpU, tagOf, chk, look, Nat.reduceBEq, if_true, if_false, Nat.reduceEqDiff, List.nil_append, List.cons_append]
      intro K hK
      go_wp2_with fail
      refine OnlyN.normal (hK _ _ (hsm.out _ _ g02.drew gW2.drew (Chg.refl _ w2.drew).drew) ?_)
      clear hK K
      intro K hK
      go_wp2_with fail
      refine OnlyN.normal (hK _ _ (fun hw => by cases (show false = true from hw)) ?_)
      clear hK K
      intro K hK
      go_wp2_with fail
      refine OnlyN.normal (hK _ _ (hsm.out _ _ g02.drew gW2.drew (Chg.refl _ w2.drew).drew) ?_)
      clear hK K
      go_wp2_with fail
      all_goals try exact (absU (by assumption)).elim
      refine OnlyN.normal ?_
      go_wp2
      go_ret
      exact ⟨by simp, g02.drew.drew⟩
  | some e =>
    obtain ⟨he, hel⟩ := entL_some hE
    have hoe := hH.tb.ok e he
    obtain ⟨q, hq1, hq2⟩ := last_at hoe.non
    have hptl := hoe.pt.len (by decide)
    have hpc0 := OwT.cap hoe.pt
    have hpn : 0 < e.m.pn := by
      rw [← hptl]
      exact List.length_pos_iff.2 hoe.non
    have hpc : e.m.pn ≤ 9223372036854775807 := by omega
    rw [hptl] at hq2
    have hkey : e.key = encK lbs := by rw [hoe.key, hel]
    have hask := fun w' (g : Grew w w') => (hHw.out w' g).tb.askS he
    rw [hkey] at hask
    replace hask := Lib.hid hask
    have hlast : lastL L lbs = some q := by unfold lastL; rw [hE]; exact hq1
    rw [hlast]
    replace he := Lib.hid he
    clear hE hlast hbx hH hz1 hz2 hoe hq1 hkey hel hptl hpc0
    obtain ⟨fz, hfz⟩ : ∃ fz, fateO lim N (some q) T V = fz := ⟨_, rfl⟩
    rw [hfz]
    go_enter Tryz.func13, Tryz.ntmps13
    go_wp2_with fail
    rw [← hW]
    clear hW
    refine (hC.out _ hgW).mono ?_
    rintro e w1 ⟨rfl, g1⟩
    have g01 := hgW.trans g1
    have y1 := (hx.out _ g1).cell 1
    have y0 := (hx.out _ g1).cell 0
    have hk1 := hHw.out _ g01
    have k0 := hk1.hd.cell 0
    go_wp2_with fail
    refine wp_region_textS [(3, 1), (2, 1)] [h, w.heap.size] (by kernel_rfl) (by kernel_rfl) (hcs.out _ g01 g1) ?_
    simp only [wpU, tagOf, chk, look, Nat.reduceBEq, List.nil_append, List.cons_append]
    intro K hK
    go_wp2_with fail
    refine OnlyN.normal (hK _ _ (fun _ => ⟨_, _, _, rfl, rfl, by simp⟩) ?_)
    clear hK K
    intro K hK
    go_wp2_with fail
    refine OnlyN.normal (hK _ _ (fun _ => ⟨_, _, _, rfl, rfl, by simp⟩) ?_)
    clear hK K
    intro K hK
    go_wp2_with fail
    refine (hEn.out _ g01.drew).mono ?_
    rintro e w2 ⟨B, d, rfl, h2, g2⟩
    have g02 := g01.drew.trans g2
    have g12 : Grew w1 w2 := (Chg.refl _ w1).drew.trans g2
    have gW2 := g1.trans g12
    have hc1 := hcv.out w2 B _ d h2.rb
    have hl1 := hask.out w2 g02
    rw [show encK lbs = ⟨(encL lbs).toArray⟩ from rfl] at hl1
    go_wp2_with fail
    refine OnlyN.normal (hK _ _ (hsm.out _ _ g01 g1 g12) ?_)
    clear hK K
    intro K hK
    go_wp2_with fail
    refine OnlyN.normal (hK _ _ (hsm.out _ _ g01 g1 g12) ?_)
    clear hK K
    intro K hK
    go_wp2_with fail
    refine OnlyN.normal (hK _ _ (hsm.out _ _ g01 g1 g12) ?_)
    clear hK K
    go_wp2_with fail
    refine OnlyN.normal ?_
    go_wp2_with fail
    have hk2 := hHw.out _ g02
    have m0 := hk2.hd.cell 0
    have m2 := hk2.hd.cell 2
    have hmb := run_lenM (P := Tryz.prog) (ty := 3) Tryz.underlying42 (hk2.tb.grew (Chg.refl _ w2).drew).mb
    rw [hsz] at hmb
    have hlst := fun w' (g : Grew w w') => last_any e.g e.m.la e.m.pa e.m.ln e.m.lc e.m.pn e.m.pc e.s.pts q w' ((hHw.out w' g).tb.ok e he.out).blk (((hHw.out w' g).tb.ok e he.out).pt.re (by decide)) hpn hpc hq2
    replace hlst := Lib.hid hlst
    have hf0 : ∀ w : World, (Instr.field 69 (.agg #[.int .i64 q.1, .int .u64 (q.2 : Int)]) 0).run Tryz.prog w = .ok (.int .i64 q.1) w := fun _ => by kernel_rfl
    have hf1 : ∀ w : World, (Instr.field 69 (.agg #[.int .i64 q.1, .int .u64 (q.2 : Int)]) 1).run Tryz.prog w = .ok (.int .u64 q.2) w := fun _ => by kernel_rfl
    replace hf0 := Lib.hid hf0
    replace hf1 := Lib.hid hf1
    refine wp_region_textS [(3, 1), (42, 9)] [h, w.heap.size] (by kernel_rfl) (by kernel_rfl) (hcs.out _ g02 gW2) ?_
    simp only [wpU, tagOf, chk, look, Nat.reduceBEq, Bool.false_eq_true, if_true, if_false, Nat.reduceEqDiff, List.nil_append, List.cons_append, List.getElem?_toArray, List.getElem?_cons_zero]
    intro K hK
    go_wp2_with fail
    refine OnlyN.normal (hK _ _ (hsm.out _ _ g02 gW2 (Chg.refl _ w2).drew) ?_)
    clear hK K
    intro K hK
    go_wp2_with fail
    refine OnlyN.normal (hK _ _ (fun hw => by cases (show false = true from hw)) ?_)
    clear hK K
    intro K hK
    go_wp2_with fail
    refine OnlyN.normal (hK _ _ (hsm.out _ _ g02 gW2 (Chg.refl _ w2).drew) ?_)
    clear hK K
    intro K hK
    go_wp2_with fail
    refine OnlyN.normal (hK _ _ (fun hw => by cases (show false = true from hw)) ?_)
    clear hK K
    go_wp2_with fail
    all_goals try exact (absU (by assumption)).elim
    refine OnlyN.normal ?_
    have g03 := g02.drew
    have gW3 := gW2.drew
    have y3 := (hx.out _ gW3).cell 1
    go_wp2_with fail
    refine wp_region_textS [(2, 1)] [h, w.heap.size] (by kernel_rfl) (by kernel_rfl) (hcs.out _ g03 gW3) ?_
    simp only [wpU, tagOf, chk, look, Nat.reduceBEq, Bool.false_eq_true, if_true, if_false, Nat.reduceEqDiff, List.nil_append, List.cons_append]
    intro K hK
    go_wp2_with fail
    refine OnlyN.normal (hK _ _ (hsm.out _ _ g03 gW3 (Chg.refl _ w2.drew).drew) ?_)
    clear hK K
    intro K hK
    go_wp2_with fail
    refine OnlyN.normal (hK _ _ (fun _ => ⟨_, _, _, rfl, rfl, by simp⟩) ?_)
    clear hK K
    intro K hK
    go_wp2_with fail
    refine (hlst.out _ g03.drew).mono ?_
    rintro e4 w4 ⟨rfl, g4⟩
    have g04 := g03.drew.trans g4
    have gW4 := gW3.drew.trans g4
    have hf0' := hf0.out w4
    go_wp2_with fail
    refine OnlyN.normal (hK _ _ (hsm.out _ _ g03 gW3 ((Chg.refl _ w2.drew).drew.trans g4)) ?_)
    clear hK K
    by_cases h1 : q.1 < T
    · have hf1 : fz = 1 := by rw [← hfz]; unfold fateO; dsimp only; rw [if_pos h1]
      have e4 : decide (q.1 < T) = true := decide_eq_true h1
      subst hf1
      clear hfz h1
      go_wp2_with fail
      refine OnlyN.normal ?_
      go_wp2
      go_ret
      exact ⟨by simp, g04⟩
    have e4 : decide (q.1 < T) = false := decide_eq_false h1
    have y4 := (hx.out _ gW4).cell 1
    go_wp2_with fail
    refine OnlyN.normal ?_
    go_wp2_with fail
    refine wp_region_textS [(2, 1)] [h, w.heap.size] (by kernel_rfl) (by kernel_rfl) (hcs.out _ g04 gW4) ?_
    simp only [wpU, tagOf, chk, look, Nat.reduceBEq, if_true, if_false, Nat.reduceEqDiff, List.nil_append, List.cons_append]
    intro K hK
    go_wp2_with fail
    refine OnlyN.normal (hK _ _ (fun _ => ⟨_, _, _, rfl, rfl, by simp⟩) ?_)
    clear hK K
    intro K hK
    go_wp2_with fail
    refine (hlst.out _ g04.drew).mono ?_
    rintro e5 w5 ⟨rfl, g5⟩
    have g05 := g04.drew.trans g5
    have gW5 := gW4.drew.trans g5
    have hf0' := hf0.out w5
    go_wp2_with fail
    refine OnlyN.normal (hK _ _ (hsm.out _ _ g04 gW4 ((Chg.refl _ w4).drew.trans g5)) ?_)
    clear hK K
    by_cases h2 : T < q.1
    · have hf1 : fz = 3 := by rw [← hfz]; unfold fateO; dsimp only; rw [if_neg (by omega : ¬ q.1 < T), if_pos h2]
      have e5 : decide (T < q.1) = true := decide_eq_true h2
      subst hf1
      clear hfz h1 h2
      go_wp2_with fail
      refine OnlyN.normal ?_
      go_wp2
      go_ret
      exact ⟨by simp, g05⟩
    have e5 : decide (T < q.1) = false := decide_eq_false h2
    have y5 := (hx.out _ gW5).cell 2
    go_wp2_with fail
    refine OnlyN.normal ?_
    go_wp2_with fail
    refine wp_region_textS [(29, 1)] [h, w.heap.size] (by kernel_rfl) (by kernel_rfl) (hcs.out _ g05 gW5) ?_
    simp only [wpU, tagOf, chk, look, Nat.reduceBEq, if_true, if_false, Nat.reduceEqDiff, List.nil_append, List.cons_append]
    intro K hK
    go_wp2_with fail
    refine OnlyN.normal (hK _ _ (fun _ => ⟨_, _, _, rfl, rfl, by simp⟩) ?_)
    clear hK K
    intro K hK
    go_wp2_with fail
    refine (hlst.out _ g05.drew).mono ?_
    rintro e6 w6 ⟨rfl, g6⟩
    have g06 := g05.drew.trans g6
    have hf1' := hf1.out w6
    go_wp2_with fail
    refine OnlyN.normal (hK _ _ (hsm.out _ _ g05 gW5 ((Chg.refl _ w5).drew.trans g6)) ?_)
    clear hK K
    by_cases h3 : V = q.2
    · have hf1 : fz = 2 := by rw [← hfz]; unfold fateO; dsimp only; rw [if_neg (by omega : ¬ q.1 < T), if_neg (by omega : ¬ T < q.1), if_pos h3]
      have e6 : ((V : Int) == (q.2 : Int)) = true := by simp; omega
      subst hf1
      clear hfz h1 h2 h3
      go_wp2_with fail
      refine OnlyN.normal ?_
      go_wp2
      go_ret
      exact ⟨by simp, g06⟩
    · have hf1 : fz = 4 := by rw [← hfz]; unfold fateO; dsimp only; rw [if_neg (by omega : ¬ q.1 < T), if_neg (by omega : ¬ T < q.1), if_neg h3]
      have e6 : ((V : Int) == (q.2 : Int)) = false := by simp; omega
      subst hf1
      clear hfz h1 h2 h3
      go_wp2_with fail
      refine OnlyN.normal ?_
      go_wp2
      go_ret
      exact ⟨by simp, g06⟩
end Go.Proofs.YtailooldnelecaaGreatDoor
