/-
  Several texts in one:
  What would become of a sample in the document's head. Conditions: lengths that memory bears.
  The document's Add: a sample that may not be, a point for a series that is there. Conditions: lengths that memory bears.
-/
import Derived.Test.YtailooldnelecaaGreatDoorPart41
import Derived.Test.YtailooldnelecaaGreatDoorPart33

namespace Go.Proofs.YtailooldnelecaaGreatDoor
open Go.RowKit

set_option maxRecDepth 100000 in
set_option maxHeartbeats 4000000 in
theorem fate8_no (h : Nat) (la : Option Addr) (ln lc : Nat) (lbs : List Lab) (T : Int) (V : Nat) (w : World) (hl : RE elLb w la ln lbs) (hlc : ln ≤ lc ∧ lc ≤ 9223372036854775807) (hno : ¬ (chkL lbs = 0 ∧ okT T)) :
    Calls Tryz.prog 14 #[.pointer (some ⟨h, 0, none⟩), .agg #[.slice la ln lc, .int .i64 T, .int .u64 (V : Int)]] w fun e w' => e = .returned (.int .i64 3) ∧ Grew w w' := by
  have hC := fun w' (hg : Grew w w') => chk3_any la ln lc lbs w' (hl.grew hg) (by omega)
  obtain ⟨W, hW⟩ : ∃ W, W = w.alloc (.cells #[.slice la ln lc, .int .i64 T, .int .u64 (V : Int)] 31) := ⟨_, rfl⟩
  have hgW : Grew w W := by rw [hW]; exact (Chg.refl _ w).alloc _
  have hbx : Blk W w.heap.size 31 #[.slice la ln lc, .int .i64 T, .int .u64 (V : Int)] := by rw [hW]; exact Blk.new w _ _
  have x0 := hbx.cell 0
  have hx1 := fun w' (g : Grew W w') => (hbx.grew g).cell 1
  replace hC := Lib.hid hC
  replace hx1 := Lib.hid hx1
  unfold okT at hno
  generalize chkL lbs = ck at *
  by_cases hck : ck = 0
  · subst hck
    by_cases h1 : T < -1099511627776
    · have e1 : decide (T < -1099511627776) = true := decide_eq_true h1
      clear hno hbx
      go_enter Tryz.func14, Tryz.ntmps14
      go_wp2_with fail
      rw [← hW]
      clear hW
      refine (hC.out _ hgW).mono ?_
      rintro e w1 ⟨rfl, g1⟩
      have g01 := hgW.trans g1
      have y1 := hx1.out _ g1
      go_wp2
      go_ret
      exact ⟨by simp, g01⟩
    · have e1 : decide (T < -1099511627776) = false := decide_eq_false h1
      have e2 : decide ((1099511627776 : Int) < T) = true := decide_eq_true (by
        by_cases h2 : T ≤ 1099511627776
        · exact absurd ⟨rfl, by omega, h2⟩ hno
        · omega)
      clear hno hbx
      go_enter Tryz.func14, Tryz.ntmps14
      go_wp2_with fail
      rw [← hW]
      clear hW
      refine (hC.out _ hgW).mono ?_
      rintro e w1 ⟨rfl, g1⟩
      have g01 := hgW.trans g1
      have y1 := hx1.out _ g1
      go_wp2
      go_ret
      exact ⟨by simp, g01⟩
  · have e1 : ((ck : Int) != 0) = true := by simp; omega
    clear hno hbx
    go_enter Tryz.func14, Tryz.ntmps14
    go_wp2_with fail
    rw [← hW]
    clear hW
    refine (hC.out _ hgW).mono ?_
    rintro e w1 ⟨rfl, g1⟩
    have g01 := hgW.trans g1
    go_wp2
    go_ret
    exact ⟨by simp, g01⟩
theorem lastS_pos {W : List Ser} (h : SortS W) (lbs : List Lab) : lastS W lbs = if hasS W lbs = true then (W[posS W lbs]?).bind (fun s => s.pts.getLast?) else none := by
  unfold lastS
  rw [find_pos h]
  split <;> rfl

set_option maxRecDepth 100000 in
set_option maxHeartbeats 8000000 in
theorem fate8_yes {R : Nat → Prop} {wb lim : Nat} {W : List Ser} (la : Option Addr) (ln lc : Nat) (lbs : List Lab) (T : Int) (V : Nat) (w : World) (hD : RD R w wb lim W) (hso : SortS W) (hne : ∀ s ∈ W, s.pts ≠ []) (hl : RE elLb w la ln lbs) (hlc : ln ≤ lc ∧ lc ≤ 9223372036854775807) (hck : chkL lbs = 0) (hT : okT T) :
    Calls Tryz.prog 14 #[.pointer (some ⟨wb, 0, none⟩), .agg #[.slice la ln lc, .int .i64 T, .int .u64 (V : Int)]] w fun e w' => e = .returned (.int .i64 (fateO lim W.length (lastS W lbs) T V)) ∧ Grew w w' := by
  have hC := fun w' (hg : Grew w w') => chk3_any la ln lc lbs w' (hl.grew hg) (by omega)
  rw [hck] at hC
  have hFi := fun w' (hg : Grew w w') => find8_any la ln lc lbs (hD.grew hg) (hl.grew hg) (by omega)
  have hlast := Lib.hid (lastS_pos hso lbs)
  obtain ⟨A, n, c, ms, hR⟩ := hD
  have hwl := hR.ln
  have hb := Lib.hid fun w' (g : Grew w w') => (hR.hd.grew g).cell 1
  have hb0 := Lib.hid fun w' (g : Grew w w') => (hR.hd.grew g).cell 0
  have hrs := hR.rs
  have hcap := hR.row.cap
  obtain ⟨X, hX⟩ : ∃ X, X = w.alloc (.cells #[.slice la ln lc, .int .i64 T, .int .u64 (V : Int)] 31) := ⟨_, rfl⟩
  have hgX : Grew w X := by rw [hX]; exact (Chg.refl _ w).alloc _
  have hbx : Blk X w.heap.size 31 #[.slice la ln lc, .int .i64 T, .int .u64 (V : Int)] := by rw [hX]; exact Blk.new w _ _
  have hx := Lib.hid fun w' (g : Grew X w') => hbx.grew g
  have x0 := hbx.cell 0
  obtain ⟨hT1, hT2⟩ := hT
  have e1 : decide (T < -1099511627776) = false := decide_eq_false (by omega)
  have e2 : decide ((1099511627776 : Int) < T) = false := decide_eq_false (by omega)
  have hatp : ∀ s, W[posS W lbs]? = some s → hasS W lbs = decide (s.lbs = lbs) := fun s h => by unfold hasS; rw [h]
  have hple := posS_le W lbs
  have hhas : hasS W lbs = true → posS W lbs < n := fun h => by
    by_cases h1 : posS W lbs < n
    · exact h1
    · unfold hasS at h
      rw [List.getElem?_eq_none (by omega)] at h
      cases h
  clear hR hl hck hbx
  generalize hasS W lbs = b at *
  generalize hpos : posS W lbs = p at *
  replace hC := Lib.hid hC
  replace hFi := Lib.hid hFi
  replace hhas := Lib.hid hhas
  replace hatp := Lib.hid hatp
  replace hwl := Lib.hid hwl
  clear hpos
  go_enter Tryz.func14, Tryz.ntmps14
  go_wp2_with fail
  rw [← hX]
  clear hX
  refine (hC.out _ hgX).mono ?_
  rintro e w1 ⟨rfl, g1⟩
  have g01 := hgX.trans g1
  have y0 := (hx.out _ g1).cell 0
  have y1 := (hx.out _ g1).cell 1
  clear x0 hC
  go_wp2_with fail
  refine (hFi.out _ g01).mono ?_
  rintro e w2 ⟨rfl, g2⟩
  have g02 := g01.trans g2
  have gX2 := g1.trans g2
  clear y0 y1 hFi e1 e2
  cases b
  · have c0 := hb0.out _ g02
    have c1 := hb.out _ g02
    have hl1 := hlast.out
    rw [if_neg (by simp)] at hl1
    replace hl1 := Lib.hid hl1
    clear hlast hhas hatp
    go_wp2_with fail
    refine wp_region_text [(3, 1)] (by kernel_rfl) (by kernel_rfl) ?_
    simp only [instr, chk, look, Nat.reduceBEq, if_true, if_false, Nat.reduceEqDiff, List.cons_append, List.nil_append]
    by_cases hlim : lim ≤ n
    · have e3 : decide ((lim : Int) ≤ (n : Int)) = true := decide_eq_true (by omega)
      go_wp2_with fail
      refine OnlyN.normal ?_
      go_wp2
      go_ret
      exact ⟨by rw [hl1.out, hwl.out]; unfold fateO; simp [hlim], g02.drew⟩
    · have e3 : decide ((lim : Int) ≤ (n : Int)) = false := decide_eq_false (by omega)
      go_wp2_with fail
      refine OnlyN.normal ?_
      go_wp2
      go_ret
      exact ⟨by rw [hl1.out, hwl.out]; unfold fateO; simp [hlim], g02.drew⟩
  · have hp := hhas.out rfl
    obtain ⟨ad, ⟨ma, mn, mc, pa, pn, pc⟩, s, rfl, hxs, hsi, _, z1⟩ := hrs.at_ hp
    dsimp only at z1
    obtain ⟨q, hq1, hq2⟩ := last_at (hne s (List.mem_of_getElem? hxs))
    have hpl := hsi.pt.1
    have hpc := hsi.pc
    have hpr := hsi.pt
    dsimp only at hpl hpc hpr
    have hpn : 0 < pn := by
      rw [← hpl]
      exact List.length_pos_iff.2 (hne s (List.mem_of_getElem? hxs))
    obtain ⟨pd, q', rfl, hq3, p0, p1⟩ := hpr.pt (show pn - 1 < pn by omega)
    rw [hpl, hq3] at hq2
    obtain rfl := Option.some.inj hq2
    have hl1 := hlast.out
    rw [if_pos rfl, hxs] at hl1
    replace hl1 : lastS W lbs = some q' := hl1.trans hq1
    replace hl1 := Lib.hid hl1
    have c1 := hb.out _ g02
    have z2 := Chg.cell g02 z1 (fun e => e)
    have p2 := Chg.cell g02 p0 (fun e => e)
    have p3 := Chg.cell g02 p1 (fun e => e)
    have hx2 := hx.out _ gX2
    clear hlast hhas hatp z1 p0 p1 hq1 hq3 hxs hsi hpr hrs
    have hcs : CellsIn [wb, ad.block, pd.block] w2 := by
      have := cellsIn_cons (ex_cell c1) (cellsIn_cons (ex_cell z2) (cellsIn_cons (ex_cell p2) (cellsIn_nil w2)))
      simpa [block_add] using this
    have hsm := Lib.hid fun (Y : World) (g : Grew w2 Y) => sameIn_of g hcs fun _ _ e => e
    go_wp2_with fail
    refine wp_region_textS [(3, 1)] [wb, ad.block, pd.block] (by kernel_rfl) (by kernel_rfl) hcs ?_
    simp only [wpU, tagOf, chk, look, Nat.reduceBEq, Bool.false_eq_true, if_true, if_false, Nat.reduceEqDiff, List.nil_append, List.cons_append, List.getElem?_toArray, List.getElem?_cons_zero]
    intro K hK
    go_wp2_with fail
    refine OnlyN.normal (hK _ _ (fun _ => ⟨_, _, _, rfl, rfl, by simp⟩) ?_)
    clear hK K
    intro K hK
    go_wp2_with fail
    refine OnlyN.normal (hK _ _ (fun _ => ⟨_, _, _, rfl, rfl, by simp [block_add]⟩) ?_)
    clear hK K
    intro K hK
    go_wp2_with fail
    refine OnlyN.normal (hK _ _ (fun _ => ⟨_, _, _, rfl, rfl, by simp⟩) ?_)
    clear hK K
    intro K hK
    go_wp2_with fail
    refine OnlyN.normal (hK _ _ (fun _ => ⟨_, _, _, rfl, rfl, by simp [block_add]⟩) ?_)
    clear hK K
    intro K hK
    go_wp2_with fail
    refine OnlyN.normal (hK _ _ (fun _ => ⟨_, _, _, rfl, rfl, by simp [block_add]⟩) ?_)
    clear hK K
    intro K hK
    go_wp2_with fail
    refine OnlyN.normal (hK _ _ (hsm.out _ ((Chg.refl _ w2).drew.alloc _)) ?_)
    clear hK K
    intro K hK
    go_wp2_with fail
    refine OnlyN.normal (hK _ _ (hsm.out _ ((Chg.refl _ w2).drew.alloc _)) ?_)
    clear hK K
    go_wp2_with fail
    refine OnlyN.normal ?_
    clear hcs hsm c1 z2 p2 p3
    have hxl := hx2.lt
    have y1 := hx2.cell 1
    have y2 := hx2.cell 2
    by_cases h1 : q'.1 < T
    · have e3 : decide (q'.1 < T) = true := decide_eq_true h1
      go_wp2
      go_ret
      exact ⟨by simp [hl1.out, fateO, h1], (g02.drew).alloc _⟩
    · have e3 : decide (q'.1 < T) = false := decide_eq_false h1
      by_cases h2 : T = q'.1
      · have e4 : (T == q'.1) = true := by simp [h2]
        by_cases h3 : V = q'.2
        · have e5 : ((V : Int) == (q'.2 : Int)) = true := by simp [h3]
          have hnl : ¬ T < q'.1 := by omega
          have hr : Hid (fateO lim W.length (lastS W lbs) T V = 2) := by
            show _ = _
            rw [hl1.out]
            unfold fateO
            simp only [if_neg h1, if_neg hnl]
            rw [if_pos h3]
          clear h2 h3
          go_wp2
          go_ret
          exact ⟨by show _ = Ending.returned (.int .i64 (fateO lim W.length (lastS W lbs) T V)); rw [hr.out]; simp, (g02.drew).alloc _⟩
        · have e5 : ((V : Int) == (q'.2 : Int)) = false := by simp only [beq_eq_false_iff_ne]; omega
          have hnl : ¬ T < q'.1 := by omega
          have hr : Hid (fateO lim W.length (lastS W lbs) T V = 4) := by
            show _ = _
            rw [hl1.out]
            unfold fateO
            simp only [if_neg h1, if_neg hnl]
            rw [if_neg h3]
          clear h2 h3
          go_wp2
          go_ret
          exact ⟨by show _ = Ending.returned (.int .i64 (fateO lim W.length (lastS W lbs) T V)); rw [hr.out]; simp, (g02.drew).alloc _⟩
      · have e4 : (T == q'.1) = false := by simp [h2]
        have hnl : T < q'.1 := by omega
        clear h2
        go_wp2
        go_ret
        exact ⟨by simp [hl1.out, fateO, h1, hnl], (g02.drew).alloc _⟩
theorem fate8_any {R : Nat → Prop} {wb lim : Nat} {W : List Ser} (la : Option Addr) (ln lc : Nat) (lbs : List Lab) (T : Int) (V : Nat) (w : World) (hD : RD R w wb lim W) (hso : SortS W) (hne : ∀ s ∈ W, s.pts ≠ []) (hl : RE elLb w la ln lbs) (hlc : ln ≤ lc ∧ lc ≤ 9223372036854775807) :
    Calls Tryz.prog 14 #[.pointer (some ⟨wb, 0, none⟩), .agg #[.slice la ln lc, .int .i64 T, .int .u64 (V : Int)]] w fun e w' => e = .returned (.int .i64 (fateS lim W lbs T V)) ∧ Grew w w' := by
  by_cases hc : chkL lbs = 0 ∧ okT T
  · have := fate8_yes la ln lc lbs T V w hD hso hne hl hlc hc.1 hc.2
    unfold fateS
    rw [if_pos hc]
    exact this
  · have := fate8_no wb la ln lc lbs T V w hl hlc hc
    unfold fateS
    rw [if_neg hc]
    exact this
end Go.Proofs.YtailooldnelecaaGreatDoor

namespace Go.Proofs.YtailooldnelecaaGreatDoor
open Go.RowKit

/-- the document's head after an Add: more blocks, if any, are new ones -/
def AddR (R : Nat → Prop) (w : World) (wb lim : Nat) (W : List Ser) (w' : World) : Prop := ∃ R' : Nat → Prop, RD R' w' wb lim W ∧ (∀ k, R k → R' k) ∧ (∀ k, R' k → R k ∨ w.heap.size ≤ k) ∧ Chg R w w'

set_option maxRecDepth 100000 in
set_option maxHeartbeats 4000000 in
theorem add8_no {R : Nat → Prop} {wb lim : Nat} {W : List Ser} (la : Option Addr) (ln lc : Nat) (lbs : List Lab) (T : Int) (V : Nat) (w : World) (hD : RD R w wb lim W) (hso : SortS W) (hne : ∀ s ∈ W, s.pts ≠ []) (hl : RE elLb w la ln lbs) (hlc : ln ≤ lc ∧ lc ≤ 9223372036854775807) (hf : fateS lim W lbs T V ≠ 1) :
    Calls Tryz.prog 12 #[.pointer (some ⟨wb, 0, none⟩), .agg #[.slice la ln lc, .int .i64 T, .int .u64 (V : Int)]] w fun e w' => e = .returned (.int .i64 (fateS lim W lbs T V)) ∧ Grew w w' := by
  obtain ⟨X, hX⟩ : ∃ X, X = w.alloc (.cells #[.slice la ln lc, .int .i64 T, .int .u64 (V : Int)] 31) := ⟨_, rfl⟩
  have hgX : Grew w X := by rw [hX]; exact (Chg.refl _ w).alloc _
  have hbx : Blk X w.heap.size 31 #[.slice la ln lc, .int .i64 T, .int .u64 (V : Int)] := by rw [hX]; exact Blk.new w _ _
  have x0 := hbx.cell 0
  have x1 := hbx.cell 1
  have x2 := hbx.cell 2
  have hF := fate8_any la ln lc lbs T V X (hD.grew hgX) hso hne (hl.grew hgX) hlc
  generalize fateS lim W lbs T V = f at *
  have e1 : (f != 1) = true := by simp [hf]
  clear hD hbx hl
  go_enter Tryz.func12, Tryz.ntmps12
  go_wp2_with fail
  rw [← hX]
  clear hX
  refine hF.mono ?_
  rintro e w1 ⟨rfl, g1⟩
  go_wp2
  go_ret
  exact ⟨by simp, hgX.trans g1⟩

theorem row_form {α : Type} {E : El α} {w : World} {b : Nat} {t : TypeId} {A : Option Addr} {n c : Nat} {l : List α} (h : OE E w b t A n c l) (hn : 0 < n) : ∃ g, A = some ⟨g, 0, none⟩ := by
  rcases h.2 with ⟨e, h3⟩ | ⟨g, cap, cur, e, _⟩
  · omega
  · injection e with e1 e2 e3
    exact ⟨g, e1⟩

theorem RH.elem {R : Nat → Prop} {w : World} {wb lim g n c : Nat} {ms : List SerM} {W : List Ser} (h : RH R w wb lim (some ⟨g, 0, none⟩) n c ms W) {k : Nat} {m : SerM} (hm : ms[k]? = some m) : w.cell? ⟨g, k * 2 + 1, none⟩ = some (.slice m.pa m.pn m.pc) ∧ ∀ j, w.frozen? ⟨g, j, none⟩ = false := by
  have hk := (List.getElem?_eq_some_iff.1 hm).1
  have hl : ms.length = n := h.row.len (by decide)
  obtain ⟨g', e, _, _, h1, h2, _⟩ := Own.at_ h.row (by omega)
  injection e with e
  injection e with e
  subst e
  refine ⟨?_, h2⟩
  rw [h1 (k * 2 + 1) (by show k * 2 + 1 < n * 2; omega)]
  exact elSr.flat_get ms hm (j := 1) (by decide)

set_option maxRecDepth 100000 in
set_option maxHeartbeats 8000000 in
theorem add8_old {R : Nat → Prop} {wb lim : Nat} {W : List Ser} (la : Option Addr) (ln lc : Nat) (lbs : List Lab) (T : Int) (V : Nat) (w : World) (hD : RD R w wb lim W) (hso : SortS W) (hne : ∀ s ∈ W, s.pts ≠ []) (hpl : ∀ s ∈ W, s.pts.length ≤ 2199023255553) (hl : RE elLb w la ln lbs) (hlc : ln ≤ lc ∧ lc ≤ 9223372036854775807) (hf : fateS lim W lbs T V = 1) (hh : hasS W lbs = true) :
    Calls Tryz.prog 12 #[.pointer (some ⟨wb, 0, none⟩), .agg #[.slice la ln lc, .int .i64 T, .int .u64 (V : Int)]] w fun e w' => e = .returned (.int .i64 1) ∧ AddR R w wb lim (insS W lbs (T, V)) w' := by
  obtain ⟨X, hX⟩ : ∃ X, X = w.alloc (.cells #[.slice la ln lc, .int .i64 T, .int .u64 (V : Int)] 31) := ⟨_, rfl⟩
  have hgX : Grew w X := by rw [hX]; exact (Chg.refl _ w).alloc _
  have hbx : Blk X w.heap.size 31 #[.slice la ln lc, .int .i64 T, .int .u64 (V : Int)] := by rw [hX]; exact Blk.new w _ _
  have x0 := hbx.cell 0
  have x1 := hbx.cell 1
  have x2 := hbx.cell 2
  have hF := fate8_any la ln lc lbs T V X (hD.grew hgX) hso hne (hl.grew hgX) hlc
  rw [hf] at hF
  have hFi := Lib.hid fun w' (hg : Grew w w') => find8_any la ln lc lbs (hD.grew hg) (hl.grew hg) (by omega)
  obtain ⟨s, hs1, hs2⟩ := hasS_at hh
  obtain ⟨A, n, c, ms, hR⟩ := hD
  have hwl := hR.ln
  have hpos : posS W lbs < n := by have := (List.getElem?_eq_some_iff.1 hs1).1; omega
  obtain ⟨g, rfl⟩ := row_form hR.row (by omega)
  obtain ⟨m, hm⟩ : ∃ m, ms[posS W lbs]? = some m := ⟨_, List.getElem?_eq_getElem (by rw [hR.len]; omega)⟩
  have hms := hR.el _ m s hm hs1
  have hsl := hpl s (List.mem_of_getElem? hs1)
  have hpn := hms.pt.len (by decide)
  have hins : insS W lbs (T, V) = W.set (posS W lbs) ⟨s.lbs, s.pts ++ [(T, V)]⟩ := by
    unfold insS
    rw [if_pos hh, hs1, hs2]
    rfl
  rw [hins]
  rw [hh] at hFi
  have hRg := Lib.hid fun w' (g' : Grew w w') => hR.grew g'
  have hcap := hR.row.cap
  replace hs1 := Lib.hid hs1
  replace hbx := Lib.hid hbx
  clear hf hso hne hh hl hins hpl
  generalize posS W lbs = p at *
  go_enter Tryz.func12, Tryz.ntmps12
  go_wp2_with fail
  rw [← hX]
  clear hX
  refine hF.mono ?_
  rintro e w1 ⟨rfl, g1⟩
  have g01 := hgX.trans g1
  have hxl := (hbx.out.grew g1).lt
  have y0 := Chg.cell g1 x0 (fun e => e)
  have y1 := Chg.cell g1 x1 (fun e => e)
  have y2 := Chg.cell g1 x2 (fun e => e)
  obtain ⟨Y, hY⟩ : ∃ Y, Y = w1.alloc (.cells #[.int .i64 T, .int .u64 (V : Int)] 69) := ⟨_, rfl⟩
  have gY : Grew w1 Y := by rw [hY]; exact (Chg.refl _ w1).alloc _
  have hbp : Blk Y w1.heap.size 69 #[.int .i64 T, .int .u64 (V : Int)] := by rw [hY]; exact Blk.new w1 _ _
  have g0Y := g01.trans gY
  have v0 := Chg.cell gY y0 (fun e => e)
  clear hF x0 x1 x2
  go_wp2_with fail
  rw [← hY]
  clear hY y0 y1 y2
  refine (hFi.out _ g0Y).mono ?_
  rintro e w2 ⟨rfl, g2⟩
  have g02 := g0Y.trans g2
  have hR2 := hRg.out _ g02
  have c1 := hR2.hd.cell 1
  obtain ⟨z1, hfz⟩ := hR2.elem hm
  have hbp2 := hbp.grew g2
  have q0 := hbp2.cell 0
  have q1 := hbp2.cell 1
  have hsz := g02.size
  have hrg := hRg.out _ (Chg.refl _ w)
  obtain ⟨curg, hbg, _⟩ := Own.block hR2.row _ rfl
  have hcs : CellsIn [wb, g, w1.heap.size] w2 := cellsIn_cons hR2.hd.ex (cellsIn_cons hbg.ex (cellsIn_cons hbp2.ex (cellsIn_nil w2)))
  have hpR : ∀ ad, m.pa = some ad → R ad.block := hrg.rp m (List.mem_of_getElem? hm)
  have hpt2 := (hR2.el p m s hm hs1.out).pt
  have hpbz := g01.size
  clear hFi v0 g1 g01 gY hbp
  generalize w1.heap.size = pb at *
  have hlt9 : ∀ ad, m.pa = some ad → ad.block < w.heap.size := fun ad e => hrg.lt _ (hpR ad e)
  have hpw : ¬ ∃ ad, m.pa = some ad ∧ wb = ad.block := fun ⟨ad, e1, e2⟩ => Own.ne_blk hpt2 hR2.hd (by decide) ad e1 e2.symm
  have hpg : ¬ ∃ ad, m.pa = some ad ∧ g = ad.block := fun ⟨ad, e1, e2⟩ => Own.ne_blk hpt2 hbg (by decide) ad e1 e2.symm
  have hpp : ¬ ∃ ad, m.pa = some ad ∧ pb = ad.block := fun ⟨ad, e1, e2⟩ => by have := hlt9 ad e1; omega
  replace hlt9 := Lib.hid hlt9
  replace hpw := Lib.hid hpw
  replace hpg := Lib.hid hpg
  replace hpp := Lib.hid hpp
  go_wp2_with fail
  refine wp_region_textL [(3, 1)] [wb, g, pb] (by kernel_rfl) (by kernel_rfl) hcs ?_
  simp only [wpUL, tagOf, chk, List.nil_append, List.cons_append]
  intro K hK
  go_wp2_with fail
  refine OnlyN.normal (hK _ _ (fun _ => ⟨_, _, _, rfl, rfl, by simp⟩) ?_)
  clear hK K
  intro K hK
  go_wp2_with fail
  refine OnlyN.normal (hK _ _ (fun _ => ⟨_, _, _, rfl, rfl, by simp⟩) ?_)
  clear hK K
  intro K hK
  go_wp2_with fail
  refine OnlyN.normal (hK _ _ (fun _ => ⟨_, _, _, rfl, rfl, by simp⟩) ?_)
  clear hK K
  intro K hK
  go_wp2_with fail
  refine OnlyN.normal (hK _ _ (fun _ => ⟨_, _, _, rfl, rfl, by simp⟩) ?_)
  clear hK K
  have g34 : Grew w2 (w2.alloc (.cells #[.int .i64 T, .int .u64 (V : Int)] 69)).drew := ((Chg.refl _ w2).alloc _).drew
  have hsrc : RE elPt (w2.alloc (.cells #[.int .i64 T, .int .u64 (V : Int)] 69)).drew (some ⟨w2.heap.size, 0, none⟩) 1 [(T, V)] := RE.newAt rfl rfl rfl
  have hrow := hpt2.grew g34
  intro K hK
  go_wp2_with fail
  refine OnlyN.normal (hK _ _ (sameIn_of g34 hcs (fun _ _ e => e)) ?_)
  clear hK K
  intro K hK
  go_wp2_with (at_builtin; refine wpList_appE rfl _ _ 59 69 infoPt rfl Tryz.underlying59 rfl 0 m.pa m.pn m.pc s.pts rfl hrow (Nat.zero_le _) _ 1 1 [(T, V)] rfl hsrc (by unfold maxLen; omega) (by omega) ?_; intro A4 c4 w4 h4)
  have hR3 := hR2.grew g34
  have hP := hR3.push rfl hm hs1.out h4
  have hch4 : Chg (fun k => ∃ ad, m.pa = some ad ∧ k = ad.block) w2 w4 := (Chg.of_grew g34).trans h4.chg
  refine OnlyN.normal (hK _ _ (sameIn_of hch4 hcs (by
    intro k hk
    simp only [List.mem_cons, List.not_mem_nil, or_false] at hk
    rcases hk with rfl | rfl | rfl
    · exact hpw.out
    · exact hpg.out
    · exact hpp.out)) ?_)
  clear hK K
  have hbg4 := hbg.chg hch4 hpg.out
  have k1 := hbg4.cell (p * 2 + 1)
  have f1 := hbg4.frozen (p * 2 + 1)
  have k2 : w4.cell? ⟨g, p * 2 + 1, none⟩ = some (.slice m.pa m.pn m.pc) := Chg.cell hch4 z1 hpg.out
  have g03 := g02.trans g34
  have hcw : Chg R w (w4.setCell ⟨g, p * 2 + 1, none⟩ (.slice A4 (m.pn + 1) c4)) := ((Chg.of_grew g03).step h4.chg fun k hk ⟨ad, e1, e2⟩ => e2 ▸ hpR ad e1).setCell (p := ⟨g, p * 2 + 1, none⟩) (.inr (show R g from hrg.rr ⟨g, 0, none⟩ rfl)) _
  have hz3 := g03.size
  replace hP := Lib.hid hP
  replace hcw := Lib.hid hcw
  clear h4 hrow hsrc hcs z1 c1 q0 q1 k1 hbg hbg4 hR2 hR3 hch4 hpt2 g34
  go_wp2_with fail
  refine OnlyN.normal ?_
  go_wp2
  go_ret
  exact ⟨by simp, _, ⟨_, _, _, _, hP.out⟩, fun k hk => .inl hk, fun k hk => hk.elim .inl fun h => .inr (by omega), hcw.out⟩
end Go.Proofs.YtailooldnelecaaGreatDoor
