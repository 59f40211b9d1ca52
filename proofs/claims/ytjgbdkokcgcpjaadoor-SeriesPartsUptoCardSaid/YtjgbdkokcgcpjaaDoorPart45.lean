/-
  Several texts in one:
  The law SeriesGreatest, walked. Conditions: lengths that memory bears; the longest text that the library takes is as it is set.
-/
import Derived.Test.YtjgbdkokcgcpjaaDoorPart42
import Derived.Test.YtjgbdkokcgcpjaaDoorPart44

namespace Go.Proofs.YtjgbdkokcgcpjaaDoor
open Go.RowKit

theorem two_of {oa ob : Option Nat} {v : Nat} (h : maxO oa ob = some v) : (oa = some v ∧ ob = none) ∨ (oa = none ∧ ob = some v) ∨ (∃ y, oa = some v ∧ ob = some y ∧ y ≤ v) ∨ ∃ x, oa = some x ∧ ob = some v ∧ x < v := by
  cases oa with
  | none =>
    cases ob with
    | none => cases h
    | some y => exact .inr (.inl ⟨rfl, h⟩)
  | some x =>
    cases ob with
    | none => exact .inl ⟨h, rfl⟩
    | some y =>
      have h1 : max x y = v := Option.some.inj h
      by_cases hxy : y ≤ x
      · exact .inr (.inr (.inl ⟨y, by rw [Nat.max_eq_left hxy] at h1; rw [h1], rfl, by omega⟩))
      · exact .inr (.inr (.inr ⟨x, rfl, by rw [Nat.max_eq_right (by omega)] at h1; rw [h1], by omega⟩))
theorem two_cases {oa ob : Option Nat} {v : Nat} (h : maxO oa ob = some v) : ∃ (x : Nat) (one : Bool) (y : Nat) (two : Bool), AtRes oa = .tuple #[.int .u64 (x : Int), .bool one] ∧ AtRes ob = .tuple #[.int .u64 (y : Int), .bool two] ∧
    ((one = true ∧ x = v ∧ two = false) ∨ (one = false ∧ two = true ∧ y = v) ∨ (one = true ∧ x = v ∧ two = true ∧ y ≤ v) ∨ (one = true ∧ x < v ∧ two = true ∧ y = v)) := by
  rcases two_of h with ⟨rfl, rfl⟩ | ⟨rfl, rfl⟩ | ⟨y, rfl, rfl, hy⟩ | ⟨x, rfl, rfl, hx⟩
  · exact ⟨v, true, 0, false, rfl, rfl, .inl ⟨rfl, rfl, rfl⟩⟩
  · exact ⟨0, false, v, true, rfl, rfl, .inr (.inl ⟨rfl, rfl, rfl⟩)⟩
  · exact ⟨v, true, y, true, rfl, rfl, .inr (.inr (.inl ⟨rfl, rfl, rfl, hy⟩))⟩
  · exact ⟨x, true, v, true, rfl, rfl, .inr (.inr (.inr ⟨rfl, hx, rfl, rfl⟩))⟩
theorem great_at {a b m : List Ser} (h : Mrg [a, b] m) {s : Ser} {p : Ptn} (hs : s ∈ m) (hp : p ∈ s.pts) : maxO (atV a s.lbs p.1) (atV b s.lbs p.1) = some p.2 := by
  have h1 := h.at_ s.lbs p.1
  simp only [maxL_cons, maxL_nil, maxO_none] at h1
  rw [← h1]
  exact (atV_some h.vs).2 ⟨s, hs, rfl, hp⟩
theorem great_in {a b m y : List Ser} (h : Mrg [a, b] m) (ha : Vs a) (hb : Vs b) (hy : y = a ∨ y = b) {s : Ser} {p : Ptn} (hs : s ∈ y) (hp : p ∈ s.pts) : ∃ v, atV m s.lbs p.1 = some v := by
  have h1 := h.at_ s.lbs p.1
  simp only [maxL_cons, maxL_nil, maxO_none] at h1
  rcases hy with rfl | rfl
  · have h2 : atV y s.lbs p.1 = some p.2 := (atV_some ha).2 ⟨s, hs, rfl, hp⟩
    rw [h2] at h1
    cases hb2 : atV b s.lbs p.1 with
    | none => rw [hb2] at h1; exact ⟨_, h1⟩
    | some z => rw [hb2] at h1; exact ⟨_, h1⟩
  · have h2 : atV y s.lbs p.1 = some p.2 := (atV_some hb).2 ⟨s, hs, rfl, hp⟩
    rw [h2] at h1
    cases ha2 : atV a s.lbs p.1 with
    | none => rw [ha2] at h1; exact ⟨_, h1⟩
    | some z => rw [ha2] at h1; exact ⟨_, h1⟩

set_option maxRecDepth 100000 in
set_option maxHeartbeats 8000000 in
theorem great_no (A B : Option Addr) (n m cn cm : Nat) (a b : List Ser) (w : World) (ha : InS w A n cn a) (hb : InS w B m cm b) (hm : MaxL w) (hno : ¬ (OkL a ∧ OkL b)) :
    Calls Tryd.prog 6 #[.slice A n cn, .slice B m cm] w fun e w' => e = .returned (.bool true) ∧ Grew w w' := by
  replace hno := Lib.hid hno
  go_enter Tryd.func6, Tryd.ntmps6
  go_wp2_with fail
  refine (copyIn w ha (Chg.refl _ _)).mono ?_
  rintro e w1 ⟨A1, c1, rfl, h1, g1⟩
  go_wp2_with fail
  refine (copyIn w1 hb g1).mono ?_
  rintro e w2 ⟨A2, c2, rfl, h2, g2⟩
  have g02 := g1.trans g2
  go_wp2_with fail
  have hga : Grew w2 (w2.alloc (.cells #[.slice A1 a.length c1, .slice A2 b.length c2] 22)) := (Chg.refl _ _).alloc _
  refine (merge_no _ 2 2 [⟨A1, a.length, c1, a⟩, ⟨A2, b.length, c2, b⟩] _ (RE.newAt rfl rfl rfl) (all2 (((h1.grew g2).ls).grew hga) ((h2.ls).grew hga)) (fun h => hno.out ⟨?_, ?_⟩) (by decide)).mono ?_
  · exact h ⟨A1, a.length, c1, a⟩ (by simp)
  · exact h ⟨A2, b.length, c2, b⟩ (by simp)
  rintro e w4 ⟨rfl, g4⟩
  have g04 := g02.trans (hga.trans g4)
  go_wp2_with fail
  refine (awake_any w4 (hm.grew g04)).mono ?_
  rintro e w8 ⟨rfl, g8⟩
  go_wp2
  go_ret
  exact ⟨by simp, g04.trans g8⟩

set_option maxRecDepth 100000 in
set_option maxHeartbeats 16000000 in
theorem great_yes (A B : Option Addr) (n m cn cm : Nat) (a b : List Ser) (w : World) (ha : InM w A n cn a 4194304) (hb : InM w B m cm b 4194304) (hm : MaxL w) :
    Calls Tryd.prog 6 #[.slice A n cn, .slice B m cm] w fun e w' => e = .returned (.bool true) ∧ Grew w w' := by
  go_enter Tryd.func6, Tryd.ntmps6
  go_wp2_with fail
  refine (copyM ha (by decide)).mono ?_
  rintro e w1 ⟨A1, c1, rfl, h1, g1⟩
  go_wp2_with fail
  refine (copyM (hb.grew g1) (by decide)).mono ?_
  rintro e w2 ⟨A2, c2, rfl, h2, g2⟩
  go_wp2_with fail
  refine (mg2 rfl (h1.grew g2) h2 (by decide)).mono ?_
  rintro e w3 ⟨AM, cM, mm, rfl, hM, hMm, g3⟩
  have g03 := (g1.trans g2).trans (((Chg.refl _ w2).alloc _).trans g3)
  have hML := hM.rs.len
  have hMc := hM.cap
  obtain ⟨mn, hmn⟩ : ∃ mn, mm.length = mn := ⟨_, rfl⟩
  rw [hmn] at hM hMc ⊢
  clear h1 h2 g1 g2 g3 hML
  go_wp2
  obtain ⟨W, hW⟩ : ∃ W, W = w3.alloc (.cells #[.slice A n cn, .slice B m cm] 22) := ⟨_, rfl⟩
  have gW : Grew w3 W := by rw [hW]; exact (Chg.refl _ w3).alloc _
  have hLs : RE elLs W (some ⟨w3.heap.size, 0, none⟩) 2 [⟨A, n, cn, a⟩, ⟨B, m, cm, b⟩] := by rw [hW]; exact RE.newAt rfl rfl rfl
  have g0W := g03.trans gW
  have hMW := hM.grew gW
  generalize hlg : w3.heap.size = lg at *
  rw [← hW]
  clear hM gW hW hlg
  go_loopw [8] (fun i wr => ∃ k : Nat, k ≤ mn ∧ i = .int .i64 (k : Int) ∧ Grew W wr) (fun i _ => mn - (intOf i).toNat)
  case atStart => exact ⟨0, by omega, rfl, Chg.refl _ _⟩
  case round =>
    obtain ⟨k, hk, rfl, hg⟩ := hrel
    by_cases hlt : k < mn
    · obtain ⟨ad, ms, s, rfl, hs, hsi, z0, z1⟩ := hMW.rs.at_ hlt
      have hsm := Lib.hid (List.mem_of_getElem? hs)
      have hpn := hsi.pc
      clear hs
      go_wp2
      go_loopw [9] (fun j wr => ∃ q : Nat, q ≤ ms.pn ∧ j = .int .i64 (q : Int) ∧ Grew W wr) (fun j _ => ms.pn - (intOf j).toNat)
      case atStart => exact ⟨0, by omega, rfl, hg⟩
      case round =>
        clear hg
        obtain ⟨q, hq, rfl, hg⟩ := hrel
        have x0 := hg.cell z0 (fun e => e)
        have x1 := hg.cell z1 (fun e => e)
        by_cases hqlt : q < ms.pn
        · obtain ⟨pd, p, hpa, hp, p0, p1⟩ := (hsi.pt.grew hg).pt hqlt
          rw [hpa] at x1
          have hgt := great_at hMm hsm.out (List.mem_of_getElem? hp)
          have hAa := fun W1 (hW1 : Grew W W1) => at_any A ms.la n cn ms.ln ms.lc a s.lbs p.1 W1 ((ha.grew g0W).rs.grew hW1) (hsi.lb.grew hW1) ha.ok.1 (by have := ha.cap; omega) (by have := hsi.lc; omega)
          have hAb := fun W1 (hW1 : Grew W W1) => at_any B ms.la m cm ms.ln ms.lc b s.lbs p.1 W1 ((hb.grew g0W).rs.grew hW1) (hsi.lb.grew hW1) hb.ok.1 (by have := hb.cap; omega) (by have := hsi.lc; omega)
          generalize atV a s.lbs p.1 = oa at *
          generalize atV b s.lbs p.1 = ob at *
          obtain ⟨x, one, y, two, ea, eb, hT⟩ := two_cases hgt
          rw [ea] at hAa
          rw [eb] at hAb
          replace hAa := Lib.hid hAa
          replace hAb := Lib.hid hAb
          replace hT := Lib.hid hT
          clear hp hgt ea eb oa ob
          go_wp2
          have hbx : Blk (wr.alloc (.cells #[.int .i64 p.1, .int .u64 (p.2 : Int)] 49)) wr.heap.size 49 #[.int .i64 p.1, .int .u64 (p.2 : Int)] := Blk.new wr _ _
          have hg1 := hg.alloc (.cells #[.int .i64 p.1, .int .u64 (p.2 : Int)] 49)
          generalize hbk : wr.heap.size = bk at *
          obtain ⟨W1, hW1⟩ : ∃ W1, W1 = wr.alloc (.cells #[.int .i64 p.1, .int .u64 (p.2 : Int)] 49) := ⟨_, rfl⟩
          rw [← hW1] at hbx hg1 ⊢
          clear hg p0 p1 x0 x1 hW1 hbk
          have x0 := hg1.cell z0 (fun e => e)
          have b0 := hbx.cell 0
          have hcs : CellsIn [(ad.add (k * 2)).block, bk] W1 := cellsIn_cons (ex_cell x0) (cellsIn_cons hbx.ex (cellsIn_nil _))
          have hsame : Hid (∀ W2, Grew W1 W2 → SameIn [(ad.add (k * 2)).block, bk] W1 W2) := fun W2 h2 => sameIn_of h2 hcs fun _ _ e => e
          refine wp_region_textS [] [(ad.add (k * 2)).block, bk] (by kernel_rfl) (by kernel_rfl) hcs ?_
          simp only [wpU, tagOf, chk, List.nil_append, List.cons_append]
          intro K hK
          go_wp2_with fail
          refine OnlyN.normal (hK _ _ (fun _ => ⟨_, _, _, rfl, rfl, by simp⟩) ?_)
          clear hK K
          intro K hK
          go_wp2_with fail
          refine OnlyN.normal (hK _ _ (fun _ => ⟨_, _, _, rfl, rfl, by simp⟩) ?_)
          clear hK K
          intro K hK
          go_wp2_with fail
          refine (hAa.out _ hg1.drew).mono ?_
          rintro e w4 ⟨rfl, hg4⟩
          have hgg : Grew W1 w4 := (Chg.refl _ W1).drew.trans hg4
          go_wp2_with fail
          refine OnlyN.normal (hK _ _ (hsame.out _ hgg) ?_)
          clear hK K
          go_wp2_with fail
          refine OnlyN.normal ?_
          have hg4' := hg1.trans hgg
          have hbx4 := hbx.grew hgg
          clear hg1 hgg hbx hcs hsame x0 b0 hg4
          have x0 := hg4'.cell z0 (fun e => e)
          have b0 := hbx4.cell 0
          have b1 := hbx4.cell 1
          have hcs : CellsIn [(ad.add (k * 2)).block, bk] w4 := cellsIn_cons (ex_cell x0) (cellsIn_cons hbx4.ex (cellsIn_nil _))
          have hsame : Hid (∀ W2, Grew w4 W2 → SameIn [(ad.add (k * 2)).block, bk] w4 W2) := fun W2 h2 => sameIn_of h2 hcs fun _ _ e => e
          go_wp2_with fail
          refine wp_region_textS [] [(ad.add (k * 2)).block, bk] (by kernel_rfl) (by kernel_rfl) hcs ?_
          simp only [wpU, tagOf, chk, List.nil_append, List.cons_append]
          intro K hK
          go_wp2_with fail
          refine OnlyN.normal (hK _ _ (fun _ => ⟨_, _, _, rfl, rfl, by simp⟩) ?_)
          clear hK K
          intro K hK
          go_wp2_with fail
          refine OnlyN.normal (hK _ _ (fun _ => ⟨_, _, _, rfl, rfl, by simp⟩) ?_)
          clear hK K
          intro K hK
          go_wp2_with fail
          refine (hAb.out _ hg4'.drew).mono ?_
          rintro e w5 ⟨rfl, hg5⟩
          have hgg : Grew w4 w5 := (Chg.refl _ w4).drew.trans hg5
          go_wp2_with fail
          refine OnlyN.normal (hK _ _ (hsame.out _ hgg) ?_)
          clear hK K
          go_wp2_with fail
          refine OnlyN.normal ?_
          have hg5' := hg4'.trans hgg
          have hbx5 := hbx4.grew hgg
          clear hg4' hgg hbx4 hcs hsame x0 b0 b1 hg5
          have b0 := hbx5.cell 0
          have b1 := hbx5.cell 1
          rcases hT.out with ⟨rfl, rfl, rfl⟩ | ⟨rfl, rfl, rfl⟩ | ⟨rfl, rfl, rfl, hy⟩ | ⟨rfl, hx, rfl, rfl⟩
          · clear hT hAa hAb
            go_wp2
            go_roundw
            case rel => exact ⟨q + 1, by omega, by go_num, hg5'⟩
            case measure => simp [intOf]; omega
          · clear hT hAa hAb
            go_wp2
            go_roundw
            case rel => exact ⟨q + 1, by omega, by go_num, hg5'⟩
            case measure => simp [intOf]; omega
          · have e1 : decide ((p.2 : Int) < (y : Int)) = false := decide_eq_false (by omega)
            clear hT hAa hAb
            go_wp2
            go_roundw
            case rel => exact ⟨q + 1, by omega, by go_num, hg5'⟩
            case measure => simp [intOf]; omega
          · have e1 : decide ((p.2 : Int) < (x : Int)) = false := decide_eq_false (by omega)
            have e2 : ((x : Int) == (p.2 : Int)) = false := by simp; omega
            clear hT hAa hAb
            go_wp2
            go_roundw
            case rel => exact ⟨q + 1, by omega, by go_num, hg5'⟩
            case measure => simp [intOf]; omega
        · go_wp2
          go_roundw
          case rel => exact ⟨k + 1, by omega, by go_num, hg⟩
          case measure => simp [intOf]; omega
    · have hAt : ∀ z, z < 2 → ∃ Y yn yc y, W.cell? ((⟨lg, 0, none⟩ : Addr).add z) = some (.slice Y yn yc) ∧ (y = a ∨ y = b) ∧ InM W Y yn yc y 4194304 := fun z hz => by
        obtain ⟨_, x, e, hx, hc⟩ := hLs.ls hz
        cases e
        have hz2 : z = 0 ∨ z = 1 := by omega
        rcases hz2 with rfl | rfl
        · cases hx
          exact ⟨_, _, _, _, hc, .inl rfl, ha.grew g0W⟩
        · cases hx
          exact ⟨_, _, _, _, hc, .inr rfl, hb.grew g0W⟩
      replace hAt := Lib.hid hAt
      have hIn : Hid (∀ (y : List Ser) (s : Ser) (p : Ptn), (y = a ∨ y = b) → s ∈ y → p ∈ s.pts → ∃ v, atV mm s.lbs p.1 = some v) := fun y s p hy hs hp => great_in hMm ha.ok.1 hb.ok.1 hy hs hp
      have hmW := hm.grew g0W
      clear hMm hLs ha hb hm
      obtain ⟨la, hla⟩ : ∃ la : Addr, la = ⟨lg, 0, none⟩ := ⟨_, rfl⟩
      rw [← hla] at hAt ⊢
      clear hla
      go_wp2
      go_loopw [15] (fun i wr => ∃ z : Nat, z ≤ 2 ∧ i = .int .i64 (z : Int) ∧ Grew W wr) (fun i _ => 2 - (intOf i).toNat)
      case atStart => exact ⟨0, by omega, rfl, hg⟩
      case round =>
        clear hg
        obtain ⟨z, hz, rfl, hg⟩ := hrel
        by_cases hzlt : z < 2
        · obtain ⟨Y, yn, yc, y, hc0, hy, hY⟩ := hAt.out z hzlt
          have e0 : decide ((z : Int) < 2) = true := decide_eq_true (by omega)
          replace hy := Lib.hid hy
          have hYl := hY.rs.len
          have hYc := hY.cap
          replace hYl := Lib.hid hYl
          go_wp2
          go_loopw [16] (fun j wr => ∃ k : Nat, k ≤ yn ∧ j = .int .i64 (k : Int) ∧ Grew W wr) (fun j _ => yn - (intOf j).toNat)
          case atStart => exact ⟨0, by omega, rfl, hg⟩
          case round =>
            clear hg
            obtain ⟨k, hk, rfl, hg⟩ := hrel
            have c0 := hg.cell hc0 (fun e => e)
            by_cases hlt : k < yn
            · obtain ⟨ad, ms, s, rfl, hs, hsi, z0, z1⟩ := hY.rs.at_ hlt
              have hsm := Lib.hid (List.mem_of_getElem? hs)
              have hpn := hsi.pc
              clear hs
              go_wp2
              go_loopw [17] (fun j wr => ∃ q : Nat, q ≤ ms.pn ∧ j = .int .i64 (q : Int) ∧ Grew W wr) (fun j _ => ms.pn - (intOf j).toNat)
              case atStart => exact ⟨0, by omega, rfl, hg⟩
              case round =>
                clear hg c0
                obtain ⟨q, hq, rfl, hg⟩ := hrel
                have c0 := hg.cell hc0 (fun e => e)
                have x0 := hg.cell z0 (fun e => e)
                have x1 := hg.cell z1 (fun e => e)
                by_cases hqlt : q < ms.pn
                · obtain ⟨pd, p, hpa, hp, p0, p1⟩ := (hsi.pt.grew hg).pt hqlt
                  rw [hpa] at x1
                  obtain ⟨v, hv⟩ := hIn.out y s p hy.out hsm.out (List.mem_of_getElem? hp)
                  have hAm := fun W1 (hW1 : Grew W W1) => at_any AM ms.la mn cM ms.ln ms.lc mm s.lbs p.1 W1 (hMW.rs.grew hW1) (hsi.lb.grew hW1) hMW.ok.1 (by omega) (by have := hsi.lc; omega)
                  rw [hv] at hAm
                  simp only [AtRes, Option.getD_some, Option.isSome_some] at hAm
                  replace hAm := Lib.hid hAm
                  clear hp hv
                  go_wp2
                  have hcs : CellsIn [(la.add z).block, (ad.add (k * 2)).block, (pd.add (q * 2)).block] wr := cellsIn_cons (ex_cell c0) (cellsIn_cons (ex_cell x0) (cellsIn_cons (ex_cell p0) (cellsIn_nil _)))
                  have hsame : Hid (∀ W2, Grew wr W2 → SameIn [(la.add z).block, (ad.add (k * 2)).block, (pd.add (q * 2)).block] wr W2) := fun W2 h2 => sameIn_of h2 hcs fun _ _ e => e
                  refine wp_region_textS [] [(la.add z).block, (ad.add (k * 2)).block, (pd.add (q * 2)).block] (by kernel_rfl) (by kernel_rfl) hcs ?_
                  simp only [wpU, tagOf, chk, List.nil_append, List.cons_append]
                  intro K hK
                  go_wp2_with fail
                  refine OnlyN.normal (hK _ _ (fun _ => ⟨_, _, _, rfl, rfl, by simp⟩) ?_)
                  clear hK K
                  intro K hK
                  go_wp2_with fail
                  refine OnlyN.normal (hK _ _ (fun _ => ⟨_, _, _, rfl, rfl, by simp⟩) ?_)
                  clear hK K
                  intro K hK
                  go_wp2_with fail
                  refine OnlyN.normal (hK _ _ (fun _ => ⟨_, _, _, rfl, rfl, by simp⟩) ?_)
                  clear hK K
                  intro K hK
                  go_wp2_with fail
                  refine OnlyN.normal (hK _ _ (fun _ => ⟨_, _, _, rfl, rfl, by simp⟩) ?_)
                  clear hK K
                  intro K hK
                  go_wp2_with fail
                  refine OnlyN.normal (hK _ _ (fun _ => ⟨_, _, _, rfl, rfl, by simp⟩) ?_)
                  clear hK K
                  intro K hK
                  go_wp2_with fail
                  refine (hAm.out _ hg.drew).mono ?_
                  rintro e w4 ⟨rfl, hg4⟩
                  have hgg : Grew wr w4 := (Chg.refl _ wr).drew.trans hg4
                  go_wp2_with fail
                  refine OnlyN.normal (hK _ _ (hsame.out _ hgg) ?_)
                  clear hK K
                  go_wp2_with fail
                  refine OnlyN.normal ?_
                  have hg5 := hg.trans hgg
                  clear hAm hg hgg hcs hsame c0 x0 x1 p0 p1 hg4
                  go_wp2
                  go_roundw
                  case rel => exact ⟨q + 1, by omega, by go_num, hg5⟩
                  case measure => simp [intOf]; omega
                · go_wp2
                  go_roundw
                  case rel => exact ⟨k + 1, by omega, by go_num, hg⟩
                  case measure => simp [intOf]; omega
            · go_wp2
              go_roundw
              case rel => exact ⟨z + 1, by omega, by go_num, hg⟩
              case measure => simp [intOf]; omega
        · go_wp2_with fail
          refine (awake_any _ (hmW.grew hg)).mono ?_
          rintro e w8 ⟨rfl, g8⟩
          go_wp2
          go_ret
          exact ⟨by simp, (g0W.trans hg).trans g8⟩
theorem walk_seriesGreatest (A : Option Addr) (n cn : Nat) (a : List Ser) (B : Option Addr) (m cm : Nat) (b : List Ser) (w : World) (ha : InS w A n cn a) (hb : InS w B m cm b) (hm : MaxL w) :
    Calls Tryd.prog 6 #[.slice A n cn, .slice B m cm] w fun e w' => e = .returned (.bool true) ∧ Grew w w' := by
  by_cases h : OkL a ∧ OkL b
  · exact great_yes A B n m cn cm a b w (ha.m h.1) (hb.m h.2) hm
  · exact great_no A B n m cn cm a b w ha hb hm h
end Go.Proofs.YtjgbdkokcgcpjaaDoor
