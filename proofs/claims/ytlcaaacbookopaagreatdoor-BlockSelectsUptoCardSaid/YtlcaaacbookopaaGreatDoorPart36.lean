/-
  Several texts in one:
  (block.Select) walked: the points of a stretch of the series that are asked for. Conditions: lengths that memory bears.
-/
import Derived.Test.YtlcaaacbookopaaGreatDoorPart32
import Derived.Test.YtlcaaacbookopaaGreatDoorPart35

namespace Go.Proofs.YtlcaaacbookopaaGreatDoor
open Go.RowKit

/-- what is selected of one series, of some -/
def sl1 (mt : List Mat) (f t : Int) (s : Ser) : List Ser := if saysB mt s.lbs = true then (if clipP f t s.pts = [] then [] else [⟨s.lbs, clipP f t s.pts⟩]) else []
def selK (mt : List Mat) (f t : Int) (ss : List Ser) : List Ser := ss.flatMap (sl1 mt f t)
theorem selK_take {mt : List Mat} {f t : Int} {ss : List Ser} {k : Nat} {s : Ser} (h : ss[k]? = some s) : selK mt f t (ss.take (k + 1)) = selK mt f t (ss.take k) ++ sl1 mt f t s := by
  unfold selK
  rw [List.take_add_one, h, List.flatMap_append]
  simp
theorem MaxL.grewK {w w' : World} (h : MaxL w) (hg : Grew w w') : MaxL w' := by
  obtain ⟨m, hm⟩ := h
  exact ⟨m, hg.cell hm fun e => e⟩
theorem ApE.monoK {α : Type} {E : El α} {w w' : World} {base base' : Nat} {t : TypeId} {A A' : Option Addr} {n c c' : Nat} {l : List α} (h : ApE E w base t A n c l A' c' w') (hb : base' ≤ base) : ApE E w base' t A n c l A' c' w' := ⟨Own.mono h.1 hb, h.2⟩
theorem NS.at_ {w : World} {base : Nat} {A : Option Addr} {n c : Nat} {ss : List Ser} (h : NS w base A n c ss) {k : Nat} (hk : k < n) :
    ∃ ad m s, A = some ad ∧ ss[k]? = some s ∧ NsE w base m s ∧ w.cell? (ad.add (k * 2)) = some (.slice m.la m.ln m.lc) ∧ w.cell? ⟨(ad.add (k * 2)).block, (ad.add (k * 2)).off + 1, none⟩ = some (.slice m.pa m.pn m.pc) := by
  have hl := h.len
  obtain ⟨ms, h1, h2, h3⟩ := h
  obtain ⟨ad, m, e, hm, hc⟩ := (h1.re (by decide)).at_ hk (by decide)
  have hs : ss[k]? = some (ss[k]'(by omega)) := List.getElem?_eq_getElem _
  exact ⟨ad, m, _, e, hs, h3 k m _ hm hs, hc 0 _ rfl, cell_off (by decide) (hc 1 _ rfl)⟩

/-- what a select hands back -/
def SlP (w : World) (lb : List UInt8) (mt : List Mat) (f t : Int) (e : Ending) (w' : World) : Prop :=
  (∃ A m d zs, BkV zs ∧ lb = blkB (tabT zs) zs ∧ e = .returned (.tuple #[.slice A m d, .int .i64 0]) ∧ NS w' w.heap.size A m d (selK mt f t zs) ∧ Grew w w') ∨ (e = .returned (.tuple #[.slice none 0 0, .int .i64 91]) ∧ Grew w w' ∧ ∀ zs, BkV zs → lb ≠ blkB (tabT zs) zs)

set_option maxRecDepth 100000 in
set_option maxHeartbeats 16000000 in
theorem selectK_any (B : Option Addr) (n c : Nat) (lb : List UInt8) (M : Option Addr) (mn mc : Nat) (mt : List Mat) (f t : Int) (w : World) (h : RB w B n lb) (hn : n ≤ 1099511627776) (hc : n ≤ c ∧ c ≤ 9223372036854775807)
    (hM : RE elMa w M mn mt) (hmn : mn ≤ 9223372036854775807) (hmt : ∀ x ∈ mt, x.2.2.size ≤ 16777216) (hx : MaxL w) :
    Calls Tryz.prog 26 #[.slice B n c, .slice M mn mc, .int .i64 f, .int .i64 t] w (SlP w lb mt f t) := by
  have hD := decodeK_any B n c lb w h hn hc
  replace hmt := Lib.hid hmt
  replace hx := Lib.hid hx
  unfold SlP
  go_enter Tryz.func26, Tryz.ntmps26
  go_wp2_with fail
  refine hD.mono ?_
  rintro e w1 (⟨A, m, d, zs, rfl, hz⟩ | ⟨rfl, hg, hno⟩)
  rotate_left
  · replace hno := Lib.hid hno
    clear hD
    go_wp2
    go_ret2
    exact .inr ⟨rfl, hg, hno.out⟩
  have hz0 := Lib.hid hz
  have hzn := hz.ns.len
  have hS := hz.v.bks
  have hm := hS.n
  rw [hzn] at hm
  replace hS := Lib.hid hS
  have hns := Lib.hid hz.ns
  have hg1 := hz.g
  have hsz := hg1.size
  have hzl : Hid (zs.length = m) := Lib.hid hzn
  clear hD hzn hz
  go_wp2
  go_loopw [28, 12] (fun i o wr => ∃ (k s0 e0 : Nat) (D : Option Addr), k ≤ m ∧ i = .int .i64 (k : Int) ∧ o = .slice D s0 e0 ∧ s0 ≤ k ∧ NS wr w.heap.size D s0 e0 (selK mt f t (zs.take k)) ∧ (∀ ad, D = some ad → w1.heap.size ≤ ad.block) ∧ Grew w1 wr) (fun i _ _ => m - (intOf i).toNat)
  case atStart => exact ⟨0, 0, 0, none, by omega, rfl, rfl, by omega, NS.nil _ _, fun ad e => (by cases e), Chg.refl _ _⟩
  case round =>
    obtain ⟨k, s0, e0, D, hk, rfl, rfl, hsk, ho, hDl, hg⟩ := hrel
    replace hDl := Lib.hid hDl
    by_cases hlt : k < m
    · obtain ⟨ad, ⟨la, ln, lc, pa, pn, pc⟩, s, rfl, hs, hsi, z0, z1⟩ := hns.out.at_ hlt
      dsimp only at z0 z1
      have hsm := List.mem_of_getElem? hs
      have hsi1 := hsi.is
      have hlc := hsi1.lc
      have hpc := hsi1.pc
      dsimp only at hlc hpc
      have hlb := hS.out.lb s hsm
      have hpt := (hS.out.pt s hsm).1
      rw [hsi1.lb.1] at hlb
      rw [hsi1.pt.1] at hpt
      have hll := hlb.1
      dsimp only at hll hpt
      obtain ⟨W, hW⟩ : ∃ W, W = wr.alloc (.cells #[.slice la ln lc, .slice pa pn pc] 85) := ⟨_, rfl⟩
      have gW : Grew wr W := by rw [hW]; exact (Chg.refl _ wr).alloc _
      obtain ⟨gx, hgx⟩ : ∃ gx, wr.heap.size = gx := ⟨_, rfl⟩
      have hbx : Blk W gx 85 #[.slice la ln lc, .slice pa pn pc] := by rw [hW, ← hgx]; exact Blk.new wr _ _
      have b0 := hbx.cell 0
      simp only [List.getElem?_toArray, List.getElem?_cons_zero] at b0
      have hgW := hg.trans gW
      have hSa := says_any M mn mc mt la ln lc s.lbs W (hM.grew (hg1.trans hgW)) (hsi1.lb.grew hgW) hmn (by omega) hmt.out (fun x hx => by have := (hlb.2 x hx).2; omega) (hx.out.grewK (hg1.trans hgW))
      have hnx := selK_take (mt := mt) (f := f) (t := t) hs
      have hoW := ho.grew gW
      have hsl : ∀ b, saysB mt s.lbs = b → sl1 mt f t s = if b = true then (if clipP f t s.pts = [] then [] else [⟨s.lbs, clipP f t s.pts⟩]) else [] := fun b e => by rw [← e]; rfl
      have hsl2 := hsl _ rfl
      clear hsl
      generalize saysB mt s.lbs = yes at *
      generalize hnxt : selK mt f t (zs.take (k + 1)) = nxt at *
      replace hnxt := Lib.hid hnxt
      replace hnx := Lib.hid hnx
      replace hsl2 := Lib.hid hsl2
      replace x0 := hg.cell z0 (fun e => e)
      replace x1 := hg.cell z1 (fun e => e)
      clear hs hsm hlb ho
      go_wp2_with fail
      rw [← hW]
      clear hW x0 x1 b0 hgx
      refine hSa.mono ?_
      rintro e w2 ⟨rfl, g2⟩
      have hbx2 := hbx.grew g2
      have ho2 := hoW.grew g2
      have hg2 := hgW.trans g2
      clear hSa hoW hbx hgW gW
      cases yes
      · have hnx2 : Hid (nxt = selK mt f t (zs.take k)) := Lib.hid (by rw [hnx.out, hsl2.out]; simp)
        rw [← hnx2.out] at ho2
        clear hnx hsl2 hnx2
        go_wp2
        go_roundw
        case rel => exact ⟨k + 1, s0, e0, D, by omega, by go_num, rfl, by omega, by rw [hnxt.out]; exact ho2, hDl.out, hg2⟩
        case measure => simp [intOf]; omega
      · have hsl3 : Hid (sl1 mt f t s = if clipP f t s.pts = [] then [] else [⟨s.lbs, clipP f t s.pts⟩]) := Lib.hid (by rw [hsl2.out]; simp)
        have b1 := hbx2.cell 1
        simp only [List.getElem?_toArray, List.getElem?_cons_succ, List.getElem?_cons_zero] at b1
        clear hsl2
        go_wp2
        clear b1
        go_loopw [40, 15] (fun i o wr => ∃ (q sd ed : Nat) (E : Option Addr), q ≤ pn ∧ i = .int .i64 (q : Int) ∧ o = .slice E sd ed ∧ sd ≤ q ∧ OE elPt wr w2.heap.size 82 E sd ed (clipP f t (s.pts.take q)) ∧ Grew w2 wr) (fun i _ _ => pn - (intOf i).toNat)
        case atStart => exact ⟨0, 0, 0, none, by omega, rfl, rfl, by omega, OE.nil _ _ _, Chg.refl _ _⟩
        case round =>
          obtain ⟨q, sd, ed, E, hq, rfl, rfl, hsd, oP, g3⟩ := hrel
          have hsz3 := g3.size
          by_cases hql : q < pn
          · obtain ⟨pd, p, rfl, hp, p0, p1⟩ := (hsi1.pt.grew (hg2.trans g3)).pt hql
            obtain ⟨V, hV⟩ : ∃ V, V = wr.alloc (.cells #[.int .i64 p.1, .int .u64 (p.2 : Int)] 82) := ⟨_, rfl⟩
            have gV : Grew wr V := by rw [hV]; exact (Chg.refl _ wr).alloc _
            have hbV : Blk V wr.heap.size 82 #[.int .i64 p.1, .int .u64 (p.2 : Int)] := by rw [hV]; exact Blk.new wr _ _
            have q0 := hbV.cell 0
            have q1 := hbV.cell 1
            simp only [List.getElem?_toArray, List.getElem?_cons_succ, List.getElem?_cons_zero] at q0 q1
            rw [hV] at q0 q1
            by_cases h1 : f ≤ p.1
            · have e1 : decide (f ≤ p.1) = true := decide_eq_true h1
              by_cases h2 : p.1 ≤ t
              · have e2 : decide (p.1 ≤ t) = true := decide_eq_true h2
                have hcl := clipP_yes (f := f) (t := t) hp h1 h2
                generalize clipP f t (s.pts.take q) = out at *
                replace hcl := Lib.hid hcl
                have gY : Grew V (V.alloc (.cells #[.int .i64 p.1, .int .u64 (p.2 : Int)] 82)) := (Chg.refl _ V).alloc _
                have hY := OE.grew oP (gV.trans gY)
                have hsrc : RE elPt (V.alloc (.cells #[.int .i64 p.1, .int .u64 (p.2 : Int)] 82)) (some ⟨V.heap.size, 0, none⟩) 1 [p] := RE.newAt rfl rfl rfl
                have gY3 := (g3.trans gV).trans gY
                have hgz := gY3.size
                have hsV : V.heap.size = wr.heap.size + 1 := by rw [hV, World.size_alloc]
                have hc2 := hY.cap
                rw [hsV] at hsrc
                rw [hV] at hY hsrc gY3 hgz
                clear hp h1 h2 hsV gY gV hbV
                go_wp2_with (at_builtin; refine wpList_appE rfl _ _ 83 82 infoPt rfl Tryz.underlying83 rfl w2.heap.size E sd ed out rfl hY hgz _ 1 1 [p] rfl hsrc (by unfold maxLen; omega) (by omega) ?_; intro D2 e2 w5 h5)
                have o5 := h5.oe
                have g5 : Grew w2 w5 := h5.grew gY3 (fun ad e => (Own.blk_lt hY ad e).1)
                rw [← hcl.out] at o5
                clear hY hsrc h5
                go_roundw
                case rel => exact ⟨q + 1, sd + 1, e2, D2, by omega, by go_num, rfl, by omega, o5, g5⟩
                case measure => simp [intOf]; omega
              · have e2 : decide (p.1 ≤ t) = false := decide_eq_false h2
                have hcl := clipP_no (f := f) (t := t) hp (fun e => h2 e.2)
                rw [← hcl] at oP
                have oP2 := oP.grew gV
                have g4 := g3.trans gV
                rw [hV] at oP2 g4
                clear hp h1 h2 hcl
                go_wp2
                go_roundw
                case rel => exact ⟨q + 1, sd, ed, E, by omega, by go_num, rfl, by omega, oP2, g4⟩
                case measure => simp [intOf]; omega
            · have e1 : decide (f ≤ p.1) = false := decide_eq_false h1
              have hcl := clipP_no (f := f) (t := t) hp (fun e => h1 e.1)
              rw [← hcl] at oP
              have oP2 := oP.grew gV
              have g4 := g3.trans gV
              rw [hV] at oP2 g4
              clear hp h1 hcl
              go_wp2
              go_roundw
              case rel => exact ⟨q + 1, sd, ed, E, by omega, by go_num, rfl, by omega, oP2, g4⟩
              case measure => simp [intOf]; omega
          · obtain rfl : q = pn := by omega
            have hpl := hsi1.pt.1
            dsimp only at hpl
            rw [List.take_of_length_le (by omega)] at oP
            have hlen : (clipP f t s.pts).length = sd := oP.len (by decide)
            generalize clipP f t s.pts = cp at *
            have ho3 := ho2.grew g3
            have hg3 := hg2.trans g3
            by_cases hs0 : sd = 0
            · subst hs0
              have hcp : cp = [] := List.eq_nil_of_length_eq_zero hlen
              have hyy := hnx.out
              rw [hsl3.out, if_pos hcp, List.append_nil] at hyy
              rw [← hyy] at ho3
              clear hlen hcp hyy hpl hnx hsl3
              go_wp2
              go_roundw
              case rel => exact ⟨k + 1, s0, e0, D, by omega, by go_num, rfl, by omega, by rw [hnxt.out]; exact ho3, hDl.out, hg3⟩
              case measure => simp [intOf]; omega
            · have hcp : cp ≠ [] := fun e => by rw [e] at hlen; exact hs0 hlen.symm
              have hyy := hnx.out
              rw [hsl3.out, if_neg hcp] at hyy
              replace hyy := Lib.hid hyy
              have e1 : decide (0 < sd) = true := decide_eq_true (by omega)
              have e2 : 0 < sd := by omega
              obtain ⟨ms, ho4⟩ := ho3.op
              have hszb := hg2.size
              have hN : NsE wr w.heap.size ⟨la, ln, lc, E, sd, ed⟩ ⟨s.lbs, cp⟩ := ⟨(NsE.grew hsi hg3).lb, Own.mono oP (by omega)⟩
              have hszw := hg3.size
              have hc4 := ho4.row.cap
              have b0 := (hbx2.grew g3).cell 0
              simp only [List.getElem?_toArray, List.getElem?_cons_zero] at b0
              have hE5 : OE elSr (wr.alloc (.cells #[.slice la ln lc, .slice E sd ed] 85)) w1.heap.size 85 D s0 e0 ms := Own.raise (OE.grew ho4.row ((Chg.refl _ wr).alloc _)) hDl.out
              have hsrc : RE elSr (wr.alloc (.cells #[.slice la ln lc, .slice E sd ed] 85)) (some ⟨wr.heap.size, 0, none⟩) 1 [⟨la, ln, lc, E, sd, ed⟩] := RE.newAt rfl rfl rfl
              clear hlen hcp hpl
              go_wp2_with (at_builtin; refine wpList_appE rfl _ _ 39 85 infoSr rfl Tryz.underlying39 rfl w1.heap.size D s0 e0 ms rfl hE5 (by simp; omega) _ 1 1 [⟨la, ln, lc, E, sd, ed⟩] rfl hsrc (by unfold maxLen; omega) (by omega) ?_; intro B2 C2 w5 h5)
              have hNS := (ho4.grew ((Chg.refl _ wr).alloc (.cells #[.slice la ln lc, .slice E sd ed] 85))).app (hN.grew ((Chg.refl _ wr).alloc _)) (h5.monoK hsz)
              have hg5 : Grew w1 w5 := h5.grew (hg3.alloc _) (fun ad e => hDl.out ad e)
              have hD5 : ∀ ad, B2 = some ad → w1.heap.size ≤ ad.block := fun ad e => (Own.blk_lt h5.oe ad e).1
              rw [← hyy.out] at hNS
              clear ho4 hE5 hsrc h5 hN oP
              go_roundw
              case rel => exact ⟨k + 1, s0 + 1, C2, B2, by omega, by go_num, rfl, by omega, by rw [hnxt.out]; exact hNS, hD5, hg5⟩
              case measure => simp [intOf]; omega
    · obtain rfl : k = m := by omega
      rw [List.take_of_length_le (by have := hzl.out; omega)] at ho
      have hgg := hg1.trans hg
      go_wp2
      go_ret2
      exact .inl ⟨D, s0, e0, zs, hz0.out.v, hz0.out.b, rfl, ho, hgg⟩
end Go.Proofs.YtlcaaacbookopaaGreatDoor
