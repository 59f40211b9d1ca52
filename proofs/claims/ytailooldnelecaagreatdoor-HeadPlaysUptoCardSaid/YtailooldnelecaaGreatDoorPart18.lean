/-
  Several texts in one:
  (*Head).Add. Conditions: lengths that memory bears.
  An empty head; how much a head holds. Conditions: none.
-/
import Derived.Test.YtailooldnelecaaGreatDoorPart17
import Derived.Test.YtailooldnelecaaGreatDoorPart14

namespace Go.Proofs.YtailooldnelecaaGreatDoor
open Go.RowKit

/-! ### What a head answers, of the list of its series -/
def lastS (ss : List Ser) (lbs : List Lab) : Option Ptn := (ss.find? fun s => decide (s.lbs = lbs)).bind fun s => s.pts.getLast?
def fateS (lim : Nat) (ss : List Ser) (lbs : List Lab) (T : Int) (V : Nat) : Int := if chkL lbs = 0 ∧ okT T then fateO lim ss.length (lastS ss lbs) T V else 3
def putS (ss : List Ser) (lbs : List Lab) (q : Ptn) : List Ser := if ss.any fun s => decide (s.lbs = lbs) then ss.map fun s => if s.lbs = lbs then ⟨s.lbs, s.pts ++ [q]⟩ else s else ss ++ [⟨lbs, [q]⟩]
def addT (lim : Nat) (ss : List Ser) (lbs : List Lab) (T : Int) (V : Nat) : List Ser := if fateS lim ss lbs T V = 1 then putS ss lbs (T, V) else ss
theorem lastL_eq (L : List HEnt) (lbs : List Lab) : lastL L lbs = lastS (L.map HEnt.s) lbs := by
  unfold lastL lastS entL
  rw [List.find?_map]
  cases h : L.find? (fun e => decide (e.s.lbs = lbs)) with
  | none =>
    have : L.find? ((fun s : Ser => decide (s.lbs = lbs)) ∘ HEnt.s) = none := h
    rw [this]
    rfl
  | some e =>
    have : L.find? ((fun s : Ser => decide (s.lbs = lbs)) ∘ HEnt.s) = some e := h
    rw [this]
    rfl
theorem fateL_eq (lim : Nat) (L : List HEnt) (lbs : List Lab) (T : Int) (V : Nat) : fateL lim L lbs T V = fateS lim (L.map HEnt.s) lbs T V := by
  unfold fateL fateS
  rw [lastL_eq, List.length_map]
theorem putS_new {L : List HEnt} {lbs : List Lab} (h : entL L lbs = none) (q : Ptn) : putS (L.map HEnt.s) lbs q = L.map HEnt.s ++ [⟨lbs, [q]⟩] := by
  have : ((L.map HEnt.s).any fun s => decide (s.lbs = lbs)) = false := by
    rw [List.any_eq_false]
    intro s hs
    obtain ⟨e, he, rfl⟩ := List.mem_map.1 hs
    simpa using entL_none h e he
  unfold putS
  rw [this]
  rfl
theorem putS_old {L : List HEnt} {lbs : List Lab} {i : Nat} {e : HEnt} (hi : L[i]? = some e) (he : e.s.lbs = lbs) (hu : ∀ j x, j ≠ i → L[j]? = some x → x.s.lbs ≠ lbs) (A : Option Addr) (c : Nat) (q : Ptn) : putS (L.map HEnt.s) lbs q = (L.set i (e.push A c q)).map HEnt.s := by
  have : ((L.map HEnt.s).any fun s => decide (s.lbs = lbs)) = true := by
    rw [List.any_eq_true]
    exact ⟨e.s, List.mem_map.2 ⟨e, List.mem_of_getElem? hi, rfl⟩, by simpa using he⟩
  unfold putS
  rw [if_pos this]
  refine List.ext_getElem? fun j => ?_
  rw [List.map_set, List.getElem?_set]
  by_cases hj : i = j
  · subst hj
    have hlt := (List.getElem?_eq_some_iff.1 hi).1
    rw [if_pos rfl, if_pos (by simpa using hlt)]
    simp only [List.getElem?_map, hi, Option.map_some]
    rw [if_pos he]
    rfl
  · rw [if_neg hj]
    simp only [List.getElem?_map]
    cases hx : L[j]? with
    | none => rfl
    | some x =>
      simp only [Option.map_some]
      rw [if_neg (hu j x (Ne.symm hj) hx)]
theorem chkG_rise : ∀ {prev : Option ByteArray} {L : List Lab}, chkG prev L = 0 → (∀ p, prev = some p → ∀ x ∈ L, p.data.toList < x.1.data.toList) ∧ L.Pairwise fun a b => a.1.data.toList < b.1.data.toList
  | _, [], _ => ⟨fun _ _ x hx => (by cases hx), List.Pairwise.nil⟩
  | prev, l :: r, h => by
    rw [chkG_cons] at h
    by_cases h1 : nameL l.1 = false
    · rw [if_pos h1] at h
      cases h
    rw [if_neg h1] at h
    by_cases h2 : txtB l.2 = false
    · rw [if_pos h2] at h
      cases h
    rw [if_neg h2] at h
    by_cases h3 : upB l.1 prev = true
    · rw [if_pos h3] at h
      cases h
    rw [if_neg h3] at h
    obtain ⟨h4, h5⟩ := chkG_rise h
    have h6 : ∀ p, prev = some p → p.data.toList < l.1.data.toList := fun p e => by
      subst e
      simp only [upB, decide_eq_true_eq] at h3
      exact List.not_le.1 h3
    refine ⟨fun p e x hx => ?_, List.pairwise_cons.2 ⟨fun x hx => h4 _ rfl x hx, h5⟩⟩
    rcases List.mem_cons.1 hx with rfl | hx
    · exact h6 p e
    · exact List.lt_trans (h6 p e) (h4 _ rfl x hx)
theorem chkL_nodup {L : List Lab} (h : chkL L = 0) : L.Nodup := by
  unfold chkL at h
  split at h
  · cases h
  · exact (chkG_rise h).2.imp fun hlt e => by rw [e] at hlt; exact List.lt_irrefl _ hlt
theorem fate_any {S : Nat → Prop} {h b p cb cp lim : Nat} {L : List HEnt} {PL : List PEnt} (la : Option Addr) (ln lc : Nat) (lbs : List Lab) (T : Int) (V : Nat) (w : World) (hH : HS S w h b p L cb PL cp lim) (hl : RE elLb w la ln lbs) (hlc : ln ≤ lc ∧ lc ≤ 9223372036854775807) :
    Calls Tryz.prog 13 #[.pointer (some ⟨h, 0, none⟩), .agg #[.slice la ln lc, .int .i64 T, .int .u64 (V : Int)]] w fun e w' => e = .returned (.int .i64 (fateL lim L lbs T V)) ∧ Grew w w' := by
  by_cases hc : chkL lbs = 0 ∧ okT T
  · have := fate_yes la ln lc lbs T V w hH hl hlc hc.1 hc.2
    unfold fateL
    rw [if_pos hc]
    exact this
  · have := fate_no h la ln lc lbs T V w hl hlc hc
    unfold fateL
    rw [if_neg hc]
    exact this
/-- a head after an Add -/
def AddQ (S : Nat → Prop) (w : World) (h b p : Nat) (_L : List HEnt) (lim : Nat) (ss : List Ser) (w' : World) : Prop :=
  ∃ (S' : Nat → Prop) (L' : List HEnt) (cb' : Nat) (PL' : List PEnt) (cp' : Nat), HS S' w' h b p L' cb' PL' cp' lim ∧ (∀ k, S k → S' k) ∧ (∀ k, S' k → S k ∨ w.heap.size ≤ k) ∧ Chg S w w' ∧ L'.map HEnt.s = ss

set_option maxRecDepth 100000 in
set_option maxHeartbeats 8000000 in
theorem add_any {S : Nat → Prop} {h b p cb cp lim : Nat} {L : List HEnt} {PL : List PEnt} (la : Option Addr) (ln lc : Nat) (lbs : List Lab) (T : Int) (V : Nat) (w : World) (hH : HS S w h b p L cb PL cp lim) (hl : RE elLb w la ln lbs) (hlc : ln ≤ lc ∧ lc ≤ 9223372036854775807) :
    Calls Tryz.prog 11 #[.pointer (some ⟨h, 0, none⟩), .agg #[.slice la ln lc, .int .i64 T, .int .u64 (V : Int)]] w fun e w' => e = .returned (.int .i64 (fateS lim (L.map HEnt.s) lbs T V)) ∧ AddQ S w h b p L lim (addT lim (L.map HEnt.s) lbs T V) w' := by
  obtain ⟨W, hW⟩ : ∃ W, W = w.alloc (.cells #[.slice la ln lc, .int .i64 T, .int .u64 (V : Int)] 31) := ⟨_, rfl⟩
  have hgW : Grew w W := by rw [hW]; exact (Chg.refl _ w).alloc _
  have hbx : Blk W w.heap.size 31 #[.slice la ln lc, .int .i64 T, .int .u64 (V : Int)] := by rw [hW]; exact Blk.new w _ _
  have hF := fate_any la ln lc lbs T V W (hH.grew hgW) (hl.grew hgW) hlc
  rw [fateL_eq] at hF
  have x0 := hbx.cell 0
  have x1 := hbx.cell 1
  have x2 := hbx.cell 2
  have hx := fun w' (g : Grew W w') => hbx.grew g
  have hHw := fun w' (g : Grew w w') => hH.grew g
  have hfl := fateL_eq lim L lbs T V
  replace hx := Lib.hid hx
  replace hHw := Lib.hid hHw
  obtain ⟨f, hf⟩ : ∃ f, fateS lim (L.map HEnt.s) lbs T V = f := ⟨_, rfl⟩
  unfold addT
  rw [hf] at hF hfl ⊢
  by_cases h1 : f = 1
  · subst h1
    rw [if_pos rfl]
    have hck : chkL lbs = 0 ∧ okT T := by
      by_cases hc : chkL lbs = 0 ∧ okT T
      · exact hc
      · unfold fateL at hfl
        rw [if_neg hc] at hfl
        cases hfl
    unfold fateL at hfl
    rw [if_pos hck] at hfl
    obtain ⟨hck, hT⟩ := hck
    obtain ⟨hz1, hz2⟩ := chkL_sizes hck
    have hln := hl.1
    have hEn := fun w' (hg : Grew w w') => encL_any la ln lc lbs w' (hl.grew hg) (by omega) (fun l hx => by have := hz2 l hx; omega)
    have hcv := fun w' (A : Option Addr) (n c : Nat) (hr : RB w' A n (encL lbs)) => run_conv_RB (P := Tryz.prog) (c := c) Tryz.underlying73 Tryz.underlying5 Tryz.underlying9 hr
    have hlg := fun w' (g : Grew w w') => hl.grew g
    have hhl := hH.hd.lt
    have hlt := hH.tb.lt
    replace hEn := Lib.hid hEn
    replace hcv := Lib.hid hcv
    replace hlg := Lib.hid hlg
    cases hE : entL L lbs with
    | none =>
      have hNl : L.length < lim := by
        have hlast : lastL L lbs = none := by unfold lastL; rw [hE]; rfl
        rw [hlast] at hfl
        unfold fateO at hfl
        dsimp only at hfl
        by_cases h9 : lim ≤ L.length
        · rw [if_pos h9] at hfl; cases hfl
        · omega
      have hnew : ∀ e ∈ L, e.key ≠ encK lbs := fun e he e1 => by
        have hoe := hH.tb.ok e he
        rw [hoe.key, key_lbs hoe.chk hck] at e1
        exact entL_none hE e he e1
      have hask := fun w' (g : Grew w w') => (hHw.out w' g).tb.askN hnew
      replace hask := Lib.hid hask
      have hss := putS_new hE (T, V)
      replace hss := Lib.hid hss
      have hin : ∀ l, ¬ InP PL l (encK lbs) := fun l hl => by
        obtain ⟨e, he, h1, _⟩ := (hH.rel l _).1 hl
        exact hnew e he h1
      have hzz : ∀ l ∈ lbs, SzL l := fun l hl => by
        have := hz2 l hl
        unfold SzL maxLen
        omega
      have hnd := chkL_nodup hck
      have hnon := hH.non
      replace hnew := Lib.hid hnew
      replace hin := Lib.hid hin
      replace hzz := Lib.hid hzz
      replace hnd := Lib.hid hnd
      replace hnon := Lib.hid hnon
      replace hck := Lib.hid hck
      clear hfl hE hbx hf hH
      go_enter Tryz.func11, Tryz.ntmps11
      go_wp2_with fail
      rw [← hW]
      clear hW
      refine hF.mono ?_
      rintro e w1 ⟨rfl, g1⟩
      have g01 := hgW.trans g1
      have y0 := (hx.out _ g1).cell 0
      clear x0 x1 x2
      go_wp2_with fail
      refine (hEn.out _ g01).mono ?_
      rintro e v2 ⟨B, d, rfl, h2, g2⟩
      have g02 := g01.trans g2
      have gW2 := g1.trans g2
      have hc1 := hcv.out v2 B _ d h2.rb
      have hk2 := hHw.out _ g02
      have k0 := hk2.hd.cell 0
      have hl1 := hask.out v2 g02
      rw [show encK lbs = ⟨(encL lbs).toArray⟩ from rfl] at hl1
      have gX : Grew v2 (v2.alloc (.cells #[] 72)) := (Chg.refl _ v2).alloc _
      have y3 := (hx.out _ (gW2.trans gX)).cell 0
      have oL : OT elLb (v2.alloc (.cells #[] 72)) 72 (some ⟨v2.heap.size, 0, none⟩) 0 0 [] := OE.ot (OE.made v2 0 72 (Nat.zero_le _))
      have rL := hlg.out _ (g02.trans gX)
      clear hask
      go_wp2_with (at_builtin; refine wpList_appT rfl _ _ 28 72 infoLab rfl Tryz.underlying28 rfl (some ⟨v2.heap.size, 0, none⟩) 0 0 [] rfl oL la ln lc lbs rfl rL (by unfold maxLen; omega) (by omega) ?_; intro A3 c3 v3 h3)
      have hz2 := g02.size
      have g23 : Grew v2 v3 := gX.step h3.chg (fun k hk ⟨ad, e1, e2⟩ => by
        injection e1 with e1
        subst e1
        simp only at e2
        omega)
      have hz3 := g23.size
      have hA3 : ∀ ad, A3 = some ad → w.heap.size ≤ ad.block := fun ad e1 => by
        rcases h3.at_ with e2 | ⟨g', e2, e3, _⟩
        · rw [e2] at e1
          injection e1 with e1
          subst e1
          exact hz2
        · rw [e2] at e1
          injection e1 with e1
          subst e1
          have := gX.size
          simp only at *
          omega
      have hrow3 := h3.own
      simp only [Nat.zero_add, List.nil_append] at hrow3
      clear h3 oL rL y3 hl1 hc1
      go_wp2_with fail
      obtain ⟨g, hgg⟩ : ∃ g, g = v3.heap.size := ⟨_, rfl⟩
      obtain ⟨v5, hv5⟩ : ∃ v5, v5 = v3.alloc (.cells #[.slice A3 ln c3, .slice none 0 0] 67) := ⟨_, rfl⟩
      have g35 : Grew v3 v5 := by rw [hv5]; exact (Chg.refl _ v3).alloc _
      have hbe : Blk v5 g 67 #[.slice A3 ln c3, .slice none 0 0] := by rw [hv5, hgg]; exact Blk.new v3 _ _
      rw [← hv5, ← hgg]
      have hgw : w.heap.size ≤ g := by omega
      have Hgg := Lib.hid hgg
      clear hgg hv5
      have g05 := (g02.trans g23).trans g35
      have gW5 := (gW2.trans g23).trans g35
      have hk5 := hHw.out _ g05
      have hrow5 := hrow3.grew g35
      have hnS : ∀ k, w.heap.size ≤ k → ¬ S k := fun k hk hs => by have := hlt k hs; omega
      refine (put_any (encK lbs) A3 none ln c3 0 0 lbs v5 hk5.tb hk5.hd hbe (hrow5.re (by decide)) (fun ad e => hnS _ (hA3 ad e)) hzz.out hnd.out hnew.out hin.out hnon.out (by omega)).mono ?_
      rintro e w3 ⟨rfl, PL', cp', hI, hNE⟩
      have hBS : ∀ k, BT b p PL k → S k := fun k hk => by
        rcases hk with rfl | rfl | ⟨q, hq, rfl⟩
        · exact hk5.tb.ob
        · exact hk5.tb.op
        · exact (hk5.tb.pok q hq).oq
      have hbx5 := hx.out _ gW5
      have hb3 := hbx5.chg hI.chg (fun e1 => hnS _ (Nat.le_refl _) (hBS _ e1))
      have hbg := hbe.chg hI.chg (fun e1 => hnS _ hgw (hBS _ e1))
      have hrow6 := hrow5.chg hI.chg (fun ad e1 e2 => hnS _ (hA3 ad e1) (hBS _ e2))
      have y1 := hbg.cell 1
      have z1 := hb3.cell 1
      have z2 := hb3.cell 2
      have hpt : OT elPt w3 69 none 0 0 [] := OT.nil w3 _
      have hpg : ¬ ∃ ad : Addr, (none : Option Addr) = some ad ∧ g = ad.block := fun ⟨_, e1, _⟩ => by cases e1
      have hpx : ¬ ∃ ad : Addr, (none : Option Addr) = some ad ∧ w.heap.size = ad.block := fun ⟨_, e1, _⟩ => by cases e1
      go_wp2_with fail
      refine wp_region_textL [(3, 1)] [g, w.heap.size] (by kernel_rfl) (by kernel_rfl) (cellsIn_cons hbg.ex (cellsIn_cons hb3.ex (cellsIn_nil _))) ?_
      simp only [wpUL, tagOf, chk, List.nil_append, List.cons_append]
      intro K hK
      go_wp2_with fail
      refine OnlyN.normal (hK _ _ (fun _ => ⟨_, _, _, rfl, rfl, by simp⟩) ?_)
      clear hK K
      intro K hK
      go_wp2_with fail
      refine OnlyN.normal (hK _ _ (fun _ => ⟨_, _, _, rfl, rfl, by simp⟩) ?_)
      clear hK K
      intro K hK
      go_wp2_with fail
      refine OnlyN.normal (hK _ _ (fun _ => ⟨_, _, _, rfl, rfl, by simp⟩) ?_)
      clear hK K
      have g34 : Grew w3 (w3.alloc (.cells #[.int .i64 T, .int .u64 (V : Int)] 69)).drew := ((Chg.refl _ w3).alloc _).drew
      have hsrc : RE elPt (w3.alloc (.cells #[.int .i64 T, .int .u64 (V : Int)] 69)).drew (some ⟨w3.heap.size, 0, none⟩) 1 [(T, V)] := RE.newAt rfl rfl rfl
      have hrow := hpt.grew g34
      intro K hK
      go_wp2_with fail
      refine OnlyN.normal (hK _ _ (sameIn_of g34 (cellsIn_cons hbg.ex (cellsIn_cons hb3.ex (cellsIn_nil _))) (fun _ _ e => e)) ?_)
      clear hK K
      intro K hK
      go_wp2_with (at_builtin; refine wpList_appT rfl _ _ 59 69 infoPt rfl Tryz.underlying59 rfl none 0 0 [] rfl hrow _ 1 1 [(T, V)] rfl hsrc (by unfold maxLen; omega) (by omega) ?_; intro A4 c4 w4 h4)
      have hch4 : Chg (fun k => ∃ ad, (none : Option Addr) = some ad ∧ k = ad.block) w3 w4 := (Chg.of_grew g34).trans h4.chg
      refine OnlyN.normal (hK _ _ (sameIn_of hch4 (cellsIn_cons hbg.ex (cellsIn_cons hb3.ex (cellsIn_nil _))) (by
        intro k hk
        simp only [List.mem_cons, List.not_mem_nil, or_false] at hk
        rcases hk with rfl | rfl
        · exact hpg
        · exact hpx)) ?_)
      clear hK K
      have hbg4 := hbg.chg hch4 hpg
      have k1 := hbg4.cell 1
      have f1 := hbg4.frozen 1
      go_wp2_with fail
      refine OnlyN.normal ?_
      go_wp2
      go_ret
      have hown := h4.own
      simp only [Nat.zero_add, List.nil_append] at hown
      have hg34 : Grew w3 w4 := hch4.mono fun k _ ⟨_, e1, _⟩ => by cases e1
      have hset : Chg (fun k => k = g) w4 (w4.setCell ⟨g, 1, none⟩ (.slice A4 1 c4)) := Chg.one w4 g 1 _
      have hcE : Chg (fun k => k = g) w3 (w4.setCell ⟨g, 1, none⟩ (.slice A4 1 c4)) := (Chg.of_grew hg34).trans hset
      have hz5 := g05.size
      have hz6 := hI.chg.size
      have hz7 := hg34.size
      have hA4 : ∀ ad, A4 = some ad → w.heap.size ≤ ad.block := fun ad e1 => by
        rcases h4.at_ with e2 | ⟨g', e2, e3, _⟩
        · rw [e2] at e1
          cases e1
        · rw [e2] at e1
          injection e1 with e1
          subst e1
          have := g34.size
          simp only at *
          omega
      have hbE : Blk (w4.setCell ⟨g, 1, none⟩ (.slice A4 1 c4)) g 67 #[.slice A3 ln c3, .slice A4 1 c4] := by simpa using hbg4.set 1 (.slice A4 1 c4)
      have hown5 : OT elPt (w4.setCell ⟨g, 1, none⟩ (.slice A4 1 c4)) 69 A4 1 c4 [(T, V)] := hown.chg hset fun ad e1 e2 => by
        obtain ⟨c, hc⟩ := OwT.blk hown ad e1
        exact (hbg4.neT hc (by decide)) e2.symm
      have hrow7 := (hrow6.grew hg34).chg hset fun ad e1 e2 => by
        obtain ⟨c, hc⟩ := OwT.blk (hrow6.grew hg34) ad e1
        exact (hbg4.neT hc (by decide)) e2.symm
      have hE' : HEnt.Ok (More S w (w4.setCell ⟨g, 1, none⟩ (.slice A4 1 c4))) (w4.setCell ⟨g, 1, none⟩ (.slice A4 1 c4)) (cb + 1) ⟨encK lbs, g, cb, ⟨A3, ln, c3, A4, 1, c4⟩, ⟨lbs, [(T, V)]⟩⟩ := by
        refine ⟨hbE, hrow7, hown5, .inr ⟨hgw, hbE.lt⟩, fun ad e1 => .inr ⟨hA3 ad e1, ?_⟩, fun ad e1 => .inr ⟨hA4 ad e1, ?_⟩, rfl, hck.out, List.pairwise_singleton _ _, by simp, fun p hp => ?_, Nat.lt_succ_self _⟩
        · obtain ⟨c, hc⟩ := OwT.blk hrow7 ad e1
          exact hc.lt
        · obtain ⟨c, hc⟩ := OwT.blk hown5 ad e1
          exact hc.lt
        · obtain rfl := List.mem_singleton.1 hp
          exact hT
      have hTB := hk5.tb.addE (w := w) (e' := ⟨encK lbs, g, cb, ⟨A3, ln, c3, A4, 1, c4⟩, ⟨lbs, [(T, V)]⟩⟩) hz5 hlt hI hcE hgw hbg rfl rfl hE' hnew.out hA4
      refine ⟨by simp, _, L ++ [⟨encK lbs, g, cb, ⟨A3, ln, c3, A4, 1, c4⟩, ⟨lbs, [(T, V)]⟩⟩], cb + 1, PL', cp', ⟨?_, hTB, fun l s => ?_, hNE, .inl hk5.oh, hk5.ml, by rw [List.length_append]; exact hNl⟩, fun k e1 => .inl e1, fun k e1 => e1.imp id fun e1 => e1.1, ?_, ?_⟩
      · refine (hk5.hd.chg hI.chg (fun e1 => ?_)).chg hcE (fun e1 => hnS g hgw (e1 ▸ hk5.oh))
        rcases e1 with e1 | e1 | ⟨q, hq, e1⟩
        · exact (hk5.tb.mb.ne_blk hk5.hd) e1.symm
        · exact (hk5.tb.mp.ne_blk hk5.hd) e1.symm
        · exact ((hk5.tb.pok q hq).mb.ne_blk hk5.hd) e1.symm
      · rw [inL_add, hI.rel, hk5.rel]
      · exact ((Chg.of_grew g05).trans (hI.chg.mono fun k _ e1 => hBS k e1)).step hcE fun k hk e1 => by omega
      · rw [hss.out, List.map_append]
        rfl
    | some e =>
      obtain ⟨he, hel⟩ := entL_some hE
      obtain ⟨i, hi⟩ := List.getElem?_of_mem he
      have hoe := hH.tb.ok e he
      have hkey : e.key = encK lbs := by rw [hoe.key, hel]
      obtain ⟨q, hq1, hq2⟩ := last_at hoe.non
      have hqT : q.1 < T := by
        have hlast : lastL L lbs = some q := by unfold lastL; rw [hE]; exact hq1
        rw [hlast] at hfl
        unfold fateO at hfl
        dsimp only at hfl
        by_cases h9 : q.1 < T
        · exact h9
        · rw [if_neg h9] at hfl
          split at hfl
          · cases hfl
          · split at hfl <;> cases hfl
      have hpn := hoe.pn
      have hask := fun w' (g : Grew w w') => (hHw.out w' g).tb.askS he
      rw [hkey] at hask
      replace hask := Lib.hid hask
      have hss := fun A c => putS_old hi hel (fun j x hj hx e0 => (hap_at hH.tb.ap hx hi hj).key (by rw [(hH.tb.ok x (List.mem_of_getElem? hx)).key, hkey, e0])) A c (T, V)
      replace hss := Lib.hid hss
      replace hq1 := Lib.hid hq1
      replace hqT := Lib.hid hqT
      replace hi := Lib.hid hi
      replace he := Lib.hid he
      replace hel := Lib.hid hel
      clear hfl hE hbx hoe hq2 hf hkey
      go_enter Tryz.func11, Tryz.ntmps11
      go_wp2_with fail
      rw [← hW]
      clear hW
      refine hF.mono ?_
      rintro e w1 ⟨rfl, g1⟩
      have g01 := hgW.trans g1
      have y0 := (hx.out _ g1).cell 0
      clear x0 x1 x2
      go_wp2_with fail
      refine (hEn.out _ g01).mono ?_
      rintro e w2 ⟨B, d, rfl, h2, g2⟩
      have g02 := g01.trans g2
      have gW2 := g1.trans g2
      have hc1 := hcv.out w2 B _ d h2.rb
      have hk2 := hHw.out _ g02
      have k0 := hk2.hd.cell 0
      have hl1 := hask.out w2 g02
      rw [show encK lbs = ⟨(encL lbs).toArray⟩ from rfl] at hl1
      go_wp2_with fail
      have hk3 := hk2
      have hoe := hk2.tb.ok e he.out
      have hbg := hoe.blk
      have hpt := hoe.pt
      have hb3 := hx.out _ gW2
      have y1 := hbg.cell 1
      have z1 := hb3.cell 1
      have z2 := hb3.cell 2
      have hpcap := OwT.cap hpt
      have hpg : ¬ ∃ ad, e.m.pa = some ad ∧ e.g = ad.block := fun ⟨ad, e1, e2⟩ => by
        obtain ⟨c, hc⟩ := hpt.blk ad e1
        exact (hbg.neT hc (by decide)) e2
      have hpx : ¬ ∃ ad, e.m.pa = some ad ∧ w.heap.size = ad.block := fun ⟨ad, e1, e2⟩ => by
        have := hlt _ (hoe.op ad e1)
        omega
      clear hask hl1 hc1 k0
      generalize w2 = w3 at *
      refine wp_region_textL [(3, 1)] [e.g, w.heap.size] (by kernel_rfl) (by kernel_rfl) (cellsIn_cons hbg.ex (cellsIn_cons hb3.ex (cellsIn_nil _))) ?_
      simp only [wpUL, tagOf, chk, List.nil_append, List.cons_append]
      intro K hK
      go_wp2_with fail
      refine OnlyN.normal (hK _ _ (fun _ => ⟨_, _, _, rfl, rfl, by simp⟩) ?_)
      clear hK K
      intro K hK
      go_wp2_with fail
      refine OnlyN.normal (hK _ _ (fun _ => ⟨_, _, _, rfl, rfl, by simp⟩) ?_)
      clear hK K
      intro K hK
      go_wp2_with fail
      refine OnlyN.normal (hK _ _ (fun _ => ⟨_, _, _, rfl, rfl, by simp⟩) ?_)
      clear hK K
      have g34 : Grew w3 (w3.alloc (.cells #[.int .i64 T, .int .u64 (V : Int)] 69)).drew := ((Chg.refl _ w3).alloc _).drew
      have hsrc : RE elPt (w3.alloc (.cells #[.int .i64 T, .int .u64 (V : Int)] 69)).drew (some ⟨w3.heap.size, 0, none⟩) 1 [(T, V)] := RE.newAt rfl rfl rfl
      have hrow := hpt.grew g34
      intro K hK
      go_wp2_with fail
      refine OnlyN.normal (hK _ _ (sameIn_of g34 (cellsIn_cons hbg.ex (cellsIn_cons hb3.ex (cellsIn_nil _))) (fun _ _ e => e)) ?_)
      clear hK K
      intro K hK
      go_wp2_with (at_builtin; refine wpList_appT rfl _ _ 59 69 infoPt rfl Tryz.underlying59 rfl e.m.pa e.m.pn e.m.pc e.s.pts rfl hrow _ 1 1 [(T, V)] rfl hsrc (by unfold maxLen; omega) (by omega) ?_; intro A4 c4 w4 h4)
      have hch4 : Chg (fun k => ∃ ad, e.m.pa = some ad ∧ k = ad.block) w3 w4 := (Chg.of_grew g34).trans h4.chg
      refine OnlyN.normal (hK _ _ (sameIn_of hch4 (cellsIn_cons hbg.ex (cellsIn_cons hb3.ex (cellsIn_nil _))) (by
        intro k hk
        simp only [List.mem_cons, List.not_mem_nil, or_false] at hk
        rcases hk with rfl | rfl
        · exact hpg
        · exact hpx)) ?_)
      clear hK K
      have hbg4 := hbg.chg hch4 hpg
      have k1 := hbg4.cell 1
      have f1 := hbg4.frozen 1
      go_wp2_with fail
      refine OnlyN.normal ?_
      go_wp2
      go_ret
      have hset : Chg (fun k => k = e.g) w4 (w4.setCell ⟨e.g, 1, none⟩ (.slice A4 (e.m.pn + 1) c4)) := Chg.one w4 e.g 1 _
      have hcE : Chg (ET e) w3 (w4.setCell ⟨e.g, 1, none⟩ (.slice A4 (e.m.pn + 1) c4)) := (hch4.mono fun k _ h => .inr h).trans (hset.mono fun k _ h => .inl h)
      have hA4 : ∀ ad, A4 = some ad → (∃ bd, e.m.pa = some bd ∧ ad.block = bd.block) ∨ w3.heap.size ≤ ad.block := fun ad e1 => by
        rcases h4.at_ with e2 | ⟨g', e2, e3, _⟩
        · exact .inl ⟨ad, e2.symm.trans e1, rfl⟩
        · rw [e2] at e1
          injection e1 with e1
          subst e1
          exact .inr (Nat.le_trans g34.size e3)
      have hbE : Blk (w4.setCell ⟨e.g, 1, none⟩ (.slice A4 (e.m.pn + 1) c4)) e.g 67 #[.slice e.m.la e.m.ln e.m.lc, .slice A4 (e.m.pn + 1) c4] := by simpa using hbg4.set 1 (.slice A4 (e.m.pn + 1) c4)
      have hown := h4.own
      have hown5 : OT elPt (w4.setCell ⟨e.g, 1, none⟩ (.slice A4 (e.m.pn + 1) c4)) 69 A4 (e.m.pn + 1) c4 (e.s.pts ++ [(T, V)]) := hown.chg hset fun ad e1 e2 => by
        obtain ⟨c, hc⟩ := OwT.blk hown ad e1
        exact (hbg4.neT hc (by decide)) e2.symm
      have hE' : (e.push A4 c4 (T, V)).Ok (More S w3 (w4.setCell ⟨e.g, 1, none⟩ (.slice A4 (e.m.pn + 1) c4))) (w4.setCell ⟨e.g, 1, none⟩ (.slice A4 (e.m.pn + 1) c4)) cb := by
        refine ⟨hbE, hoe.lb.chg hcE hoe.la, hown5, .inl hoe.og, fun ad e1 => .inl (hoe.ol ad e1), fun ad e1 => ?_, hoe.key, hoe.chk, rise_push hoe.ris hq1.out hqT.out, by simp [HEnt.push], fun p hp => ?_, hoe.born⟩
        · rcases hA4 ad e1 with ⟨bd, e2, e3⟩ | e2
          · exact .inl (by rw [e3]; exact hoe.op bd e2)
          · obtain ⟨c, hc⟩ := OwT.blk hown5 ad e1
            exact .inr ⟨e2, hc.lt⟩
        · rcases List.mem_append.1 hp with hp | hp
          · exact hoe.bnd p hp
          · obtain rfl := List.mem_singleton.1 hp
            exact hT
      have hTB := hk3.tb.setE hi.out hcE hE' rfl rfl rfl hA4
      have hz3 := g02.size
      refine ⟨by simp, _, L.set i (e.push A4 c4 (T, V)), cb, PL, cp, ⟨hk3.hd.chg hcE (hoe.head hk3.hd), hTB, fun l s => ?_, hk3.non, .inl hk3.oh, hk3.ml, by rw [List.length_set]; exact hk3.len⟩, fun k e1 => .inl e1, fun k e1 => e1.imp id fun e1 => by omega, ?_, ?_⟩
      · exact (hk3.rel l s).trans (inL_push (e' := e.push A4 c4 (T, V)) hi.out rfl rfl l s).symm
      · exact (Chg.of_grew g02).trans (hcE.mono fun k _ e1 => by
          rcases e1 with e1 | ⟨ad, e1, e2⟩
          · rw [e1]; exact hoe.og
          · rw [e2]; exact hoe.op ad e1)
      · exact (hss.out A4 c4).symm
  · rw [if_neg h1]
    have e1 : ((f : Int) == 1) = false := by simp [h1]
    clear hbx hH hfl hf
    go_enter Tryz.func11, Tryz.ntmps11
    go_wp2_with fail
    rw [← hW]
    clear hW
    refine hF.mono ?_
    rintro e w1 ⟨rfl, g1⟩
    have g01 := hgW.trans g1
    go_wp2
    go_ret
    exact ⟨by simp, S, L, cb, PL, cp, hHw.out _ g01, fun _ e => e, fun _ e => .inl e, Chg.of_grew g01, rfl⟩
end Go.Proofs.YtailooldnelecaaGreatDoor

namespace Go.Proofs.YtailooldnelecaaGreatDoor
open Go.RowKit

set_option maxRecDepth 100000 in
set_option maxHeartbeats 2000000 in
theorem new_any (lim : Int) (w : World) (h63 : -9223372036854775808 ≤ lim ∧ lim ≤ 9223372036854775807) : Calls Tryz.prog 4 #[.int .i64 lim] w fun e w' => ∃ h b p S, e = .returned (.pointer (some ⟨h, 0, none⟩)) ∧ HS S w' h b p [] 0 [] 0 (min (max lim 0) 1024).toNat ∧ Grew w w' ∧ ∀ k, S k → w.heap.size ≤ k := by
  have hmm := @run_makeMap Tryz.prog
  obtain ⟨n, hn⟩ : ∃ n : Nat, (min (max lim 0) 1024) = (n : Int) := ⟨(min (max lim 0) 1024).toNat, by omega⟩
  go_enter Tryz.func4, Tryz.ntmps4
  go_wp2
  go_ret
  have hb1 : Blk (((w.alloc (.map #[] 0)).alloc (.map #[] 0)).alloc (.cells #[.map (some w.heap.size), .map (some (w.heap.size + 1)), .int .i64 (n : Int)] 47)) (w.heap.size + 1 + 1) 47 #[.map (some w.heap.size), .map (some (w.heap.size + 1)), .int .i64 (n : Int)] := by
    have := Blk.new ((w.alloc (.map #[] 0)).alloc (.map #[] 0)) 47 #[.map (some w.heap.size), .map (some (w.heap.size + 1)), .int .i64 (n : Int)]
    simpa using this
  have hm1 : MapB (((w.alloc (.map #[] 0)).alloc (.map #[] 0)).alloc (.cells #[.map (some w.heap.size), .map (some (w.heap.size + 1)), .int .i64 (n : Int)] 47)) w.heap.size #[] 0 := MapB.grew (MapB.new w #[] 0) (((Chg.refl _ _).alloc _).alloc _)
  have hm2 : MapB (((w.alloc (.map #[] 0)).alloc (.map #[] 0)).alloc (.cells #[.map (some w.heap.size), .map (some (w.heap.size + 1)), .int .i64 (n : Int)] 47)) (w.heap.size + 1) #[] 0 := by
    have := MapB.grew (MapB.new (w.alloc (.map #[] 0)) #[] 0) ((Chg.refl _ _).alloc (.cells #[.map (some w.heap.size), .map (some (w.heap.size + 1)), .int .i64 (n : Int)] 47))
    simpa using this
  refine ⟨w.heap.size + 1 + 1, w.heap.size, w.heap.size + 1, fun k => w.heap.size ≤ k ∧ k < w.heap.size + 3, by simp, ⟨by rw [hn]; exact hb1, ⟨hm1, fun e he => (by cases he), List.Pairwise.nil, hm2, fun e he => (by cases he), List.Pairwise.nil, by omega, fun e he => (by cases he), ⟨by omega, by omega⟩, ⟨by omega, by omega⟩, fun k hk => ?_⟩, fun l s => ⟨fun ⟨q, hq, _⟩ => (by cases hq), fun ⟨q, hq, _⟩ => (by cases hq)⟩, fun e he => (by cases he), ⟨by omega, by omega⟩, by omega, Nat.zero_le _⟩, (((Chg.refl _ _).alloc _).alloc _).alloc _, fun k hk => hk.1⟩
  have := hb1.lt
  omega

def PartH (V L : List HEnt) : Prop := V.Nodup ∧ ∀ e ∈ V, e ∈ L
theorem hap_of {L : List HEnt} (h : L.Pairwise HAp) {a b : HEnt} (ha : a ∈ L) (hb : b ∈ L) (hne : a ≠ b) : HAp a b := by
  obtain ⟨i, hi⟩ := List.getElem?_of_mem ha
  obtain ⟨j, hj⟩ := List.getElem?_of_mem hb
  exact hap_at h hi hj fun e => by
    subst e
    rw [hi] at hj
    injection hj with hj
    exact hne hj
theorem PartH.len {V L : List HEnt} (h : PartH V L) : V.length ≤ L.length := subL_len V L h.1 h.2
where subL_len : ∀ (V E : List HEnt), V.Nodup → (∀ f ∈ V, f ∈ E) → V.length ≤ E.length
  | [], _, _, _ => Nat.zero_le _
  | a :: V, E, h, hs => by
    obtain ⟨h1, h2⟩ := List.nodup_cons.1 h
    obtain ⟨s, t, rfl⟩ := List.append_of_mem (hs a List.mem_cons_self)
    have := subL_len V (s ++ t) h2 (fun f hf => by
      have := hs f (List.mem_cons_of_mem _ hf)
      rcases List.mem_append.1 this with h3 | h3
      · exact List.mem_append_left _ h3
      · rcases List.mem_cons.1 h3 with rfl | h3
        · exact absurd hf h1
        · exact List.mem_append_right _ h3)
    simp at this ⊢
    omega
section
variable {S : Nat → Prop} {w : World} {b p cb cp : Nat} {L V : List HEnt} {PL : List PEnt} {r : Nat}
theorem TB.part (h : TB S w b p L cb PL cp) (hV : PartH V L) : PartM (V.map HEnt.ent) (L.map HEnt.ent) := by
  refine ⟨fun f hf => ?_, ?_⟩
  · obtain ⟨e, he, rfl⟩ := List.mem_map.1 hf
    exact List.mem_map.2 ⟨e, hV.2 e he, rfl⟩
  · refine List.pairwise_map.2 (hV.1.imp_of_mem fun {a b} ha hb hne e => ?_)
    exact (hap_of h.ap (hV.2 a ha) (hV.2 b hb) hne).born (congrArg MapEntry.born e)
theorem TB.ent_inj (h : TB S w b p L cb PL cp) {a c : HEnt} (ha : a ∈ L) (hc : c ∈ L) (e : a.ent = c.ent) : a = c := Classical.byContradiction fun hne =>
  (hap_of h.ap ha hc hne).born (congrArg MapEntry.born e)
/-- the next series, or none is left -/
theorem TB.next (h : TB S w b p L cb PL cp) (hi : ItM w r b cb (V.map HEnt.ent)) (hV : PartH V L) :
    (V.Perm L ∧ ∀ ty, (Instr.next (.pointer (some ⟨r, 0, none⟩)) false ty).run Tryz.prog w = .ok (.tuple #[.bool false]) w) ∨
    ∃ e ∈ L, PartH (V ++ [e]) L ∧ ∃ w1 : World, Chg (fun k => k = r) w w1 ∧ w1.heap.size = w.heap.size ∧ (∀ ty, (Instr.next (.pointer (some ⟨r, 0, none⟩)) false ty).run Tryz.prog w = .ok (.tuple #[.bool true, .string e.key, .pointer (some ⟨e.g, 0, none⟩)]) w1) ∧
      ItM w1 r b cb ((V ++ [e]).map HEnt.ent) ∧ (Instr.entry (.pointer (some ⟨r, 0, none⟩))).run Tryz.prog w1 = .ok (.tuple #[.string e.key, .pointer (some ⟨e.g, 0, none⟩)]) w1 := by
  rcases itm_next (P := Tryz.prog) h.mb h.bap hi (h.part hV) with ⟨h1, h2⟩ | ⟨f, hf, hfV, _, w1, hc, hs, hn, hi1, _, hen⟩
  · refine .inl ⟨(List.perm_ext_iff_of_nodup hV.1 (h.ap.imp fun h e => h.born (congrArg HEnt.born e))).2 fun e => ⟨hV.2 e, fun he => ?_⟩, h2⟩
    obtain ⟨x, hx, e1⟩ := List.mem_map.1 (h1.mem_iff.2 (List.mem_map.2 ⟨e, he, rfl⟩))
    exact h.ent_inj (hV.2 x hx) he e1 ▸ hx
  · obtain ⟨e, he, rfl⟩ := List.mem_map.1 hf
    have heV : e ∉ V := fun h1 => hfV (List.mem_map.2 ⟨e, h1, rfl⟩)
    refine .inr ⟨e, he, ⟨List.nodup_append.2 ⟨hV.1, by simp, fun a ha b hb e1 => ?_⟩, fun x hx => ?_⟩, w1, hc, hs, hn, by rw [List.map_append]; exact hi1, hen⟩
    · obtain rfl := List.mem_singleton.1 hb
      exact heV (e1 ▸ ha)
    · rcases List.mem_append.1 hx with hx | hx
      · exact hV.2 x hx
      · obtain rfl := List.mem_singleton.1 hx
        exact he
end
def totH (L : List HEnt) : Nat := (L.map fun e => e.m.pn).sum
theorem totH_snoc (L : List HEnt) (e : HEnt) : totH (L ++ [e]) = totH L + e.m.pn := by simp [totH]
theorem totH_perm {L V : List HEnt} (h : V.Perm L) : totH V = totH L := (h.map _).sum_nat
theorem totH_le {L : List HEnt} {B : Nat} (h : ∀ e ∈ L, e.m.pn ≤ B) : totH L ≤ B * L.length := by
  induction L with
  | nil => simp [totH]
  | cons e L ih =>
    have h1 := ih fun x hx => h x (List.mem_cons_of_mem _ hx)
    have h2 := h e List.mem_cons_self
    simp only [totH, List.map_cons, List.sum_cons, List.length_cons] at *
    rw [Nat.mul_succ]
    omega

set_option maxRecDepth 100000 in
set_option maxHeartbeats 4000000 in
theorem count_head {S : Nat → Prop} {h b p cb cp lim : Nat} {L : List HEnt} {PL : List PEnt} (w : World) (hH : HS S w h b p L cb PL cp lim) :
    Calls Tryz.prog 22 #[.pointer (some ⟨h, 0, none⟩)] w fun e w' => e = .returned (.tuple #[.int .i64 (L.length : Int), .int .i64 (totH L : Int)]) ∧ Grew w w' := by
  have hml := hH.ml
  have hlen := hH.len
  have c0 := hH.hd.cell 0
  have hrange := run_range_b (P := Tryz.prog) Tryz.underlying42 hH.tb.mb
  have hg1 : Grew w (w.alloc (.mapIter (some b) cb #[] cb)) := (Chg.refl _ w).alloc _
  have hHw := fun w' (g : Grew w w') => hH.grew g
  have hi0 : Hid (ItM (w.alloc (.mapIter (some b) cb #[] cb)) w.heap.size b cb ([].map HEnt.ent)) := itm_start
  have hB : ∀ e ∈ L, e.m.pn ≤ 2199023255553 := fun e he => (hH.tb.ok e he).pn
  replace hHw := Lib.hid hHw
  replace hB := Lib.hid hB
  clear hH
  go_enter Tryz.func22, Tryz.ntmps22
  go_wp2
  go_loopw [4] (fun v wr => ∃ V, v = .int .i64 (totH V : Int) ∧ PartH V L ∧ Grew w wr ∧ ItM wr w.heap.size b cb (V.map HEnt.ent)) (fun _ wr => match wr.heap[w.heap.size]? with | some (.mapIter _ _ seen _) => L.length - seen.size | _ => 0)
  case atStart => exact ⟨[], rfl, ⟨List.nodup_nil, fun e he => (by cases he)⟩, hg1, hi0.out⟩
  case round =>
    clear hi0 hg1 c0
    obtain ⟨V, rfl, hV, hg, hi⟩ := hrel
    have hm0 : (match wr.heap[w.heap.size]? with | some (.mapIter _ _ seen _) => L.length - seen.size | _ => 0) = L.length - V.length := by
      obtain ⟨c0, h1, _⟩ := hi
      unfold IterB at h1
      rw [h1]
      simp
    have hk := hHw.out wr hg
    rcases hk.tb.next hi hV with ⟨hpm, hnx⟩ | ⟨e, he, hV2, w1, hc1, hs1, hnx, hit, hen⟩
    · have c0 := hk.hd.cell 0
      have hlM := fun ty => run_lenM (P := Tryz.prog) (ty := ty) Tryz.underlying42 hk.tb.mb
      rw [totH_perm hpm]
      clear hm0
      go_wp2
      refine bodyPost_ret (v := .tuple #[.int .i64 (L.length : Int), .int .i64 (totH L : Int)]) ?_ rfl ⟨rfl, hg⟩
      simp [results, Tryz.results22, go_sem]
    · have hlt : V.length < L.length := by
        have := hV2.len
        simp at this
        omega
      have hgw : Grew w w1 := hg.step hc1 fun k hk e => by
        have e : k = w.heap.size := e
        omega
      have hoe := (hHw.out w1 hgw).tb.ok e he
      have c1 := hoe.blk.cell 1
      have hpn := hB.out e he
      have hle := totH_le (L := V) (B := 2199023255553) fun x hx => hB.out x (hV.2 x hx)
      have hq : totH V + e.m.pn = totH (V ++ [e]) := (totH_snoc V e).symm
      have hm1 : (match w1.heap[w.heap.size]? with | some (.mapIter _ _ seen _) => L.length - seen.size | _ => 0) = L.length - (V.length + 1) := by
        obtain ⟨c0, h1, _⟩ := hit
        unfold IterB at h1
        rw [h1]
        simp
      clear hk hc1 hs1 hoe
      go_wp2
      go_roundw
      case rel => exact ⟨V ++ [e], by rw [← hq]; go_num, hV2, hgw, hit⟩
      case measure =>
        rw [hm0, hm1]
        omega
end Go.Proofs.YtailooldnelecaaGreatDoor
