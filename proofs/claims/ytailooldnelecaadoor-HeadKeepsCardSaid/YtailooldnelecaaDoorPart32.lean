/-
  Several texts in one:
  (*table).drop: a series out of both maps. Conditions: labels each once; the series' key stands at each of its labels, and nowhere else.
  Compare on label sets, with what its world is: draws and blocks behind. Conditions: none.
-/
import Derived.Test.YtailooldnelecaaDoorPart31
import Derived.Test.YtailooldnelecaaDoorPart13
import Derived.Test.YtailooldnelecaaDoorPart16
import Derived.Sort.Grow
import Derived.Deep.Draws

namespace Go.Proofs.YtailooldnelecaaDoor
open Go.RowKit

theorem run_delB {w : World} {b cb : Nat} {L : List HEnt} (h : MapB w b (L.map HEnt.ent).toArray cb) (hap : KAp (L.map HEnt.ent)) {i : Nat} {e : HEnt} (hi : L[i]? = some e) (ty : TypeId) :
    (Builtin.delete_ #[54, 9] ty #[.map (some b), .string e.key]).run Tryd.prog w = .ok (.tuple #[]) (setB w b (.map ((L.eraseIdx i).map HEnt.ent).toArray cb)) := by
  have := run_strikeS (P := Tryd.prog) (y := e.ent) ty klS Tryd.underlying54 h ⟨e.key, rfl⟩ (fun y hy => by
    obtain ⟨x, hx, rfl⟩ := List.mem_map.1 (by simpa using hy)
    exact ⟨_, rfl⟩) (by simpa using hap) (i := i) (by simp [hi]) rfl
  rw [map_er]
  simpa using this
theorem run_askB {w : World} {b cb : Nat} {L : List HEnt} (h : MapB w b (L.map HEnt.ent).toArray cb) (hap : KAp (L.map HEnt.ent)) {i : Nat} {e : HEnt} (hi : L[i]? = some e) :
    (Instr.lookup 54 (.map (some b)) (.string e.key) false).run Tryd.prog w = .ok (.pointer (some ⟨e.g, 0, none⟩)) w :=
  run_lookS (y := e.ent) klS Tryd.underlying54 h ⟨_, rfl⟩ (fun y hy => by
    obtain ⟨x, hx, rfl⟩ := List.mem_map.1 (by simpa using hy)
    exact ⟨_, rfl⟩) (by simpa using hap) (i := i) (by simp [hi]) rfl
/-- a head while a series goes out -/
structure DrpS (S : Nat → Prop) (w W : World) (b p : Nat) (e : HEnt) (i : Nat) (L : List HEnt) (cb : Nat) (PL PL' : List PEnt) (cp : Nat) : Prop where
  chg : Chg (BT b p PL) w W
  mb : MapB W b ((L.eraseIdx i).map HEnt.ent).toArray cb
  pt : PT S W p PL' cp
  neb : ∀ q ∈ PL', q.q ≠ b
  tch : ∀ q ∈ PL', BT b p PL q.q
  rel : ∀ l s, InP PL' l s ↔ InP PL l s ∧ s ≠ e.key
  non : NonE PL'

set_option maxRecDepth 100000 in
set_option maxHeartbeats 8000000 in
theorem drop_any {S : Nat → Prop} {h b p cb cp : Nat} {L : List HEnt} {PL : List PEnt} {lim : Value} {i : Nat} {e : HEnt} (pa : Option Addr) (pn pc : Nat) (w : World) (hi : L[i]? = some e) (hmb : MapB w b (L.map HEnt.ent).toArray cb) (hap : KAp (L.map HEnt.ent)) (hpt : PT S w p PL cp) (hbp : b ≠ p) (hnb : ∀ q ∈ PL, q.q ≠ b)
    (hh : Blk w h 59 #[.map (some b), .map (some p), lim]) (hg : Blk w e.g 67 #[.slice e.m.la e.m.ln e.m.lc, .slice pa pn pc])
    (hl : OT elLb w 53 e.m.la e.m.ln e.m.lc e.s.lbs) (hnd : e.s.lbs.Nodup) (hln : e.s.lbs.length ≤ 16) (hin : ∀ l, InP PL l e.key ↔ l ∈ e.s.lbs) (hne : NonE PL) :
    Calls Tryd.prog 28 #[.pointer (some ⟨h, 0, none⟩), .string e.key] w fun x w' => x = .returned (.tuple #[]) ∧ ∃ PL', DrpS S w w' b p e i L cb PL PL' cp := by
  have hmap : ∀ k, BT b p PL k → ∃ es c, MapB w k es c := fun k hk => by
    rcases hk with rfl | rfl | ⟨q, hq, rfl⟩
    · exact ⟨_, _, hmb⟩
    · exact ⟨_, _, hpt.mp⟩
    · exact ⟨_, _, (hpt.pok q hq).mb⟩
  have hnb2 : ∀ {k t cs}, Blk w k t cs → ¬ BT b p PL k := fun hk hT => by
    obtain ⟨es, c, hm⟩ := hmap _ hT
    exact (hm.ne_blk hk) rfl
  have hhc := fun W (hc : Chg (BT b p PL) w W) => hh.chg hc (hnb2 hh)
  have hlcg := fun W (hc : Chg (BT b p PL) w W) => (hl.chg hc (fun ad e1 => by obtain ⟨c, hc⟩ := OwT.blk hl ad e1; exact hnb2 hc)).re (by decide)
  have hask := run_askB hmb hap hi
  have hI0 : DrpI S w w b p e.key L cb PL [] PL cp := ⟨Chg.refl _ w, hmb, hpt, hnb, fun q hq => .inr (.inr ⟨q, hq, rfl⟩), hbp, fun l s => ⟨fun h => ⟨h, fun e => by cases e.2⟩, fun h => h.1⟩⟩
  have hlen := hl.len (by decide)
  have h0 := hh.cell 0
  have g0 := hg.cell 0
  have hdl := fun W (hm : MapB W b (L.map HEnt.ent).toArray cb) => run_delB hm hap hi
  replace hhc := Lib.hid hhc
  replace hlcg := Lib.hid hlcg
  replace hlen := Lib.hid hlen
  replace hdl := Lib.hid hdl
  replace hin := Lib.hid hin
  replace hap := Lib.hid hap
  have hlbs := hl.len (by decide)
  rw [hlbs] at hln
  clear hmap hnb2 hh hg hl hpt hmb hbp hnb hlbs
  go_enter Tryd.func28, Tryd.ntmps28
  go_wp2
  clear hask
  go_loopw [16] (fun v wr => ∃ (k : Nat) (PL' : List PEnt), k ≤ e.m.ln ∧ v = .int .i64 (k : Int) ∧ DrpI S w wr b p e.key L cb PL (e.s.lbs.take k) PL' cp ∧ NonE PL') (fun v _ => e.m.ln - (intOf v).toNat)
  case atStart => exact ⟨0, PL, by omega, rfl, by simpa using hI0, hne⟩
  case round =>
    clear hI0 hne g0 h0
    obtain ⟨k, PL', hk, rfl, hI, hne⟩ := hrel
    by_cases hlt : k < e.m.ln
    · have hhw := hhc.out wr hI.chg
      obtain ⟨ad, x, hla, hx, x0, x1⟩ := RE.lb (hlcg.out wr hI.chg) hlt
      rw [hla]
      have hxd := nodup_at hnd hx
      obtain ⟨W, hW⟩ : ∃ W, W = wr.alloc (.cells #[.string x.1, .string x.2] 53) := ⟨_, rfl⟩
      have hgW : Grew wr W := by rw [hW]; exact (Chg.refl _ wr).alloc _
      have hbx : Blk W wr.heap.size 53 #[.string x.1, .string x.2] := by rw [hW]; exact Blk.new wr _ _
      have hIW := hI.grew hgW
      have hhW := hhw.grew hgW
      have hcs := fun W1 (h1 : Grew W W1) => cellsIn_cons (hhW.grew h1).ex (cellsIn_cons (hbx.grew h1).ex (cellsIn_nil W1))
      replace hcs := Lib.hid hcs
      have hxs : Hid (e.s.lbs.take k ++ [x] = e.s.lbs.take (k + 1)) := (take_sn hx).symm
      obtain ⟨q, hq, hqx, y, hy, hyk⟩ : InP PL' x e.key := (hIW.rel x e.key).2 ⟨(hin.out x).2 (List.mem_of_getElem? hx), fun e1 => hxd e1.2⟩
      obtain ⟨m, hm⟩ := List.getElem?_of_mem hq
      obtain ⟨j, hj⟩ := List.getElem?_of_mem hy
      subst hqx
      clear hx hI hhw hxd
      have h1 := hhW.cell 1
      have b0 := hbx.cell 0
      have b1 := hbx.cell 1
      go_wp2_with fail
      rw [← hW]
      clear hW x0 x1
      have hI1 := hIW.grew (Chg.refl _ W).drew
      have ha := hI1.pt.askS hq
      have hd := fun ty => hI1.pt.delIn hq hj hyk ty
      have hI2 := hI1.cut hm hj hyk
      obtain ⟨U, hU⟩ : ∃ U, U = setB W.drew q.q (.map (q.es.eraseIdx j).toArray q.c) := ⟨_, rfl⟩
      rw [← hU] at hI2 hd
      unfold lbK at ha
      rw [hxs.out] at hI2
      have hqm := (hIW.pt.pok q hq).mb
      have hqn1 : wr.heap.size ≠ q.q := fun e => by rw [← e] at hqm; exact (hqm.ne_blk hbx) rfl
      have hqn2 : h ≠ q.q := fun e => by rw [← e] at hqm; exact (hqm.ne_blk hhW) rfl
      have hcU : Chg (fun k => k = q.q) W U := by rw [hU]; exact Chg.setB (S := fun k => k = q.q) (Chg.refl _ W).drew (.inr rfl) _
      have hhU := hhW.chg hcU hqn2
      have hbU := hbx.chg hcU hqn1
      have hcsU := cellsIn_cons hhU.ex (cellsIn_cons hbU.ex (cellsIn_nil U))
      clear hU
      refine wp_region_textS [(3, 1)] [h, wr.heap.size] (by kernel_rfl) (by kernel_rfl) (hcs.out _ (Chg.refl _ W)) ?_
      simp only [wpU, tagOf, chk, List.nil_append, List.cons_append]
      intro K hK
      go_wp2_with fail
      refine OnlyN.normal (hK _ _ (fun _ => ⟨_, _, _, rfl, rfl, by simp⟩) ?_)
      clear hK K
      intro K hK
      go_wp2_with fail
      refine OnlyN.normal (hK _ _ (fun _ => ⟨_, _, _, rfl, rfl, by simp⟩) ?_)
      clear hK K
      intro K hK
      go_wp2_with fail
      refine OnlyN.normal (hK _ _ (fun _ _ => rfl) ?_)
      clear hK K
      intro K hK
      go_wp2_with fail
      refine OnlyN.normal (hK _ _ (sameIn_of hcU (hcs.out _ (Chg.refl _ W)) (by simp [hqn1, hqn2])) ?_)
      clear hK K
      go_wp2_with fail
      refine OnlyN.normal ?_
      go_wp2_with fail
      have hm2 : (PL'.set m (q.less j))[m]? = some (q.less j) := by rw [List.getElem?_set, if_pos rfl, if_pos (List.getElem?_eq_some_iff.1 hm).1]
      have hq2 := List.mem_of_getElem? hm2
      have hI3 := hI2.grew (Chg.refl _ U).drew
      have ha2 := hI3.pt.askS hq2
      have hl2 := fun ty => hI3.pt.lenIn hq2 ty
      have hI4 := hI3.grew (Chg.refl _ U.drew).drew
      have hd2 := fun ty => hI4.pt.delP hm2 ty
      unfold lbK at ha2 hd2
      simp only [PEnt.less] at ha2 hl2
      rw [show (q.less j).l = q.l from rfl] at hd2
      obtain ⟨z, hz⟩ : ∃ z, (q.es.eraseIdx j).length = z := ⟨_, rfl⟩
      rw [hz] at hl2
      have u1 := hhU.cell 1
      have v0 := hbU.cell 0
      have v1 := hbU.cell 1
      clear ha hd h1 b0 b1
      refine wp_region_textS [(3, 1), (79, 9)] [h, wr.heap.size] (by kernel_rfl) (by kernel_rfl) hcsU ?_
      simp only [wpU, tagOf, chk, look, Nat.reduceBEq, Bool.false_eq_true, if_true, if_false, Nat.reduceEqDiff, List.nil_append, List.cons_append, List.getElem?_toArray, List.getElem?_cons_zero]
      intro K hK
      go_wp2_with fail
      refine OnlyN.normal (hK _ _ (fun _ => ⟨_, _, _, rfl, rfl, by simp⟩) ?_)
      clear hK K
      intro K hK
      go_wp2_with fail
      refine OnlyN.normal (hK _ _ (fun _ => ⟨_, _, _, rfl, rfl, by simp⟩) ?_)
      clear hK K
      intro K hK
      go_wp2_with fail
      refine OnlyN.normal (hK _ _ (fun _ _ => rfl) ?_)
      clear hK K
      intro K hK
      go_wp2_with fail
      refine OnlyN.normal (hK _ _ (fun _ _ => rfl) ?_)
      clear hK K
      by_cases hz0 : z = 0
      · have e1 : ((z : Int) == 0) = true := by simp [hz0]
        have hes : (q.less j).es = [] := List.eq_nil_of_length_eq_zero (hz.trans hz0)
        have hI5 := hI4.rem hm2 hes
        have hne5 := hne.rem m (q.less j)
        have hpm := hI4.pt.mp
        have hpn1 : wr.heap.size ≠ p := fun e => by rw [← e] at hpm; exact ((MapB.ne_blk hpm ((hbU.grew (Chg.refl _ U).drew).grew (Chg.refl _ U.drew).drew))) rfl
        have hpn2 : h ≠ p := fun e => by rw [← e] at hpm; exact ((MapB.ne_blk hpm ((hhU.grew (Chg.refl _ U).drew).grew (Chg.refl _ U.drew).drew))) rfl
        clear hz hm2 hq2 hI3 hI4 hes hpm hm hj
        go_wp2_with fail
        refine OnlyN.normal ?_
        go_wp2_with fail
        refine wp_region_textS [(3, 1)] [h, wr.heap.size] (by kernel_rfl) (by kernel_rfl) (cellsIn_cons hhU.ex (cellsIn_cons hbU.ex (cellsIn_nil U))) ?_
        simp only [wpU, tagOf, chk, List.nil_append, List.cons_append]
        intro K hK
        go_wp2_with fail
        refine OnlyN.normal (hK _ _ (fun _ => ⟨_, _, _, rfl, rfl, by simp⟩) ?_)
        clear hK K
        intro K hK
        go_wp2_with fail
        refine OnlyN.normal (hK _ _ (fun _ => ⟨_, _, _, rfl, rfl, by simp⟩) ?_)
        clear hK K
        intro K hK
        go_wp2_with fail
        refine OnlyN.normal (hK _ _ (sameIn_of (S := fun k => k = p) (Chg.setB (S := fun k => k = p) (Chg.refl _ U.drew).drew (.inr rfl) _) hcsU (by simp [hpn1, hpn2])) ?_)
        clear hK K
        go_wp2_with fail
        refine OnlyN.normal ?_
        go_wp2
        go_roundw
        case rel => exact ⟨k + 1, _, by omega, by go_num, hI5, hne5⟩
        case measure => simp [intOf] <;> omega
      · have e1 : ((z : Int) == 0) = false := by simp [hz0]
        have hne5 := hne.cut m j q (fun e => hz0 (by rw [← hz]; exact congrArg List.length e))
        clear hz hm2 hq2 hI4 hd2 hm hj
        go_wp2_with fail
        refine OnlyN.normal ?_
        go_wp2
        go_roundw
        case rel => exact ⟨k + 1, _, by omega, by go_num, hI3, hne5⟩
        case measure => simp [intOf] <;> omega
    · obtain rfl : k = e.m.ln := by omega
      rw [List.take_of_length_le (by have := hlen.out; omega)] at hI
      have h0 := (hhc.out wr hI.chg).cell 0
      have hd := fun ty => hdl.out wr hI.mb ty
      go_wp2
      go_end0
      refine ⟨rfl, PL', hI.chg.setB (.inr (.inl rfl)) _, hI.mb.set _ _, hI.pt.chg (T := fun k => k = b) (Chg.setB (S := fun k => k = b) (Chg.refl _ wr) (.inr rfl) _) (Ne.symm hI.bp) hI.neb, hI.neb, hI.tch, fun l s => ?_, hne⟩
      rw [hI.rel]
      constructor
      · rintro ⟨h1, h2⟩
        refine ⟨h1, fun e1 => h2 ⟨e1, ?_⟩⟩
        subst e1
        exact (hin.out l).1 h1
      · rintro ⟨h1, h2⟩
        exact ⟨h1, fun e1 => h2 e1.1⟩
end Go.Proofs.YtailooldnelecaaDoor

namespace Go.Proofs.YtailooldnelecaaDoor
open Go.RowKit

/-- some draws on, some blocks behind -/
def GrX (w w' : World) : Prop := ∃ q os, w' = Go.Sort.grow (w.drewN q) os
theorem GrX.refl (w : World) : GrX w w := ⟨0, #[], by simp [Go.Sort.grow, World.drewN]⟩
theorem GrX.trans {a b c : World} (h : GrX a b) (h' : GrX b c) : GrX a c := by
  obtain ⟨q, os, rfl⟩ := h
  obtain ⟨q', os', rfl⟩ := h'
  exact ⟨q + q', os ++ os', by simp [Go.Sort.grow, World.drewN, Nat.add_assoc]⟩
theorem GrX.drew {a b : World} (h : GrX a b) : GrX a b.drew := h.trans ⟨1, #[], by show b.drew = { b.drewN 1 with heap := b.heap ++ #[] }; rw [Array.append_empty]; rfl⟩
theorem GrX.alloc {a b : World} (h : GrX a b) (o : Obj) : GrX a (b.alloc o) := h.trans ⟨0, #[o], by show b.alloc o = { b with heap := b.heap ++ #[o] }; rw [← Array.push_eq_append]; rfl⟩
theorem GrX.grew {a b : World} (h : GrX a b) : Grew a b := by
  obtain ⟨q, os, rfl⟩ := h
  refine ⟨rfl, rfl, rfl, by simp [Go.Sort.grow, World.drewN], fun k hk _ => ?_⟩
  simp only [Go.Sort.grow, World.drewN]
  rw [Array.getElem?_append_left hk]
theorem two_blkX (w : World) (c1 c2 : Array Value) (t1 t2 : TypeId) : ∃ W, W = (w.alloc (.cells c1 t1)).alloc (.cells c2 t2) ∧ GrX w W ∧ Blk W w.heap.size t1 c1 ∧ Blk W (w.heap.size + 1) t2 c2 ∧ W.heap.size = w.heap.size + 2 := by
  obtain ⟨W, hW, _, h1, h2, h3⟩ := two_blk w c1 c2 t1 t2
  exact ⟨W, hW, by rw [hW]; exact ((GrX.refl w).alloc _).alloc _, h1, h2, h3⟩
set_option maxRecDepth 100000 in
set_option maxHeartbeats 400000 in
theorem cmpOne_x (x y : Lab) (w : World) : Calls Tryd.prog 45 #[lbV x, lbV y] w fun e w' => e = .returned (.int .i64 (cmpLb x y)) ∧ GrX w w' := by
  obtain ⟨x1, x2⟩ := x
  obtain ⟨y1, y2⟩ := y
  unfold lbV cmpLb cmp2
  simp only
  have hC := fun a b w => compare_any a b w
  generalize hc1 : cmpB x1 y1 = c1 at *
  generalize hc2 : cmpB x2 y2 = c2 at *
  have hA := hC x1 y1
  have hB := hC x2 y2
  rw [hc1] at hA
  rw [hc2] at hB
  have hO := fun g w h0 h1 => or_two c1 c2 g w h0 h1
  generalize (if c1 ≠ 0 then c1 else c2) = z at *
  clear hC hc1 hc2
  obtain ⟨W, hW, hgx, b1, b2, hzW⟩ := two_blkX w #[.string x1, .string x2] #[.string y1, .string y2] 53 53
  have p0 : W.cell? ⟨w.heap.size, 0, none⟩ = some (.string x1) := b1.cell 0
  have p1 : W.cell? ⟨w.heap.size, 1, none⟩ = some (.string x2) := b1.cell 1
  have q0 : W.cell? ⟨w.heap.size + 1, 0, none⟩ = some (.string y1) := b2.cell 0
  have q1 : W.cell? ⟨w.heap.size + 1, 1, none⟩ = some (.string y2) := b2.cell 1
  go_enter Tryd.func45, Tryd.ntmps45
  go_wp2_with fail
  rw [← hW]
  clear hW
  refine wp_region_textS [(9, 2), (3, 1)] [w.heap.size, w.heap.size + 1] (by kernel_rfl) (by kernel_rfl) (cellsIn_two b1 b2) ?_
  simp only [wpU, tagOf, chk, List.nil_append, List.cons_append]
  intro K hK
  go_wp2_with fail
  refine OnlyN.normal (hK _ _ (fun _ => ⟨_, _, _, rfl, rfl, by simp⟩) ?_)
  clear hK K
  intro K hK
  go_wp2_with fail
  refine OnlyN.normal (hK _ _ (fun _ => ⟨_, _, _, rfl, rfl, by simp⟩) ?_)
  clear hK K
  intro K hK
  go_wp2_with fail
  refine (hA _).mono ?_
  rintro e w1 ⟨rfl, rfl⟩
  go_wp2_with fail
  refine OnlyN.normal (hK _ _ (sameIn_two (S := fun _ => False) (Chg.refl _ W).drew b1.lt b2.lt (fun e => e) fun e => e) ?_)
  clear hK K
  intro K hK
  go_wp2_with fail
  refine OnlyN.normal (hK _ _ (fun _ => ⟨_, _, _, rfl, rfl, by simp⟩) ?_)
  clear hK K
  intro K hK
  go_wp2_with fail
  refine OnlyN.normal (hK _ _ (fun _ => ⟨_, _, _, rfl, rfl, by simp⟩) ?_)
  clear hK K
  intro K hK
  go_wp2_with fail
  refine (hB _).mono ?_
  rintro e w1 ⟨rfl, rfl⟩
  go_wp2_with fail
  refine OnlyN.normal (hK _ _ (sameIn_two (S := fun _ => False) (Chg.refl _ W).drew b1.lt b2.lt (fun e => e) fun e => e) ?_)
  clear hK K hA hB
  intro K hK
  go_wp2_with fail
  refine OnlyN.normal (hK _ _ (sameIn_two (S := fun _ => False) ((Chg.refl _ W).alloc _).drew b1.lt b2.lt (fun e => e) fun e => e) ?_)
  clear hK K
  intro K hK
  go_wp2_with fail
  refine (hO (w.heap.size + 2) _ (by rw [← hzW]; simp) (by rw [← hzW]; simp)).mono ?_
  rintro e w1 ⟨rfl, rfl⟩
  go_wp2_with fail
  refine OnlyN.normal (hK _ _ (sameIn_two (S := fun _ => False) ((Chg.refl _ W).alloc _).drew b1.lt b2.lt (fun e => e) fun e => e) ?_)
  clear hK K
  go_wp2_with fail
  refine OnlyN.normal ?_
  go_wp2
  go_ret
  exact ⟨by simp, hgx.trans (((GrX.refl W).alloc _).drew)⟩

set_option maxRecDepth 100000 in
set_option maxHeartbeats 400000 in
theorem compareFunc_x (A B : Option Addr) (n c m d : Nat) (la lb : List Lab) (w : World) (ha : RE elLb w A n la) (hb : RE elLb w B m lb) (hn : n ≤ 9223372036854775807) (hm : m ≤ 9223372036854775807) :
    Calls Tryd.prog 44 #[.slice A n c, .slice B m d, .func (.func 45) #[] #[]] w fun e w' => e = .returned (.int .i64 (cmpLs la lb)) ∧ GrX w w' := by
  have hal := ha.1
  have hbl := hb.1
  go_enter Tryd.func44, Tryd.ntmps44
  go_wp2
  go_loopw [13] (fun i wr => ∃ k : Nat, k ≤ n ∧ k ≤ m ∧ i = .int .i64 (k : Int) ∧ Hid (cmpLs la lb = cmpLs (la.drop k) (lb.drop k)) ∧ GrX w wr) (fun i _ => n - (intOf i).toNat)
  case atStart => exact ⟨0, by omega, by omega, rfl, rfl, GrX.refl _⟩
  case round =>
    obtain ⟨k, hk, hkm, rfl, hc, hgx⟩ := hrel
    have hg := hgx.grew
    by_cases hlt : k < n
    · obtain ⟨ad, x, rfl, hx, x0, x1⟩ := (ha.grew hg).lb hlt
      have hxd : la.drop k = x :: la.drop (k + 1) := by
        obtain ⟨h1, h2⟩ := List.getElem?_eq_some_iff.1 hx
        rw [List.drop_eq_getElem_cons h1, h2]
      by_cases hltm : k < m
      · obtain ⟨bd, y, rfl, hy, y0, y1⟩ := ((hb.grew hg).grew ((Chg.refl _ wr).alloc (.cells #[.string x.1, .string x.2] 53))).lb hltm
        have hyd : lb.drop k = y :: lb.drop (k + 1) := by
          obtain ⟨h1, h2⟩ := List.getElem?_eq_some_iff.1 hy
          rw [List.drop_eq_getElem_cons h1, h2]
        have hc' : Hid (cmpLs la lb = if cmpLb x y ≠ 0 then cmpLb x y else cmpLs (la.drop (k + 1)) (lb.drop (k + 1))) := by
          have := hc.out
          rw [hxd, hyd] at this
          rw [this]
          rfl
        have hO := fun w => cmpOne_x x y w
        unfold lbV at hO
        obtain ⟨z, hz⟩ : ∃ z, cmpLb x y = z := ⟨_, rfl⟩
        rw [hz] at hc' hO
        clear hxd hyd hc hz
        go_wp2_with fail
        refine (hO _).mono ?_
        rintro e w1 ⟨rfl, hg1⟩
        have hgg := hgx.trans ((((GrX.refl wr).alloc (.cells #[.string x.1, .string x.2] 53)).alloc (.cells #[.string y.1, .string y.2] 53)).trans hg1)
        clear x0 x1 y0 y1 hx hy hO
        by_cases hz0 : z = 0
        · subst hz0
          rw [if_neg (by simp)] at hc'
          go_wp2
          go_roundw
          case rel => exact ⟨k + 1, by omega, by omega, by go_num, hc', hgg⟩
          case measure => simp [intOf]; omega
        · have e1 : (z != 0) = true := by simpa using hz0
          rw [if_pos hz0] at hc'
          go_wp2
          go_ret
          exact ⟨by rw [hc'.out]; simp, hgg⟩
      · have hyd : lb.drop k = [] := List.drop_of_length_le (by omega)
        have hc' : Hid (cmpLs la lb = 1) := by
          have := hc.out
          rw [hxd, hyd] at this
          exact this
        clear hxd hyd hc hx
        go_wp2
        go_ret
        exact ⟨by rw [hc'.out]; simp, hgx.alloc _⟩
    · obtain rfl : k = n := by omega
      have hxd : la.drop k = [] := List.drop_of_length_le (by omega)
      by_cases hltm : k < m
      · have hc' : Hid (cmpLs la lb = -1) := by
          have := hc.out
          rw [hxd] at this
          cases hyd : lb.drop k with
          | nil =>
            have := congrArg List.length hyd
            rw [List.length_drop] at this
            simp at this
            omega
          | cons y r => rw [hyd] at this; exact this
        clear hxd hc
        go_wp2
        go_ret
        exact ⟨by rw [hc'.out]; simp, hgx⟩
      · obtain rfl : k = m := by omega
        have hc' : Hid (cmpLs la lb = 0) := by
          have := hc.out
          rw [hxd, List.drop_of_length_le (by omega)] at this
          exact this
        clear hxd hc
        go_wp2
        go_ret
        exact ⟨by rw [hc'.out]; simp, hgx⟩
theorem compare_x (A B : Option Addr) (n c m d : Nat) (la lb : List Lab) (w : World) (ha : RE elLb w A n la) (hb : RE elLb w B m lb) (hn : n ≤ 9223372036854775807) (hm : m ≤ 9223372036854775807) :
    Calls Tryd.prog 37 #[.slice A n c, .slice B m d] w fun e w' => e = .returned (.int .i64 (cmpLs la lb)) ∧ GrX w w' := by
  have hC := compareFunc_x A B n c m d la lb w ha hb hn hm
  generalize cmpLs la lb = z at *
  go_enter Tryd.func37, Tryd.ntmps37
  go_wp2_with fail
  refine hC.mono ?_
  rintro e w1 ⟨rfl, hg⟩
  go_wp2
  go_ret
  exact ⟨by simp, hg⟩

/-- two series by their labels -/
def srV (m : SerM) : Value := .agg #[.slice m.la m.ln m.lc, .slice m.pa m.pn m.pc]
set_option maxRecDepth 100000 in
theorem bySeries_x (x y : SerM) (la lb : List Lab) (w : World) (ha : RE elLb w x.la x.ln la) (hb : RE elLb w y.la y.ln lb) (hn : x.ln ≤ 9223372036854775807) (hm : y.ln ≤ 9223372036854775807) :
    Calls Tryd.prog 36 #[srV x, srV y] w fun e w' => e = .returned (.int .i64 (cmpLs la lb)) ∧ GrX w w' := by
  obtain ⟨xa, xn, xc, pa, pn, pc⟩ := x
  obtain ⟨ya, yn, yc, qa, qn, qc⟩ := y
  unfold srV
  dsimp only at *
  obtain ⟨W, hW, hgx, b1, b2, hzW⟩ := two_blkX w #[.slice xa xn xc, .slice pa pn pc] #[.slice ya yn yc, .slice qa qn qc] 37 37
  have p0 := b1.cell 0
  have q0 := b2.cell 0
  have hC := compare_x xa ya xn xc yn yc la lb W (ha.grew hgx.grew) (hb.grew hgx.grew) hn hm
  generalize cmpLs la lb = z at *
  go_enter Tryd.func36, Tryd.ntmps36
  go_wp2_with fail
  rw [← hW]
  clear hW
  refine hC.mono ?_
  rintro e w1 ⟨rfl, hg⟩
  go_wp2
  go_ret
  exact ⟨by simp, hgx.trans hg⟩
end Go.Proofs.YtailooldnelecaaDoor
