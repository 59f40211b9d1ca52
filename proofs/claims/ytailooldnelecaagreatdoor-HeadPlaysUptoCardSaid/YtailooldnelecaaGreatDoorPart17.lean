/-
  Several texts in one:
  (*table).put: a new series into both maps. Conditions: labels that may be keys, each once; a key that is new.
  A head after a sample was added: the state's laws. Conditions: none.
-/
import Derived.Test.YtailooldnelecaaGreatDoorPart12
import Derived.Test.YtailooldnelecaaGreatDoorPart16
import Derived.WalkSpells

namespace Go.Proofs.YtailooldnelecaaGreatDoor
open Go.RowKit

/-- the maps' blocks -/
def BT (b p : Nat) (PL : List PEnt) (k : Nat) : Prop := k = b ∨ k = p ∨ ∃ q ∈ PL, k = q.q
structure PutI (S : Nat → Prop) (w W : World) (b p g : Nat) (key : ByteArray) (L : List HEnt) (cb : Nat) (PL : List PEnt) (done : List Lab) (PL' : List PEnt) (cp' : Nat) : Prop where
  chg : Chg (BT b p PL) w W
  mb : MapB W b ((L.map HEnt.ent).toArray.push ⟨.string key, .pointer (some ⟨g, 0, none⟩), cb⟩) (cb + 1)
  pt : PT (fun k => S k ∨ w.heap.size ≤ k) W p PL' cp'
  neb : ∀ q ∈ PL', q.q ≠ b
  bp : b ≠ p
  tch : ∀ q ∈ PL', BT b p PL q.q ∨ w.heap.size ≤ q.q
  rel : ∀ l s, InP PL' l s ↔ InP PL l s ∨ s = key ∧ l ∈ done

section
variable {S : Nat → Prop} {w W W' : World} {b p g : Nat} {key : ByteArray} {L : List HEnt} {cb : Nat} {PL PL' : List PEnt} {cp cp' : Nat} {done : List Lab}
theorem PutI.start (h : TB S w b p L cb PL cp) (hg : Chg (BT b p PL) w W) (hh : TB S W b p L cb PL cp) : PutI S w (setB W b (.map ((L.map HEnt.ent).toArray.push ⟨.string key, .pointer (some ⟨g, 0, none⟩), cb⟩) (cb + 1))) b p g key L cb PL [] PL cp :=
  ⟨hg.setB (.inr (.inl rfl)) _, hh.mb.set _ _,
    (hh.pt.chg (T := fun k => k = b) (Chg.setB (S := fun k => k = b) (Chg.refl _ W) (.inr rfl) _) (Ne.symm h.bp) (fun q hq => (h.pb q hq).1)).mono fun _ e => .inl e,
    fun q hq => (h.pb q hq).1, h.bp, fun q hq => .inl (.inr (.inr ⟨q, hq, rfl⟩)), fun l s => ⟨.inl, fun e => e.elim id fun e => by cases e.2⟩⟩
theorem PutI.grew (h : PutI S w W b p g key L cb PL done PL' cp') (hc : Grew W W') : PutI S w W' b p g key L cb PL done PL' cp' :=
  ⟨h.chg.grow hc, h.mb.grew hc, h.pt.grew hc, h.neb, h.bp, h.tch, h.rel⟩
theorem PutI.lay (h : PutI S w W b p g key L cb PL done PL' cp') {l : Lab} (hz : SzL l) (hs : ∀ q ∈ PL', q.l ≠ l) {m : Nat} (hm : MapB W m #[] 0) (hw : w.heap.size ≤ m) (hmp : m ≠ p) (hmb : m ≠ b) (hmq : ∀ q ∈ PL', q.q ≠ m) :
    PutI S w (setB W p (.map ((PL'.map PEnt.ent).toArray.push ⟨lbK l, .map (some m), cp'⟩) (cp' + 1))) b p g key L cb PL done (PL' ++ [⟨l, m, cp', [], 0⟩]) (cp' + 1) :=
  ⟨h.chg.setB (.inr (.inr (.inl rfl))) _, h.mb.setB h.bp _, h.pt.addN hz hs hm hmp hmq (.inr hw),
    fun q hq => (List.mem_append.1 hq).elim (h.neb q) fun hq => by obtain rfl := List.mem_singleton.1 hq; exact hmb, h.bp,
    fun q hq => (List.mem_append.1 hq).elim (h.tch q) fun hq => by obtain rfl := List.mem_singleton.1 hq; exact .inr hw,
    fun l' s => by rw [inP_addN]; exact h.rel l' s⟩
theorem PutI.plus (h : PutI S w W b p g key L cb PL done PL' cp') {i : Nat} {q : PEnt} (hi : PL'[i]? = some q) (hs : ∀ y ∈ q.es, y.key ≠ .string key) (v : Value) :
    PutI S w (setB W q.q (.map (q.es.toArray.push ⟨.string key, v, q.c⟩) (q.c + 1))) b p g key L cb PL (done ++ [q.l]) (PL'.set i (q.plus key v)) cp' := by
  have hq := List.mem_of_getElem? hi
  refine ⟨h.chg.setB ((h.tch q hq).symm) _, h.mb.setB (Ne.symm (h.neb q hq)) _, h.pt.putN hi hs v, fun x hx => ?_, h.bp, fun x hx => ?_, fun l' s' => ?_⟩
  · rcases mem_set hx with rfl | ⟨j, _, hz⟩
    · exact h.neb q hq
    · exact h.neb x (List.mem_of_getElem? hz)
  · rcases mem_set hx with rfl | ⟨j, _, hz⟩
    · exact h.tch q hq
    · exact h.tch x (List.mem_of_getElem? hz)
  · rw [inP_putN hi, h.rel, List.mem_append, List.mem_singleton]
    constructor
    · rintro ((h1 | ⟨h1, h2⟩) | ⟨h1, h2⟩)
      · exact .inl h1
      · exact .inr ⟨h1, .inl h2⟩
      · exact .inr ⟨h2, .inr h1⟩
    · rintro (h1 | ⟨h1, h2 | h2⟩)
      · exact .inl (.inl h1)
      · exact .inl (.inr ⟨h1, h2⟩)
      · exact .inr ⟨h2, h1⟩
theorem PutI.free (h : PutI S w W b p g key L cb PL done PL' cp') {q : PEnt} (hq : q ∈ PL') (hin : ∀ l, ¬ InP PL l key) (hd : q.l ∉ done) : ∀ y ∈ q.es, y.key ≠ .string key := fun y hy e => by
  rcases (h.rel q.l key).1 ⟨q, hq, rfl, y, hy, e⟩ with h1 | ⟨_, h1⟩
  · exact hin _ h1
  · exact hd h1
end
def NonE (PL : List PEnt) : Prop := ∀ q ∈ PL, q.es ≠ []
theorem NonE.plus {PL : List PEnt} (h : NonE PL) (i : Nat) (q : PEnt) (s : ByteArray) (v : Value) : NonE (PL.set i (q.plus s v)) := fun x hx => by
  rcases mem_set hx with rfl | ⟨j, _, hz⟩
  · simp [PEnt.plus]
  · exact h x (List.mem_of_getElem? hz)
theorem NonE.lay {PL : List PEnt} (h : NonE PL) (q q' : PEnt) (s : ByteArray) (v : Value) : NonE ((PL ++ [q']).set PL.length (q.plus s v)) := fun x hx => by
  rcases mem_set hx with rfl | ⟨j, hj, hz⟩
  · simp [PEnt.plus]
  · have hlt := (List.getElem?_eq_some_iff.1 hz).1
    simp at hlt
    rw [List.getElem?_append_left (by omega)] at hz
    exact h x (List.mem_of_getElem? hz)
theorem has_label (PL : List PEnt) (l : Lab) : (∀ q ∈ PL, q.l ≠ l) ∨ ∃ (i : Nat) (q : PEnt), PL[i]? = some q ∧ q.l = l := by
  by_cases h : ∃ q ∈ PL, q.l = l
  · obtain ⟨q, hq, e⟩ := h
    obtain ⟨i, hi⟩ := List.getElem?_of_mem hq
    exact .inr ⟨i, q, hi, e⟩
  · exact .inl fun q hq e => h ⟨q, hq, e⟩
theorem run_putB {S : Nat → Prop} {w : World} {b p : Nat} {L : List HEnt} {cb : Nat} {PL : List PEnt} {cp : Nat} (h : TB S w b p L cb PL cp) {s : ByteArray} (hs : ∀ e ∈ L, e.key ≠ s) (v : Value) : (Instr.mapUpdate 42 (.map (some b)) (.string s) v).run Tryz.prog w = .ok () (setB w b (.map ((L.map HEnt.ent).toArray.push ⟨.string s, v, cb⟩) (cb + 1))) :=
  run_putN klS Tryz.underlying42 h.mb v ⟨s, rfl⟩ h.kst fun y hy e => by
    obtain ⟨x, hx, rfl⟩ := List.mem_map.1 (by simpa using hy)
    injection e with e
    exact hs x hx e
theorem nodup_at {l : List Lab} (h : l.Nodup) {k : Nat} {x : Lab} (hx : l[k]? = some x) : x ∉ l.take k := fun hm => by
  obtain ⟨j, hj⟩ := List.getElem?_of_mem hm
  rw [List.getElem?_take] at hj
  split at hj
  · rename_i hlt
    obtain ⟨h1, e1⟩ := List.getElem?_eq_some_iff.1 hx
    obtain ⟨h2, e2⟩ := List.getElem?_eq_some_iff.1 hj
    have := (List.getElem_inj h).1 (e2.trans e1.symm)
    omega
  · cases hj

set_option maxRecDepth 100000 in
set_option maxHeartbeats 8000000 in
theorem put_any {S : Nat → Prop} {h b p cb cp g : Nat} {L : List HEnt} {PL : List PEnt} {lim : Value} (key : ByteArray) (la pa : Option Addr) (ln lc pn pc : Nat) (lbs : List Lab) (w : World) (hTB : TB S w b p L cb PL cp)
    (hh : Blk w h 47 #[.map (some b), .map (some p), lim]) (hg : Blk w g 67 #[.slice la ln lc, .slice pa pn pc])
    (hl : RE elLb w la ln lbs) (hlS : ∀ ad, la = some ad → ¬ S ad.block) (hz : ∀ l ∈ lbs, SzL l) (hnd : lbs.Nodup) (hnew : ∀ e ∈ L, e.key ≠ key) (hin : ∀ l, ¬ InP PL l key) (hne : NonE PL) (hln : ln ≤ 16) :
    Calls Tryz.prog 32 #[.pointer (some ⟨h, 0, none⟩), .string key, .pointer (some ⟨g, 0, none⟩)] w fun e w' => e = .returned (.tuple #[]) ∧ ∃ PL' cp', PutI S w w' b p g key L cb PL lbs PL' cp' ∧ NonE PL' := by
  have hnh : ∀ k, BT b p PL k → k ≠ h ∧ k ≠ g := fun k hk => by
    have key : ∀ {es c}, MapB w k es c → k ≠ h ∧ k ≠ g := fun hm => ⟨hm.ne_blk hh, hm.ne_blk hg⟩
    rcases hk with rfl | rfl | ⟨q, hq, rfl⟩
    · exact key hTB.mb
    · exact key hTB.mp
    · exact key (hTB.pok q hq).mb
  have hnl : ∀ ad, la = some ad → ¬ BT b p PL ad.block := fun ad e hk => by
    have := hlS ad e
    rcases hk with hk | hk | ⟨q, hq, hk⟩
    · exact this (by rw [hk]; exact hTB.ob)
    · exact this (by rw [hk]; exact hTB.op)
    · exact this (by rw [hk]; exact (hTB.pok q hq).oq)
  have hhc := fun W (hc : Chg (BT b p PL) w W) => hh.chg hc (fun e => (hnh h e).1 rfl)
  have hgc := fun W (hc : Chg (BT b p PL) w W) => hg.chg hc (fun e => (hnh g e).2 rfl)
  have hlcg := fun W (hc : Chg (BT b p PL) w W) => hl.chg hc hnl
  have hzs := hh.lt
  have hput := run_putB hTB hnew (.pointer (some ⟨g, 0, none⟩))
  have hI0 : PutI S w (setB w b (.map ((L.map HEnt.ent).toArray.push ⟨.string key, .pointer (some ⟨g, 0, none⟩), cb⟩) (cb + 1))) b p g key L cb PL [] PL cp := PutI.start hTB (Chg.refl _ w) hTB
  have hb3 : b < w.heap.size := hTB.mb.lt
  have hp3 : p < w.heap.size := hTB.mp.lt
  obtain ⟨W0, hW0⟩ : ∃ W0, W0 = setB w b (.map ((L.map HEnt.ent).toArray.push ⟨.string key, .pointer (some ⟨g, 0, none⟩), cb⟩) (cb + 1)) := ⟨_, rfl⟩
  rw [← hW0] at hI0 hput
  have h0 := hh.cell 0
  have g0 := (hgc _ hI0.chg).cell 0
  have hlen := hl.1
  replace hhc := Lib.hid hhc
  replace hgc := Lib.hid hgc
  replace hlcg := Lib.hid hlcg
  replace hz := Lib.hid hz
  replace hlen := Lib.hid hlen
  have hmm := @run_makeMap Tryz.prog
  have hqT : ∀ (w : World) (r : Option Nat), (binOp .eql 88 (.map r) (.map none)).run Tryz.prog w = .ok (.bool r.isNone) w := fun w r => run_eql_map_nil w _ _ _ r Tryz.underlying88
  clear hTB hnh hnl hh hg hl hlS hW0 hnew
  go_enter Tryz.func32, Tryz.ntmps32
  go_wp2_with fail
  clear hput
  go_wp2
  go_loopw [19] (fun i wr => ∃ (k : Nat) (PL' : List PEnt) (cp' : Nat), k ≤ ln ∧ i = .int .i64 (k : Int) ∧ PutI S w wr b p g key L cb PL (lbs.take k) PL' cp' ∧ NonE PL') (fun i _ => ln - (intOf i).toNat)
  case atStart => exact ⟨0, PL, cp, by omega, rfl, by simpa using hI0, hne⟩
  case round =>
    clear hI0 hne g0 h0
    obtain ⟨k, PL', cp', hk, rfl, hI, hne⟩ := hrel
    by_cases hlt : k < ln
    · have hhw := hhc.out wr hI.chg
      obtain ⟨ad, x, rfl, hx, x0, x1⟩ := RE.lb (hlcg.out wr hI.chg) hlt
      have hxz := hz.out x (List.mem_of_getElem? hx)
      have hxd := nodup_at hnd hx
      obtain ⟨W, hW⟩ : ∃ W, W = wr.alloc (.cells #[.string x.1, .string x.2] 72) := ⟨_, rfl⟩
      have hgW : Grew wr W := by rw [hW]; exact (Chg.refl _ wr).alloc _
      have hbx : Blk W wr.heap.size 72 #[.string x.1, .string x.2] := by rw [hW]; exact Blk.new wr _ _
      have hIW := hI.grew hgW
      have hhW := hhw.grew hgW
      have hcs := fun W1 (h1 : Grew W W1) => cellsIn_cons (hhW.grew h1).ex (cellsIn_cons (hbx.grew h1).ex (cellsIn_nil W1))
      have hsame := fun W1 W2 (h1 : Grew W W1) (h2 : Grew W1 W2) => sameIn_of h2 (hcs W1 h1) fun _ _ e => e
      replace hcs := Lib.hid hcs
      replace hsame := Lib.hid hsame
      have h1 := hhW.cell 1
      have b0 := hbx.cell 0
      have b1 := hbx.cell 1
      have hxs : Hid (lbs.take k ++ [x] = lbs.take (k + 1)) := (take_sn hx).symm
      clear hx hI hhw
      go_wp2_with fail
      rw [← hW]
      clear hW x0 x1
      rcases has_label PL' x with hno | ⟨i, q, hi, hqx⟩
      · have ha := (hIW.grew (Chg.refl _ W).drew).pt.askN hxz hno
        unfold lbK at ha
        refine wp_region_textS [(3, 1)] [h, wr.heap.size] (by kernel_rfl) (by kernel_rfl) (hcs.out _ (Chg.refl _ W)) ?_
        simp only [wpU, tagOf, chk, look, Nat.reduceBEq, Bool.false_eq_true, if_true, if_false, List.nil_append, List.cons_append]
        intro K hK
        go_wp2_with fail
        refine OnlyN.normal (hK _ _ (fun _ => ⟨_, _, _, rfl, rfl, by simp⟩) ?_)
        clear hK K
        intro K hK
        go_wp2_with fail
        refine OnlyN.normal (hK _ _ (fun _ => ⟨_, _, _, rfl, rfl, by simp⟩) ?_)
        clear hK K
        intro K hK
        go_wp2_with fail
        refine OnlyN.normal (hK _ _ (fun _ _ => rfl) ?_)
        clear hK K
        intro K hK
        go_wp2_with fail
        refine OnlyN.normal (hK _ _ (fun _ _ => rfl) ?_)
        clear hK K
        go_wp2_with fail
        refine OnlyN.normal ?_
        clear ha
        go_wp2_with fail
        obtain ⟨V, hV⟩ : ∃ V, V = (W.alloc (.map #[] 0)).drew.drew := ⟨_, rfl⟩
        have hgV : Grew W V := by rw [hV]; exact ((Chg.refl _ W).alloc _).drew.drew
        have hgV2 : Grew W.drew V := by rw [hV]; exact ((Chg.refl _ W.drew).alloc _).drew
        have hI2 := hIW.grew hgV
        have hmV : MapB V W.heap.size #[] 0 := by rw [hV]; exact MapB.grew (MapB.new W #[] 0) (Chg.refl _ _).drew.drew
        have hw1 := hIW.chg.size
        have hmq : ∀ q ∈ PL', q.q ≠ W.heap.size := fun q hq e => by
          have := (hIW.pt.pok q hq).mb.lt
          rw [e] at this
          exact Nat.lt_irrefl _ this
        have hmp : W.heap.size ≠ p := fun e => by have := hIW.pt.mp.lt; rw [← e] at this; exact Nat.lt_irrefl _ this
        have hmb : W.heap.size ≠ b := fun e => by have := hIW.mb.lt; rw [← e] at this; exact Nat.lt_irrefl _ this
        have hlay := hI2.pt.lay hxz hno W.heap.size
        have hI3 := hI2.lay hxz hno hmV hw1 hmp hmb hmq
        obtain ⟨U, hU⟩ : ∃ U, U = setB V p (.map ((PL'.map PEnt.ent).toArray.push ⟨lbK x, .map (some W.heap.size), cp'⟩) (cp' + 1)) := ⟨_, rfl⟩
        rw [← hU] at hlay hI3
        unfold lbK at hlay
        have hhV := hhW.grew hgV
        have hbV := hbx.grew hgV
        have hpne : wr.heap.size ≠ p := fun e => by have := hI2.pt.mp; rw [← e] at this; exact (this.ne_blk hbV) rfl
        have hpnh : h ≠ p := fun e => by have := hI2.pt.mp; rw [← e] at this; exact (this.ne_blk hhV) rfl
        have hcU : Chg (fun k => k = p) V U := by rw [hU]; exact Chg.setB (S := fun k => k = p) (Chg.refl _ V) (.inr rfl) _
        have hhU := hhV.chg hcU hpnh
        have hbU := hbV.chg hcU hpne
        refine wp_region_textS [(3, 1)] [h, wr.heap.size] (by kernel_rfl) (by kernel_rfl) (hcs.out _ (Chg.refl _ W).drew) ?_
        simp only [wpU, tagOf, chk, List.nil_append, List.cons_append]
        intro K hK
        go_wp2_with fail
        refine OnlyN.normal (hK _ _ (fun _ => ⟨_, _, _, rfl, rfl, by simp⟩) ?_)
        clear hK K
        intro K hK
        go_wp2_with fail
        refine OnlyN.normal (hK _ _ (fun _ => ⟨_, _, _, rfl, rfl, by simp⟩) ?_)
        clear hK K
        intro K hK
        go_wp2_with fail
        refine OnlyN.normal (hK _ _ (hsame.out _ _ (Chg.refl _ W).drew ((Chg.refl _ W.drew).drew.alloc _)) ?_)
        clear hK K
        rw [← hV]
        clear hV hU
        intro K hK
        go_wp2_with fail
        refine OnlyN.normal (hK _ _ (sameIn_of ((Chg.of_grew hgV2).trans hcU) (hcs.out _ (Chg.refl _ W).drew) (by simp [hpne, hpnh])) ?_)
        clear hK K
        go_wp2_with fail
        refine OnlyN.normal ?_
        go_wp2_with fail
        have hmem : (⟨x, W.heap.size, cp', [], 0⟩ : PEnt) ∈ PL' ++ [⟨x, W.heap.size, cp', [], 0⟩] := List.mem_append_right _ (List.mem_singleton.2 rfl)
        have hI4 := hI3.grew (Chg.refl _ U).drew
        have ha := hI4.pt.askS hmem
        have hb := hI4.pt.inN hmem (s := key) (fun y hy => (by cases hy))
        have hc := hI4.pt.inP hmem (s := key) (fun y hy => (by cases hy)) (.int .i64 1)
        have hI5 := hI4.plus (i := PL'.length) (q := ⟨x, W.heap.size, cp', [], 0⟩) (by simp) (fun y hy => (by cases hy)) (.int .i64 1)
        have hne5 := hne.lay ⟨x, W.heap.size, cp', [], 0⟩ ⟨x, W.heap.size, cp', [], 0⟩ key (.int .i64 1)
        unfold lbK at ha
        dsimp only at ha hb hc hI5
        rw [hxs.out] at hI5
        have h1 := hhU.cell 1
        have b0 := hbU.cell 0
        have b1 := hbU.cell 1
        refine wp_region_textS [(3, 1)] [h, wr.heap.size] (by kernel_rfl) (by kernel_rfl) (cellsIn_cons hhU.ex (cellsIn_cons hbU.ex (cellsIn_nil U))) ?_
        simp only [wpU, tagOf, chk, look, Nat.reduceBEq, if_true, if_false, Nat.reduceEqDiff, List.nil_append, List.cons_append]
        intro K hK
        go_wp2_with fail
        refine OnlyN.normal (hK _ _ (fun _ => ⟨_, _, _, rfl, rfl, by simp⟩) ?_)
        clear hK K
        intro K hK
        go_wp2_with fail
        refine OnlyN.normal (hK _ _ (fun _ => ⟨_, _, _, rfl, rfl, by simp⟩) ?_)
        clear hK K
        intro K hK
        go_wp2_with fail
        refine OnlyN.normal (hK _ _ (fun _ _ => rfl) ?_)
        clear hK K
        intro K hK
        go_wp2_with fail
        refine OnlyN.normal (hK _ _ (fun _ _ => rfl) ?_)
        clear hK K
        have hmne : W.heap.size ≠ wr.heap.size := fun e => by have := hbx.lt; omega
        have hmnh : W.heap.size ≠ h := fun e => by have := hhW.lt; omega
        intro K hK
        go_wp2_with fail
        refine OnlyN.normal (hK _ _ (sameIn_of (S := fun k => k = W.heap.size) (Chg.setB (S := fun k => k = W.heap.size) (Chg.refl _ U).drew (.inr rfl) _) (cellsIn_cons hhU.ex (cellsIn_cons hbU.ex (cellsIn_nil U))) (by simp [Ne.symm hmne, Ne.symm hmnh])) ?_)
        clear hK K
        go_wp2_with fail
        refine OnlyN.normal ?_
        go_wp2
        go_roundw
        case rel => exact ⟨k + 1, _, _, by omega, by go_num, hI5, hne5⟩
        case measure => simp [intOf] <;> omega
      · subst hqx
        have hmem := List.mem_of_getElem? hi
        have hfr := hIW.free hmem hin hxd
        have hI1 := hIW.grew (Chg.refl _ W).drew
        have ha := hI1.pt.askS hmem
        unfold lbK at ha
        refine wp_region_textS [(3, 1)] [h, wr.heap.size] (by kernel_rfl) (by kernel_rfl) (hcs.out _ (Chg.refl _ W)) ?_
        simp only [wpU, tagOf, chk, look, Nat.reduceBEq, Bool.false_eq_true, if_true, if_false, List.nil_append, List.cons_append]
        intro K hK
        go_wp2_with fail
        refine OnlyN.normal (hK _ _ (fun _ => ⟨_, _, _, rfl, rfl, by simp⟩) ?_)
        clear hK K
        intro K hK
        go_wp2_with fail
        refine OnlyN.normal (hK _ _ (fun _ => ⟨_, _, _, rfl, rfl, by simp⟩) ?_)
        clear hK K
        intro K hK
        go_wp2_with fail
        refine OnlyN.normal (hK _ _ (fun _ _ => rfl) ?_)
        clear hK K
        intro K hK
        go_wp2_with fail
        refine OnlyN.normal (hK _ _ (fun _ _ => rfl) ?_)
        clear hK K
        go_wp2_with fail
        refine OnlyN.normal ?_
        go_wp2_with fail
        clear ha
        have hI4 := hI1.grew (Chg.refl _ W.drew).drew
        have ha := hI4.pt.askS hmem
        have hb := hI4.pt.inN hmem hfr
        have hc := hI4.pt.inP hmem hfr (.int .i64 1)
        have hI5 := hI4.plus hi hfr (.int .i64 1)
        have hne5 := hne.plus i q key (.int .i64 1)
        unfold lbK at ha
        rw [hxs.out, List.push_toArray] at hI5
        have hqm := (hIW.pt.pok q hmem).mb
        have hqn1 : wr.heap.size ≠ q.q := fun e => by rw [← e] at hqm; exact (hqm.ne_blk hbx) rfl
        have hqn2 : h ≠ q.q := fun e => by rw [← e] at hqm; exact (hqm.ne_blk hhW) rfl
        refine wp_region_textS [(3, 1)] [h, wr.heap.size] (by kernel_rfl) (by kernel_rfl) (hcs.out _ (Chg.refl _ W).drew) ?_
        simp only [wpU, tagOf, chk, look, Nat.reduceBEq, if_true, if_false, Nat.reduceEqDiff, List.nil_append, List.cons_append]
        intro K hK
        go_wp2_with fail
        refine OnlyN.normal (hK _ _ (fun _ => ⟨_, _, _, rfl, rfl, by simp⟩) ?_)
        clear hK K
        intro K hK
        go_wp2_with fail
        refine OnlyN.normal (hK _ _ (fun _ => ⟨_, _, _, rfl, rfl, by simp⟩) ?_)
        clear hK K
        intro K hK
        go_wp2_with fail
        refine OnlyN.normal (hK _ _ (fun _ _ => rfl) ?_)
        clear hK K
        intro K hK
        go_wp2_with fail
        refine OnlyN.normal (hK _ _ (fun _ _ => rfl) ?_)
        clear hK K
        intro K hK
        go_wp2_with fail
        refine OnlyN.normal (hK _ _ (sameIn_of (S := fun k => k = q.q) (Chg.setB (S := fun k => k = q.q) (Chg.refl _ W.drew).drew (.inr rfl) _) (hcs.out _ (Chg.refl _ W).drew) (by simp [hqn1, hqn2])) ?_)
        clear hK K
        go_wp2_with fail
        refine OnlyN.normal ?_
        go_wp2
        go_roundw
        case rel => exact ⟨k + 1, _, _, by omega, by go_num, hI5, hne5⟩
        case measure => simp [intOf] <;> omega
    · obtain rfl : k = ln := by omega
      rw [List.take_of_length_le (by have := hlen.out; omega)] at hI
      go_wp2
      go_end0
      exact ⟨rfl, PL', cp', hI, hne⟩
end Go.Proofs.YtailooldnelecaaGreatDoor

namespace Go.Proofs.YtailooldnelecaaGreatDoor
open Go.RowKit

theorem Blk.neT {w : World} {g g' : Nat} {t t' : TypeId} {cs cs' : Array Value} (h : Blk w g t cs) (h' : Blk w g' t' cs') (hne : t ≠ t') : g ≠ g' := fun e => by
  subst e
  have h1 : some (Obj.cells cs t (0, 0)) = some (Obj.cells cs' t' (0, 0)) := Eq.trans (Eq.symm h) h'
  injection h1 with h1
  injection h1 with _ h1
  exact hne h1
theorem rise_len : ∀ {l : List Ptn} {lo hi : Int}, Rise l → (∀ p ∈ l, lo ≤ p.1 ∧ p.1 ≤ hi) → (l.length : Int) ≤ hi - lo + 1 ∨ l = []
  | [], _, _, _, _ => .inr rfl
  | p :: r, lo, hi, h, hb => by
    have h1 := List.pairwise_cons.1 h
    have hp := hb p List.mem_cons_self
    rcases rise_len (lo := p.1 + 1) (hi := hi) h1.2 (fun q hq => ⟨by have := h1.1 q hq; omega, (hb q (List.mem_cons_of_mem _ hq)).2⟩) with h2 | h2
    · refine .inl ?_
      rw [List.length_cons]
      omega
    · subst h2
      refine .inl ?_
      rw [List.length_singleton]
      omega
theorem HEnt.Ok.pn {S : Nat → Prop} {w : World} {clock : Nat} {e : HEnt} (h : e.Ok S w clock) : e.m.pn ≤ 2199023255553 := by
  have := h.pt.len (by decide)
  rcases rise_len h.ris h.bnd with h1 | h1
  · omega
  · exact absurd h1 h.non

/-- the head's series with a point put behind -/
def HEnt.push (e : HEnt) (A : Option Addr) (c : Nat) (q : Ptn) : HEnt := { e with m := { e.m with pa := A, pn := e.m.pn + 1, pc := c }, s := { e.s with pts := e.s.pts ++ [q] } }
theorem rise_push {l : List Ptn} (h : Rise l) {p q : Ptn} (hp : l.getLast? = some p) (hlt : p.1 < q.1) : Rise (l ++ [q]) := by
  refine List.pairwise_append.2 ⟨h, List.pairwise_singleton _ _, fun a ha b hb => ?_⟩
  obtain rfl := List.mem_singleton.1 hb
  obtain ⟨l', rfl⟩ : ∃ l', l = l' ++ [p] := by
    rcases List.eq_nil_or_concat l with h0 | ⟨l', z, h0⟩
    · subst h0
      cases hp
    · rw [List.concat_eq_append] at h0
      subst h0
      simp at hp
      subst hp
      exact ⟨l', rfl⟩
  rcases List.mem_append.1 ha with ha | ha
  · have := (List.pairwise_append.1 h).2.2 a ha p (List.mem_singleton.2 rfl)
    omega
  · obtain rfl := List.mem_singleton.1 ha
    exact hlt
theorem hap_at {L : List HEnt} (h : L.Pairwise HAp) {i j : Nat} {a b : HEnt} (ha : L[i]? = some a) (hb : L[j]? = some b) (hne : i ≠ j) : HAp a b := by
  obtain ⟨h1, rfl⟩ := List.getElem?_eq_some_iff.1 ha
  obtain ⟨h2, rfl⟩ := List.getElem?_eq_some_iff.1 hb
  rcases Nat.lt_or_gt_of_ne hne with e | e
  · exact List.pairwise_iff_getElem.1 h i j h1 h2 e
  · exact (List.pairwise_iff_getElem.1 h j i h2 h1 e).symm

section
variable {S : Nat → Prop} {w W W' : World} {b p cb cp cp' : Nat} {L : List HEnt} {PL PL' : List PEnt}
theorem TB.mono {S' : Nat → Prop} (h : TB S w b p L cb PL cp) (hs : ∀ k, S k → S' k) (hlt : ∀ k, S' k → k < w.heap.size) : TB S' w b p L cb PL cp :=
  ⟨h.mb, fun e he => (h.ok e he).mono hs, h.ap, h.mp, fun q hq => (h.pok q hq).mono hs, h.pap, h.bp, h.pb, hs _ h.ob, hs _ h.op, hlt⟩
/-- what S becomes: the blocks that came since are in -/
def More (S : Nat → Prop) (w W : World) (k : Nat) : Prop := S k ∨ w.heap.size ≤ k ∧ k < W.heap.size
/-- which blocks a series' growth touches -/
def ET (e : HEnt) (k : Nat) : Prop := k = e.g ∨ ∃ ad, e.m.pa = some ad ∧ k = ad.block
theorem HEnt.Ok.et {clock clock' : Nat} {e x : HEnt} (h : e.Ok S w clock) (hx : x.Ok S w clock') (hap : HAp x e) : ¬ ET e x.g ∧ (∀ ad, x.m.la = some ad → ¬ ET e ad.block) ∧ (∀ ad, x.m.pa = some ad → ¬ ET e ad.block) := by
  have hE := fun ad (he : e.m.pa = some ad) => (h.pt.blk ad he)
  refine ⟨?_, fun ad ha => ?_, fun ad ha => ?_⟩
  · rintro (h1 | ⟨ad, h1, h2⟩)
    · exact hap.g h1
    · obtain ⟨c, hc⟩ := hE ad h1
      exact (hx.blk.neT hc (by decide)) h2
  · obtain ⟨c, hc⟩ := hx.lb.blk ad ha
    rintro (h1 | ⟨ad2, h1, h2⟩)
    · exact (hc.neT h.blk (by decide)) h1
    · obtain ⟨c2, hc2⟩ := hE ad2 h1
      exact (hc.neT hc2 (by decide)) h2
  · obtain ⟨c, hc⟩ := hx.pt.blk ad ha
    rintro (h1 | ⟨ad2, h1, h2⟩)
    · exact (hc.neT h.blk (by decide)) h1
    · exact hap.pt ad ad2 ha h1 h2
theorem HEnt.Ok.la {clock : Nat} {e : HEnt} (h : e.Ok S w clock) : ∀ ad, e.m.la = some ad → ¬ ET e ad.block := fun ad ha => by
  obtain ⟨c, hc⟩ := h.lb.blk ad ha
  rintro (h1 | ⟨ad2, h1, h2⟩)
  · exact (hc.neT h.blk (by decide)) h1
  · obtain ⟨c2, hc2⟩ := h.pt.blk ad2 h1
    exact (hc.neT hc2 (by decide)) h2
theorem HEnt.Ok.map {clock c : Nat} {e : HEnt} (h : e.Ok S w clock) {k : Nat} {es : Array MapEntry} (hm : MapB w k es c) : ¬ ET e k := by
  rintro (h1 | ⟨ad2, h1, h2⟩)
  · exact (hm.ne_blk h.blk) h1
  · obtain ⟨c2, hc2⟩ := h.pt.blk ad2 h1
    exact (hm.ne_blk hc2) h2
theorem HEnt.Ok.head {clock : Nat} {e : HEnt} (h : e.Ok S w clock) {k : Nat} {cs : Array Value} (hm : Blk w k 47 cs) : ¬ ET e k := by
  rintro (h1 | ⟨ad2, h1, h2⟩)
  · exact (hm.neT h.blk (by decide)) h1
  · obtain ⟨c2, hc2⟩ := h.pt.blk ad2 h1
    exact (hm.neT hc2 (by decide)) h2
/-- a series changed in place -/
theorem TB.setE (h : TB S w b p L cb PL cp) {i : Nat} {e e' : HEnt} (hi : L[i]? = some e) (hc : Chg (ET e) w W) (ho : e'.Ok (More S w W) W cb) (hk : e'.key = e.key) (hg : e'.g = e.g) (hb : e'.born = e.born)
    (hp : ∀ ad, e'.m.pa = some ad → (∃ bd, e.m.pa = some bd ∧ ad.block = bd.block) ∨ w.heap.size ≤ ad.block) : TB (More S w W) W b p (L.set i e') cb PL cp := by
  have he := List.mem_of_getElem? hi
  have hoe := h.ok e he
  have hent : (L.set i e').map HEnt.ent = L.map HEnt.ent := by
    rw [List.map_set]
    refine List.ext_getElem? fun j => ?_
    rw [List.getElem?_set]
    split
    · rename_i e1
      subst e1
      split
      · simp [hi, HEnt.ent, hk, hg, hb]
      · rename_i h1
        simp at h1
        simp [h1]
    · rfl
  refine ⟨?_, fun x hx => ?_, pairwise_set (fun _ _ h => h.symm) h.ap hi fun j z hj hz => ?_, h.mp.chg hc (hoe.map h.mp), fun q hq => ((h.pok q hq).chg hc (hoe.map (h.pok q hq).mb) (Nat.le_refl _)).mono fun _ e => .inl e, h.pap, h.bp, h.pb, .inl h.ob, .inl h.op, fun k hk => ?_⟩
  · rw [hent]
    exact h.mb.chg hc (hoe.map h.mb)
  · rcases mem_set hx with rfl | ⟨j, hj, hz⟩
    · exact ho
    · have hxo := h.ok x (List.mem_of_getElem? hz)
      obtain ⟨h1, h2, h3⟩ := hoe.et hxo (hap_at h.ap hz hi hj)
      exact (hxo.chg hc h1 h2 h3 (Nat.le_refl _)).mono fun _ e => .inl e
  · have hz1 := hap_at h.ap hz hi hj
    have hzo := h.ok z (List.mem_of_getElem? hz)
    refine ⟨by rw [hk]; exact hz1.key, by rw [hg]; exact hz1.g, by rw [hb]; exact hz1.born, fun ad bd e1 e2 e3 => ?_⟩
    rcases hp bd e2 with ⟨bd0, h1, h2⟩ | h1
    · exact hz1.pt ad bd0 e1 h1 (e3.trans h2)
    · have := h.lt _ (hzo.op ad e1)
      omega
  · rcases hk with hk | hk
    · exact Nat.lt_of_lt_of_le (h.lt k hk) hc.size
    · exact hk.2
/-- a new series -/
theorem TB.addE {key : ByteArray} {w1 : World} {lbs : List Lab} {e' : HEnt} (h : TB S w1 b p L cb PL cp) (hw1 : w.heap.size ≤ w1.heap.size) (hS : ∀ k, S k → k < w.heap.size) (I : PutI S w1 W b p e'.g key L cb PL lbs PL' cp') (hc : Chg (fun k => k = e'.g) W W') (hg : w.heap.size ≤ e'.g) {tg : TypeId} {cg : Array Value} (hgb : Blk W e'.g tg cg)
    (hk : e'.key = key) (hb : e'.born = cb) (ho : e'.Ok (More S w W') W' (cb + 1)) (hnew : ∀ e ∈ L, e.key ≠ key) (hp : ∀ ad, e'.m.pa = some ad → w.heap.size ≤ ad.block) : TB (More S w W') W' b p (L ++ [e']) (cb + 1) PL' cp' := by
  have hgS : ∀ k, S k → k ≠ e'.g := fun k hk e => by have := hS k hk; omega
  have hbn : ∀ x ∈ L, ¬ BT b p PL x.g ∧ (∀ ad, x.m.la = some ad → ¬ BT b p PL ad.block) ∧ (∀ ad, x.m.pa = some ad → ¬ BT b p PL ad.block) := fun x hx => by
    have hxo := h.ok x hx
    have key : ∀ {k t cs}, Blk w1 k t cs → ¬ BT b p PL k := fun hk hT => by
      rcases hT with rfl | rfl | ⟨q, hq, rfl⟩
      · exact (h.mb.ne_blk hk) rfl
      · exact (h.mp.ne_blk hk) rfl
      · exact ((h.pok q hq).mb.ne_blk hk) rfl
    exact ⟨key hxo.blk, fun ad e => by obtain ⟨c, hc⟩ := hxo.lb.blk ad e; exact key hc, fun ad e => by obtain ⟨c, hc⟩ := hxo.pt.blk ad e; exact key hc⟩
  have hgm : ∀ {k es c}, MapB W k es c → ¬ k = e'.g := fun hm => hm.ne_blk hgb
  have hold : ∀ x ∈ L, x.Ok S W' (cb + 1) := fun x hx => by
    have hxo := h.ok x hx
    obtain ⟨h1, h2, h3⟩ := hbn x hx
    have h4 := hxo.chg (clock' := cb + 1) I.chg h1 h2 h3 (Nat.le_succ _)
    exact h4.chg hc (hgS _ hxo.og) (fun ad e => hgS _ (hxo.ol ad e)) (fun ad e => hgS _ (hxo.op ad e)) (Nat.le_refl _)
  have hent : ((L.map HEnt.ent).toArray.push ⟨.string key, .pointer (some ⟨e'.g, 0, none⟩), cb⟩) = ((L ++ [e']).map HEnt.ent).toArray := by
    simp [HEnt.ent, hk, hb]
  have hsz : ∀ {k es c}, MapB W' k es c → w.heap.size ≤ k → w.heap.size ≤ k ∧ k < W'.heap.size := fun hm hk => ⟨hk, hm.lt⟩
  have hPT := I.pt.chg hc (hgm I.pt.mp) fun q hq => hgm (I.pt.pok q hq).mb
  refine ⟨by rw [← hent]; exact I.mb.chg hc (hgm I.mb), fun x hx => ?_, ?_, hPT.mp, fun q hq => ?_, hPT.pap, I.bp, fun q hq => ⟨I.neb q hq, hPT.pb q hq⟩, .inl h.ob, .inl h.op, fun k hk => ?_⟩
  · rcases List.mem_append.1 hx with hx | hx
    · exact (hold x hx).mono fun _ e => .inl e
    · obtain rfl := List.mem_singleton.1 hx
      exact ho
  · refine List.pairwise_append.2 ⟨h.ap, List.pairwise_singleton _ _, fun a ha b hb1 => ?_⟩
    obtain rfl := List.mem_singleton.1 hb1
    have hao := h.ok a ha
    refine ⟨by rw [hk]; exact hnew a ha, hgS _ hao.og, by rw [hb]; exact Nat.ne_of_lt hao.born, fun ad bd e1 e2 e3 => ?_⟩
    have h1 := hS _ (hao.op ad e1)
    have h2 := hp bd e2
    omega
  · have hq1 := hPT.pok q hq
    refine ⟨hq1.mb, ?_, hq1.kap, hq1.kst, hq1.bap, hq1.born, hq1.sz⟩
    rcases hq1.oq with h1 | h1
    · exact .inl h1
    · exact .inr (hsz hq1.mb (by omega))
  · rcases hk with hk | hk
    · have h1 := hS k hk
      have h2 := I.chg.size
      have h3 := hc.size
      omega
    · exact hk.2
end
theorem inL_push {L : List HEnt} {i : Nat} {e e' : HEnt} (hi : L[i]? = some e) (hk : e'.key = e.key) (hl : e'.s.lbs = e.s.lbs) (l : Lab) (s : ByteArray) : InL (L.set i e') l s ↔ InL L l s := by
  have hlt := (List.getElem?_eq_some_iff.1 hi).1
  constructor
  · rintro ⟨x, hx, h1, h2⟩
    rcases mem_set hx with rfl | ⟨j, _, hz⟩
    · exact ⟨e, List.mem_of_getElem? hi, hk ▸ h1, hl ▸ h2⟩
    · exact ⟨x, List.mem_of_getElem? hz, h1, h2⟩
  · rintro ⟨x, hx, h1, h2⟩
    obtain ⟨j, hj⟩ := List.getElem?_of_mem hx
    by_cases e0 : i = j
    · subst e0
      obtain rfl : e = x := by rw [hi] at hj; injection hj
      exact ⟨e', List.mem_of_getElem? (i := i) (by rw [List.getElem?_set, if_pos rfl, if_pos hlt]), hk.trans h1, hl ▸ h2⟩
    · exact ⟨x, List.mem_of_getElem? (i := j) (by rw [List.getElem?_set, if_neg e0]; exact hj), h1, h2⟩
theorem inL_add {L : List HEnt} {e' : HEnt} (l : Lab) (s : ByteArray) : InL (L ++ [e']) l s ↔ InL L l s ∨ s = e'.key ∧ l ∈ e'.s.lbs := by
  constructor
  · rintro ⟨x, hx, h1, h2⟩
    rcases List.mem_append.1 hx with hx | hx
    · exact .inl ⟨x, hx, h1, h2⟩
    · obtain rfl := List.mem_singleton.1 hx
      exact .inr ⟨h1.symm, h2⟩
  · rintro (⟨x, hx, h1, h2⟩ | ⟨h1, h2⟩)
    · exact ⟨x, List.mem_append_left _ hx, h1, h2⟩
    · exact ⟨e', List.mem_append_right _ (List.mem_singleton.2 rfl), h1.symm, h2⟩
end Go.Proofs.YtailooldnelecaaGreatDoor
