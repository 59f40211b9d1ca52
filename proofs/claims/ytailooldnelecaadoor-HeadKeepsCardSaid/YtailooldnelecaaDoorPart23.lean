/-
  Several texts in one:
  (*table).put: a new series into both maps. Conditions: labels that may be keys, each once; a key that is new.
-/
import Derived.Test.YtailooldnelecaaDoorPart17
import Derived.Test.YtailooldnelecaaDoorPart22
import Derived.WalkSpells

namespace Go.Proofs.YtailooldnelecaaDoor
open Go.RowKit

/-- the maps' blocks -/
def BT (b p : Nat) (PL : List PEnt) (k : Nat) : Prop := k = b ∨ k = p ∨ ∃ q ∈ PL, k = q.q
structure PutI (S : Nat → Prop) (w W : World) (b p g : Nat) (key : ByteArray) (L : List HEnt) (cb : Nat) (PL : List PEnt) (done : List Lab) (PL' : List PEnt) (cp' : Nat) : Prop where
  chg : Chg (BT b p PL) w W
  mb : MapB W b ((L.map HEnt.ent).toArray.push ⟨.string key, .pointer (some ⟨g, 0, none⟩), cb⟩) (cb + 1)
  pt : PT (fun k => S k ∨ w.heap.size ≤ k) W p PL' cp'
  neb : ∀ q ∈ PL', q.q ≠ b
  bp : b ≠ p
  tch : ∀ q ∈ PL', BT b p PL q.q ∨ w.heap.size ≤ q.q
  rel : ∀ l s, InP PL' l s ↔ InP PL l s ∨ s = key ∧ l ∈ done

section
variable {S : Nat → Prop} {w W W' : World} {b p g : Nat} {key : ByteArray} {L : List HEnt} {cb : Nat} {PL PL' : List PEnt} {cp cp' : Nat} {done : List Lab}
theorem PutI.start (h : TB S w b p L cb PL cp) (hg : Chg (BT b p PL) w W) (hh : TB S W b p L cb PL cp) : PutI S w (setB W b (.map ((L.map HEnt.ent).toArray.push ⟨.string key, .pointer (some ⟨g, 0, none⟩), cb⟩) (cb + 1))) b p g key L cb PL [] PL cp :=
  ⟨hg.setB (.inr (.inl rfl)) _, hh.mb.set _ _,
    (hh.pt.chg (T := fun k => k = b) (Chg.setB (S := fun k => k = b) (Chg.refl _ W) (.inr rfl) _) (Ne.symm h.bp) (fun q hq => (h.pb q hq).1)).mono fun _ e => .inl e,
    fun q hq => (h.pb q hq).1, h.bp, fun q hq => .inl (.inr (.inr ⟨q, hq, rfl⟩)), fun l s => ⟨.inl, fun e => e.elim id fun e => by cases e.2⟩⟩
theorem PutI.grew (h : PutI S w W b p g key L cb PL done PL' cp') (hc : Grew W W') : PutI S w W' b p g key L cb PL done PL' cp' :=
  ⟨h.chg.grow hc, h.mb.grew hc, h.pt.grew hc, h.neb, h.bp, h.tch, h.rel⟩
theorem PutI.lay (h : PutI S w W b p g key L cb PL done PL' cp') {l : Lab} (hz : SzL l) (hs : ∀ q ∈ PL', q.l ≠ l) {m : Nat} (hm : MapB W m #[] 0) (hw : w.heap.size ≤ m) (hmp : m ≠ p) (hmb : m ≠ b) (hmq : ∀ q ∈ PL', q.q ≠ m) :
    PutI S w (setB W p (.map ((PL'.map PEnt.ent).toArray.push ⟨lbK l, .map (some m), cp'⟩) (cp' + 1))) b p g key L cb PL done (PL' ++ [⟨l, m, cp', [], 0⟩]) (cp' + 1) :=
  ⟨h.chg.setB (.inr (.inr (.inl rfl))) _, h.mb.setB h.bp _, h.pt.addN hz hs hm hmp hmq (.inr hw),
    fun q hq => (List.mem_append.1 hq).elim (h.neb q) fun hq => by obtain rfl := List.mem_singleton.1 hq; exact hmb, h.bp,
    fun q hq => (List.mem_append.1 hq).elim (h.tch q) fun hq => by obtain rfl := List.mem_singleton.1 hq; exact .inr hw,
    fun l' s => by rw [inP_addN]; exact h.rel l' s⟩
theorem PutI.plus (h : PutI S w W b p g key L cb PL done PL' cp') {i : Nat} {q : PEnt} (hi : PL'[i]? = some q) (hs : ∀ y ∈ q.es, y.key ≠ .string key) (v : Value) :
    PutI S w (setB W q.q (.map (q.es.toArray.push ⟨.string key, v, q.c⟩) (q.c + 1))) b p g key L cb PL (done ++ [q.l]) (PL'.set i (q.plus key v)) cp' := by
  have hq := List.mem_of_getElem? hi
  refine ⟨h.chg.setB ((h.tch q hq).symm) _, h.mb.setB (Ne.symm (h.neb q hq)) _, h.pt.putN hi hs v, fun x hx => ?_, h.bp, fun x hx => ?_, fun l' s' => ?_⟩
  · rcases mem_set hx with rfl | ⟨j, _, hz⟩
    · exact h.neb q hq
    · exact h.neb x (List.mem_of_getElem? hz)
  · rcases mem_set hx with rfl | ⟨j, _, hz⟩
    · exact h.tch q hq
    · exact h.tch x (List.mem_of_getElem? hz)
  · rw [inP_putN hi, h.rel, List.mem_append, List.mem_singleton]
    constructor
    · rintro ((h1 | ⟨h1, h2⟩) | ⟨h1, h2⟩)
      · exact .inl h1
      · exact .inr ⟨h1, .inl h2⟩
      · exact .inr ⟨h2, .inr h1⟩
    · rintro (h1 | ⟨h1, h2 | h2⟩)
      · exact .inl (.inl h1)
      · exact .inl (.inr ⟨h1, h2⟩)
      · exact .inr ⟨h2, h1⟩
theorem PutI.free (h : PutI S w W b p g key L cb PL done PL' cp') {q : PEnt} (hq : q ∈ PL') (hin : ∀ l, ¬ InP PL l key) (hd : q.l ∉ done) : ∀ y ∈ q.es, y.key ≠ .string key := fun y hy e => by
  rcases (h.rel q.l key).1 ⟨q, hq, rfl, y, hy, e⟩ with h1 | ⟨_, h1⟩
  · exact hin _ h1
  · exact hd h1
end
def NonE (PL : List PEnt) : Prop := ∀ q ∈ PL, q.es ≠ []
theorem NonE.plus {PL : List PEnt} (h : NonE PL) (i : Nat) (q : PEnt) (s : ByteArray) (v : Value) : NonE (PL.set i (q.plus s v)) := fun x hx => by
  rcases mem_set hx with rfl | ⟨j, _, hz⟩
  · simp [PEnt.plus]
  · exact h x (List.mem_of_getElem? hz)
theorem NonE.lay {PL : List PEnt} (h : NonE PL) (q q' : PEnt) (s : ByteArray) (v : Value) : NonE ((PL ++ [q']).set PL.length (q.plus s v)) := fun x hx => by
  rcases mem_set hx with rfl | ⟨j, hj, hz⟩
  · simp [PEnt.plus]
  · have hlt := (List.getElem?_eq_some_iff.1 hz).1
    simp at hlt
    rw [List.getElem?_append_left (by omega)] at hz
    exact h x (List.mem_of_getElem? hz)
theorem has_label (PL : List PEnt) (l : Lab) : (∀ q ∈ PL, q.l ≠ l) ∨ ∃ (i : Nat) (q : PEnt), PL[i]? = some q ∧ q.l = l := by
  by_cases h : ∃ q ∈ PL, q.l = l
  · obtain ⟨q, hq, e⟩ := h
    obtain ⟨i, hi⟩ := List.getElem?_of_mem hq
    exact .inr ⟨i, q, hi, e⟩
  · exact .inl fun q hq e => h ⟨q, hq, e⟩
theorem run_putB {S : Nat → Prop} {w : World} {b p : Nat} {L : List HEnt} {cb : Nat} {PL : List PEnt} {cp : Nat} (h : TB S w b p L cb PL cp) {s : ByteArray} (hs : ∀ e ∈ L, e.key ≠ s) (v : Value) : (Instr.mapUpdate 54 (.map (some b)) (.string s) v).run Tryd.prog w = .ok () (setB w b (.map ((L.map HEnt.ent).toArray.push ⟨.string s, v, cb⟩) (cb + 1))) :=
  run_putN klS Tryd.underlying54 h.mb v ⟨s, rfl⟩ h.kst fun y hy e => by
    obtain ⟨x, hx, rfl⟩ := List.mem_map.1 (by simpa using hy)
    injection e with e
    exact hs x hx e
theorem nodup_at {l : List Lab} (h : l.Nodup) {k : Nat} {x : Lab} (hx : l[k]? = some x) : x ∉ l.take k := fun hm => by
  obtain ⟨j, hj⟩ := List.getElem?_of_mem hm
  rw [List.getElem?_take] at hj
  split at hj
  · rename_i hlt
    obtain ⟨h1, e1⟩ := List.getElem?_eq_some_iff.1 hx
    obtain ⟨h2, e2⟩ := List.getElem?_eq_some_iff.1 hj
    have := (List.getElem_inj h).1 (e2.trans e1.symm)
    omega
  · cases hj

set_option maxRecDepth 100000 in
set_option maxHeartbeats 8000000 in
theorem put_any {S : Nat → Prop} {h b p cb cp g : Nat} {L : List HEnt} {PL : List PEnt} {lim : Value} (key : ByteArray) (la pa : Option Addr) (ln lc pn pc : Nat) (lbs : List Lab) (w : World) (hTB : TB S w b p L cb PL cp)
    (hh : Blk w h 59 #[.map (some b), .map (some p), lim]) (hg : Blk w g 67 #[.slice la ln lc, .slice pa pn pc])
    (hl : RE elLb w la ln lbs) (hlS : ∀ ad, la = some ad → ¬ S ad.block) (hz : ∀ l ∈ lbs, SzL l) (hnd : lbs.Nodup) (hnew : ∀ e ∈ L, e.key ≠ key) (hin : ∀ l, ¬ InP PL l key) (hne : NonE PL) (hln : ln ≤ 16) :
    Calls Tryd.prog 23 #[.pointer (some ⟨h, 0, none⟩), .string key, .pointer (some ⟨g, 0, none⟩)] w fun e w' => e = .returned (.tuple #[]) ∧ ∃ PL' cp', PutI S w w' b p g key L cb PL lbs PL' cp' ∧ NonE PL' := by
  have hnh : ∀ k, BT b p PL k → k ≠ h ∧ k ≠ g := fun k hk => by
    have key : ∀ {es c}, MapB w k es c → k ≠ h ∧ k ≠ g := fun hm => ⟨hm.ne_blk hh, hm.ne_blk hg⟩
    rcases hk with rfl | rfl | ⟨q, hq, rfl⟩
    · exact key hTB.mb
    · exact key hTB.mp
    · exact key (hTB.pok q hq).mb
  have hnl : ∀ ad, la = some ad → ¬ BT b p PL ad.block := fun ad e hk => by
    have := hlS ad e
    rcases hk with hk | hk | ⟨q, hq, hk⟩
    · exact this (by rw [hk]; exact hTB.ob)
    · exact this (by rw [hk]; exact hTB.op)
    · exact this (by rw [hk]; exact (hTB.pok q hq).oq)
  have hhc := fun W (hc : Chg (BT b p PL) w W) => hh.chg hc (fun e => (hnh h e).1 rfl)
  have hgc := fun W (hc : Chg (BT b p PL) w W) => hg.chg hc (fun e => (hnh g e).2 rfl)
  have hlcg := fun W (hc : Chg (BT b p PL) w W) => hl.chg hc hnl
  have hzs := hh.lt
  have hput := run_putB hTB hnew (.pointer (some ⟨g, 0, none⟩))
  have hI0 : PutI S w (setB w b (.map ((L.map HEnt.ent).toArray.push ⟨.string key, .pointer (some ⟨g, 0, none⟩), cb⟩) (cb + 1))) b p g key L cb PL [] PL cp := PutI.start hTB (Chg.refl _ w) hTB
  have hb3 : b < w.heap.size := hTB.mb.lt
  have hp3 : p < w.heap.size := hTB.mp.lt
  obtain ⟨W0, hW0⟩ : ∃ W0, W0 = setB w b (.map ((L.map HEnt.ent).toArray.push ⟨.string key, .pointer (some ⟨g, 0, none⟩), cb⟩) (cb + 1)) := ⟨_, rfl⟩
  rw [← hW0] at hI0 hput
  have h0 := hh.cell 0
  have g0 := (hgc _ hI0.chg).cell 0
  have hlen := hl.1
  replace hhc := Lib.hid hhc
  replace hgc := Lib.hid hgc
  replace hlcg := Lib.hid hlcg
  replace hz := Lib.hid hz
  replace hlen := Lib.hid hlen
  have hmm := @run_makeMap Tryd.prog
  have hqT : ∀ (w : World) (r : Option Nat), (binOp .eql 79 (.map r) (.map none)).run Tryd.prog w = .ok (.bool r.isNone) w := fun w r => run_eql_map_nil w _ _ _ r Tryd.underlying79
  clear hTB hnh hnl hh hg hl hlS hW0 hnew
  go_enter Tryd.func23, Tryd.ntmps23
  go_wp2_with fail
  clear hput
  go_wp2
  go_loopw [19] (fun i wr => ∃ (k : Nat) (PL' : List PEnt) (cp' : Nat), k ≤ ln ∧ i = .int .i64 (k : Int) ∧ PutI S w wr b p g key L cb PL (lbs.take k) PL' cp' ∧ NonE PL') (fun i _ => ln - (intOf i).toNat)
  case atStart => exact ⟨0, PL, cp, by omega, rfl, by simpa using hI0, hne⟩
  case round =>
    clear hI0 hne g0 h0
    obtain ⟨k, PL', cp', hk, rfl, hI, hne⟩ := hrel
    by_cases hlt : k < ln
    · have hhw := hhc.out wr hI.chg
      obtain ⟨ad, x, rfl, hx, x0, x1⟩ := RE.lb (hlcg.out wr hI.chg) hlt
      have hxz := hz.out x (List.mem_of_getElem? hx)
      have hxd := nodup_at hnd hx
      obtain ⟨W, hW⟩ : ∃ W, W = wr.alloc (.cells #[.string x.1, .string x.2] 53) := ⟨_, rfl⟩
      have hgW : Grew wr W := by rw [hW]; exact (Chg.refl _ wr).alloc _
      have hbx : Blk W wr.heap.size 53 #[.string x.1, .string x.2] := by rw [hW]; exact Blk.new wr _ _
      have hIW := hI.grew hgW
      have hhW := hhw.grew hgW
      have hcs := fun W1 (h1 : Grew W W1) => cellsIn_cons (hhW.grew h1).ex (cellsIn_cons (hbx.grew h1).ex (cellsIn_nil W1))
      have hsame := fun W1 W2 (h1 : Grew W W1) (h2 : Grew W1 W2) => sameIn_of h2 (hcs W1 h1) fun _ _ e => e
      replace hcs := Lib.hid hcs
      replace hsame := Lib.hid hsame
      have h1 := hhW.cell 1
      have b0 := hbx.cell 0
      have b1 := hbx.cell 1
      have hxs : Hid (lbs.take k ++ [x] = lbs.take (k + 1)) := (take_sn hx).symm
      clear hx hI hhw
      go_wp2_with fail
      rw [← hW]
      clear hW x0 x1
      rcases has_label PL' x with hno | ⟨i, q, hi, hqx⟩
      · have ha := (hIW.grew (Chg.refl _ W).drew).pt.askN hxz hno
        unfold lbK at ha
        refine wp_region_textS [(3, 1)] [h, wr.heap.size] (by kernel_rfl) (by kernel_rfl) (hcs.out _ (Chg.refl _ W)) ?_
        simp only [wpU, tagOf, chk, look, Nat.reduceBEq, Bool.false_eq_true, if_true, if_false, List.nil_append, List.cons_append]
        intro K hK
        go_wp2_with fail
        refine OnlyN.normal (hK _ _ (fun _ => ⟨_, _, _, rfl, rfl, by simp⟩) ?_)
        clear hK K
        intro K hK
        go_wp2_with fail
        refine OnlyN.normal (hK _ _ (fun _ => ⟨_, _, _, rfl, rfl, by simp⟩) ?_)
        clear hK K
        intro K hK
        go_wp2_with fail
        refine OnlyN.normal (hK _ _ (fun _ _ => rfl) ?_)
        clear hK K
        intro K hK
        go_wp2_with fail
        refine OnlyN.normal (hK _ _ (fun _ _ => rfl) ?_)
        clear hK K
        go_wp2_with fail
        refine OnlyN.normal ?_
        clear ha
        go_wp2_with fail
        obtain ⟨V, hV⟩ : ∃ V, V = (W.alloc (.map #[] 0)).drew.drew := ⟨_, rfl⟩
        have hgV : Grew W V := by rw [hV]; exact ((Chg.refl _ W).alloc _).drew.drew
        have hgV2 : Grew W.drew V := by rw [hV]; exact ((Chg.refl _ W.drew).alloc _).drew
        have hI2 := hIW.grew hgV
        have hmV : MapB V W.heap.size #[] 0 := by rw [hV]; exact MapB.grew (MapB.new W #[] 0) (Chg.refl _ _).drew.drew
        have hw1 := hIW.chg.size
        have hmq : ∀ q ∈ PL', q.q ≠ W.heap.size := fun q hq e => by
          have := (hIW.pt.pok q hq).mb.lt
          rw [e] at this
          exact Nat.lt_irrefl _ this
        have hmp : W.heap.size ≠ p := fun e => by have := hIW.pt.mp.lt; rw [← e] at this; exact Nat.lt_irrefl _ this
        have hmb : W.heap.size ≠ b := fun e => by have := hIW.mb.lt; rw [← e] at this; exact Nat.lt_irrefl _ this
        have hlay := hI2.pt.lay hxz hno W.heap.size
        have hI3 := hI2.lay hxz hno hmV hw1 hmp hmb hmq
        obtain ⟨U, hU⟩ : ∃ U, U = setB V p (.map ((PL'.map PEnt.ent).toArray.push ⟨lbK x, .map (some W.heap.size), cp'⟩) (cp' + 1)) := ⟨_, rfl⟩
        rw [← hU] at hlay hI3
        unfold lbK at hlay
        have hhV := hhW.grew hgV
        have hbV := hbx.grew hgV
        have hpne : wr.heap.size ≠ p := fun e => by have := hI2.pt.mp; rw [← e] at this; exact (this.ne_blk hbV) rfl
        have hpnh : h ≠ p := fun e => by have := hI2.pt.mp; rw [← e] at this; exact (this.ne_blk hhV) rfl
        have hcU : Chg (fun k => k = p) V U := by rw [hU]; exact Chg.setB (S := fun k => k = p) (Chg.refl _ V) (.inr rfl) _
        have hhU := hhV.chg hcU hpnh
        have hbU := hbV.chg hcU hpne
        refine wp_region_textS [(3, 1)] [h, wr.heap.size] (by kernel_rfl) (by kernel_rfl) (hcs.out _ (Chg.refl _ W).drew) ?_
        simp only [wpU, tagOf, chk, List.nil_append, List.cons_append]
        intro K hK
        go_wp2_with fail
        refine OnlyN.normal (hK _ _ (fun _ => ⟨_, _, _, rfl, rfl, by simp⟩) ?_)
        clear hK K
        intro K hK
        go_wp2_with fail
        refine OnlyN.normal (hK _ _ (fun _ => ⟨_, _, _, rfl, rfl, by simp⟩) ?_)
        clear hK K
        intro K hK
        go_wp2_with fail
        refine OnlyN.normal (hK _ _ (hsame.out _ _ (Chg.refl _ W).drew ((Chg.refl _ W.drew).drew.alloc _)) ?_)
        clear hK K
        rw [← hV]
        clear hV hU
        intro K hK
        go_wp2_with fail
        refine OnlyN.normal (hK _ _ (sameIn_of ((Chg.of_grew hgV2).trans hcU) (hcs.out _ (Chg.refl _ W).drew) (by simp [hpne, hpnh])) ?_)
        clear hK K
        go_wp2_with fail
        refine OnlyN.normal ?_
        go_wp2_with fail
        have hmem : (⟨x, W.heap.size, cp', [], 0⟩ : PEnt) ∈ PL' ++ [⟨x, W.heap.size, cp', [], 0⟩] := List.mem_append_right _ (List.mem_singleton.2 rfl)
        have hI4 := hI3.grew (Chg.refl _ U).drew
        have ha := hI4.pt.askS hmem
        have hb := hI4.pt.inN hmem (s := key) (fun y hy => (by cases hy))
        have hc := hI4.pt.inP hmem (s := key) (fun y hy => (by cases hy)) (.int .i64 1)
        have hI5 := hI4.plus (i := PL'.length) (q := ⟨x, W.heap.size, cp', [], 0⟩) (by simp) (fun y hy => (by cases hy)) (.int .i64 1)
        have hne5 := hne.lay ⟨x, W.heap.size, cp', [], 0⟩ ⟨x, W.heap.size, cp', [], 0⟩ key (.int .i64 1)
        unfold lbK at ha
        dsimp only at ha hb hc hI5
        rw [hxs.out] at hI5
        have h1 := hhU.cell 1
        have b0 := hbU.cell 0
        have b1 := hbU.cell 1
        refine wp_region_textS [(3, 1)] [h, wr.heap.size] (by kernel_rfl) (by kernel_rfl) (cellsIn_cons hhU.ex (cellsIn_cons hbU.ex (cellsIn_nil U))) ?_
        simp only [wpU, tagOf, chk, look, Nat.reduceBEq, if_true, if_false, Nat.reduceEqDiff, List.nil_append, List.cons_append]
        intro K hK
        go_wp2_with fail
        refine OnlyN.normal (hK _ _ (fun _ => ⟨_, _, _, rfl, rfl, by simp⟩) ?_)
        clear hK K
        intro K hK
        go_wp2_with fail
        refine OnlyN.normal (hK _ _ (fun _ => ⟨_, _, _, rfl, rfl, by simp⟩) ?_)
        clear hK K
        intro K hK
        go_wp2_with fail
        refine OnlyN.normal (hK _ _ (fun _ _ => rfl) ?_)
        clear hK K
        intro K hK
        go_wp2_with fail
        refine OnlyN.normal (hK _ _ (fun _ _ => rfl) ?_)
        clear hK K
        have hmne : W.heap.size ≠ wr.heap.size := fun e => by have := hbx.lt; omega
        have hmnh : W.heap.size ≠ h := fun e => by have := hhW.lt; omega
        intro K hK
        go_wp2_with fail
        refine OnlyN.normal (hK _ _ (sameIn_of (S := fun k => k = W.heap.size) (Chg.setB (S := fun k => k = W.heap.size) (Chg.refl _ U).drew (.inr rfl) _) (cellsIn_cons hhU.ex (cellsIn_cons hbU.ex (cellsIn_nil U))) (by simp [Ne.symm hmne, Ne.symm hmnh])) ?_)
        clear hK K
        go_wp2_with fail
        refine OnlyN.normal ?_
        go_wp2
        go_roundw
        case rel => exact ⟨k + 1, _, _, by omega, by go_num, hI5, hne5⟩
        case measure => simp [intOf] <;> omega
      · subst hqx
        have hmem := List.mem_of_getElem? hi
        have hfr := hIW.free hmem hin hxd
        have hI1 := hIW.grew (Chg.refl _ W).drew
        have ha := hI1.pt.askS hmem
        unfold lbK at ha
        refine wp_region_textS [(3, 1)] [h, wr.heap.size] (by kernel_rfl) (by kernel_rfl) (hcs.out _ (Chg.refl _ W)) ?_
        simp only [wpU, tagOf, chk, look, Nat.reduceBEq, Bool.false_eq_true, if_true, if_false, List.nil_append, List.cons_append]
        intro K hK
        go_wp2_with fail
        refine OnlyN.normal (hK _ _ (fun _ => ⟨_, _, _, rfl, rfl, by simp⟩) ?_)
        clear hK K
        intro K hK
        go_wp2_with fail
        refine OnlyN.normal (hK _ _ (fun _ => ⟨_, _, _, rfl, rfl, by simp⟩) ?_)
        clear hK K
        intro K hK
        go_wp2_with fail
        refine OnlyN.normal (hK _ _ (fun _ _ => rfl) ?_)
        clear hK K
        intro K hK
        go_wp2_with fail
        refine OnlyN.normal (hK _ _ (fun _ _ => rfl) ?_)
        clear hK K
        go_wp2_with fail
        refine OnlyN.normal ?_
        go_wp2_with fail
        clear ha
        have hI4 := hI1.grew (Chg.refl _ W.drew).drew
        have ha := hI4.pt.askS hmem
        have hb := hI4.pt.inN hmem hfr
        have hc := hI4.pt.inP hmem hfr (.int .i64 1)
        have hI5 := hI4.plus hi hfr (.int .i64 1)
        have hne5 := hne.plus i q key (.int .i64 1)
        unfold lbK at ha
        rw [hxs.out, List.push_toArray] at hI5
        have hqm := (hIW.pt.pok q hmem).mb
        have hqn1 : wr.heap.size ≠ q.q := fun e => by rw [← e] at hqm; exact (hqm.ne_blk hbx) rfl
        have hqn2 : h ≠ q.q := fun e => by rw [← e] at hqm; exact (hqm.ne_blk hhW) rfl
        refine wp_region_textS [(3, 1)] [h, wr.heap.size] (by kernel_rfl) (by kernel_rfl) (hcs.out _ (Chg.refl _ W).drew) ?_
        simp only [wpU, tagOf, chk, look, Nat.reduceBEq, if_true, if_false, Nat.reduceEqDiff, List.nil_append, List.cons_append]
        intro K hK
        go_wp2_with fail
        refine OnlyN.normal (hK _ _ (fun _ => ⟨_, _, _, rfl, rfl, by simp⟩) ?_)
        clear hK K
        intro K hK
        go_wp2_with fail
        refine OnlyN.normal (hK _ _ (fun _ => ⟨_, _, _, rfl, rfl, by simp⟩) ?_)
        clear hK K
        intro K hK
        go_wp2_with fail
        refine OnlyN.normal (hK _ _ (fun _ _ => rfl) ?_)
        clear hK K
        intro K hK
        go_wp2_with fail
        refine OnlyN.normal (hK _ _ (fun _ _ => rfl) ?_)
        clear hK K
        intro K hK
        go_wp2_with fail
        refine OnlyN.normal (hK _ _ (sameIn_of (S := fun k => k = q.q) (Chg.setB (S := fun k => k = q.q) (Chg.refl _ W.drew).drew (.inr rfl) _) (hcs.out _ (Chg.refl _ W).drew) (by simp [hqn1, hqn2])) ?_)
        clear hK K
        go_wp2_with fail
        refine OnlyN.normal ?_
        go_wp2
        go_roundw
        case rel => exact ⟨k + 1, _, _, by omega, by go_num, hI5, hne5⟩
        case measure => simp [intOf] <;> omega
    · obtain rfl : k = ln := by omega
      rw [List.take_of_length_le (by have := hlen.out; omega)] at hI
      go_wp2
      go_end0
      exact ⟨rfl, PL', cp', hI, hne⟩
end Go.Proofs.YtailooldnelecaaDoor
