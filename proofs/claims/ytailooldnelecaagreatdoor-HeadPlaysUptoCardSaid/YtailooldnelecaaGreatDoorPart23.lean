/-
  Several texts in one:
  The keys of the series of which matchers say yes: a range over the head's map. Conditions: texts that memory bears.
  A head's postings while a series is taken out. Conditions: none.
  (*table).drop: a series out of both maps. Conditions: labels each once; the series' key stands at each of its labels, and nowhere else.
-/
import Derived.Test.YtailooldnelecaaGreatDoorPart18
import Derived.Test.YtailooldnelecaaGreatDoorPart22

namespace Go.Proofs.YtailooldnelecaaGreatDoor
open Go.RowKit

def elTx : El ByteArray := ⟨fun s => [.string s], 1, fun _ => rfl, by
  intro x u hu
  simp at hu
  subst hu
  rfl⟩
theorem infoTx : (Tryz.prog.info? 9).map (fun i => (i.zero, i.size, i.bytes)) = some (some (.string ⟨#[]⟩), 1, 16) := by kernel_rfl
/-- what was gathered, behind the series V -/
def kO (ms : List Mat) (V : List HEnt) : List ByteArray := (V.filter fun e => saysB ms e.s.lbs).map HEnt.key
theorem kO_le (ms : List Mat) (V : List HEnt) : (kO ms V).length ≤ V.length := by
  unfold kO
  rw [List.length_map]
  exact List.length_filter_le _ _
theorem kO_snoc (ms : List Mat) (V : List HEnt) (e : HEnt) : kO ms (V ++ [e]) = kO ms V ++ if saysB ms e.s.lbs then [e.key] else [] := by
  unfold kO
  rw [List.filter_append, List.map_append]
  by_cases h : saysB ms e.s.lbs = true <;> simp [h]
/-- what holds at the head of the loop -/
structure AskAt (w : World) (b cb : Nat) (L : List HEnt) (ms : List Mat) (V : List HEnt) (v : Value) (wr : World) : Prop where
  it : ItM wr w.heap.size b cb (V.map HEnt.ent)
  pt : PartH V L
  gr : Grew w wr
  row : ∃ A c, v = .slice A (kO ms V).length c ∧ OE elTx wr w.heap.size 9 A (kO ms V).length c (kO ms V)

set_option maxRecDepth 100000 in
set_option maxHeartbeats 4000000 in
theorem asked_any {S : Nat → Prop} {h b p cb cp lim : Nat} {L : List HEnt} {PL : List PEnt} (A : Option Addr) (n c : Nat) (ms : List Mat) (w : World) (hH : HS S w h b p L cb PL cp lim) (hR : RE elMa w A n ms) (hn : n ≤ 9223372036854775807) (hms : ∀ x ∈ ms, x.2.2.size ≤ 16777216) (hx : MaxL w) :
    Calls Tryz.prog 42 #[.pointer (some ⟨h, 0, none⟩), .slice A n c] w fun e w' => ∃ V B d, V.Perm L ∧ e = .returned (.slice B (kO ms V).length d) ∧ OE elTx w' w.heap.size 9 B (kO ms V).length d (kO ms V) ∧ Grew w w' := by
  have hml := hH.ml
  have hlen := hH.len
  have c0 := hH.hd.cell 0
  have hrange := run_range_b (P := Tryz.prog) Tryz.underlying42 hH.tb.mb
  have hg1 : Grew w (w.alloc (.mapIter (some b) cb #[] cb)) := (Chg.refl _ w).alloc _
  have hHw := fun w' (g : Grew w w') => hH.grew g
  have hL : Hid (AskAt w b cb L ms [] (.slice none 0 0) (w.alloc (.mapIter (some b) cb #[] cb))) := ⟨itm_start, ⟨List.nodup_nil, fun e he => (by cases he)⟩, hg1, none, 0, rfl, OE.nil _ _ _⟩
  have hS := fun w' (g : Grew w w') e (he : e ∈ L) => says_any A n c ms e.m.la e.m.ln e.m.lc e.s.lbs w' (hR.grew g) (((hH.grew g).tb.ok e he).lb.re (by decide)) hn (by
    have h1 := (((hH.grew g).tb.ok e he).lb.re (by decide)).1
    have h2 := (chkL_sizes ((hH.grew g).tb.ok e he).chk).1
    omega) hms (fun x hx => by have := (chkL_sizes ((hH.grew g).tb.ok e he).chk).2 x hx; omega) (hx.grew g)
  replace hHw := Lib.hid hHw
  replace hS := Lib.hid hS
  clear hH hR hms hx hg1
  go_enter Tryz.func42, Tryz.ntmps42
  go_wp2
  go_loopw [5] (fun v wr => ∃ V, Hid (AskAt w b cb L ms V v wr)) (fun _ wr => match wr.heap[w.heap.size]? with | some (.mapIter _ _ seen _) => L.length - seen.size | _ => 0)
  case atStart => exact ⟨[], hL⟩
  case round =>
    clear hL c0 hrange
    obtain ⟨V, hV⟩ := hrel
    have hm0 : (match wr.heap[w.heap.size]? with | some (.mapIter _ _ seen _) => L.length - seen.size | _ => 0) = L.length - V.length := by
      obtain ⟨c0, h1, _⟩ := hV.out.it
      unfold IterB at h1
      rw [h1]
      simp
    obtain ⟨B, d, rfl, hrow⟩ := hV.out.row
    have hk := hHw.out wr hV.out.gr
    have hbl := Nat.le_trans (kO_le ms V) hV.out.pt.len
    rcases hk.tb.next hV.out.it hV.out.pt with ⟨hpm, hnx⟩ | ⟨e, he, hV2, w1, hc1, hs1, hnx, hit, hen⟩
    · have hgr := Lib.hid hV.out.gr
      have hrow := Lib.hid hrow
      clear hV hm0
      go_wp2
      go_ret
      exact ⟨V, B, d, hpm, by simp, hrow.out, hgr.out⟩
    · have hlt : V.length < L.length := by
        have := hV2.len
        simp at this
        omega
      have hgw : Grew w w1 := hV.out.gr.step hc1 fun k hk e => by
        have e : k = w.heap.size := e
        omega
      have hrow1 : OE elTx w1 w.heap.size 9 B (kO ms V).length d (kO ms V) := hrow.chg hc1 (Own.ne_iterM hrow hV.out.it)
      have hst := kO_snoc ms V e
      have hoe := (hHw.out w1 hgw).tb.ok e he
      have y0 := hoe.blk.cell 0
      have hS1 := hS.out w1 hgw e he
      have hm1 : ∀ w2 : World, ItM w2 w.heap.size b cb ((V ++ [e]).map HEnt.ent) → (match w2.heap[w.heap.size]? with | some (.mapIter _ _ seen _) => L.length - seen.size | _ => 0) < (match wr.heap[w.heap.size]? with | some (.mapIter _ _ seen _) => L.length - seen.size | _ => 0) := by
        rintro w2 ⟨c0, h1, _⟩
        unfold IterB at h1
        rw [h1, hm0]
        simp
        omega
      clear hm0 hc1 hs1 hrow hV hk hoe
      have hit := Lib.hid hit
      have hV2 := Lib.hid hV2
      have hst := Lib.hid hst
      have hm1 := Lib.hid hm1
      go_wp2_with fail
      refine hS1.mono ?_
      rintro e2 w2 ⟨rfl, hg2⟩
      clear hnx hen hS1
      have hgw2 := hgw.trans hg2
      have hrow2 := hrow1.grew hg2
      have hit2 : ItM w2 w.heap.size b cb ((V ++ [e]).map HEnt.ent) := hit.out.chg hg2 fun e => e
      by_cases hpre : saysB ms e.s.lbs = true
      · simp only [hpre]
        have hsrc : RE elTx (w2.alloc (.cells #[.string e.key] 9)) (some ⟨w2.heap.size, 0, none⟩) 1 [e.key] := RE.newAt rfl rfl rfl
        have hown : OE elTx (w2.alloc (.cells #[.string e.key] 9)) w.heap.size 9 B (kO ms V).length d (kO ms V) := hrow2.grew ((Chg.refl _ w2).alloc _)
        have hsz := hgw2.size
        go_wp2_with (at_builtin; refine wpList_appE rfl _ _ 63 9 infoTx rfl Tryz.underlying63 rfl w.heap.size B (kO ms V).length d (kO ms V) rfl hown (by simp; omega) _ 1 1 [e.key] rfl hsrc (by unfold maxLen; omega) (by omega) ?_; intro A3 c3 w3 h3)
        have hc3 : Chg (fun k => ∃ ad, B = some ad ∧ k = ad.block) w2 w3 := Chg.step (S := fun k => ∃ ad, B = some ad ∧ k = ad.block) ((Chg.refl _ w2).alloc _) h3.chg fun _ _ e => e
        have hG3 : Grew w w3 := hgw2.step hc3 fun k hk ⟨ad, e, he⟩ => by
          have := (Own.blk_lt hrow2 ad e).1
          omega
        have hit3 : ItM w3 w.heap.size b cb ((V ++ [e]).map HEnt.ent) := hit2.chg hc3 fun ⟨ad, e, he⟩ => Own.ne_iterM hrow2 hit2 ad e he.symm
        have ho3 := h3.oe
        have hm3 := hm1.out w3 hit3
        have hbe : kO ms (V ++ [e]) = kO ms V ++ [e.key] := by rw [hst.out, hpre]; rfl
        have hfin : Hid (AskAt w b cb L ms (V ++ [e]) (.slice A3 ((kO ms V).length + 1) c3) w3) :=
          ⟨hit3, hV2.out, hG3, A3, c3, by rw [hbe]; simp, by rw [hbe]; simpa using ho3⟩
        clear h3 hc3 hG3 hit3 ho3 hsrc hown hm1
        go_roundw
        case rel => exact ⟨V ++ [e], by simpa using hfin⟩
        case measure => exact hm3
      · have hpre : saysB ms e.s.lbs = false := by simpa using hpre
        simp only [hpre]
        have hm3 := hm1.out w2 hit2
        have hbe : kO ms (V ++ [e]) = kO ms V := by rw [hst.out, hpre]; simp
        have hfin : Hid (AskAt w b cb L ms (V ++ [e]) (.slice B (kO ms V).length d) w2) :=
          ⟨hit2, hV2.out, hgw2, B, d, by rw [hbe], by rw [hbe]; exact hrow2⟩
        clear hm1
        go_wp2
        go_roundw
        case rel => exact ⟨V ++ [e], hfin⟩
        case measure => exact hm3
end Go.Proofs.YtailooldnelecaaGreatDoor

namespace Go.Proofs.YtailooldnelecaaGreatDoor
open Go.RowKit

theorem mem_er {α : Type} {l : List α} {j : Nat} {x : α} : x ∈ l.eraseIdx j ↔ ∃ i, i ≠ j ∧ l[i]? = some x := List.mem_eraseIdx_iff_getElem?
theorem map_er {α β : Type} (f : α → β) : ∀ (l : List α) (i : Nat), (l.eraseIdx i).map f = (l.map f).eraseIdx i
  | [], _ => rfl
  | _ :: _, 0 => rfl
  | a :: l, i + 1 => by
    rw [List.eraseIdx_cons_succ, List.map_cons, List.map_cons, List.eraseIdx_cons_succ, map_er f l i]
def PEnt.less (q : PEnt) (j : Nat) : PEnt := { q with es := q.es.eraseIdx j }
section
variable {S : Nat → Prop} {w W W' : World} {p : Nat} {PL : List PEnt} {cp : Nat}
theorem PT.delIn (h : PT S w p PL cp) {q : PEnt} (hq : q ∈ PL) {s : ByteArray} {j : Nat} {y : MapEntry} (hj : q.es[j]? = some y) (hy : y.key = .string s) (ty : TypeId) :
    (Builtin.delete_ #[88, 9] ty #[.map (some q.q), .string s]).run Tryz.prog w = .ok (.tuple #[]) (setB w q.q (.map (q.es.eraseIdx j).toArray q.c)) := by
  have := run_strikeS (P := Tryz.prog) ty klS Tryz.underlying88 (h.pok q hq).mb ⟨s, rfl⟩ (by simpa using (h.pok q hq).kst) (by simpa using (h.pok q hq).kap) (i := j) (by simpa using hj) hy
  simpa using this
theorem PT.delP (h : PT S w p PL cp) {q : PEnt} {i : Nat} (hi : PL[i]? = some q) (ty : TypeId) :
    (Builtin.delete_ #[43, 72] ty #[.map (some p), lbK q.l]).run Tryz.prog w = .ok (.tuple #[]) (setB w p (.map ((PL.eraseIdx i).map PEnt.ent).toArray cp)) := by
  have := run_strikeS (P := Tryz.prog) (y := q.ent) ty klL Tryz.underlying43 h.mp ⟨q.l, rfl, (h.pok q (List.mem_of_getElem? hi)).sz⟩ h.lst h.lap (i := i) (by simp [hi]) rfl
  rw [map_er]
  simpa using this
theorem PT.cutN (h : PT S w p PL cp) {i j : Nat} {q : PEnt} (hi : PL[i]? = some q) :
    PT S (setB w q.q (.map (q.es.eraseIdx j).toArray q.c)) p (PL.set i (q.less j)) cp := by
  have hq := List.mem_of_getElem? hi
  have hk := h.pok q hq
  have hsub : List.Sublist (q.es.eraseIdx j) q.es := List.eraseIdx_sublist _ _
  refine ⟨?_, fun x hx => ?_, pairwise_set (fun _ _ h => h.symm) h.pap hi fun j z hj hz => ?_, fun x hx => ?_⟩
  · have := h.mp.setB (Ne.symm (h.pb q hq)) (.map (q.es.eraseIdx j).toArray q.c)
    have e : (PL.set i (q.less j)).map PEnt.ent = PL.map PEnt.ent := by
      rw [List.map_set]
      refine List.ext_getElem? fun j => ?_
      rw [List.getElem?_set]
      split
      · rename_i e
        subst e
        split
        · simp [hi, PEnt.less, PEnt.ent]
        · rename_i h1
          simp at h1
          simp [h1]
      · rfl
    rw [e]
    exact this
  · rcases mem_set hx with rfl | ⟨j, hj, hz⟩
    · exact ⟨hk.mb.set _ _, hk.oq, hk.kap.sublist hsub, fun y hy => hk.kst y (hsub.subset hy), ⟨hk.bap.nd.sublist (hsub.map _), fun y hy => hk.bap.old y (hsub.subset hy)⟩, hk.born, hk.sz⟩
    · have hx2 := h.pok x (List.mem_of_getElem? hz)
      exact ⟨hx2.mb.setB (pap_at h.pap hz hi hj).q _, hx2.oq, hx2.kap, hx2.kst, hx2.bap, hx2.born, hx2.sz⟩
  · have := pap_at h.pap hz hi hj
    exact ⟨this.l, this.q, this.born⟩
  · rcases mem_set hx with rfl | ⟨j, hj, hz⟩
    · exact h.pb q hq
    · exact h.pb x (List.mem_of_getElem? hz)
theorem PT.rem (h : PT S w p PL cp) (i : Nat) : PT S (setB w p (.map ((PL.eraseIdx i).map PEnt.ent).toArray cp)) p (PL.eraseIdx i) cp := by
  have hsub : List.Sublist (PL.eraseIdx i) PL := List.eraseIdx_sublist _ _
  refine ⟨h.mp.set _ _, fun x hx => ?_, h.pap.sublist hsub, fun x hx => h.pb x (hsub.subset hx)⟩
  have hx2 := h.pok x (hsub.subset hx)
  exact ⟨hx2.mb.setB (h.pb x (hsub.subset hx)) _, hx2.oq, hx2.kap, hx2.kst, hx2.bap, hx2.born, hx2.sz⟩
theorem PT.lenIn (h : PT S w p PL cp) {q : PEnt} (hq : q ∈ PL) (ty : TypeId) : (Builtin.len_ #[88] ty #[.map (some q.q)]).run Tryz.prog w = .ok (.int .i64 (q.es.length : Int)) w := by
  have := run_lenM (P := Tryz.prog) (ty := ty) Tryz.underlying88 (h.pok q hq).mb
  simpa using this
theorem inP_cutN (h : PT S w p PL cp) {i j : Nat} {q : PEnt} (hi : PL[i]? = some q) {y : MapEntry} (hj : q.es[j]? = some y) {s : ByteArray} (hy : y.key = .string s) (l' : Lab) (s' : ByteArray) : InP (PL.set i (q.less j)) l' s' ↔ InP PL l' s' ∧ ¬ (s' = s ∧ l' = q.l) := by
  have hq := List.mem_of_getElem? hi
  have hlt := (List.getElem?_eq_some_iff.1 hi).1
  have hk := h.pok q hq
  constructor
  · rintro ⟨x, hx, h1, z, hz, h2⟩
    rcases mem_set hx with rfl | ⟨k, hk1, hk2⟩
    · obtain ⟨m, hm, hm2⟩ := mem_er.1 hz
      refine ⟨⟨q, hq, h1, z, List.mem_of_getElem? hm2, h2⟩, fun ⟨e1, _⟩ => ?_⟩
      subst e1
      exact hm (hk.kap.at_ hm2 hj (h2.trans hy.symm))
    · refine ⟨⟨x, List.mem_of_getElem? hk2, h1, z, hz, h2⟩, fun ⟨_, e2⟩ => ?_⟩
      exact (pap_at h.pap hk2 hi hk1).l (h1.trans e2)
  · rintro ⟨⟨x, hx, h1, z, hz, h2⟩, hne⟩
    obtain ⟨k, hk1⟩ := List.getElem?_of_mem hx
    by_cases e : i = k
    · subst e
      obtain rfl : q = x := by rw [hi] at hk1; injection hk1
      refine ⟨q.less j, List.mem_of_getElem? (i := i) (by rw [List.getElem?_set, if_pos rfl, if_pos hlt]), h1, z, mem_er.2 ?_, h2⟩
      obtain ⟨m, hm⟩ := List.getElem?_of_mem hz
      refine ⟨m, fun e => ?_, hm⟩
      subst e
      rw [hj] at hm
      injection hm with hm
      subst hm
      rw [hy] at h2
      injection h2 with h2
      exact hne ⟨h2.symm, h1.symm⟩
    · exact ⟨x, List.mem_of_getElem? (i := k) (by rw [List.getElem?_set, if_neg e]; exact hk1), h1, z, hz, h2⟩
theorem inP_rem {i : Nat} {q : PEnt} (hi : PL[i]? = some q) (he : q.es = []) (l' : Lab) (s' : ByteArray) : InP (PL.eraseIdx i) l' s' ↔ InP PL l' s' := by
  constructor
  · rintro ⟨x, hx, h⟩
    exact ⟨x, (List.eraseIdx_sublist _ _).subset hx, h⟩
  · rintro ⟨x, hx, h1, z, hz, h2⟩
    obtain ⟨k, hk⟩ := List.getElem?_of_mem hx
    refine ⟨x, mem_er.2 ⟨k, fun e => ?_, hk⟩, h1, z, hz, h2⟩
    subst e
    obtain rfl : q = x := by rw [hi] at hk; injection hk
    rw [he] at hz
    cases hz
/-- a series half taken out -/
structure DrpI (S : Nat → Prop) (w W : World) (b p : Nat) (key : ByteArray) (L : List HEnt) (cb : Nat) (PL : List PEnt) (done : List Lab) (PL' : List PEnt) (cp : Nat) : Prop where
  chg : Chg (BT b p PL) w W
  mb : MapB W b (L.map HEnt.ent).toArray cb
  pt : PT S W p PL' cp
  neb : ∀ q ∈ PL', q.q ≠ b
  tch : ∀ q ∈ PL', BT b p PL q.q
  bp : b ≠ p
  rel : ∀ l s, InP PL' l s ↔ InP PL l s ∧ ¬ (s = key ∧ l ∈ done)
theorem DrpI.grew {b : Nat} {key : ByteArray} {L : List HEnt} {cb : Nat} {done : List Lab} {PL' : List PEnt} (h : DrpI S w W b p key L cb PL done PL' cp) (hc : Grew W W') : DrpI S w W' b p key L cb PL done PL' cp :=
  ⟨h.chg.grow hc, h.mb.grew hc, h.pt.grew hc, h.neb, h.tch, h.bp, h.rel⟩
theorem DrpI.cut {b : Nat} {key : ByteArray} {L : List HEnt} {cb : Nat} {done : List Lab} {PL' : List PEnt} (h : DrpI S w W b p key L cb PL done PL' cp) {i j : Nat} {q : PEnt} (hi : PL'[i]? = some q) {y : MapEntry} (hj : q.es[j]? = some y) (hy : y.key = .string key) :
    DrpI S w (setB W q.q (.map (q.es.eraseIdx j).toArray q.c)) b p key L cb PL (done ++ [q.l]) (PL'.set i (q.less j)) cp := by
  have hq := List.mem_of_getElem? hi
  refine ⟨h.chg.setB (.inr (h.tch q hq)) _, h.mb.setB (Ne.symm (h.neb q hq)) _, h.pt.cutN hi, fun x hx => ?_, fun x hx => ?_, h.bp, fun l s => ?_⟩
  · rcases mem_set hx with rfl | ⟨_, _, hz⟩
    · exact h.neb q hq
    · exact h.neb x (List.mem_of_getElem? hz)
  · rcases mem_set hx with rfl | ⟨_, _, hz⟩
    · exact h.tch q hq
    · exact h.tch x (List.mem_of_getElem? hz)
  · rw [inP_cutN h.pt hi hj hy, h.rel, List.mem_append, List.mem_singleton]
    constructor
    · rintro ⟨⟨h1, h2⟩, h3⟩
      exact ⟨h1, fun ⟨e1, e2⟩ => e2.elim (fun e2 => h2 ⟨e1, e2⟩) fun e2 => h3 ⟨e1, e2⟩⟩
    · rintro ⟨h1, h2⟩
      exact ⟨⟨h1, fun ⟨e1, e2⟩ => h2 ⟨e1, .inl e2⟩⟩, fun ⟨e1, e2⟩ => h2 ⟨e1, .inr e2⟩⟩
theorem DrpI.rem {b : Nat} {key : ByteArray} {L : List HEnt} {cb : Nat} {done : List Lab} {PL' : List PEnt} (h : DrpI S w W b p key L cb PL done PL' cp) {i : Nat} {q : PEnt} (hi : PL'[i]? = some q) (he : q.es = []) :
    DrpI S w (setB W p (.map ((PL'.eraseIdx i).map PEnt.ent).toArray cp)) b p key L cb PL done (PL'.eraseIdx i) cp :=
  ⟨h.chg.setB (.inr (.inr (.inl rfl))) _, h.mb.setB h.bp _, h.pt.rem i, fun x hx => h.neb x ((List.eraseIdx_sublist _ _).subset hx), fun x hx => h.tch x ((List.eraseIdx_sublist _ _).subset hx), h.bp, fun l s => (inP_rem hi he l s).trans (h.rel l s)⟩
end
theorem NonE.cut {PL : List PEnt} (h : NonE PL) (i j : Nat) (q : PEnt) (hq : (q.less j).es ≠ []) : NonE (PL.set i (q.less j)) := fun x hx => by
  rcases mem_set hx with rfl | ⟨_, _, hz⟩
  · exact hq
  · exact h x (List.mem_of_getElem? hz)
theorem NonE.rem {PL : List PEnt} (h : NonE PL) (i : Nat) (q : PEnt) : NonE ((PL.set i q).eraseIdx i) := fun x hx => by
  obtain ⟨k, hk, hx⟩ := mem_er.1 hx
  rw [List.getElem?_set, if_neg (Ne.symm hk)] at hx
  exact h x (List.mem_of_getElem? hx)
end Go.Proofs.YtailooldnelecaaGreatDoor

namespace Go.Proofs.YtailooldnelecaaGreatDoor
open Go.RowKit

theorem run_delB {w : World} {b cb : Nat} {L : List HEnt} (h : MapB w b (L.map HEnt.ent).toArray cb) (hap : KAp (L.map HEnt.ent)) {i : Nat} {e : HEnt} (hi : L[i]? = some e) (ty : TypeId) :
    (Builtin.delete_ #[42, 9] ty #[.map (some b), .string e.key]).run Tryz.prog w = .ok (.tuple #[]) (setB w b (.map ((L.eraseIdx i).map HEnt.ent).toArray cb)) := by
  have := run_strikeS (P := Tryz.prog) (y := e.ent) ty klS Tryz.underlying42 h ⟨e.key, rfl⟩ (fun y hy => by
    obtain ⟨x, hx, rfl⟩ := List.mem_map.1 (by simpa using hy)
    exact ⟨_, rfl⟩) (by simpa using hap) (i := i) (by simp [hi]) rfl
  rw [map_er]
  simpa using this
theorem run_askB {w : World} {b cb : Nat} {L : List HEnt} (h : MapB w b (L.map HEnt.ent).toArray cb) (hap : KAp (L.map HEnt.ent)) {i : Nat} {e : HEnt} (hi : L[i]? = some e) :
    (Instr.lookup 42 (.map (some b)) (.string e.key) false).run Tryz.prog w = .ok (.pointer (some ⟨e.g, 0, none⟩)) w :=
  run_lookS (y := e.ent) klS Tryz.underlying42 h ⟨_, rfl⟩ (fun y hy => by
    obtain ⟨x, hx, rfl⟩ := List.mem_map.1 (by simpa using hy)
    exact ⟨_, rfl⟩) (by simpa using hap) (i := i) (by simp [hi]) rfl
/-- a head while a series goes out -/
structure DrpS (S : Nat → Prop) (w W : World) (b p : Nat) (e : HEnt) (i : Nat) (L : List HEnt) (cb : Nat) (PL PL' : List PEnt) (cp : Nat) : Prop where
  chg : Chg (BT b p PL) w W
  mb : MapB W b ((L.eraseIdx i).map HEnt.ent).toArray cb
  pt : PT S W p PL' cp
  neb : ∀ q ∈ PL', q.q ≠ b
  tch : ∀ q ∈ PL', BT b p PL q.q
  rel : ∀ l s, InP PL' l s ↔ InP PL l s ∧ s ≠ e.key
  non : NonE PL'

set_option maxRecDepth 100000 in
set_option maxHeartbeats 8000000 in
theorem drop_any {S : Nat → Prop} {h b p cb cp : Nat} {L : List HEnt} {PL : List PEnt} {lim : Value} {i : Nat} {e : HEnt} (pa : Option Addr) (pn pc : Nat) (w : World) (hi : L[i]? = some e) (hmb : MapB w b (L.map HEnt.ent).toArray cb) (hap : KAp (L.map HEnt.ent)) (hpt : PT S w p PL cp) (hbp : b ≠ p) (hnb : ∀ q ∈ PL, q.q ≠ b)
    (hh : Blk w h 47 #[.map (some b), .map (some p), lim]) (hg : Blk w e.g 67 #[.slice e.m.la e.m.ln e.m.lc, .slice pa pn pc])
    (hl : OT elLb w 72 e.m.la e.m.ln e.m.lc e.s.lbs) (hnd : e.s.lbs.Nodup) (hln : e.s.lbs.length ≤ 16) (hin : ∀ l, InP PL l e.key ↔ l ∈ e.s.lbs) (hne : NonE PL) :
    Calls Tryz.prog 43 #[.pointer (some ⟨h, 0, none⟩), .string e.key] w fun x w' => x = .returned (.tuple #[]) ∧ ∃ PL', DrpS S w w' b p e i L cb PL PL' cp := by
  have hmap : ∀ k, BT b p PL k → ∃ es c, MapB w k es c := fun k hk => by
    rcases hk with rfl | rfl | ⟨q, hq, rfl⟩
    · exact ⟨_, _, hmb⟩
    · exact ⟨_, _, hpt.mp⟩
    · exact ⟨_, _, (hpt.pok q hq).mb⟩
  have hnb2 : ∀ {k t cs}, Blk w k t cs → ¬ BT b p PL k := fun hk hT => by
    obtain ⟨es, c, hm⟩ := hmap _ hT
    exact (hm.ne_blk hk) rfl
  have hhc := fun W (hc : Chg (BT b p PL) w W) => hh.chg hc (hnb2 hh)
  have hlcg := fun W (hc : Chg (BT b p PL) w W) => (hl.chg hc (fun ad e1 => by obtain ⟨c, hc⟩ := OwT.blk hl ad e1; exact hnb2 hc)).re (by decide)
  have hask := run_askB hmb hap hi
  have hI0 : DrpI S w w b p e.key L cb PL [] PL cp := ⟨Chg.refl _ w, hmb, hpt, hnb, fun q hq => .inr (.inr ⟨q, hq, rfl⟩), hbp, fun l s => ⟨fun h => ⟨h, fun e => by cases e.2⟩, fun h => h.1⟩⟩
  have hlen := hl.len (by decide)
  have h0 := hh.cell 0
  have g0 := hg.cell 0
  have hdl := fun W (hm : MapB W b (L.map HEnt.ent).toArray cb) => run_delB hm hap hi
  replace hhc := Lib.hid hhc
  replace hlcg := Lib.hid hlcg
  replace hlen := Lib.hid hlen
  replace hdl := Lib.hid hdl
  replace hin := Lib.hid hin
  replace hap := Lib.hid hap
  have hlbs := hl.len (by decide)
  rw [hlbs] at hln
  clear hmap hnb2 hh hg hl hpt hmb hbp hnb hlbs
  go_enter Tryz.func43, Tryz.ntmps43
  go_wp2
  clear hask
  go_loopw [16] (fun v wr => ∃ (k : Nat) (PL' : List PEnt), k ≤ e.m.ln ∧ v = .int .i64 (k : Int) ∧ DrpI S w wr b p e.key L cb PL (e.s.lbs.take k) PL' cp ∧ NonE PL') (fun v _ => e.m.ln - (intOf v).toNat)
  case atStart => exact ⟨0, PL, by omega, rfl, by simpa using hI0, hne⟩
  case round =>
    clear hI0 hne g0 h0
    obtain ⟨k, PL', hk, rfl, hI, hne⟩ := hrel
    by_cases hlt : k < e.m.ln
    · have hhw := hhc.out wr hI.chg
      obtain ⟨ad, x, hla, hx, x0, x1⟩ := RE.lb (hlcg.out wr hI.chg) hlt
      rw [hla]
      have hxd := nodup_at hnd hx
      obtain ⟨W, hW⟩ : ∃ W, W = wr.alloc (.cells #[.string x.1, .string x.2] 72) := ⟨_, rfl⟩
      have hgW : Grew wr W := by rw [hW]; exact (Chg.refl _ wr).alloc _
      have hbx : Blk W wr.heap.size 72 #[.string x.1, .string x.2] := by rw [hW]; exact Blk.new wr _ _
      have hIW := hI.grew hgW
      have hhW := hhw.grew hgW
      have hcs := fun W1 (h1 : Grew W W1) => cellsIn_cons (hhW.grew h1).ex (cellsIn_cons (hbx.grew h1).ex (cellsIn_nil W1))
      replace hcs := Lib.hid hcs
      have hxs : Hid (e.s.lbs.take k ++ [x] = e.s.lbs.take (k + 1)) := (take_sn hx).symm
      obtain ⟨q, hq, hqx, y, hy, hyk⟩ : InP PL' x e.key := (hIW.rel x e.key).2 ⟨(hin.out x).2 (List.mem_of_getElem? hx), fun e1 => hxd e1.2⟩
      obtain ⟨m, hm⟩ := List.getElem?_of_mem hq
      obtain ⟨j, hj⟩ := List.getElem?_of_mem hy
      subst hqx
      clear hx hI hhw hxd
      have h1 := hhW.cell 1
      have b0 := hbx.cell 0
      have b1 := hbx.cell 1
      go_wp2_with fail
      rw [← hW]
      clear hW x0 x1
      have hI1 := hIW.grew (Chg.refl _ W).drew
      have ha := hI1.pt.askS hq
      have hd := fun ty => hI1.pt.delIn hq hj hyk ty
      have hI2 := hI1.cut hm hj hyk
      obtain ⟨U, hU⟩ : ∃ U, U = setB W.drew q.q (.map (q.es.eraseIdx j).toArray q.c) := ⟨_, rfl⟩
      rw [← hU] at hI2 hd
      unfold lbK at ha
      rw [hxs.out] at hI2
      have hqm := (hIW.pt.pok q hq).mb
      have hqn1 : wr.heap.size ≠ q.q := fun e => by rw [← e] at hqm; exact (hqm.ne_blk hbx) rfl
      have hqn2 : h ≠ q.q := fun e => by rw [← e] at hqm; exact (hqm.ne_blk hhW) rfl
      have hcU : Chg (fun k => k = q.q) W U := by rw [hU]; exact Chg.setB (S := fun k => k = q.q) (Chg.refl _ W).drew (.inr rfl) _
      have hhU := hhW.chg hcU hqn2
      have hbU := hbx.chg hcU hqn1
      have hcsU := cellsIn_cons hhU.ex (cellsIn_cons hbU.ex (cellsIn_nil U))
      clear hU
      refine wp_region_textS [(3, 1)] [h, wr.heap.size] (by kernel_rfl) (by kernel_rfl) (hcs.out _ (Chg.refl _ W)) ?_
      simp only [wpU, tagOf, chk, List.nil_append, List.cons_append]
      intro K hK
      go_wp2_with fail
      refine OnlyN.normal (hK _ _ (fun _ => ⟨_, _, _, rfl, rfl, by simp⟩) ?_)
      clear hK K
      intro K hK
      go_wp2_with fail
      refine OnlyN.normal (hK _ _ (fun _ => ⟨_, _, _, rfl, rfl, by simp⟩) ?_)
      clear hK K
      intro K hK
      go_wp2_with fail
      refine OnlyN.normal (hK _ _ (fun _ _ => rfl) ?_)
      clear hK K
      intro K hK
      go_wp2_with fail
      refine OnlyN.normal (hK _ _ (sameIn_of hcU (hcs.out _ (Chg.refl _ W)) (by simp [hqn1, hqn2])) ?_)
      clear hK K
      go_wp2_with fail
      refine OnlyN.normal ?_
      go_wp2_with fail
      have hm2 : (PL'.set m (q.less j))[m]? = some (q.less j) := by rw [List.getElem?_set, if_pos rfl, if_pos (List.getElem?_eq_some_iff.1 hm).1]
      have hq2 := List.mem_of_getElem? hm2
      have hI3 := hI2.grew (Chg.refl _ U).drew
      have ha2 := hI3.pt.askS hq2
      have hl2 := fun ty => hI3.pt.lenIn hq2 ty
      have hI4 := hI3.grew (Chg.refl _ U.drew).drew
      have hd2 := fun ty => hI4.pt.delP hm2 ty
      unfold lbK at ha2 hd2
      simp only [PEnt.less] at ha2 hl2
      rw [show (q.less j).l = q.l from rfl] at hd2
      obtain ⟨z, hz⟩ : ∃ z, (q.es.eraseIdx j).length = z := ⟨_, rfl⟩
      rw [hz] at hl2
      have u1 := hhU.cell 1
      have v0 := hbU.cell 0
      have v1 := hbU.cell 1
      clear ha hd h1 b0 b1
      refine wp_region_textS [(3, 1), (88, 9)] [h, wr.heap.size] (by kernel_rfl) (by kernel_rfl) hcsU ?_
      simp only [wpU, tagOf, chk, look, Nat.reduceBEq, Bool.false_eq_true, if_true, if_false, Nat.reduceEqDiff, List.nil_append, List.cons_append, List.getElem?_toArray, List.getElem?_cons_zero]
      intro K hK
      go_wp2_with fail
      refine OnlyN.normal (hK _ _ (fun _ => ⟨_, _, _, rfl, rfl, by simp⟩) ?_)
      clear hK K
      intro K hK
      go_wp2_with fail
      refine OnlyN.normal (hK _ _ (fun _ => ⟨_, _, _, rfl, rfl, by simp⟩) ?_)
      clear hK K
      intro K hK
      go_wp2_with fail
      refine OnlyN.normal (hK _ _ (fun _ _ => rfl) ?_)
      clear hK K
      intro K hK
      go_wp2_with fail
      refine OnlyN.normal (hK _ _ (fun _ _ => rfl) ?_)
      clear hK K
      by_cases hz0 : z = 0
      · have e1 : ((z : Int) == 0) = true := by simp [hz0]
        have hes : (q.less j).es = [] := List.eq_nil_of_length_eq_zero (hz.trans hz0)
        have hI5 := hI4.rem hm2 hes
        have hne5 := hne.rem m (q.less j)
        have hpm := hI4.pt.mp
        have hpn1 : wr.heap.size ≠ p := fun e => by rw [← e] at hpm; exact ((MapB.ne_blk hpm ((hbU.grew (Chg.refl _ U).drew).grew (Chg.refl _ U.drew).drew))) rfl
        have hpn2 : h ≠ p := fun e => by rw [← e] at hpm; exact ((MapB.ne_blk hpm ((hhU.grew (Chg.refl _ U).drew).grew (Chg.refl _ U.drew).drew))) rfl
        clear hz hm2 hq2 hI3 hI4 hes hpm hm hj
        go_wp2_with fail
        refine OnlyN.normal ?_
        go_wp2_with fail
        refine wp_region_textS [(3, 1)] [h, wr.heap.size] (by kernel_rfl) (by kernel_rfl) (cellsIn_cons hhU.ex (cellsIn_cons hbU.ex (cellsIn_nil U))) ?_
        simp only [wpU, tagOf, chk, List.nil_append, List.cons_append]
        intro K hK
        go_wp2_with fail
        refine OnlyN.normal (hK _ _ (fun _ => ⟨_, _, _, rfl, rfl, by simp⟩) ?_)
        clear hK K
        intro K hK
        go_wp2_with fail
        refine OnlyN.normal (hK _ _ (fun _ => ⟨_, _, _, rfl, rfl, by simp⟩) ?_)
        clear hK K
        intro K hK
        go_wp2_with fail
        refine OnlyN.normal (hK _ _ (sameIn_of (S := fun k => k = p) (Chg.setB (S := fun k => k = p) (Chg.refl _ U.drew).drew (.inr rfl) _) hcsU (by simp [hpn1, hpn2])) ?_)
        clear hK K
        go_wp2_with fail
        refine OnlyN.normal ?_
        go_wp2
        go_roundw
        case rel => exact ⟨k + 1, _, by omega, by go_num, hI5, hne5⟩
        case measure => simp [intOf] <;> omega
      · have e1 : ((z : Int) == 0) = false := by simp [hz0]
        have hne5 := hne.cut m j q (fun e => hz0 (by rw [← hz]; exact congrArg List.length e))
        clear hz hm2 hq2 hI4 hd2 hm hj
        go_wp2_with fail
        refine OnlyN.normal ?_
        go_wp2
        go_roundw
        case rel => exact ⟨k + 1, _, by omega, by go_num, hI3, hne5⟩
        case measure => simp [intOf] <;> omega
    · obtain rfl : k = e.m.ln := by omega
      rw [List.take_of_length_le (by have := hlen.out; omega)] at hI
      have h0 := (hhc.out wr hI.chg).cell 0
      have hd := fun ty => hdl.out wr hI.mb ty
      go_wp2
      go_end0
      refine ⟨rfl, PL', hI.chg.setB (.inr (.inl rfl)) _, hI.mb.set _ _, hI.pt.chg (T := fun k => k = b) (Chg.setB (S := fun k => k = b) (Chg.refl _ wr) (.inr rfl) _) (Ne.symm hI.bp) hI.neb, hI.neb, hI.tch, fun l s => ?_, hne⟩
      rw [hI.rel]
      constructor
      · rintro ⟨h1, h2⟩
        refine ⟨h1, fun e1 => h2 ⟨e1, ?_⟩⟩
        subst e1
        exact (hin.out l).1 h1
      · rintro ⟨h1, h2⟩
        exact ⟨h1, fun e1 => h2 e1.1⟩
end Go.Proofs.YtailooldnelecaaGreatDoor
