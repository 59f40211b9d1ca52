/-
  Several texts in one:
  A head after a sample was added: the state's laws. Conditions: none.
-/
import Derived.Test.YtailooldnelecaaDoorPart23

namespace Go.Proofs.YtailooldnelecaaDoor
open Go.RowKit

theorem Blk.neT {w : World} {g g' : Nat} {t t' : TypeId} {cs cs' : Array Value} (h : Blk w g t cs) (h' : Blk w g' t' cs') (hne : t ≠ t') : g ≠ g' := fun e => by
  subst e
  have h1 : some (Obj.cells cs t (0, 0)) = some (Obj.cells cs' t' (0, 0)) := Eq.trans (Eq.symm h) h'
  injection h1 with h1
  injection h1 with _ h1
  exact hne h1
theorem rise_len : ∀ {l : List Ptn} {lo hi : Int}, Rise l → (∀ p ∈ l, lo ≤ p.1 ∧ p.1 ≤ hi) → (l.length : Int) ≤ hi - lo + 1 ∨ l = []
  | [], _, _, _, _ => .inr rfl
  | p :: r, lo, hi, h, hb => by
    have h1 := List.pairwise_cons.1 h
    have hp := hb p List.mem_cons_self
    rcases rise_len (lo := p.1 + 1) (hi := hi) h1.2 (fun q hq => ⟨by have := h1.1 q hq; omega, (hb q (List.mem_cons_of_mem _ hq)).2⟩) with h2 | h2
    · refine .inl ?_
      rw [List.length_cons]
      omega
    · subst h2
      refine .inl ?_
      rw [List.length_singleton]
      omega
theorem HEnt.Ok.pn {S : Nat → Prop} {w : World} {clock : Nat} {e : HEnt} (h : e.Ok S w clock) : e.m.pn ≤ 2199023255553 := by
  have := h.pt.len (by decide)
  rcases rise_len h.ris h.bnd with h1 | h1
  · omega
  · exact absurd h1 h.non

/-- the head's series with a point put behind -/
def HEnt.push (e : HEnt) (A : Option Addr) (c : Nat) (q : Ptn) : HEnt := { e with m := { e.m with pa := A, pn := e.m.pn + 1, pc := c }, s := { e.s with pts := e.s.pts ++ [q] } }
theorem rise_push {l : List Ptn} (h : Rise l) {p q : Ptn} (hp : l.getLast? = some p) (hlt : p.1 < q.1) : Rise (l ++ [q]) := by
  refine List.pairwise_append.2 ⟨h, List.pairwise_singleton _ _, fun a ha b hb => ?_⟩
  obtain rfl := List.mem_singleton.1 hb
  obtain ⟨l', rfl⟩ : ∃ l', l = l' ++ [p] := by
    rcases List.eq_nil_or_concat l with h0 | ⟨l', z, h0⟩
    · subst h0
      cases hp
    · rw [List.concat_eq_append] at h0
      subst h0
      simp at hp
      subst hp
      exact ⟨l', rfl⟩
  rcases List.mem_append.1 ha with ha | ha
  · have := (List.pairwise_append.1 h).2.2 a ha p (List.mem_singleton.2 rfl)
    omega
  · obtain rfl := List.mem_singleton.1 ha
    exact hlt
theorem hap_at {L : List HEnt} (h : L.Pairwise HAp) {i j : Nat} {a b : HEnt} (ha : L[i]? = some a) (hb : L[j]? = some b) (hne : i ≠ j) : HAp a b := by
  obtain ⟨h1, rfl⟩ := List.getElem?_eq_some_iff.1 ha
  obtain ⟨h2, rfl⟩ := List.getElem?_eq_some_iff.1 hb
  rcases Nat.lt_or_gt_of_ne hne with e | e
  · exact List.pairwise_iff_getElem.1 h i j h1 h2 e
  · exact (List.pairwise_iff_getElem.1 h j i h2 h1 e).symm

section
variable {S : Nat → Prop} {w W W' : World} {b p cb cp cp' : Nat} {L : List HEnt} {PL PL' : List PEnt}
theorem TB.mono {S' : Nat → Prop} (h : TB S w b p L cb PL cp) (hs : ∀ k, S k → S' k) (hlt : ∀ k, S' k → k < w.heap.size) : TB S' w b p L cb PL cp :=
  ⟨h.mb, fun e he => (h.ok e he).mono hs, h.ap, h.mp, fun q hq => (h.pok q hq).mono hs, h.pap, h.bp, h.pb, hs _ h.ob, hs _ h.op, hlt⟩
/-- what S becomes: the blocks that came since are in -/
def More (S : Nat → Prop) (w W : World) (k : Nat) : Prop := S k ∨ w.heap.size ≤ k ∧ k < W.heap.size
/-- which blocks a series' growth touches -/
def ET (e : HEnt) (k : Nat) : Prop := k = e.g ∨ ∃ ad, e.m.pa = some ad ∧ k = ad.block
theorem HEnt.Ok.et {clock clock' : Nat} {e x : HEnt} (h : e.Ok S w clock) (hx : x.Ok S w clock') (hap : HAp x e) : ¬ ET e x.g ∧ (∀ ad, x.m.la = some ad → ¬ ET e ad.block) ∧ (∀ ad, x.m.pa = some ad → ¬ ET e ad.block) := by
  have hE := fun ad (he : e.m.pa = some ad) => (h.pt.blk ad he)
  refine ⟨?_, fun ad ha => ?_, fun ad ha => ?_⟩
  · rintro (h1 | ⟨ad, h1, h2⟩)
    · exact hap.g h1
    · obtain ⟨c, hc⟩ := hE ad h1
      exact (hx.blk.neT hc (by decide)) h2
  · obtain ⟨c, hc⟩ := hx.lb.blk ad ha
    rintro (h1 | ⟨ad2, h1, h2⟩)
    · exact (hc.neT h.blk (by decide)) h1
    · obtain ⟨c2, hc2⟩ := hE ad2 h1
      exact (hc.neT hc2 (by decide)) h2
  · obtain ⟨c, hc⟩ := hx.pt.blk ad ha
    rintro (h1 | ⟨ad2, h1, h2⟩)
    · exact (hc.neT h.blk (by decide)) h1
    · exact hap.pt ad ad2 ha h1 h2
theorem HEnt.Ok.la {clock : Nat} {e : HEnt} (h : e.Ok S w clock) : ∀ ad, e.m.la = some ad → ¬ ET e ad.block := fun ad ha => by
  obtain ⟨c, hc⟩ := h.lb.blk ad ha
  rintro (h1 | ⟨ad2, h1, h2⟩)
  · exact (hc.neT h.blk (by decide)) h1
  · obtain ⟨c2, hc2⟩ := h.pt.blk ad2 h1
    exact (hc.neT hc2 (by decide)) h2
theorem HEnt.Ok.map {clock c : Nat} {e : HEnt} (h : e.Ok S w clock) {k : Nat} {es : Array MapEntry} (hm : MapB w k es c) : ¬ ET e k := by
  rintro (h1 | ⟨ad2, h1, h2⟩)
  · exact (hm.ne_blk h.blk) h1
  · obtain ⟨c2, hc2⟩ := h.pt.blk ad2 h1
    exact (hm.ne_blk hc2) h2
theorem HEnt.Ok.head {clock : Nat} {e : HEnt} (h : e.Ok S w clock) {k : Nat} {cs : Array Value} (hm : Blk w k 59 cs) : ¬ ET e k := by
  rintro (h1 | ⟨ad2, h1, h2⟩)
  · exact (hm.neT h.blk (by decide)) h1
  · obtain ⟨c2, hc2⟩ := h.pt.blk ad2 h1
    exact (hm.neT hc2 (by decide)) h2
/-- a series changed in place -/
theorem TB.setE (h : TB S w b p L cb PL cp) {i : Nat} {e e' : HEnt} (hi : L[i]? = some e) (hc : Chg (ET e) w W) (ho : e'.Ok (More S w W) W cb) (hk : e'.key = e.key) (hg : e'.g = e.g) (hb : e'.born = e.born)
    (hp : ∀ ad, e'.m.pa = some ad → (∃ bd, e.m.pa = some bd ∧ ad.block = bd.block) ∨ w.heap.size ≤ ad.block) : TB (More S w W) W b p (L.set i e') cb PL cp := by
  have he := List.mem_of_getElem? hi
  have hoe := h.ok e he
  have hent : (L.set i e').map HEnt.ent = L.map HEnt.ent := by
    rw [List.map_set]
    refine List.ext_getElem? fun j => ?_
    rw [List.getElem?_set]
    split
    · rename_i e1
      subst e1
      split
      · simp [hi, HEnt.ent, hk, hg, hb]
      · rename_i h1
        simp at h1
        simp [h1]
    · rfl
  refine ⟨?_, fun x hx => ?_, pairwise_set (fun _ _ h => h.symm) h.ap hi fun j z hj hz => ?_, h.mp.chg hc (hoe.map h.mp), fun q hq => ((h.pok q hq).chg hc (hoe.map (h.pok q hq).mb) (Nat.le_refl _)).mono fun _ e => .inl e, h.pap, h.bp, h.pb, .inl h.ob, .inl h.op, fun k hk => ?_⟩
  · rw [hent]
    exact h.mb.chg hc (hoe.map h.mb)
  · rcases mem_set hx with rfl | ⟨j, hj, hz⟩
    · exact ho
    · have hxo := h.ok x (List.mem_of_getElem? hz)
      obtain ⟨h1, h2, h3⟩ := hoe.et hxo (hap_at h.ap hz hi hj)
      exact (hxo.chg hc h1 h2 h3 (Nat.le_refl _)).mono fun _ e => .inl e
  · have hz1 := hap_at h.ap hz hi hj
    have hzo := h.ok z (List.mem_of_getElem? hz)
    refine ⟨by rw [hk]; exact hz1.key, by rw [hg]; exact hz1.g, by rw [hb]; exact hz1.born, fun ad bd e1 e2 e3 => ?_⟩
    rcases hp bd e2 with ⟨bd0, h1, h2⟩ | h1
    · exact hz1.pt ad bd0 e1 h1 (e3.trans h2)
    · have := h.lt _ (hzo.op ad e1)
      omega
  · rcases hk with hk | hk
    · exact Nat.lt_of_lt_of_le (h.lt k hk) hc.size
    · exact hk.2
/-- a new series -/
theorem TB.addE {key : ByteArray} {w1 : World} {lbs : List Lab} {e' : HEnt} (h : TB S w1 b p L cb PL cp) (hw1 : w.heap.size ≤ w1.heap.size) (hS : ∀ k, S k → k < w.heap.size) (I : PutI S w1 W b p e'.g key L cb PL lbs PL' cp') (hc : Chg (fun k => k = e'.g) W W') (hg : w.heap.size ≤ e'.g) {tg : TypeId} {cg : Array Value} (hgb : Blk W e'.g tg cg)
    (hk : e'.key = key) (hb : e'.born = cb) (ho : e'.Ok (More S w W') W' (cb + 1)) (hnew : ∀ e ∈ L, e.key ≠ key) (hp : ∀ ad, e'.m.pa = some ad → w.heap.size ≤ ad.block) : TB (More S w W') W' b p (L ++ [e']) (cb + 1) PL' cp' := by
  have hgS : ∀ k, S k → k ≠ e'.g := fun k hk e => by have := hS k hk; omega
  have hbn : ∀ x ∈ L, ¬ BT b p PL x.g ∧ (∀ ad, x.m.la = some ad → ¬ BT b p PL ad.block) ∧ (∀ ad, x.m.pa = some ad → ¬ BT b p PL ad.block) := fun x hx => by
    have hxo := h.ok x hx
    have key : ∀ {k t cs}, Blk w1 k t cs → ¬ BT b p PL k := fun hk hT => by
      rcases hT with rfl | rfl | ⟨q, hq, rfl⟩
      · exact (h.mb.ne_blk hk) rfl
      · exact (h.mp.ne_blk hk) rfl
      · exact ((h.pok q hq).mb.ne_blk hk) rfl
    exact ⟨key hxo.blk, fun ad e => by obtain ⟨c, hc⟩ := hxo.lb.blk ad e; exact key hc, fun ad e => by obtain ⟨c, hc⟩ := hxo.pt.blk ad e; exact key hc⟩
  have hgm : ∀ {k es c}, MapB W k es c → ¬ k = e'.g := fun hm => hm.ne_blk hgb
  have hold : ∀ x ∈ L, x.Ok S W' (cb + 1) := fun x hx => by
    have hxo := h.ok x hx
    obtain ⟨h1, h2, h3⟩ := hbn x hx
    have h4 := hxo.chg (clock' := cb + 1) I.chg h1 h2 h3 (Nat.le_succ _)
    exact h4.chg hc (hgS _ hxo.og) (fun ad e => hgS _ (hxo.ol ad e)) (fun ad e => hgS _ (hxo.op ad e)) (Nat.le_refl _)
  have hent : ((L.map HEnt.ent).toArray.push ⟨.string key, .pointer (some ⟨e'.g, 0, none⟩), cb⟩) = ((L ++ [e']).map HEnt.ent).toArray := by
    simp [HEnt.ent, hk, hb]
  have hsz : ∀ {k es c}, MapB W' k es c → w.heap.size ≤ k → w.heap.size ≤ k ∧ k < W'.heap.size := fun hm hk => ⟨hk, hm.lt⟩
  have hPT := I.pt.chg hc (hgm I.pt.mp) fun q hq => hgm (I.pt.pok q hq).mb
  refine ⟨by rw [← hent]; exact I.mb.chg hc (hgm I.mb), fun x hx => ?_, ?_, hPT.mp, fun q hq => ?_, hPT.pap, I.bp, fun q hq => ⟨I.neb q hq, hPT.pb q hq⟩, .inl h.ob, .inl h.op, fun k hk => ?_⟩
  · rcases List.mem_append.1 hx with hx | hx
    · exact (hold x hx).mono fun _ e => .inl e
    · obtain rfl := List.mem_singleton.1 hx
      exact ho
  · refine List.pairwise_append.2 ⟨h.ap, List.pairwise_singleton _ _, fun a ha b hb1 => ?_⟩
    obtain rfl := List.mem_singleton.1 hb1
    have hao := h.ok a ha
    refine ⟨by rw [hk]; exact hnew a ha, hgS _ hao.og, by rw [hb]; exact Nat.ne_of_lt hao.born, fun ad bd e1 e2 e3 => ?_⟩
    have h1 := hS _ (hao.op ad e1)
    have h2 := hp bd e2
    omega
  · have hq1 := hPT.pok q hq
    refine ⟨hq1.mb, ?_, hq1.kap, hq1.kst, hq1.bap, hq1.born, hq1.sz⟩
    rcases hq1.oq with h1 | h1
    · exact .inl h1
    · exact .inr (hsz hq1.mb (by omega))
  · rcases hk with hk | hk
    · have h1 := hS k hk
      have h2 := I.chg.size
      have h3 := hc.size
      omega
    · exact hk.2
end
theorem inL_push {L : List HEnt} {i : Nat} {e e' : HEnt} (hi : L[i]? = some e) (hk : e'.key = e.key) (hl : e'.s.lbs = e.s.lbs) (l : Lab) (s : ByteArray) : InL (L.set i e') l s ↔ InL L l s := by
  have hlt := (List.getElem?_eq_some_iff.1 hi).1
  constructor
  · rintro ⟨x, hx, h1, h2⟩
    rcases mem_set hx with rfl | ⟨j, _, hz⟩
    · exact ⟨e, List.mem_of_getElem? hi, hk ▸ h1, hl ▸ h2⟩
    · exact ⟨x, List.mem_of_getElem? hz, h1, h2⟩
  · rintro ⟨x, hx, h1, h2⟩
    obtain ⟨j, hj⟩ := List.getElem?_of_mem hx
    by_cases e0 : i = j
    · subst e0
      obtain rfl : e = x := by rw [hi] at hj; injection hj
      exact ⟨e', List.mem_of_getElem? (i := i) (by rw [List.getElem?_set, if_pos rfl, if_pos hlt]), hk.trans h1, hl ▸ h2⟩
    · exact ⟨x, List.mem_of_getElem? (i := j) (by rw [List.getElem?_set, if_neg e0]; exact hj), h1, h2⟩
theorem inL_add {L : List HEnt} {e' : HEnt} (l : Lab) (s : ByteArray) : InL (L ++ [e']) l s ↔ InL L l s ∨ s = e'.key ∧ l ∈ e'.s.lbs := by
  constructor
  · rintro ⟨x, hx, h1, h2⟩
    rcases List.mem_append.1 hx with hx | hx
    · exact .inl ⟨x, hx, h1, h2⟩
    · obtain rfl := List.mem_singleton.1 hx
      exact .inr ⟨h1.symm, h2⟩
  · rintro (⟨x, hx, h1, h2⟩ | ⟨h1, h2⟩)
    · exact ⟨x, List.mem_append_left _ hx, h1, h2⟩
    · exact ⟨e', List.mem_append_right _ (List.mem_singleton.2 rfl), h1.symm, h2⟩
end Go.Proofs.YtailooldnelecaaDoor
