/-
  Several texts in one:
  Series in memory; points that rise. Conditions: none.
  A head in memory: its series, its postings. Conditions: none.
  A head's maps asked: by a set's bytes, by a label. Conditions: none.
  A head's postings while a series is laid in. Conditions: none.
  append of a string's bytes onto a row of bytes of the call's own; a string out of bytes. Conditions: none; the two types' numbers are the program's.
-/
import Derived.Test.YtailooldnelecaaGreatDoorPart11
import Derived.Test.YtailooldnelecaaGreatDoorPart2
import Derived.Test.YtailooldnelecaaGreatDoorPart3
import Derived.Test.YtailooldnelecaaGreatDoorPart4

namespace Go.Proofs.YtailooldnelecaaGreatDoor
open Go.RowKit

/-- a series as it lies in cells: two slices -/
structure SerM where
  la : Option Addr
  ln : Nat
  lc : Nat
  pa : Option Addr
  pn : Nat
  pc : Nat
def elSr : El SerM := ⟨fun s => [.slice s.la s.ln s.lc, .slice s.pa s.pn s.pc], 2, fun _ => rfl, by
  intro x u hu
  simp only [List.mem_cons, List.not_mem_nil, or_false] at hu
  rcases hu with rfl | rfl <;> rfl⟩
theorem infoSr : (Tryz.prog.info? 61).map (fun i => (i.zero, i.size, i.bytes)) = some (some (.agg #[.slice none 0 0, .slice none 0 0]), 2, 48) := by kernel_rfl
structure SrIs (w : World) (m : SerM) (s : Ser) : Prop where
  lb : RE elLb w m.la m.ln s.lbs
  pt : RE elPt w m.pa m.pn s.pts
  lc : m.ln ≤ m.lc ∧ m.lc ≤ 9223372036854775807
  pc : m.pn ≤ m.pc ∧ m.pc ≤ 9223372036854775807
theorem SrIs.grew {w w' : World} {m : SerM} {s : Ser} (h : SrIs w m s) (hc : Grew w w') : SrIs w' m s := ⟨h.lb.grew hc, h.pt.grew hc, h.lc, h.pc⟩
/-- a slice's cells are these series -/
def RS (w : World) (A : Option Addr) (n : Nat) (ss : List Ser) : Prop := ∃ ms : List SerM, RE elSr w A n ms ∧ ms.length = ss.length ∧ ∀ (i : Nat) (m : SerM) (s : Ser), ms[i]? = some m → ss[i]? = some s → SrIs w m s
theorem RS.grew {w w' : World} {A : Option Addr} {n : Nat} {ss : List Ser} (h : RS w A n ss) (hc : Grew w w') : RS w' A n ss := by
  obtain ⟨ms, h1, h2, h3⟩ := h
  exact ⟨ms, h1.grew hc, h2, fun i m s hm hs => (h3 i m s hm hs).grew hc⟩
theorem RS.len {w : World} {A : Option Addr} {n : Nat} {ss : List Ser} (h : RS w A n ss) : ss.length = n := by
  obtain ⟨ms, h1, h2, _⟩ := h
  rw [← h2, h1.1]
theorem RS.nil (w : World) (A : Option Addr) : RS w A 0 [] := ⟨[], RE.nil _ _, rfl, fun i m s hm => by simp at hm⟩
theorem RS.at_ {w : World} {A : Option Addr} {n : Nat} {ss : List Ser} (h : RS w A n ss) {k : Nat} (hk : k < n) :
    ∃ ad m s, A = some ad ∧ ss[k]? = some s ∧ SrIs w m s ∧ w.cell? (ad.add (k * 2)) = some (.slice m.la m.ln m.lc) ∧ w.cell? ⟨(ad.add (k * 2)).block, (ad.add (k * 2)).off + 1, none⟩ = some (.slice m.pa m.pn m.pc) := by
  obtain ⟨ms, h1, h2, h3⟩ := h
  obtain ⟨ad, m, e, hm, hc⟩ := h1.at_ hk (by decide)
  have hs : ss[k]? = some (ss[k]'(by have := h1.1; omega)) := List.getElem?_eq_getElem _
  exact ⟨ad, m, _, e, hs, h3 k m _ hm hs, hc 0 _ rfl, cell_off (by decide) (hc 1 _ rfl)⟩
theorem RS.drop {w : World} {ad : Addr} {n : Nat} {ss : List Ser} (h : RS w (some ad) n ss) (i : Nat) : RS w (some (ad.add (i * 2))) (n - i) (ss.drop i) := by
  obtain ⟨ms, h1, h2, h3⟩ := h
  refine ⟨ms.drop i, h1.drop i, by rw [List.length_drop, List.length_drop, h2], fun j m s hm hs => ?_⟩
  rw [List.getElem?_drop] at hm hs
  exact h3 _ m s hm hs

def upP : List Ptn → Bool
  | p :: q :: r => decide (p.1 < q.1) && upP (q :: r)
  | _ => true
theorem upP_iff : ∀ {ps : List Ptn}, upP ps = true ↔ Rise ps
  | [] => by simp [upP, Rise]
  | [p] => by simp [upP, Rise]
  | p :: q :: r => by
    rw [upP, Bool.and_eq_true, decide_eq_true_iff, upP_iff]
    unfold Rise
    rw [List.pairwise_cons (a := p), List.pairwise_cons (a := q)]
    constructor
    · rintro ⟨h1, h2, h3⟩
      refine ⟨fun x hx => ?_, h2, h3⟩
      rcases List.mem_cons.1 hx with rfl | hx
      · exact h1
      · have := h2 x hx
        omega
    · rintro ⟨h1, h2⟩
      exact ⟨h1 q (by simp), h2⟩
theorem upP_drop {ps : List Ptn} {k : Nat} {p q : Ptn} (hp : ps[k]? = some p) (hq : ps[k + 1]? = some q) : upP (ps.drop k) = (decide (p.1 < q.1) && upP (ps.drop (k + 1))) := by
  obtain ⟨h1, h2⟩ := List.getElem?_eq_some_iff.1 hp
  obtain ⟨h3, h4⟩ := List.getElem?_eq_some_iff.1 hq
  rw [List.drop_eq_getElem_cons h1, List.drop_eq_getElem_cons h3, h2, h4, upP]
def risB (ps : List Ptn) : Bool := upP ps && decide (0 < ps.length)
theorem risB_iff {ps : List Ptn} : risB ps = true ↔ Rise ps ∧ ps ≠ [] := by
  unfold risB
  rw [Bool.and_eq_true, upP_iff, decide_eq_true_iff, List.length_pos_iff]

end Go.Proofs.YtailooldnelecaaGreatDoor

namespace Go.Proofs.YtailooldnelecaaGreatDoor
open Go.RowKit

/-- a series, as the head's map leads to it -/
structure HEnt where
  key : ByteArray
  g : Nat
  born : Nat
  m : SerM
  s : Ser
def HEnt.ent (e : HEnt) : MapEntry := ⟨.string e.key, .pointer (some ⟨e.g, 0, none⟩), e.born⟩
structure HEnt.Ok (S : Nat → Prop) (w : World) (clock : Nat) (e : HEnt) : Prop where
  blk : Blk w e.g 67 #[.slice e.m.la e.m.ln e.m.lc, .slice e.m.pa e.m.pn e.m.pc]
  lb : OT elLb w 72 e.m.la e.m.ln e.m.lc e.s.lbs
  pt : OT elPt w 69 e.m.pa e.m.pn e.m.pc e.s.pts
  og : S e.g
  ol : ∀ ad, e.m.la = some ad → S ad.block
  op : ∀ ad, e.m.pa = some ad → S ad.block
  key : e.key = encK e.s.lbs
  chk : chkL e.s.lbs = 0
  ris : Rise e.s.pts
  non : e.s.pts ≠ []
  bnd : ∀ p ∈ e.s.pts, -1099511627776 ≤ p.1 ∧ p.1 ≤ 1099511627776
  born : e.born < clock
structure HAp (a b : HEnt) : Prop where
  key : a.key ≠ b.key
  g : a.g ≠ b.g
  born : a.born ≠ b.born
  pt : ∀ ad bd, a.m.pa = some ad → b.m.pa = some bd → ad.block ≠ bd.block
theorem HAp.symm {a b : HEnt} (h : HAp a b) : HAp b a := ⟨fun e => h.key e.symm, fun e => h.g e.symm, fun e => h.born e.symm, fun ad bd e1 e2 e => h.pt bd ad e2 e1 e.symm⟩
def SzL (l : Lab) : Prop := l.1.size ≤ maxLen ∧ l.2.size ≤ maxLen
/-- which series have a label: an entry of the other map -/
structure PEnt where
  l : Lab
  q : Nat
  born : Nat
  es : List MapEntry
  c : Nat
def PEnt.ent (q : PEnt) : MapEntry := ⟨.agg #[.string q.l.1, .string q.l.2], .map (some q.q), q.born⟩
structure PEnt.Ok (S : Nat → Prop) (w : World) (clock : Nat) (q : PEnt) : Prop where
  mb : MapB w q.q q.es.toArray q.c
  oq : S q.q
  kap : KAp q.es
  kst : ∀ y ∈ q.es, ∃ s, y.key = .string s
  bap : BAp q.es q.c
  born : q.born < clock
  sz : SzL q.l
structure PAp (a b : PEnt) : Prop where
  l : a.l ≠ b.l
  q : a.q ≠ b.q
  born : a.born ≠ b.born
theorem PAp.symm {a b : PEnt} (h : PAp a b) : PAp b a := ⟨fun e => h.l e.symm, fun e => h.q e.symm, fun e => h.born e.symm⟩
/-- has a label's entry a key? -/
def InP (PL : List PEnt) (l : Lab) (s : ByteArray) : Prop := ∃ q ∈ PL, q.l = l ∧ ∃ y ∈ q.es, y.key = .string s
def InL (L : List HEnt) (l : Lab) (s : ByteArray) : Prop := ∃ e ∈ L, e.key = s ∧ l ∈ e.s.lbs
/-- the two maps: their blocks, their entries -/
structure TB (S : Nat → Prop) (w : World) (b p : Nat) (L : List HEnt) (cb : Nat) (PL : List PEnt) (cp : Nat) : Prop where
  mb : MapB w b (L.map HEnt.ent).toArray cb
  ok : ∀ e ∈ L, e.Ok S w cb
  ap : L.Pairwise HAp
  mp : MapB w p (PL.map PEnt.ent).toArray cp
  pok : ∀ q ∈ PL, q.Ok S w cp
  pap : PL.Pairwise PAp
  bp : b ≠ p
  pb : ∀ q ∈ PL, q.q ≠ b ∧ q.q ≠ p
  ob : S b
  op : S p
  lt : ∀ k, S k → k < w.heap.size
/-- a head -/
structure HS (S : Nat → Prop) (w : World) (h b p : Nat) (L : List HEnt) (cb : Nat) (PL : List PEnt) (cp : Nat) (lim : Nat) : Prop where
  hd : Blk w h 47 #[.map (some b), .map (some p), .int .i64 (lim : Int)]
  tb : TB S w b p L cb PL cp
  rel : ∀ l s, InP PL l s ↔ InL L l s
  non : ∀ q ∈ PL, q.es ≠ []
  oh : S h
  ml : lim ≤ 1024
  len : L.length ≤ lim
end Go.Proofs.YtailooldnelecaaGreatDoor

namespace Go.Proofs.YtailooldnelecaaGreatDoor
open Go.RowKit

theorem klS : KL Tryz.prog 9 (fun v => ∃ s, v = .string s) := kl_string Tryz.underlying9
def lbK (l : Lab) : Value := .agg #[.string l.1, .string l.2]
theorem key_is (x y : ByteArray) (hx : x.size ≤ maxLen) (hy : y.size ≤ maxLen) : ∃ l, keyOf Tryz.prog 72 (.agg #[.string x, .string y]) = some l := by
  have h1 : Tryz.prog.keyType 72 = true := by kernel_rfl
  have h2 : (Value.agg #[.string x, .string y]).formed Tryz.prog 72 = true := by kernel_rfl
  have h3 : Tryz.prog.cellsOf 72 = 2 := by kernel_rfl
  have h4 : Tryz.prog.cellsOf 9 = 1 := by kernel_rfl
  obtain ⟨m, hm⟩ : ∃ m, Tryz.prog.types.size = m + 1 := ⟨Tryz.prog.types.size - 1, by kernel_rfl⟩
  unfold keyOf
  rw [Tryz.underlying72]
  simp only [h1, h2, Bool.and_self, if_true, hm, Option.map_eq_some_iff]
  have h6 : ∀ s : ByteArray, s.size ≤ maxLen → Tryz.prog.keyLits (m + 1) 9 [.string s] = some [.string s.data.toList] := fun s hs => by
    unfold Program.keyLits
    simp only [Tryz.underlying9]
    rw [if_pos hs]
  have h5 : Tryz.prog.keyLits (m + 1 + 1) 72 (Value.agg #[.string x, .string y]).cells.toList = some [.string x.data.toList, .string y.data.toList] := by
    unfold Program.keyLits
    simp only [Tryz.underlying72]
    rw [if_pos (by rw [h3]; exact ⟨rfl, by kernel_rfl⟩)]
    simp [Value.cells, h4, h6, hx, hy]
  exact ⟨_, _, h5, rfl⟩
theorem klL : KL Tryz.prog 72 (fun v => ∃ l : Lab, v = lbK l ∧ SzL l) :=
  kl_wide (deep_law (m := 4) (by decide) (by kernel_rfl) (by kernel_rfl) (by kernel_rfl)) fun v ⟨l, e, h⟩ => by
    subst e
    exact key_is l.1 l.2 h.1 h.2
theorem lbK_inj {a b : Lab} (h : lbK a = lbK b) : a = b := by
  unfold lbK at h
  injection h with h
  have h0 := congrArg (fun x : Array Value => x[0]?) h
  have h1 := congrArg (fun x : Array Value => x[1]?) h
  simp at h0 h1
  exact Prod.ext h0 h1

section
variable {S S' T : Nat → Prop} {w w' : World} {b p : Nat} {L : List HEnt} {cb : Nat} {PL : List PEnt} {cp : Nat}
theorem HEnt.Ok.chg {clock clock' : Nat} {e : HEnt} (h : e.Ok S w clock) (hc : Chg T w w') (h1 : ¬ T e.g) (h2 : ∀ ad, e.m.la = some ad → ¬ T ad.block) (h3 : ∀ ad, e.m.pa = some ad → ¬ T ad.block) (hk : clock ≤ clock') : e.Ok S w' clock' :=
  ⟨h.blk.chg hc h1, h.lb.chg hc h2, h.pt.chg hc h3, h.og, h.ol, h.op, h.key, h.chk, h.ris, h.non, h.bnd, Nat.lt_of_lt_of_le h.born hk⟩
theorem HEnt.Ok.mono {clock : Nat} {e : HEnt} (h : e.Ok S w clock) (hs : ∀ k, S k → S' k) : e.Ok S' w clock :=
  ⟨h.blk, h.lb, h.pt, hs _ h.og, fun ad e => hs _ (h.ol ad e), fun ad e => hs _ (h.op ad e), h.key, h.chk, h.ris, h.non, h.bnd, h.born⟩
theorem PEnt.Ok.chg {clock clock' : Nat} {q : PEnt} (h : q.Ok S w clock) (hc : Chg T w w') (h1 : ¬ T q.q) (hk : clock ≤ clock') : q.Ok S w' clock' :=
  ⟨h.mb.chg hc h1, h.oq, h.kap, h.kst, h.bap, Nat.lt_of_lt_of_le h.born hk, h.sz⟩
theorem PEnt.Ok.mono {clock : Nat} {q : PEnt} (h : q.Ok S w clock) (hs : ∀ k, S k → S' k) : q.Ok S' w clock := ⟨h.mb, hs _ h.oq, h.kap, h.kst, h.bap, h.born, h.sz⟩
/-- a change outside -/
theorem TB.chg (h : TB S w b p L cb PL cp) (hc : Chg T w w') (hT : ∀ k, S k → ¬ T k) : TB S w' b p L cb PL cp :=
  ⟨h.mb.chg hc (hT _ h.ob), fun e he => (h.ok e he).chg hc (hT _ (h.ok e he).og) (fun ad e1 => hT _ ((h.ok e he).ol ad e1)) (fun ad e1 => hT _ ((h.ok e he).op ad e1)) (Nat.le_refl _), h.ap, h.mp.chg hc (hT _ h.op),
    fun q hq => (h.pok q hq).chg hc (hT _ (h.pok q hq).oq) (Nat.le_refl _), h.pap, h.bp, h.pb, h.ob, h.op, fun k hk => Nat.lt_of_lt_of_le (h.lt k hk) hc.size⟩
theorem TB.grew (h : TB S w b p L cb PL cp) (hc : Grew w w') : TB S w' b p L cb PL cp := h.chg hc fun _ _ e => e
/-- .. of blocks that came later -/
theorem TB.later {_w0 : World} (h : TB S w b p L cb PL cp) (hc : Chg (fun k => w.heap.size ≤ k) w w') : TB S w' b p L cb PL cp := h.chg hc fun k hk e => by have := h.lt k hk; omega

theorem TB.kst (_ : TB S w b p L cb PL cp) : ∀ y ∈ (L.map HEnt.ent).toArray.toList, ∃ s, y.key = .string s := fun y hy => by
  obtain ⟨e, _, rfl⟩ := List.mem_map.1 (by simpa using hy)
  exact ⟨_, rfl⟩
theorem TB.kap (h : TB S w b p L cb PL cp) : KAp (L.map HEnt.ent).toArray.toList := by
  show List.Pairwise _ _
  exact List.Pairwise.map _ (fun a b h e => h.key (by injection e)) h.ap
theorem TB.bap (h : TB S w b p L cb PL cp) : BAp (L.map HEnt.ent) cb := ⟨by
  rw [List.map_map]
  exact List.Pairwise.map _ (fun a b h => h.born) h.ap, fun x hx => by
  obtain ⟨e, he, rfl⟩ := List.mem_map.1 hx
  exact (h.ok e he).born⟩
theorem TB.lst (h : TB S w b p L cb PL cp) : ∀ y ∈ (PL.map PEnt.ent).toArray.toList, ∃ l, y.key = lbK l ∧ SzL l := fun y hy => by
  obtain ⟨e, he, rfl⟩ := List.mem_map.1 (by simpa using hy)
  exact ⟨e.l, rfl, (h.pok e he).sz⟩
theorem TB.lap (h : TB S w b p L cb PL cp) : KAp (PL.map PEnt.ent).toArray.toList := by
  show List.Pairwise _ _
  exact List.Pairwise.map _ (fun a b h e => h.l (lbK_inj e)) h.pap
theorem run_zeroPtr (w : World) : (zeroValue 65).run Tryz.prog w = .ok (.pointer none) w := by kernel_rfl
theorem run_zeroMap (w : World) : (zeroValue 88).run Tryz.prog w = .ok (.map none) w := by kernel_rfl
theorem run_zeroInt (w : World) : (zeroValue 3).run Tryz.prog w = .ok (.int .i64 0) w := by kernel_rfl
/-- asked by a set's bytes -/
theorem TB.askN (h : TB S w b p L cb PL cp) {s : ByteArray} (hs : ∀ e ∈ L, e.key ≠ s) : (Instr.lookup 42 (.map (some b)) (.string s) false).run Tryz.prog w = .ok (.pointer none) w :=
  run_lookN klS Tryz.underlying42 (run_zeroPtr w) h.mb ⟨s, rfl⟩ h.kst fun y hy e => by
    obtain ⟨x, hx, rfl⟩ := List.mem_map.1 (by simpa using hy)
    injection e with e
    exact hs x hx e
theorem TB.askS (h : TB S w b p L cb PL cp) {e : HEnt} (he : e ∈ L) : (Instr.lookup 42 (.map (some b)) (.string e.key) false).run Tryz.prog w = .ok (.pointer (some ⟨e.g, 0, none⟩)) w := by
  obtain ⟨i, hi⟩ := List.getElem?_of_mem he
  exact run_lookS (y := e.ent) klS Tryz.underlying42 h.mb ⟨_, rfl⟩ h.kst h.kap (i := i) (by simp [hi]) rfl
/-- asked by a label -/
theorem TB.pskN (h : TB S w b p L cb PL cp) {l : Lab} (hz : SzL l) (hs : ∀ q ∈ PL, q.l ≠ l) : (Instr.lookup 43 (.map (some p)) (lbK l) false).run Tryz.prog w = .ok (.map none) w :=
  run_lookN klL Tryz.underlying43 (run_zeroMap w) h.mp ⟨l, rfl, hz⟩ h.lst fun y hy e => by
    obtain ⟨x, hx, rfl⟩ := List.mem_map.1 (by simpa using hy)
    exact hs x hx (lbK_inj e)
theorem TB.pskS (h : TB S w b p L cb PL cp) {q : PEnt} (hq : q ∈ PL) : (Instr.lookup 43 (.map (some p)) (lbK q.l) false).run Tryz.prog w = .ok (.map (some q.q)) w := by
  obtain ⟨i, hi⟩ := List.getElem?_of_mem hq
  exact run_lookS (y := q.ent) klL Tryz.underlying43 h.mp ⟨q.l, rfl, (h.pok q hq).sz⟩ h.lst h.lap (i := i) (by simp [hi]) rfl
end
section
variable {S S' T : Nat → Prop} {w w' : World} {h b p : Nat} {L : List HEnt} {cb : Nat} {PL : List PEnt} {cp lim : Nat}
theorem HS.chg (h0 : HS S w h b p L cb PL cp lim) (hc : Chg T w w') (hT : ∀ k, S k → ¬ T k) : HS S w' h b p L cb PL cp lim := ⟨h0.hd.chg hc (hT _ h0.oh), h0.tb.chg hc hT, h0.rel, h0.non, h0.oh, h0.ml, h0.len⟩
theorem HS.grew (h0 : HS S w h b p L cb PL cp lim) (hc : Grew w w') : HS S w' h b p L cb PL cp lim := h0.chg hc fun _ _ e => e
end
end Go.Proofs.YtailooldnelecaaGreatDoor

namespace Go.Proofs.YtailooldnelecaaGreatDoor
open Go.RowKit

/-- the postings alone -/
structure PT (S : Nat → Prop) (w : World) (p : Nat) (PL : List PEnt) (cp : Nat) : Prop where
  mp : MapB w p (PL.map PEnt.ent).toArray cp
  pok : ∀ q ∈ PL, q.Ok S w cp
  pap : PL.Pairwise PAp
  pb : ∀ q ∈ PL, q.q ≠ p

theorem pairwise_set {α : Type} {R : α → α → Prop} (hsym : ∀ a b, R a b → R b a) : ∀ {l : List α} {i : Nat} {x y : α}, l.Pairwise R → l[i]? = some x → (∀ j z, j ≠ i → l[j]? = some z → R z y) → (l.set i y).Pairwise R
  | a :: l, 0, x, y, h, _, hy => by
    rw [List.set_cons_zero]
    refine List.Pairwise.cons (fun z hz => ?_) (List.pairwise_cons.1 h).2
    obtain ⟨j, hj⟩ := List.getElem?_of_mem hz
    exact hsym _ _ (hy (j + 1) z (by omega) (by simpa using hj))
  | a :: l, i + 1, x, y, h, hi, hy => by
    rw [List.set_cons_succ]
    have h1 := List.pairwise_cons.1 h
    refine List.Pairwise.cons (fun z hz => ?_) (pairwise_set hsym h1.2 (by simpa using hi) fun j z hj hz => hy (j + 1) z (by omega) (by simpa using hz))
    rcases List.mem_or_eq_of_mem_set hz with hz | rfl
    · exact h1.1 z hz
    · exact hy 0 a (by omega) rfl
theorem mem_set {α : Type} {l : List α} {i : Nat} {y z : α} (h : z ∈ l.set i y) : z = y ∨ ∃ j, j ≠ i ∧ l[j]? = some z := by
  obtain ⟨j, hj⟩ := List.getElem?_of_mem h
  rw [List.getElem?_set] at hj
  by_cases e : i = j
  · rw [if_pos e] at hj
    split at hj
    · exact .inl (by simpa using hj.symm)
    · cases hj
  · rw [if_neg e] at hj
    exact .inr ⟨j, Ne.symm e, hj⟩
theorem pap_at {PL : List PEnt} (h : PL.Pairwise PAp) {i j : Nat} {a b : PEnt} (ha : PL[i]? = some a) (hb : PL[j]? = some b) (hne : i ≠ j) : PAp a b := by
  obtain ⟨h1, rfl⟩ := List.getElem?_eq_some_iff.1 ha
  obtain ⟨h2, rfl⟩ := List.getElem?_eq_some_iff.1 hb
  rcases Nat.lt_or_gt_of_ne hne with e | e
  · exact List.pairwise_iff_getElem.1 h i j h1 h2 e
  · exact (List.pairwise_iff_getElem.1 h j i h2 h1 e).symm

section
variable {S S' T : Nat → Prop} {w w' : World} {p : Nat} {PL : List PEnt} {cp : Nat}
theorem TB.pt {b : Nat} {L : List HEnt} {cb : Nat} (h : TB S w b p L cb PL cp) : PT S w p PL cp := ⟨h.mp, h.pok, h.pap, fun q hq => (h.pb q hq).2⟩
theorem PT.chg (h : PT S w p PL cp) (hc : Chg T w w') (hp : ¬ T p) (hT : ∀ q ∈ PL, ¬ T q.q) : PT S w' p PL cp :=
  ⟨h.mp.chg hc hp, fun q hq => (h.pok q hq).chg hc (hT q hq) (Nat.le_refl _), h.pap, h.pb⟩
theorem PT.grew (h : PT S w p PL cp) (hc : Grew w w') : PT S w' p PL cp := h.chg hc (fun e => e) fun _ _ e => e
theorem PT.mono (h : PT S w p PL cp) (hs : ∀ k, S k → S' k) : PT S' w p PL cp := ⟨h.mp, fun q hq => (h.pok q hq).mono hs, h.pap, h.pb⟩
theorem PT.lst (h : PT S w p PL cp) : ∀ y ∈ (PL.map PEnt.ent).toArray.toList, ∃ l, y.key = lbK l ∧ SzL l := fun y hy => by
  obtain ⟨e, he, rfl⟩ := List.mem_map.1 (by simpa using hy)
  exact ⟨e.l, rfl, (h.pok e he).sz⟩
theorem PT.lap (h : PT S w p PL cp) : KAp (PL.map PEnt.ent).toArray.toList := by
  show List.Pairwise _ _
  exact List.Pairwise.map _ (fun a b h e => h.l (lbK_inj e)) h.pap
theorem PT.askN (h : PT S w p PL cp) {l : Lab} (hz : SzL l) (hs : ∀ q ∈ PL, q.l ≠ l) : (Instr.lookup 43 (.map (some p)) (lbK l) false).run Tryz.prog w = .ok (.map none) w :=
  run_lookN klL Tryz.underlying43 (run_zeroMap w) h.mp ⟨l, rfl, hz⟩ h.lst fun y hy e => by
    obtain ⟨x, hx, rfl⟩ := List.mem_map.1 (by simpa using hy)
    exact hs x hx (lbK_inj e)
theorem PT.askS (h : PT S w p PL cp) {q : PEnt} (hq : q ∈ PL) : (Instr.lookup 43 (.map (some p)) (lbK q.l) false).run Tryz.prog w = .ok (.map (some q.q)) w := by
  obtain ⟨i, hi⟩ := List.getElem?_of_mem hq
  exact run_lookS (y := q.ent) klL Tryz.underlying43 h.mp ⟨q.l, rfl, (h.pok q hq).sz⟩ h.lst h.lap (i := i) (by simp [hi]) rfl
/-- a label that was not there -/
theorem PT.lay (h : PT S w p PL cp) {l : Lab} (hz : SzL l) (hs : ∀ q ∈ PL, q.l ≠ l) (m : Nat) : (Instr.mapUpdate 43 (.map (some p)) (lbK l) (.map (some m))).run Tryz.prog w = .ok () (setB w p (.map ((PL.map PEnt.ent).toArray.push ⟨lbK l, .map (some m), cp⟩) (cp + 1))) :=
  run_putN klL Tryz.underlying43 h.mp _ ⟨l, rfl, hz⟩ h.lst fun y hy e => by
    obtain ⟨x, hx, rfl⟩ := List.mem_map.1 (by simpa using hy)
    exact hs x hx (lbK_inj e)
theorem PT.addN (h : PT S w p PL cp) {l : Lab} (hz : SzL l) (hs : ∀ q ∈ PL, q.l ≠ l) {m c : Nat} (hm : MapB w m #[] c) (hmp : m ≠ p) (hmq : ∀ q ∈ PL, q.q ≠ m) (hS : S m) :
    PT S (setB w p (.map ((PL.map PEnt.ent).toArray.push ⟨lbK l, .map (some m), cp⟩) (cp + 1))) p (PL ++ [⟨l, m, cp, [], c⟩]) (cp + 1) := by
  refine ⟨?_, fun q hq => ?_, ?_, fun q hq => ?_⟩
  · have := h.mp.set ((PL.map PEnt.ent).toArray.push ⟨lbK l, .map (some m), cp⟩) (cp + 1)
    simpa [PEnt.ent, lbK] using this
  · rcases List.mem_append.1 hq with hq | hq
    · have := h.pok q hq
      exact ⟨this.mb.setB (h.pb q hq) _, this.oq, this.kap, this.kst, this.bap, by have := this.born; omega, this.sz⟩
    · obtain rfl := List.mem_singleton.1 hq
      exact ⟨hm.setB hmp _, hS, List.Pairwise.nil, fun y hy => (by cases hy), ⟨List.nodup_nil, fun y hy => (by cases hy)⟩, Nat.lt_succ_self _, hz⟩
  · refine List.pairwise_append.2 ⟨h.pap, List.pairwise_singleton _ _, fun a ha b hb => ?_⟩
    obtain rfl := List.mem_singleton.1 hb
    exact ⟨hs a ha, hmq a ha, fun e => by have := (h.pok a ha).born; dsimp only at e; omega⟩
  · rcases List.mem_append.1 hq with hq | hq
    · exact h.pb q hq
    · obtain rfl := List.mem_singleton.1 hq
      exact hmp
/-- a key into a label's entry -/
theorem PT.inN (h : PT S w p PL cp) {q : PEnt} (hq : q ∈ PL) {s : ByteArray} (hs : ∀ y ∈ q.es, y.key ≠ .string s) : (Instr.lookup 88 (.map (some q.q)) (.string s) false).run Tryz.prog w = .ok (.int .i64 0) w :=
  run_lookN klS Tryz.underlying88 (run_zeroInt w) (h.pok q hq).mb ⟨s, rfl⟩ (by simpa using (h.pok q hq).kst) (by simpa using hs)
theorem PT.inP (h : PT S w p PL cp) {q : PEnt} (hq : q ∈ PL) {s : ByteArray} (hs : ∀ y ∈ q.es, y.key ≠ .string s) (v : Value) : (Instr.mapUpdate 88 (.map (some q.q)) (.string s) v).run Tryz.prog w = .ok () (setB w q.q (.map (q.es.toArray.push ⟨.string s, v, q.c⟩) (q.c + 1))) :=
  run_putN klS Tryz.underlying88 (h.pok q hq).mb v ⟨s, rfl⟩ (by simpa using (h.pok q hq).kst) (by simpa using hs)
def PEnt.plus (q : PEnt) (s : ByteArray) (v : Value) : PEnt := { q with es := q.es ++ [⟨.string s, v, q.c⟩], c := q.c + 1 }
theorem PT.putN (h : PT S w p PL cp) {i : Nat} {q : PEnt} (hi : PL[i]? = some q) {s : ByteArray} (hs : ∀ y ∈ q.es, y.key ≠ .string s) (v : Value) :
    PT S (setB w q.q (.map (q.es.toArray.push ⟨.string s, v, q.c⟩) (q.c + 1))) p (PL.set i (q.plus s v)) cp := by
  have hq := List.mem_of_getElem? hi
  have hk := h.pok q hq
  refine ⟨?_, fun x hx => ?_, pairwise_set (fun _ _ h => h.symm) h.pap hi fun j z hj hz => ?_, fun x hx => ?_⟩
  · have := h.mp.setB (Ne.symm (h.pb q hq)) (.map (q.es.toArray.push ⟨.string s, v, q.c⟩) (q.c + 1))
    have e : (PL.set i (q.plus s v)).map PEnt.ent = PL.map PEnt.ent := by
      rw [List.map_set]
      refine List.ext_getElem? fun j => ?_
      rw [List.getElem?_set]
      split
      · rename_i e
        subst e
        split
        · simp [hi, PEnt.plus, PEnt.ent]
        · rename_i h1
          simp at h1
          simp [h1]
      · rfl
    rw [e]
    exact this
  · rcases mem_set hx with rfl | ⟨j, hj, hz⟩
    · refine ⟨?_, hk.oq, ?_, ?_, ⟨?_, ?_⟩, hk.born, hk.sz⟩
      · have := hk.mb.set (q.es.toArray.push ⟨.string s, v, q.c⟩) (q.c + 1)
        simpa [PEnt.plus] using this
      · exact List.pairwise_append.2 ⟨hk.kap, List.pairwise_singleton _ _, fun a ha b hb => by
          obtain rfl := List.mem_singleton.1 hb
          exact hs a ha⟩
      · intro y hy
        rcases List.mem_append.1 hy with hy | hy
        · exact hk.kst y hy
        · obtain rfl := List.mem_singleton.1 hy
          exact ⟨s, rfl⟩
      · show ((q.es ++ [_]).map MapEntry.born).Nodup
        rw [List.map_append]
        refine List.nodup_append.2 ⟨hk.bap.nd, by simp, fun a ha b hb => ?_⟩
        obtain ⟨y, hy, rfl⟩ := List.mem_map.1 ha
        have h1 := hk.bap.old y hy
        have h2 : b = q.c := by simpa using hb
        omega
      · intro y hy
        rcases List.mem_append.1 hy with hy | hy
        · have := hk.bap.old y hy
          show y.born < q.c + 1
          omega
        · obtain rfl := List.mem_singleton.1 hy
          exact Nat.lt_succ_self _
    · have hx2 := h.pok x (List.mem_of_getElem? hz)
      exact ⟨hx2.mb.setB (pap_at h.pap hz hi hj).q _, hx2.oq, hx2.kap, hx2.kst, hx2.bap, hx2.born, hx2.sz⟩
  · have := pap_at h.pap hz hi hj
    exact ⟨this.l, this.q, this.born⟩
  · rcases mem_set hx with rfl | ⟨j, hj, hz⟩
    · exact h.pb q hq
    · exact h.pb x (List.mem_of_getElem? hz)
end
theorem inP_addN {PL : List PEnt} {l : Lab} {m c d : Nat} (l' : Lab) (s : ByteArray) : InP (PL ++ [⟨l, m, c, [], d⟩]) l' s ↔ InP PL l' s := by
  constructor
  · rintro ⟨q, hq, h1, y, hy, h2⟩
    rcases List.mem_append.1 hq with hq | hq
    · exact ⟨q, hq, h1, y, hy, h2⟩
    · obtain rfl := List.mem_singleton.1 hq
      cases hy
  · rintro ⟨q, hq, h⟩
    exact ⟨q, List.mem_append_left _ hq, h⟩
theorem inP_putN {PL : List PEnt} {i : Nat} {q : PEnt} (hi : PL[i]? = some q) {s : ByteArray} (v : Value) (l' : Lab) (s' : ByteArray) : InP (PL.set i (q.plus s v)) l' s' ↔ InP PL l' s' ∨ l' = q.l ∧ s' = s := by
  have hlt := (List.getElem?_eq_some_iff.1 hi).1
  have hin : q.plus s v ∈ PL.set i (q.plus s v) := List.mem_of_getElem? (i := i) (by rw [List.getElem?_set, if_pos rfl, if_pos hlt])
  constructor
  · rintro ⟨x, hx, h1, y, hy, h2⟩
    rcases mem_set hx with rfl | ⟨j, hj, hz⟩
    · rcases List.mem_append.1 hy with hy | hy
      · exact .inl ⟨q, List.mem_of_getElem? hi, h1, y, hy, h2⟩
      · obtain rfl := List.mem_singleton.1 hy
        injection h2 with h2
        exact .inr ⟨h1.symm, h2.symm⟩
    · exact .inl ⟨x, List.mem_of_getElem? hz, h1, y, hy, h2⟩
  · rintro (⟨x, hx, h1, y, hy, h2⟩ | ⟨rfl, rfl⟩)
    · obtain ⟨j, hj⟩ := List.getElem?_of_mem hx
      by_cases e : i = j
      · subst e
        obtain rfl : q = x := by rw [hi] at hj; injection hj
        exact ⟨_, hin, h1, y, List.mem_append_left _ hy, h2⟩
      · exact ⟨x, List.mem_of_getElem? (i := j) (by rw [List.getElem?_set, if_neg e]; exact hj), h1, y, hy, h2⟩
    · exact ⟨_, hin, rfl, _, List.mem_append_right _ (List.mem_singleton.2 rfl), rfl⟩
end Go.Proofs.YtailooldnelecaaGreatDoor

namespace Go.Proofs.YtailooldnelecaaGreatDoor
open Go.RowKit

section
variable {P : Program} (w : World)
theorem firstCells_str (s : ByteArray) : (Builtin.firstCells 1 s.size (.string s)).run P w = .ok ((s.data.toList.map byt).toArray) w := by
  simp only [Builtin.firstCells, Sem.run_pure]
  congr 1
  apply Array.ext'
  simp [byt]

theorem run_appS (t u ty e : TypeId) (i : TypeInfo) (z : Value) (ht : P.underlying t = some (.slice e)) (hu : P.underlying u = some .string) (hi : P.info? e = some i) (hz : i.zero = some z)
    (hsize : i.size = 1) (hby : i.bytes = 1) (hzs : z.cells.size = 1)
    (base : Nat) (A : Option Addr) (n c : Nat) (xs : List Value) (hown : Own w base e 1 A n c xs) (hbase : base ≤ w.heap.size)
    (s : ByteArray) (h63 : n + s.size ≤ maxLen) (hbytes : (n + s.size) * 1 ≤ 140737488355328) :
    ∃ A' c' w', (Builtin.append_ #[t, u] ty #[.slice A n c, .string s]).run P w = .ok (.slice A' (n + s.size) c') w' ∧ Apped w base e 1 A (n + s.size) c (xs ++ s.data.toList.map byt) A' c' w' := by
  have hl : (s.data.toList.map byt).length = s.size * 1 := by simp
  have hlen : (xs ++ s.data.toList.map byt).length = (n + s.size) * 1 := by rw [List.length_append, hown.len, hl, Nat.add_mul]
  have h1 := byt_one s.data.toList
  have hf : ∀ w : World, (Builtin.firstCells 1 s.size (.string s)).run P w = .ok ((s.data.toList.map byt).toArray) w := fun w => firstCells_str w s
  by_cases hroom : n + s.size ≤ c
  · rcases hown.2 with ⟨e', h3⟩ | ⟨g, cap, cur, e', hbg, hg, hnc, hcm, hcs, htake⟩
    · injection e' with e1 e2 e3
      subst e1; subst e3; subst h3
      have hn : s.data.toList.map byt = [] := List.eq_nil_of_length_eq_zero (by rw [hl]; omega)
      rw [hn]
      have h0 : s.size = 0 := by omega
      refine ⟨none, 0, w, ?_, by simpa [h0] using hown, Chg.refl _ _, .inl ⟨rfl, rfl, by omega, rfl⟩⟩
      have hf0 := hf w
      rw [hn, h0] at hf0
      simp [Builtin.append_, run_underlying ht, run_underlying hu, sizeOf, typeInfo, hi, hsize, Builtin.lenOf, hf0, h0]
    · injection e' with e1 e2 e3
      subst e1; subst e3
      have hfit : n * 1 + (s.data.toList.map byt).length ≤ cur.size := by rw [hl, hcs, ← Nat.add_mul]; exact Nat.mul_le_mul_right _ hroom
      have hst := run_storeCells_at P g (n * 1) e (s.data.toList.map byt) 0 cur w hg (by simpa using hfit) h1
      simp only [Nat.add_zero, Nat.mul_one] at hst
      refine ⟨some ⟨g, 0, none⟩, c, w.setRow g (cur.toList.take (n * 1) ++ s.data.toList.map byt ++ cur.toList.drop (n * 1 + (s.data.toList.map byt).length)).toArray, ?_, ⟨hlen, .inr ⟨g, c, _, rfl, hbg, setRow_heap w g cur _ e _ hg, hroom, hcm, ?_, ?_⟩⟩,
        ⟨rfl, rfl, rfl, by simp, fun k _ hk => setRow_other w g k _ (fun e => hk ⟨_, rfl, e⟩)⟩, .inl ⟨rfl, rfl, hroom, by simp⟩⟩
      · simp [Builtin.append_, run_underlying ht, run_underlying hu, sizeOf, typeInfo, hi, hsize, Builtin.lenOf, hroom, hf, Addr.add_lit]
        simp at hst
        rw [hst]
        simp
      · simp only [List.size_toArray, List.length_append, List.length_take, List.length_drop, Array.length_toList]
        omega
      · rw [htake, ← hlen]
        exact List.take_left
  · have hsmall : n + s.size ≤ 9223372036854775807 := by simp only [maxLen] at h63; omega
    have h63' : ¬ (9223372036854775807 < ((n : Int) + (s.size : Int))) := by omega
    have hgf := growslice_fits (old := c) (need := n + s.size) (bytes := 1) (by omega) hbytes
    have h48' : ¬ (281474976710656 < Builtin.nextslicecap (n + s.size) c) := by omega
    have hfo := firstCells_rd (P := P) w.drew 1 n c A xs hown.len hown.rd
    have hge := grownCap_ge w (n + s.size) c e
    have hcm : grownCap w (n + s.size) c e ≤ maxLen := grownCap_le_maxLen w (n + s.size) c e h63
    refine ⟨some ⟨w.heap.size, 0, none⟩, grownCap w (n + s.size) c e, w.drew.alloc (.cells (xs.toArray ++ (s.data.toList.map byt).toArray ++ Builtin.zeroCells z.cells (grownCap w (n + s.size) c e - (n + s.size))) e), ?_, ?_, ?_, .inr ⟨rfl, (Chg.refl _ w).drew.alloc _, by simp⟩⟩
    · have hfd := hf w.drew
      simp [Builtin.append_, run_underlying ht, run_underlying hu, sizeOf, typeInfo, zeroValue, hi, hz, hsize, hby, Builtin.lenOf, hroom, h63', h48', Question.forced, hfd, hfo, newRow, grownCap]
      congr 2
      apply Array.ext'
      simp [List.append_assoc]
    · refine ⟨hlen, .inr ⟨w.heap.size, _, _, rfl, hbase, heap_alloc_new w.drew _, hge, hcm, ?_, ?_⟩⟩
      · simp only [Array.size_append, List.size_toArray, size_zeroCells, hzs, hown.len, hl, ← Nat.add_mul]
        congr 1
        omega
      · simp only [Array.toList_append, List.append_assoc]
        rw [← List.append_assoc, ← hlen]
        exact List.take_left
    · exact (Chg.refl _ w).drew.alloc _
end

/-- append of a string onto a row of bytes of the call's own -/
theorem wpList_appS {ops : Array Oper} {rest : List Oper} {o : Oper} {a : Act} {w : World} {Q : Exit → Act → World → Prop} (hgd : o.guard = none) (s x : Operand)
    (ho : o.op = .call { callee := .builtin .append, args := #[s, x], argTypes := #[73, 9] })
    (base : Nat) (A : Option Addr) (n c : Nat) (l : List UInt8) (hs : a.eval s = .slice A n c) (hown : OB w base 5 A n c l) (hbase : base ≤ w.heap.size)
    (r : ByteArray) (hx : a.eval x = .string r) (hbytes : n + r.size ≤ 140737488355328)
    (h : ∀ A' c' w', ApB w base A (n + r.size) c (l ++ r.data.toList) A' c' w' → wpList Tryz.prog ops Q rest (a.put o.dst (.slice A' (n + r.size) c')) w') : wpList Tryz.prog ops Q (o :: rest) a w := by
  obtain ⟨i0, hi, hz0, hz1, hz2⟩ := info_parts infoU8
  obtain ⟨A', c', w', hrun, h2⟩ := run_appS (P := Tryz.prog) w 73 9 o.type 5 i0 (.int .u8 0) Tryz.underlying73 Tryz.underlying9 hi hz0 hz1 hz2 rfl base A n c _ hown hbase r (by unfold maxLen; omega) (by omega)
  refine wpList_plain hgd fun K hK => ?_
  unfold Oper.wp execOp
  simp only [ho, resolve, invoke, builtin, Sem.run_bind, Sem.run_pure, Result.andThen_ok, List.map_toArray, List.map_cons, List.map_nil, hs, hx, hrun]
  exact hK _ _ (h A' c' w' (by unfold ApB; rw [List.map_append]; exact h2))
end Go.Proofs.YtailooldnelecaaGreatDoor
