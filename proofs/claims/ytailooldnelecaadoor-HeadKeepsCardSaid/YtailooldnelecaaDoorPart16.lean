/-
  Several texts in one:
  The form of a list of labels; points that rise. Conditions: none.
  Series in memory; points that rise. Conditions: none.
  A head in memory: its series, its postings. Conditions: none.
  A head's maps asked: by a set's bytes, by a label. Conditions: none.
-/
import Derived.Test.YtailooldnelecaaDoorPart14
import Derived.Test.YtailooldnelecaaDoorPart15
import Derived.Test.YtailooldnelecaaDoorPart3
import Derived.Test.YtailooldnelecaaDoorPart4
import Derived.Test.YtailooldnelecaaDoorPart6

namespace Go.Proofs.YtailooldnelecaaDoor
open Go.RowKit

def txtB (v : ByteArray) : Bool := decide (0 < v.size) && decide (v.size ≤ 256) && vld 0 128 191 v.data.toList
def upB (l : ByteArray) : Option ByteArray → Bool
  | some p => decide (l.data.toList ≤ p.data.toList)
  | none => false
def chkG : Option ByteArray → List Lab → Nat
  | _, [] => 0
  | prev, l :: r => if nameL l.1 = false then 31 else if txtB l.2 = false then 32 else if upB l.1 prev = true then 33 else chkG (some l.1) r
theorem chkG_cons (prev : Option ByteArray) (l : Lab) (r : List Lab) : chkG prev (l :: r) = if nameL l.1 = false then 31 else if txtB l.2 = false then 32 else if upB l.1 prev = true then 33 else chkG (some l.1) r := rfl
def chkL (ls : List Lab) : Nat := if 16 < ls.length then 30 else chkG none ls
def prevL (ls : List Lab) (k : Nat) : Option ByteArray := if k = 0 then none else (ls[k - 1]?).map Prod.fst

theorem less_eq : ∀ (x y : List UInt8), Op.bytesLess x y = decide (x < y)
  | [], [] => by simp [Op.bytesLess]
  | _ :: _, [] => by simp [Op.bytesLess]
  | [], _ :: _ => by simp [Op.bytesLess]
  | a :: x, b :: y => by
    rw [Op.bytesLess, less_eq x y]
    by_cases h : a = b
    · subst h
      simp
    · simp [List.cons_lt_cons_iff, h]
theorem leqT (a b : ByteArray) : (Op.bytesLess a.toList b.toList || a.toList == b.toList) = decide (a.data.toList ≤ b.data.toList) := by
  rw [ByteArray.toList_eq, ByteArray.toList_eq, less_eq, Bool.eq_iff_iff]
  simp only [Bool.or_eq_true, decide_eq_true_eq, beq_iff_eq]
  constructor
  · rintro (h | h)
    · exact List.le_of_lt h
    · rw [h]
      exact List.le_refl _
  · intro h
    by_cases he : a.data.toList = b.data.toList
    · exact .inr he
    · refine .inl ?_
      by_cases hl : a.data.toList < b.data.toList
      · exact hl
      · exact absurd (List.le_antisymm h (List.not_lt.1 hl)) he

set_option maxRecDepth 100000 in
set_option maxHeartbeats 4000000 in
theorem chk_any (A : Option Addr) (n c : Nat) (ls : List Lab) (w : World) (h : RE elLb w A n ls) (hn : n ≤ 9223372036854775807) :
    Calls Tryd.prog 20 #[.slice A n c] w fun e w' => e = .returned (.int .i64 (chkL ls : Int)) ∧ Grew w w' := by
  have hln := h.1
  unfold chkL
  rw [hln]
  by_cases h16 : 16 < n
  · rw [if_pos h16]
    have e0 : decide ((16 : Int) < (n : Int)) = true := decide_eq_true (by omega)
    clear h16
    go_enter Tryd.func20, Tryd.ntmps20
    go_wp2
    go_ret
    exact ⟨by simp, Chg.refl _ _⟩
  rw [if_neg h16]
  have e0 : decide ((16 : Int) < (n : Int)) = false := decide_eq_false (by omega)
  have hn16 : n ≤ 16 := by omega
  obtain ⟨z, hz⟩ : ∃ z, chkG none ls = z := ⟨_, rfl⟩
  rw [hz]
  have hz0 : Hid (z = chkG (prevL ls 0) (ls.drop 0)) := hz.symm
  clear h16 hz
  go_enter Tryd.func20, Tryd.ntmps20
  go_wp2
  go_loopw [10] (fun i wr => ∃ k : Nat, k ≤ n ∧ i = .int .i64 (k : Int) ∧ Hid (z = chkG (prevL ls k) (ls.drop k)) ∧ Grew w wr) (fun i _ => n - (intOf i).toNat)
  case atStart => exact ⟨0, by omega, rfl, hz0, Chg.refl _ _⟩
  case round =>
    obtain ⟨k, hk, rfl, hc, hg⟩ := hrel
    by_cases hlt : k < n
    · obtain ⟨ad, x, rfl, hx, x0, x1⟩ := (h.grew hg).lb hlt
      have hxd : ls.drop k = x :: ls.drop (k + 1) := by
        obtain ⟨h1, h2⟩ := List.getElem?_eq_some_iff.1 hx
        rw [List.drop_eq_getElem_cons h1, h2]
      have hv := hc.out
      rw [hxd, chkG_cons] at hv
      have hpn : prevL ls (k + 1) = some x.1 := by
        unfold prevL
        rw [if_neg (by omega), Nat.add_sub_cancel, hx]
        rfl
      rw [← hpn] at hv
      have hgW : Grew w (wr.alloc (.cells #[.string x.1, .string x.2] 53)) := hg.alloc _
      have hN := fun w => lname_any x.1 w
      have hV := fun w (hs : x.2.size ≤ 256) => valid_any x.2 w hs
      obtain ⟨vn, hvn⟩ : ∃ vn, x.2.size = vn := ⟨_, rfl⟩
      clear hc hxd hpn
      go_wp2_with fail
      refine (hN _).mono ?_
      rintro e w1 ⟨rfl, rfl⟩
      cases hnm : nameL x.1
      · rw [hnm, if_pos rfl] at hv
        have hv := Lib.hid hv
        clear hN hV
        go_wp2
        go_ret
        exact ⟨by rw [hv.out]; simp, hgW⟩
      rw [hnm, if_neg (by simp)] at hv
      unfold txtB at hv
      rw [hvn] at hv
      by_cases hv0 : vn = 0
      · rw [decide_eq_false (p := 0 < vn) (by omega)] at hv
        simp only [Bool.false_and, if_true] at hv
        have hv := Lib.hid hv
        have hem : (x.2.toList == ([] : List UInt8)) = true := by
          rw [beq_iff_eq, ByteArray.toList_eq]
          exact List.eq_nil_of_length_eq_zero (by rw [data_len]; omega)
        have hem2 : x.2.toList = [] := by simpa using hem
        have hem3 : x.2.toList.isEmpty = true := by rw [hem2]; rfl
        clear hN hV
        go_wp2
        go_ret
        exact ⟨by rw [hv.out]; simp, hgW⟩
      have hem : x.2.toList.isEmpty = false := by
        cases hq : x.2.toList with
        | nil =>
          have := data_len x.2
          rw [← ByteArray.toList_eq, hq] at this
          simp at this
          omega
        | cons p q => rfl
      have hem2 : ¬ x.2.toList = [] := fun e => by rw [e] at hem; cases hem
      rw [decide_eq_true (p := 0 < vn) (by omega), Bool.true_and] at hv
      by_cases hv256 : 256 < vn
      · rw [decide_eq_false (p := vn ≤ 256) (by omega), Bool.false_and, if_pos rfl] at hv
        have hv := Lib.hid hv
        have e2 : decide ((256 : Int) < (vn : Int)) = true := decide_eq_true (by omega)
        clear hN hV
        go_wp2
        go_ret
        exact ⟨by rw [hv.out]; simp, hgW⟩
      rw [decide_eq_true (p := vn ≤ 256) (by omega), Bool.true_and] at hv
      have e2 : decide ((256 : Int) < (vn : Int)) = false := decide_eq_false (by omega)
      go_wp2_with fail
      refine (hV _ (by omega)).mono ?_
      rintro e w1 ⟨rfl, rfl⟩
      clear hN hV
      cases hvl : vld 0 128 191 x.2.data.toList
      · rw [hvl, if_pos rfl] at hv
        have hv := Lib.hid hv
        go_wp2
        go_ret
        exact ⟨by rw [hv.out]; simp, hgW⟩
      rw [hvl, if_neg (by simp)] at hv
      clear hvl hnm
      rcases k with _ | k
      · rw [show upB x.1 (prevL ls 0) = false from rfl, if_neg (by simp)] at hv
        have hv := Lib.hid hv
        clear hx
        go_wp2_with fail
        refine wp_region_text [(9, 2), (3, 1)] (by kernel_rfl) (by kernel_rfl) ?_
        simp only [instr, chk, look, Nat.reduceBEq, if_true, if_false, Nat.reduceEqDiff, List.cons_append, List.nil_append]
        go_wp2_with fail
        refine OnlyN.normal ?_
        go_wp2
        go_roundw
        case rel => exact ⟨1, by omega, by go_num, hv, hgW.drew⟩
        case measure => simp [intOf]; omega
      · obtain ⟨pd, y, hpe, hy, y0, y1⟩ := (h.grew hgW).lb (show k < n by omega)
        injection hpe with hpe
        subst hpe
        have hpl : prevL ls (k + 1) = some y.1 := by
          unfold prevL
          rw [if_neg (by omega), Nat.add_sub_cancel, hy]
          rfl
        rw [hpl] at hv
        have hleq := leqT x.1 y.1
        rw [show upB x.1 (some y.1) = decide (x.1.data.toList ≤ y.1.data.toList) from rfl] at hv
        generalize decide (x.1.data.toList ≤ y.1.data.toList) = b at *
        clear hx hy hpl
        cases b
        · rw [if_neg (by simp)] at hv
          have hv := Lib.hid hv
          go_wp2_with fail
          refine wp_region_text [(9, 2), (3, 1)] (by kernel_rfl) (by kernel_rfl) ?_
          simp only [instr, chk, look, Nat.reduceBEq, if_true, if_false, Nat.reduceEqDiff, List.cons_append, List.nil_append]
          go_wp2_with fail
          refine OnlyN.normal ?_
          go_wp2
          go_roundw
          case rel => exact ⟨k + 1 + 1, by omega, by go_num, hv, hgW.drew⟩
          case measure => simp [intOf]; omega
        · rw [if_pos rfl] at hv
          have hv := Lib.hid hv
          go_wp2_with fail
          refine wp_region_text [(9, 2), (3, 1)] (by kernel_rfl) (by kernel_rfl) ?_
          simp only [instr, chk, look, Nat.reduceBEq, if_true, if_false, Nat.reduceEqDiff, List.cons_append, List.nil_append]
          go_wp2_with fail
          refine OnlyN.normal ?_
          go_wp2
          go_ret
          exact ⟨by rw [hv.out]; simp, hgW.drew⟩
    · obtain rfl : k = n := by omega
      have hv := hc.out
      rw [List.drop_of_length_le (by omega), chkG] at hv
      have hv := Lib.hid hv
      clear hc
      go_wp2
      go_ret
      exact ⟨by rw [hv.out]; simp, hg⟩
end Go.Proofs.YtailooldnelecaaDoor

namespace Go.Proofs.YtailooldnelecaaDoor
open Go.RowKit

/-- a series as it lies in cells: two slices -/
structure SerM where
  la : Option Addr
  ln : Nat
  lc : Nat
  pa : Option Addr
  pn : Nat
  pc : Nat
def elSr : El SerM := ⟨fun s => [.slice s.la s.ln s.lc, .slice s.pa s.pn s.pc], 2, fun _ => rfl, by
  intro x u hu
  simp only [List.mem_cons, List.not_mem_nil, or_false] at hu
  rcases hu with rfl | rfl <;> rfl⟩
theorem infoSr : (Tryd.prog.info? 37).map (fun i => (i.zero, i.size, i.bytes)) = some (some (.agg #[.slice none 0 0, .slice none 0 0]), 2, 48) := by kernel_rfl
structure SrIs (w : World) (m : SerM) (s : Ser) : Prop where
  lb : RE elLb w m.la m.ln s.lbs
  pt : RE elPt w m.pa m.pn s.pts
  lc : m.ln ≤ m.lc ∧ m.lc ≤ 9223372036854775807
  pc : m.pn ≤ m.pc ∧ m.pc ≤ 9223372036854775807
theorem SrIs.grew {w w' : World} {m : SerM} {s : Ser} (h : SrIs w m s) (hc : Grew w w') : SrIs w' m s := ⟨h.lb.grew hc, h.pt.grew hc, h.lc, h.pc⟩
/-- a slice's cells are these series -/
def RS (w : World) (A : Option Addr) (n : Nat) (ss : List Ser) : Prop := ∃ ms : List SerM, RE elSr w A n ms ∧ ms.length = ss.length ∧ ∀ (i : Nat) (m : SerM) (s : Ser), ms[i]? = some m → ss[i]? = some s → SrIs w m s
theorem RS.grew {w w' : World} {A : Option Addr} {n : Nat} {ss : List Ser} (h : RS w A n ss) (hc : Grew w w') : RS w' A n ss := by
  obtain ⟨ms, h1, h2, h3⟩ := h
  exact ⟨ms, h1.grew hc, h2, fun i m s hm hs => (h3 i m s hm hs).grew hc⟩
theorem RS.len {w : World} {A : Option Addr} {n : Nat} {ss : List Ser} (h : RS w A n ss) : ss.length = n := by
  obtain ⟨ms, h1, h2, _⟩ := h
  rw [← h2, h1.1]
theorem RS.nil (w : World) (A : Option Addr) : RS w A 0 [] := ⟨[], RE.nil _ _, rfl, fun i m s hm => by simp at hm⟩
theorem RS.at_ {w : World} {A : Option Addr} {n : Nat} {ss : List Ser} (h : RS w A n ss) {k : Nat} (hk : k < n) :
    ∃ ad m s, A = some ad ∧ ss[k]? = some s ∧ SrIs w m s ∧ w.cell? (ad.add (k * 2)) = some (.slice m.la m.ln m.lc) ∧ w.cell? ⟨(ad.add (k * 2)).block, (ad.add (k * 2)).off + 1, none⟩ = some (.slice m.pa m.pn m.pc) := by
  obtain ⟨ms, h1, h2, h3⟩ := h
  obtain ⟨ad, m, e, hm, hc⟩ := h1.at_ hk (by decide)
  have hs : ss[k]? = some (ss[k]'(by have := h1.1; omega)) := List.getElem?_eq_getElem _
  exact ⟨ad, m, _, e, hs, h3 k m _ hm hs, hc 0 _ rfl, cell_off (by decide) (hc 1 _ rfl)⟩
theorem RS.drop {w : World} {ad : Addr} {n : Nat} {ss : List Ser} (h : RS w (some ad) n ss) (i : Nat) : RS w (some (ad.add (i * 2))) (n - i) (ss.drop i) := by
  obtain ⟨ms, h1, h2, h3⟩ := h
  refine ⟨ms.drop i, h1.drop i, by rw [List.length_drop, List.length_drop, h2], fun j m s hm hs => ?_⟩
  rw [List.getElem?_drop] at hm hs
  exact h3 _ m s hm hs

def upP : List Ptn → Bool
  | p :: q :: r => decide (p.1 < q.1) && upP (q :: r)
  | _ => true
theorem upP_iff : ∀ {ps : List Ptn}, upP ps = true ↔ Rise ps
  | [] => by simp [upP, Rise]
  | [p] => by simp [upP, Rise]
  | p :: q :: r => by
    rw [upP, Bool.and_eq_true, decide_eq_true_iff, upP_iff]
    unfold Rise
    rw [List.pairwise_cons (a := p), List.pairwise_cons (a := q)]
    constructor
    · rintro ⟨h1, h2, h3⟩
      refine ⟨fun x hx => ?_, h2, h3⟩
      rcases List.mem_cons.1 hx with rfl | hx
      · exact h1
      · have := h2 x hx
        omega
    · rintro ⟨h1, h2⟩
      exact ⟨h1 q (by simp), h2⟩
theorem upP_drop {ps : List Ptn} {k : Nat} {p q : Ptn} (hp : ps[k]? = some p) (hq : ps[k + 1]? = some q) : upP (ps.drop k) = (decide (p.1 < q.1) && upP (ps.drop (k + 1))) := by
  obtain ⟨h1, h2⟩ := List.getElem?_eq_some_iff.1 hp
  obtain ⟨h3, h4⟩ := List.getElem?_eq_some_iff.1 hq
  rw [List.drop_eq_getElem_cons h1, List.drop_eq_getElem_cons h3, h2, h4, upP]
def risB (ps : List Ptn) : Bool := upP ps && decide (0 < ps.length)
theorem risB_iff {ps : List Ptn} : risB ps = true ↔ Rise ps ∧ ps ≠ [] := by
  unfold risB
  rw [Bool.and_eq_true, upP_iff, decide_eq_true_iff, List.length_pos_iff]

end Go.Proofs.YtailooldnelecaaDoor

namespace Go.Proofs.YtailooldnelecaaDoor
open Go.RowKit

/-- a series, as the head's map leads to it -/
structure HEnt where
  key : ByteArray
  g : Nat
  born : Nat
  m : SerM
  s : Ser
def HEnt.ent (e : HEnt) : MapEntry := ⟨.string e.key, .pointer (some ⟨e.g, 0, none⟩), e.born⟩
structure HEnt.Ok (S : Nat → Prop) (w : World) (clock : Nat) (e : HEnt) : Prop where
  blk : Blk w e.g 67 #[.slice e.m.la e.m.ln e.m.lc, .slice e.m.pa e.m.pn e.m.pc]
  lb : OT elLb w 53 e.m.la e.m.ln e.m.lc e.s.lbs
  pt : OT elPt w 39 e.m.pa e.m.pn e.m.pc e.s.pts
  og : S e.g
  ol : ∀ ad, e.m.la = some ad → S ad.block
  op : ∀ ad, e.m.pa = some ad → S ad.block
  key : e.key = encK e.s.lbs
  chk : chkL e.s.lbs = 0
  ris : Rise e.s.pts
  non : e.s.pts ≠ []
  bnd : ∀ p ∈ e.s.pts, -1099511627776 ≤ p.1 ∧ p.1 ≤ 1099511627776
  born : e.born < clock
structure HAp (a b : HEnt) : Prop where
  key : a.key ≠ b.key
  g : a.g ≠ b.g
  born : a.born ≠ b.born
  pt : ∀ ad bd, a.m.pa = some ad → b.m.pa = some bd → ad.block ≠ bd.block
theorem HAp.symm {a b : HEnt} (h : HAp a b) : HAp b a := ⟨fun e => h.key e.symm, fun e => h.g e.symm, fun e => h.born e.symm, fun ad bd e1 e2 e => h.pt bd ad e2 e1 e.symm⟩
def SzL (l : Lab) : Prop := l.1.size ≤ maxLen ∧ l.2.size ≤ maxLen
/-- which series have a label: an entry of the other map -/
structure PEnt where
  l : Lab
  q : Nat
  born : Nat
  es : List MapEntry
  c : Nat
def PEnt.ent (q : PEnt) : MapEntry := ⟨.agg #[.string q.l.1, .string q.l.2], .map (some q.q), q.born⟩
structure PEnt.Ok (S : Nat → Prop) (w : World) (clock : Nat) (q : PEnt) : Prop where
  mb : MapB w q.q q.es.toArray q.c
  oq : S q.q
  kap : KAp q.es
  kst : ∀ y ∈ q.es, ∃ s, y.key = .string s
  bap : BAp q.es q.c
  born : q.born < clock
  sz : SzL q.l
structure PAp (a b : PEnt) : Prop where
  l : a.l ≠ b.l
  q : a.q ≠ b.q
  born : a.born ≠ b.born
theorem PAp.symm {a b : PEnt} (h : PAp a b) : PAp b a := ⟨fun e => h.l e.symm, fun e => h.q e.symm, fun e => h.born e.symm⟩
/-- has a label's entry a key? -/
def InP (PL : List PEnt) (l : Lab) (s : ByteArray) : Prop := ∃ q ∈ PL, q.l = l ∧ ∃ y ∈ q.es, y.key = .string s
def InL (L : List HEnt) (l : Lab) (s : ByteArray) : Prop := ∃ e ∈ L, e.key = s ∧ l ∈ e.s.lbs
/-- the two maps: their blocks, their entries -/
structure TB (S : Nat → Prop) (w : World) (b p : Nat) (L : List HEnt) (cb : Nat) (PL : List PEnt) (cp : Nat) : Prop where
  mb : MapB w b (L.map HEnt.ent).toArray cb
  ok : ∀ e ∈ L, e.Ok S w cb
  ap : L.Pairwise HAp
  mp : MapB w p (PL.map PEnt.ent).toArray cp
  pok : ∀ q ∈ PL, q.Ok S w cp
  pap : PL.Pairwise PAp
  bp : b ≠ p
  pb : ∀ q ∈ PL, q.q ≠ b ∧ q.q ≠ p
  ob : S b
  op : S p
  lt : ∀ k, S k → k < w.heap.size
/-- a head -/
structure HS (S : Nat → Prop) (w : World) (h b p : Nat) (L : List HEnt) (cb : Nat) (PL : List PEnt) (cp : Nat) (lim : Nat) : Prop where
  hd : Blk w h 59 #[.map (some b), .map (some p), .int .i64 (lim : Int)]
  tb : TB S w b p L cb PL cp
  rel : ∀ l s, InP PL l s ↔ InL L l s
  non : ∀ q ∈ PL, q.es ≠ []
  oh : S h
  ml : lim ≤ 1024
  len : L.length ≤ lim
end Go.Proofs.YtailooldnelecaaDoor

namespace Go.Proofs.YtailooldnelecaaDoor
open Go.RowKit

theorem klS : KL Tryd.prog 9 (fun v => ∃ s, v = .string s) := kl_string Tryd.underlying9
def lbK (l : Lab) : Value := .agg #[.string l.1, .string l.2]
theorem key_is (x y : ByteArray) (hx : x.size ≤ maxLen) (hy : y.size ≤ maxLen) : ∃ l, keyOf Tryd.prog 53 (.agg #[.string x, .string y]) = some l := by
  have h1 : Tryd.prog.keyType 53 = true := by kernel_rfl
  have h2 : (Value.agg #[.string x, .string y]).formed Tryd.prog 53 = true := by kernel_rfl
  have h3 : Tryd.prog.cellsOf 53 = 2 := by kernel_rfl
  have h4 : Tryd.prog.cellsOf 9 = 1 := by kernel_rfl
  obtain ⟨m, hm⟩ : ∃ m, Tryd.prog.types.size = m + 1 := ⟨Tryd.prog.types.size - 1, by kernel_rfl⟩
  unfold keyOf
  rw [Tryd.underlying53]
  simp only [h1, h2, Bool.and_self, if_true, hm, Option.map_eq_some_iff]
  have h6 : ∀ s : ByteArray, s.size ≤ maxLen → Tryd.prog.keyLits (m + 1) 9 [.string s] = some [.string s.data.toList] := fun s hs => by
    unfold Program.keyLits
    simp only [Tryd.underlying9]
    rw [if_pos hs]
  have h5 : Tryd.prog.keyLits (m + 1 + 1) 53 (Value.agg #[.string x, .string y]).cells.toList = some [.string x.data.toList, .string y.data.toList] := by
    unfold Program.keyLits
    simp only [Tryd.underlying53]
    rw [if_pos (by rw [h3]; exact ⟨rfl, by kernel_rfl⟩)]
    simp [Value.cells, h4, h6, hx, hy]
  exact ⟨_, _, h5, rfl⟩
theorem klL : KL Tryd.prog 53 (fun v => ∃ l : Lab, v = lbK l ∧ SzL l) :=
  kl_wide (deep_law (m := 4) (by decide) (by kernel_rfl) (by kernel_rfl) (by kernel_rfl)) fun v ⟨l, e, h⟩ => by
    subst e
    exact key_is l.1 l.2 h.1 h.2
theorem lbK_inj {a b : Lab} (h : lbK a = lbK b) : a = b := by
  unfold lbK at h
  injection h with h
  have h0 := congrArg (fun x : Array Value => x[0]?) h
  have h1 := congrArg (fun x : Array Value => x[1]?) h
  simp at h0 h1
  exact Prod.ext h0 h1

section
variable {S S' T : Nat → Prop} {w w' : World} {b p : Nat} {L : List HEnt} {cb : Nat} {PL : List PEnt} {cp : Nat}
theorem HEnt.Ok.chg {clock clock' : Nat} {e : HEnt} (h : e.Ok S w clock) (hc : Chg T w w') (h1 : ¬ T e.g) (h2 : ∀ ad, e.m.la = some ad → ¬ T ad.block) (h3 : ∀ ad, e.m.pa = some ad → ¬ T ad.block) (hk : clock ≤ clock') : e.Ok S w' clock' :=
  ⟨h.blk.chg hc h1, h.lb.chg hc h2, h.pt.chg hc h3, h.og, h.ol, h.op, h.key, h.chk, h.ris, h.non, h.bnd, Nat.lt_of_lt_of_le h.born hk⟩
theorem HEnt.Ok.mono {clock : Nat} {e : HEnt} (h : e.Ok S w clock) (hs : ∀ k, S k → S' k) : e.Ok S' w clock :=
  ⟨h.blk, h.lb, h.pt, hs _ h.og, fun ad e => hs _ (h.ol ad e), fun ad e => hs _ (h.op ad e), h.key, h.chk, h.ris, h.non, h.bnd, h.born⟩
theorem PEnt.Ok.chg {clock clock' : Nat} {q : PEnt} (h : q.Ok S w clock) (hc : Chg T w w') (h1 : ¬ T q.q) (hk : clock ≤ clock') : q.Ok S w' clock' :=
  ⟨h.mb.chg hc h1, h.oq, h.kap, h.kst, h.bap, Nat.lt_of_lt_of_le h.born hk, h.sz⟩
theorem PEnt.Ok.mono {clock : Nat} {q : PEnt} (h : q.Ok S w clock) (hs : ∀ k, S k → S' k) : q.Ok S' w clock := ⟨h.mb, hs _ h.oq, h.kap, h.kst, h.bap, h.born, h.sz⟩
/-- a change outside -/
theorem TB.chg (h : TB S w b p L cb PL cp) (hc : Chg T w w') (hT : ∀ k, S k → ¬ T k) : TB S w' b p L cb PL cp :=
  ⟨h.mb.chg hc (hT _ h.ob), fun e he => (h.ok e he).chg hc (hT _ (h.ok e he).og) (fun ad e1 => hT _ ((h.ok e he).ol ad e1)) (fun ad e1 => hT _ ((h.ok e he).op ad e1)) (Nat.le_refl _), h.ap, h.mp.chg hc (hT _ h.op),
    fun q hq => (h.pok q hq).chg hc (hT _ (h.pok q hq).oq) (Nat.le_refl _), h.pap, h.bp, h.pb, h.ob, h.op, fun k hk => Nat.lt_of_lt_of_le (h.lt k hk) hc.size⟩
theorem TB.grew (h : TB S w b p L cb PL cp) (hc : Grew w w') : TB S w' b p L cb PL cp := h.chg hc fun _ _ e => e
/-- .. of blocks that came later -/
theorem TB.later {_w0 : World} (h : TB S w b p L cb PL cp) (hc : Chg (fun k => w.heap.size ≤ k) w w') : TB S w' b p L cb PL cp := h.chg hc fun k hk e => by have := h.lt k hk; omega

theorem TB.kst (_ : TB S w b p L cb PL cp) : ∀ y ∈ (L.map HEnt.ent).toArray.toList, ∃ s, y.key = .string s := fun y hy => by
  obtain ⟨e, _, rfl⟩ := List.mem_map.1 (by simpa using hy)
  exact ⟨_, rfl⟩
theorem TB.kap (h : TB S w b p L cb PL cp) : KAp (L.map HEnt.ent).toArray.toList := by
  show List.Pairwise _ _
  exact List.Pairwise.map _ (fun a b h e => h.key (by injection e)) h.ap
theorem TB.bap (h : TB S w b p L cb PL cp) : BAp (L.map HEnt.ent) cb := ⟨by
  rw [List.map_map]
  exact List.Pairwise.map _ (fun a b h => h.born) h.ap, fun x hx => by
  obtain ⟨e, he, rfl⟩ := List.mem_map.1 hx
  exact (h.ok e he).born⟩
theorem TB.lst (h : TB S w b p L cb PL cp) : ∀ y ∈ (PL.map PEnt.ent).toArray.toList, ∃ l, y.key = lbK l ∧ SzL l := fun y hy => by
  obtain ⟨e, he, rfl⟩ := List.mem_map.1 (by simpa using hy)
  exact ⟨e.l, rfl, (h.pok e he).sz⟩
theorem TB.lap (h : TB S w b p L cb PL cp) : KAp (PL.map PEnt.ent).toArray.toList := by
  show List.Pairwise _ _
  exact List.Pairwise.map _ (fun a b h e => h.l (lbK_inj e)) h.pap
theorem run_zeroPtr (w : World) : (zeroValue 62).run Tryd.prog w = .ok (.pointer none) w := by kernel_rfl
theorem run_zeroMap (w : World) : (zeroValue 79).run Tryd.prog w = .ok (.map none) w := by kernel_rfl
theorem run_zeroInt (w : World) : (zeroValue 3).run Tryd.prog w = .ok (.int .i64 0) w := by kernel_rfl
/-- asked by a set's bytes -/
theorem TB.askN (h : TB S w b p L cb PL cp) {s : ByteArray} (hs : ∀ e ∈ L, e.key ≠ s) : (Instr.lookup 54 (.map (some b)) (.string s) false).run Tryd.prog w = .ok (.pointer none) w :=
  run_lookN klS Tryd.underlying54 (run_zeroPtr w) h.mb ⟨s, rfl⟩ h.kst fun y hy e => by
    obtain ⟨x, hx, rfl⟩ := List.mem_map.1 (by simpa using hy)
    injection e with e
    exact hs x hx e
theorem TB.askS (h : TB S w b p L cb PL cp) {e : HEnt} (he : e ∈ L) : (Instr.lookup 54 (.map (some b)) (.string e.key) false).run Tryd.prog w = .ok (.pointer (some ⟨e.g, 0, none⟩)) w := by
  obtain ⟨i, hi⟩ := List.getElem?_of_mem he
  exact run_lookS (y := e.ent) klS Tryd.underlying54 h.mb ⟨_, rfl⟩ h.kst h.kap (i := i) (by simp [hi]) rfl
/-- asked by a label -/
theorem TB.pskN (h : TB S w b p L cb PL cp) {l : Lab} (hz : SzL l) (hs : ∀ q ∈ PL, q.l ≠ l) : (Instr.lookup 55 (.map (some p)) (lbK l) false).run Tryd.prog w = .ok (.map none) w :=
  run_lookN klL Tryd.underlying55 (run_zeroMap w) h.mp ⟨l, rfl, hz⟩ h.lst fun y hy e => by
    obtain ⟨x, hx, rfl⟩ := List.mem_map.1 (by simpa using hy)
    exact hs x hx (lbK_inj e)
theorem TB.pskS (h : TB S w b p L cb PL cp) {q : PEnt} (hq : q ∈ PL) : (Instr.lookup 55 (.map (some p)) (lbK q.l) false).run Tryd.prog w = .ok (.map (some q.q)) w := by
  obtain ⟨i, hi⟩ := List.getElem?_of_mem hq
  exact run_lookS (y := q.ent) klL Tryd.underlying55 h.mp ⟨q.l, rfl, (h.pok q hq).sz⟩ h.lst h.lap (i := i) (by simp [hi]) rfl
end
section
variable {S S' T : Nat → Prop} {w w' : World} {h b p : Nat} {L : List HEnt} {cb : Nat} {PL : List PEnt} {cp lim : Nat}
theorem HS.chg (h0 : HS S w h b p L cb PL cp lim) (hc : Chg T w w') (hT : ∀ k, S k → ¬ T k) : HS S w' h b p L cb PL cp lim := ⟨h0.hd.chg hc (hT _ h0.oh), h0.tb.chg hc hT, h0.rel, h0.non, h0.oh, h0.ml, h0.len⟩
theorem HS.grew (h0 : HS S w h b p L cb PL cp lim) (hc : Grew w w') : HS S w' h b p L cb PL cp lim := h0.chg hc fun _ _ e => e
end
end Go.Proofs.YtailooldnelecaaDoor
