/-
  Several texts in one:
  Series in memory; points that rise. Conditions: none.
  Points of a stretch; series and points counted. Conditions: lengths that memory bears.
-/
import Derived.Test.YtjgbdkokcgcpjaaDoorPart14
import Derived.Test.YtjgbdkokcgcpjaaDoorPart13

namespace Go.Proofs.YtjgbdkokcgcpjaaDoor
open Go.RowKit

/-- a series as it lies in cells: two slices -/
structure SerM where
  la : Option Addr
  ln : Nat
  lc : Nat
  pa : Option Addr
  pn : Nat
  pc : Nat
def elSr : El SerM := ⟨fun s => [.slice s.la s.ln s.lc, .slice s.pa s.pn s.pc], 2, fun _ => rfl, by
  intro x u hu
  simp only [List.mem_cons, List.not_mem_nil, or_false] at hu
  rcases hu with rfl | rfl <;> rfl⟩
theorem infoSr : (Tryd.prog.info? 46).map (fun i => (i.zero, i.size, i.bytes)) = some (some (.agg #[.slice none 0 0, .slice none 0 0]), 2, 48) := by kernel_rfl
structure SrIs (w : World) (m : SerM) (s : Ser) : Prop where
  lb : RE elLb w m.la m.ln s.lbs
  pt : RE elPt w m.pa m.pn s.pts
  lc : m.ln ≤ m.lc ∧ m.lc ≤ 9223372036854775807
  pc : m.pn ≤ m.pc ∧ m.pc ≤ 9223372036854775807
theorem SrIs.grew {w w' : World} {m : SerM} {s : Ser} (h : SrIs w m s) (hc : Grew w w') : SrIs w' m s := ⟨h.lb.grew hc, h.pt.grew hc, h.lc, h.pc⟩
/-- a slice's cells are these series -/
def RS (w : World) (A : Option Addr) (n : Nat) (ss : List Ser) : Prop := ∃ ms : List SerM, RE elSr w A n ms ∧ ms.length = ss.length ∧ ∀ (i : Nat) (m : SerM) (s : Ser), ms[i]? = some m → ss[i]? = some s → SrIs w m s
theorem RS.grew {w w' : World} {A : Option Addr} {n : Nat} {ss : List Ser} (h : RS w A n ss) (hc : Grew w w') : RS w' A n ss := by
  obtain ⟨ms, h1, h2, h3⟩ := h
  exact ⟨ms, h1.grew hc, h2, fun i m s hm hs => (h3 i m s hm hs).grew hc⟩
theorem RS.len {w : World} {A : Option Addr} {n : Nat} {ss : List Ser} (h : RS w A n ss) : ss.length = n := by
  obtain ⟨ms, h1, h2, _⟩ := h
  rw [← h2, h1.1]
theorem RS.nil (w : World) (A : Option Addr) : RS w A 0 [] := ⟨[], RE.nil _ _, rfl, fun i m s hm => by simp at hm⟩
theorem RS.at_ {w : World} {A : Option Addr} {n : Nat} {ss : List Ser} (h : RS w A n ss) {k : Nat} (hk : k < n) :
    ∃ ad m s, A = some ad ∧ ss[k]? = some s ∧ SrIs w m s ∧ w.cell? (ad.add (k * 2)) = some (.slice m.la m.ln m.lc) ∧ w.cell? ⟨(ad.add (k * 2)).block, (ad.add (k * 2)).off + 1, none⟩ = some (.slice m.pa m.pn m.pc) := by
  obtain ⟨ms, h1, h2, h3⟩ := h
  obtain ⟨ad, m, e, hm, hc⟩ := h1.at_ hk (by decide)
  have hs : ss[k]? = some (ss[k]'(by have := h1.1; omega)) := List.getElem?_eq_getElem _
  exact ⟨ad, m, _, e, hs, h3 k m _ hm hs, hc 0 _ rfl, cell_off (by decide) (hc 1 _ rfl)⟩
theorem RS.drop {w : World} {ad : Addr} {n : Nat} {ss : List Ser} (h : RS w (some ad) n ss) (i : Nat) : RS w (some (ad.add (i * 2))) (n - i) (ss.drop i) := by
  obtain ⟨ms, h1, h2, h3⟩ := h
  refine ⟨ms.drop i, h1.drop i, by rw [List.length_drop, List.length_drop, h2], fun j m s hm hs => ?_⟩
  rw [List.getElem?_drop] at hm hs
  exact h3 _ m s hm hs

def upP : List Ptn → Bool
  | p :: q :: r => decide (p.1 < q.1) && upP (q :: r)
  | _ => true
theorem upP_iff : ∀ {ps : List Ptn}, upP ps = true ↔ Rise ps
  | [] => by simp [upP, Rise]
  | [p] => by simp [upP, Rise]
  | p :: q :: r => by
    rw [upP, Bool.and_eq_true, decide_eq_true_iff, upP_iff]
    unfold Rise
    rw [List.pairwise_cons (a := p), List.pairwise_cons (a := q)]
    constructor
    · rintro ⟨h1, h2, h3⟩
      refine ⟨fun x hx => ?_, h2, h3⟩
      rcases List.mem_cons.1 hx with rfl | hx
      · exact h1
      · have := h2 x hx
        omega
    · rintro ⟨h1, h2⟩
      exact ⟨h1 q (by simp), h2⟩
theorem upP_drop {ps : List Ptn} {k : Nat} {p q : Ptn} (hp : ps[k]? = some p) (hq : ps[k + 1]? = some q) : upP (ps.drop k) = (decide (p.1 < q.1) && upP (ps.drop (k + 1))) := by
  obtain ⟨h1, h2⟩ := List.getElem?_eq_some_iff.1 hp
  obtain ⟨h3, h4⟩ := List.getElem?_eq_some_iff.1 hq
  rw [List.drop_eq_getElem_cons h1, List.drop_eq_getElem_cons h3, h2, h4, upP]
def risB (ps : List Ptn) : Bool := upP ps && decide (0 < ps.length)
theorem risB_iff {ps : List Ptn} : risB ps = true ↔ Rise ps ∧ ps ≠ [] := by
  unfold risB
  rw [Bool.and_eq_true, upP_iff, decide_eq_true_iff, List.length_pos_iff]

set_option maxHeartbeats 2000000 in
theorem rise_any (A : Option Addr) (n c : Nat) (ps : List Ptn) (w : World) (h : RE elPt w A n ps) (hn : n ≤ 9223372036854775807) :
    Calls Tryd.prog 35 #[.slice A n c] w fun e w' => e = .returned (.bool (risB ps)) ∧ Grew w w' := by
  have hln := h.1
  obtain ⟨z, hz⟩ : ∃ z, upP ps = z := ⟨_, rfl⟩
  unfold risB
  rw [hln, hz]
  have hz0 : Hid (z = upP (ps.drop 0)) := hz.symm
  clear hz
  go_enter Tryd.func35, Tryd.ntmps35
  go_wp2
  go_loopw [3] (fun i wr => ∃ k : Nat, i = .int .i64 ((k : Int) + 1) ∧ k ≤ n ∧ Hid (z = upP (ps.drop k)) ∧ Grew w wr) (fun i _ => n + 1 - (intOf i).toNat)
  case atStart => exact ⟨0, rfl, by omega, hz0, Chg.refl _ _⟩
  case round =>
    obtain ⟨k, rfl, hk, hc, hg⟩ := hrel
    by_cases hlt : k + 1 < n
    · obtain ⟨ad, p, rfl, hp, p0, p1⟩ := (h.grew hg).pt (show k < n by omega)
      obtain ⟨ad2, q, he, hq, q0, q1⟩ := (h.grew hg).pt hlt
      injection he with he
      subst he
      have hv := hc.out
      rw [upP_drop hp hq] at hv
      clear hc hp hq p1 q1
      by_cases hb : p.1 < q.1
      · rw [decide_eq_true hb, Bool.true_and] at hv
        have hv := Lib.hid hv
        have e1 : decide (q.1 ≤ p.1) = false := decide_eq_false (by omega)
        go_wp2_with fail
        refine wp_region_text [(2, 1), (3, 1)] (by kernel_rfl) (by kernel_rfl) ?_
        simp only [instr, chk, look, Nat.reduceBEq, if_true, if_false, Nat.reduceEqDiff, List.cons_append, List.nil_append]
        go_wp2_with fail
        refine OnlyN.normal ?_
        go_wp2
        go_roundw
        case rel => exact ⟨k + 1, by go_num, by omega, hv, hg.drew⟩
        case measure => simp [intOf] <;> omega
      · rw [decide_eq_false hb, Bool.false_and] at hv
        have hv := Lib.hid hv
        have e1 : decide (q.1 ≤ p.1) = true := decide_eq_true (by omega)
        go_wp2_with fail
        refine wp_region_text [(2, 1), (3, 1)] (by kernel_rfl) (by kernel_rfl) ?_
        simp only [instr, chk, look, Nat.reduceBEq, if_true, if_false, Nat.reduceEqDiff, List.cons_append, List.nil_append]
        go_wp2_with fail
        refine OnlyN.normal ?_
        go_wp2
        go_ret
        exact ⟨by rw [hv.out]; simp, hg.drew⟩
    · have hv : Hid (z = true) := by
        have := hc.out
        rcases hd : ps.drop k with _ | ⟨p, r⟩
        · rw [hd] at this
          exact this
        · have hl := congrArg List.length hd
          rw [List.length_drop] at hl
          simp only [List.length_cons] at hl
          obtain rfl : r = [] := List.eq_nil_of_length_eq_zero (by omega)
          rw [hd] at this
          exact this
      clear hc
      by_cases hn0 : 0 < n
      · have e1 : decide (0 < n) = true := decide_eq_true hn0
        go_wp2
        go_ret
        exact ⟨by rw [hv.out]; simp [hn0], hg⟩
      · have e1 : decide (0 < n) = false := decide_eq_false hn0
        go_wp2
        go_ret
        exact ⟨by rw [hv.out]; simp [hn0], hg⟩
end Go.Proofs.YtjgbdkokcgcpjaaDoor

namespace Go.Proofs.YtjgbdkokcgcpjaaDoor
open Go.RowKit

/-- what is left of a slice behind its first element, as the machine's address has it -/
theorem RE.tl {α : Type} {E : El α} {w : World} {ad : Addr} {n c : Nat} {l : List α} (h : RE E w (some ad) n l) (hs : 0 < E.sz) (hn : 0 < n) (hc : n ≤ c) :
    RE E w (if c = 1 then some ad else some { block := ad.block, off := ad.off + E.sz }) (n - 1) (l.drop 1) := by
  by_cases h1 : c = 1
  · obtain rfl : n = 1 := by omega
    rw [if_pos h1]
    have : l.drop 1 = [] := List.drop_of_length_le (by rw [h.1]; omega)
    rw [this]
    exact RE.nil _ _
  · rw [if_neg h1]
    have h2 := h.drop 1
    rw [Nat.one_mul] at h2
    have e : ad.add E.sz = { block := ad.block, off := ad.off + E.sz } := by
      unfold Addr.add
      rw [if_neg (by omega)]
    rwa [e] at h2

def lenS : Value → Nat
  | .slice _ n _ => n
  | _ => 0
def okP (f t : Int) (p : Ptn) : Bool := decide (f ≤ p.1) && decide (p.1 ≤ t)
def clipP (f t : Int) (ps : List Ptn) : List Ptn := ps.filter (okP f t)
theorem take_snoc {α : Type} {l : List α} {k : Nat} {x : α} (h : l[k]? = some x) : l.take (k + 1) = l.take k ++ [x] := by
  rw [List.take_add_one, h]
  rfl
theorem clipP_yes {f t : Int} {ps : List Ptn} {k : Nat} {p : Ptn} (h : ps[k]? = some p) (h1 : f ≤ p.1) (h2 : p.1 ≤ t) : clipP f t (ps.take (k + 1)) = clipP f t (ps.take k) ++ [p] := by
  rw [take_snoc h, clipP, List.filter_append]
  simp [clipP, okP, h1, h2]
theorem clipP_no {f t : Int} {ps : List Ptn} {k : Nat} {p : Ptn} (h : ps[k]? = some p) (h1 : ¬ (f ≤ p.1 ∧ p.1 ≤ t)) : clipP f t (ps.take (k + 1)) = clipP f t (ps.take k) := by
  rw [take_snoc h, clipP, List.filter_append]
  have : okP f t p = false := by
    unfold okP
    rw [Bool.and_eq_false_iff, decide_eq_false_iff_not, decide_eq_false_iff_not]
    omega
  simp [clipP, this]
theorem clipP_len (f t : Int) (ps : List Ptn) (k : Nat) : (clipP f t (ps.take k)).length ≤ k := by
  refine Nat.le_trans (List.length_filter_le _ _) ?_
  rw [List.length_take]
  omega

set_option maxHeartbeats 2000000 in
theorem clip_any (A : Option Addr) (n c : Nat) (ps : List Ptn) (f t : Int) (w : World) (h : RE elPt w A n ps) (hn : n ≤ 8796093022208) :
    Calls Tryd.prog 43 #[.slice A n c, .int .i64 f, .int .i64 t] w (NewPt w (clipP f t ps).length (clipP f t ps)) := by
  have hln := h.1
  go_enter Tryd.func43, Tryd.ntmps43
  go_wp2
  go_loopw [7, 12] (fun o i wr => ∃ (k m : Nat) (B : Option Addr) (C : Nat), k ≤ n ∧ i = .int .i64 (k : Int) ∧ o = .slice B m C ∧ Hid (m = (clipP f t (ps.take k)).length) ∧ OE elPt wr w.heap.size 49 B m C (clipP f t (ps.take k)) ∧ Grew w wr) (fun o i _ => n - (intOf i).toNat)
  case atStart => exact ⟨0, 0, none, 0, by omega, rfl, rfl, rfl, OE.nil _ _ _, Chg.refl _ _⟩
  case round =>
    obtain ⟨k, m, B, C, hk, rfl, rfl, hm, ho, hg⟩ := hrel
    have hmk := clipP_len f t ps k
    rw [← hm.out] at hmk
    have hsz := hg.size
    by_cases hlt : k < n
    · obtain ⟨ad, p, rfl, hp, p0, p1⟩ := (h.grew hg).pt hlt
      have hbx : Blk (wr.alloc (.cells #[.int .i64 p.1, .int .u64 (p.2 : Int)] 49)) wr.heap.size 49 #[.int .i64 p.1, .int .u64 (p.2 : Int)] := Blk.new wr _ _
      have b0 := hbx.cell 0
      have b1 := hbx.cell 1
      by_cases h1 : f ≤ p.1
      · by_cases h2 : p.1 ≤ t
        · have hy := clipP_yes (f := f) (t := t) hp h1 h2
          have e1 : decide (f ≤ p.1) = true := decide_eq_true h1
          have e2 : decide (p.1 ≤ t) = true := decide_eq_true h2
          generalize clipP f t (ps.take k) = out at *
          have hy := Lib.hid hy
          have ho1 : OE elPt ((wr.alloc (.cells #[.int .i64 p.1, .int .u64 (p.2 : Int)] 49)).alloc (.cells #[.int .i64 p.1, .int .u64 (p.2 : Int)] 49)) w.heap.size 49 B m C out := (ho.grew ((Chg.refl _ wr).alloc _)).grew ((Chg.refl _ _).alloc _)
          have hg1 : Grew w ((wr.alloc (.cells #[.int .i64 p.1, .int .u64 (p.2 : Int)] 49)).alloc (.cells #[.int .i64 p.1, .int .u64 (p.2 : Int)] 49)) := (hg.alloc _).alloc _
          have hsrc : RE elPt ((wr.alloc (.cells #[.int .i64 p.1, .int .u64 (p.2 : Int)] 49)).alloc (.cells #[.int .i64 p.1, .int .u64 (p.2 : Int)] 49)) (some ⟨(wr.alloc (.cells #[.int .i64 p.1, .int .u64 (p.2 : Int)] 49)).heap.size, 0, none⟩) 1 [p] := RE.newAt rfl rfl rfl
          rw [World.size_alloc] at hsrc
          have hA : Hid (∀ ad, B = some ad → w.heap.size ≤ ad.block) := fun ad e => (Own.blk_lt ho ad e).1
          clear hp h1 h2 ho
          go_wp2_with (at_builtin; refine wpList_appE rfl _ _ 44 49 infoPt rfl Tryd.underlying44 rfl w.heap.size B m C out rfl ho1 (by simp; omega) _ 1 1 [p] rfl hsrc (by unfold maxLen; omega) (by omega) ?_; intro B2 C2 w2 h2)
          go_roundw
          case rel => exact ⟨k + 1, m + 1, B2, C2, by omega, by go_num, rfl, by show _ = _; rw [hy.out, hm.out, List.length_append]; rfl, by rw [hy.out]; exact h2.oe, h2.grew hg1 hA.out⟩
          case measure => simp [intOf] <;> omega
        · have hy := clipP_no (f := f) (t := t) hp (fun e => h2 e.2)
          have e1 : decide (f ≤ p.1) = true := decide_eq_true h1
          have e2 : decide (p.1 ≤ t) = false := decide_eq_false h2
          rw [← hy] at ho hm
          clear hp h1 h2 hy
          go_wp2
          go_roundw
          case rel => exact ⟨k + 1, m, B, C, by omega, by go_num, rfl, hm, ho.grew ((Chg.refl _ wr).alloc _), hg.alloc _⟩
          case measure => simp [intOf] <;> omega
      · have hy := clipP_no (f := f) (t := t) hp (fun e => h1 e.1)
        have e1 : decide (f ≤ p.1) = false := decide_eq_false h1
        rw [← hy] at ho hm
        clear hp h1 hy
        go_wp2
        go_roundw
        case rel => exact ⟨k + 1, m, B, C, by omega, by go_num, rfl, hm, ho.grew ((Chg.refl _ wr).alloc _), hg.alloc _⟩
        case measure => simp [intOf] <;> omega
    · obtain rfl : k = n := by omega
      rw [List.take_of_length_le (by omega)] at ho hm
      go_wp2
      go_ret
      exact ⟨B, C, by rw [hm.out]; simp, by rw [← hm.out]; exact ho, hg⟩

/-- points of all series -/
def tot (ss : List Ser) : Nat := (ss.map (fun s => s.pts.length)).sum
theorem tot_snoc {ss : List Ser} {k : Nat} {s : Ser} (h : ss[k]? = some s) : tot (ss.take (k + 1)) = tot (ss.take k) + s.pts.length := by
  rw [take_snoc h, tot, List.map_append, List.sum_append]
  simp [tot]
theorem tot_take (ss : List Ser) (k : Nat) : tot (ss.take k) ≤ tot ss := by
  conv => rhs; rw [← List.take_append_drop k ss, tot, List.map_append, List.sum_append]
  exact Nat.le_add_right _ _

set_option maxHeartbeats 2000000 in
theorem count_any (A : Option Addr) (n c : Nat) (ss : List Ser) (w : World) (h : RS w A n ss) (hn : n ≤ 9223372036854775807) (ht : tot ss ≤ 9223372036854775807) :
    Calls Tryd.prog 20 #[.slice A n c] w fun e w' => e = .returned (.tuple #[.int .i64 (n : Int), .int .i64 (tot ss : Int)]) ∧ Grew w w' := by
  have hln := h.len
  go_enter Tryd.func20, Tryd.ntmps20
  go_wp2
  go_loopw [4, 9] (fun s i wr => ∃ (k t : Nat), k ≤ n ∧ i = .int .i64 (k : Int) ∧ s = .int .i64 (t : Int) ∧ Hid (t = tot (ss.take k)) ∧ Grew w wr) (fun s i _ => n - (intOf i).toNat)
  case atStart => exact ⟨0, 0, by omega, rfl, rfl, rfl, Chg.refl _ _⟩
  case round =>
    obtain ⟨k, t, hk, rfl, rfl, hm, hg⟩ := hrel
    by_cases hlt : k < n
    · obtain ⟨ad, m, s, rfl, hs, hsi, x0, x1⟩ := (h.grew hg).at_ hlt
      have hst := tot_snoc hs
      have htk := tot_take ss (k + 1)
      rw [hst, ← hm.out] at htk
      have hpl := hsi.pt.1
      rw [hpl] at htk hst
      rw [← hm.out] at hst
      have hst := Lib.hid hst.symm
      clear hs hsi hpl
      go_wp2
      go_roundw
      case rel => exact ⟨k + 1, t + m.pn, by omega, by go_num, by go_num, hst, hg.alloc _⟩
      case measure => simp [intOf] <;> omega
    · obtain rfl : k = n := by omega
      rw [List.take_of_length_le (by omega)] at hm
      have hm := Lib.hid hm.out
      go_wp2
      refine bodyPost_ret (v := .tuple #[.int .i64 (k : Int), .int .i64 (t : Int)]) ?_ rfl ⟨by rw [← hm.out], hg⟩
      simp [results, Tryd.results20, go_sem]
end Go.Proofs.YtjgbdkokcgcpjaaDoor
