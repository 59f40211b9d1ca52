/-
  Several texts in one:
  (index.level). Conditions: at most 300 metas, of at most 64 sources each.
  (index.level) over any metas: none, or blocks that are gathered. Conditions: at most 300 metas, of at most 64 sources each.
  (slices.SortStableFunc) by (index.Plan)'s comparison at three given blocks, which lie sorted. Conditions: none.
-/
import Derived.Test.YtjoaonppaokhhaaGreatPart49
import Derived.Test.YtjoaonppaokhhaaGreatPart50
import Derived.Laws.EntriesVeiled
import Derived.Test.YtjoaonppaokhhaaGreatPart43

namespace Go.Proofs.YtjoaonppaokhhaaGreat
open Go.RowKit

theorem findNow_int (x : Int) : ∀ (es : List MapEntry) (i : Nat), (∀ e ∈ es, ∃ s, e.key = .int .i64 s) →
    (Instr.findNow (.int .i64) (.int .i64 x) es i = some none ∧ ∀ e ∈ es, e.key ≠ .int .i64 x) ∨ ∃ (j : Nat) (e : MapEntry), Instr.findNow (.int .i64) (.int .i64 x) es i = some (some (i + j, e.val)) ∧ es[j]? = some e ∧ e.key = .int .i64 x
  | [], i, _ => .inl ⟨rfl, fun e h => by cases h⟩
  | e :: es, i, h => by
    obtain ⟨s, hs⟩ := h e (by simp)
    by_cases hx : x = s
    · subst hx
      refine .inr ⟨0, e, ?_, rfl, hs⟩
      simp [Instr.findNow, hs, Instr.sameNow]
    · have hb : (x == s) = false := by simp [hx]
      rcases findNow_int x es (i + 1) (fun y hy => h y (by simp [hy])) with ⟨h1, h2⟩ | ⟨j, e', h1, h2, h3⟩
      · refine .inl ⟨by simp [Instr.findNow, hs, Instr.sameNow, hb, h1], fun y hy => ?_⟩
        rcases List.mem_cons.1 hy with rfl | hy
        · rw [hs]
          intro e
          injection e with _ e
          exact hx e.symm
        · exact h2 y hy
      · exact .inr ⟨j + 1, e', by simp [Instr.findNow, hs, Instr.sameNow, hb, h1, Nat.add_assoc, Nat.add_comm 1 j], by simpa using h2, h3⟩
theorem kl_int {P : Program} {k : TypeId} (hk : P.underlying k = some (.int .i64)) : KL P k (fun v => ∃ s, v = .int .i64 s) where
  check := fun w em v ⟨s, e⟩ => by
    subst e
    exact MapKept.run_checkKey hk (k := .int .i64 s) (by first | exact rfl | simp [MapKept.IsKey]) em 9999
  find := fun w x ⟨s, e⟩ es hall => by
    subst e
    rcases findNow_int s es 0 hall with ⟨h1, h2⟩ | ⟨j, e, h1, h2, h3⟩
    · exact .inl ⟨MapKept.run_findKey hk h1, h2⟩
    · exact .inr ⟨j, e, by have := MapKept.run_findKey (P := P) (w := w) hk h1; simpa using this, h2, h3⟩
  stays := fun w v ⟨s, e⟩ => by
    subst e
    exact MapKept.run_keyThatStays (d := .int .i64) (k := .int .i64 s) (by first | exact rfl | simp [MapKept.IsKey])
theorem wpList_putI {P : Program} {ops : Array Oper} {rest : List Oper} {o : Oper} {a : Act} {w : World} {Q : Exit → Act → World → Prop} (hg : o.guard = none) (m x v : Operand) (t : TypeId) (hop : o.op = Op.mapUpdate t m x v) (b : Nat) (hm : a.eval m = .map (some b)) (s : Int) (hx : a.eval x = .int .i64 s) (u : Value) (hv : a.eval v = u) (w' : World)
    (hrun : (Instr.mapUpdate t (.map (some b)) (.int .i64 s) u).run P w = .ok () w') (hK : wpList P ops Q rest (a.put o.dst undef) w') : wpList P ops Q (o :: rest) a w := by
  refine wpList_plain hg fun K' hK' => ?_
  unfold Oper.wp
  simp [execOp, hop, hm, hx, hv, hrun, Result.andThen]
  exact hK' _ _ hK
theorem mod_set {es : Array MapEntry} {i : Nat} {y : MapEntry} (f : MapEntry → MapEntry) (hi : es.toList[i]? = some y) : (es.modify i f).toList = es.toList.set i (f y) := by
  apply List.ext_getElem?
  intro j
  rw [Array.getElem?_toList, Array.getElem?_modify, List.getElem?_set, ← Array.getElem?_toList]
  have hl : i < es.toList.length := (List.getElem?_eq_some_iff.1 hi).1
  by_cases hij : i = j
  · subst hij
    rw [if_pos rfl, if_pos rfl, hi, if_pos hl]
    rfl
  · rw [if_neg hij, if_neg hij]
/-- a map from numbers to counts -/
structure MpI (w : World) (b : Nat) : Prop where
  ex : ∃ es clock, MapB w b es clock ∧ (∀ y ∈ es.toList, ∃ z, y.key = .int .i64 z) ∧ KAp es.toList ∧ ∀ y ∈ es.toList, ∃ v, y.val = .int .i64 v
theorem MpI.lt {w : World} {b : Nat} (h : MpI w b) : b < w.heap.size := by
  obtain ⟨es, cl, h1, _⟩ := h.ex
  exact h1.lt
theorem MpI.chg {S : Nat → Prop} {w w' : World} {b : Nat} (h : MpI w b) (hc : Chg S w w') (hn : ¬ S b) : MpI w' b := by
  obtain ⟨es, cl, h1, h2⟩ := h.ex
  exact ⟨es, cl, h1.chg hc hn, h2⟩
theorem MpI.look {w : World} {b : Nat} (h : MpI w b) (x : Int) : ∃ v : Int, (Instr.lookup 127 (.map (some b)) (.int .i64 x) false).run Tryz.prog w = .ok (.int .i64 v) w := by
  obtain ⟨es, cl, h1, h2, h3, h4⟩ := h.ex
  have K := kl_int (P := Tryz.prog) (k := 2) Tryz.underlying2
  by_cases he : ∃ (i : Nat) (y : MapEntry), es.toList[i]? = some y ∧ y.key = .int .i64 x
  · obtain ⟨i, y, hi, hy⟩ := he
    obtain ⟨v, hv⟩ := h4 y (List.mem_of_getElem? hi)
    refine ⟨v, ?_⟩
    rw [run_lookS K Tryz.underlying127 h1 ⟨x, rfl⟩ h2 h3 hi hy, hv]
  · refine ⟨0, run_lookN K Tryz.underlying127 (by simp [go_sem]) h1 ⟨x, rfl⟩ h2 fun y hy e => ?_⟩
    obtain ⟨i, hi⟩ := List.getElem?_of_mem hy
    exact he ⟨i, y, hi, e⟩
theorem MpI.put {w : World} {b : Nat} (h : MpI w b) (x v : Int) : ∃ W, (Instr.mapUpdate 127 (.map (some b)) (.int .i64 x) (.int .i64 v)).run Tryz.prog w = .ok () W ∧ MpI W b ∧ Chg (fun k => k = b) w W := by
  obtain ⟨es, cl, h1, h2, h3, h4⟩ := h.ex
  have K := kl_int (P := Tryz.prog) (k := 2) Tryz.underlying2
  by_cases he : ∃ (i : Nat) (y : MapEntry), es.toList[i]? = some y ∧ y.key = .int .i64 x
  · obtain ⟨i, y, hi, hy⟩ := he
    refine ⟨_, run_putS K Tryz.underlying127 h1 (.int .i64 v) ⟨x, rfl⟩ h2 h3 hi hy, ⟨_, _, h1.set _ _, ?_, ?_, ?_⟩, (Chg.refl (fun k => k = b) w).setB (k := b) (.inr rfl) _⟩
    · rw [mod_set _ hi]
      intro z hz
      rcases List.mem_or_eq_of_mem_set hz with h5 | h5
      · exact h2 z h5
      · exact ⟨x, by rw [h5]⟩
    · rw [mod_set _ hi]
      unfold KAp at *
      rw [List.pairwise_iff_getElem] at *
      have hl : i < es.toList.length := (List.getElem?_eq_some_iff.1 hi).1
      have hkey : ∀ (j : Nat) (hj : j < (es.toList.set i { y with key := .int .i64 x, val := .int .i64 v }).length), ((es.toList.set i { y with key := .int .i64 x, val := .int .i64 v })[j]'hj).key = (es.toList[j]'(by simpa using hj)).key := by
        intro j hj
        rw [List.getElem_set]
        by_cases hij : i = j
        · subst hij
          rw [if_pos rfl]
          have := (List.getElem?_eq_some_iff.1 hi).2
          show Value.int .i64 x = _
          rw [this, hy]
        · rw [if_neg hij]
      intro a b ha hb hab
      rw [hkey, hkey]
      exact h3 a b (by simpa using ha) (by simpa using hb) hab
    · rw [mod_set _ hi]
      intro z hz
      rcases List.mem_or_eq_of_mem_set hz with h5 | h5
      · exact h4 z h5
      · exact ⟨v, by rw [h5]⟩
  · have hno : ∀ y ∈ es.toList, y.key ≠ .int .i64 x := fun y hy e => by
      obtain ⟨i, hi⟩ := List.getElem?_of_mem hy
      exact he ⟨i, y, hi, e⟩
    refine ⟨_, run_putN K Tryz.underlying127 h1 (.int .i64 v) ⟨x, rfl⟩ h2 hno, ⟨_, _, h1.set _ _, ?_, ?_, ?_⟩, (Chg.refl (fun k => k = b) w).setB (k := b) (.inr rfl) _⟩
    all_goals rw [Array.toList_push]
    · intro y hy
      rcases List.mem_append.1 hy with h5 | h5
      · exact h2 y h5
      · rw [List.mem_singleton.1 h5]; exact ⟨x, rfl⟩
    · unfold KAp at *
      rw [List.pairwise_append]
      refine ⟨h3, by simp, fun a ha c hc => ?_⟩
      rw [List.mem_singleton.1 hc]
      exact hno a ha
    · intro y hy
      rcases List.mem_append.1 hy with h5 | h5
      · exact h4 y h5
      · rw [List.mem_singleton.1 h5]; exact ⟨v, rfl⟩
end Go.Proofs.YtjoaonppaokhhaaGreat

namespace Go.Proofs.YtjoaonppaokhhaaGreat
open Go.RowKit

/-- blocks that are gathered: two and more, at places of the row, few enough with their sources -/
def Good (d : Array MtM) (n : Nat) (p : List Nat) : Prop := ∃ P, Gat n P ∧ 2 ≤ P.length ∧ (allOf (metP d P)).length ≤ 64 ∧ p = srtN ((metP d P).map Met.id)
/-- what level answers -/
structure LvA (d : Array MtM) (n : Nat) (p : List Nat) : Prop where
  good : p = [] ∨ Good d n p
/-- what level has laid in memory -/
structure LvM (W0 : World) (s : Nat) (gb o n C : Nat) (now : Int) (d : Array MtM) : Prop where
  row : PlR W0 gb n C d
  bm : Blk W0 s 54 #[.slice (some ⟨gb, o, none⟩) n C]
  bn : Blk W0 (s + 1) 2 #[.int .i64 now]
  bp : Blk W0 (s + 1 + 1 + 1) 129 #[.func (.func 109) #[] #[.pointer (some ⟨s + 1, 0, none⟩)]]
  gb : gb < s
  el : ∀ x ∈ d.toList, ∀ ad, x.A = some ad → 0 < x.n → ad.block < s
theorem LvM.chg {W0 W : World} {s gb o n C : Nat} {now : Int} {d : Array MtM} (h : LvM W0 s gb o n C now d) (hc : Chg (fun k => k = s + 1 + 1) W0 W) : LvM W s gb o n C now d :=
  ⟨h.row.chgP hc (by have := h.gb; omega) fun x hx ad e hk => by have := h.el x hx ad e hk; omega, h.bm.chg hc (by omega), h.bn.chg hc (by omega), h.bp.chg hc (by omega), h.gb, h.el⟩

set_option maxRecDepth 100000 in
set_option maxHeartbeats 16000000 in
theorem level_any (gb o C n : Nat) (now : Int) (d : Array MtM) (w : World) (ho : o = 0) (hr : PlR w gb n C d) (hn0 : 0 < n) :
    Calls Tryz.prog 80 #[.slice (some ⟨gb, o, none⟩) n C, .int .i64 now] w fun e w' => ∃ p A k c, LvA d n p ∧ e = .returned (.slice A k c) ∧ OE elU w' w.heap.size 22 A k c p ∧ Grew w w' := by
  have hmf : ∀ (fn : Fn) (first cap : Array Value) (w : World), (Instr.makeFunc fn first cap).run Tryz.prog w = .ok (.func fn first cap) w := fun _ _ _ _ => rfl
  have hmm := @run_makeMap Tryz.prog
  obtain ⟨G, hG⟩ : ∃ G : Nat → MtM, ∀ k, G k = d[k]! := ⟨fun k => d[k]!, fun _ => rfl⟩
  have hsz := hr.size
  have hn3 := hr.sz
  replace hG := Lib.hid hG
  replace ho := Lib.hid ho
  replace hsz := Lib.hid hsz
  go_enter Tryz.func80, Tryz.ntmps80
  go_wp2_with fail
  obtain ⟨W0, hW0⟩ : ∃ W, W = ((((w.alloc (.cells #[.slice (some ⟨gb, o, none⟩) n C] 54)).alloc (.cells #[.int .i64 now] 2)).alloc (.map #[] 0)).alloc (.cells #[.func (.func 109) #[] #[.pointer (some ⟨w.heap.size + 1, 0, none⟩)]] 129)) := ⟨_, rfl⟩
  rw [← hW0]
  have g0 : Grew w W0 := by rw [hW0]; exact ((((Chg.refl _ w).alloc _).alloc _).alloc _).alloc _
  have hs0 : W0.heap.size = w.heap.size + 1 + 1 + 1 + 1 := by rw [hW0]; simp only [World.size_alloc]
  have mp0 : MpI W0 (w.heap.size + 1 + 1) := by
    have h1 := MapB.new ((w.alloc (.cells #[.slice (some ⟨gb, o, none⟩) n C] 54)).alloc (.cells #[.int .i64 now] 2)) #[] 0
    simp only [World.size_alloc] at h1
    refine ⟨#[], 0, ?_, fun y hy => by simp at hy, by simp [KAp], fun y hy => by simp at hy⟩
    rw [hW0]
    exact h1.grew ((Chg.refl _ _).alloc _)
  have L0 : LvM W0 w.heap.size gb o n C now d := by
    refine ⟨hr.grew g0, ?_, ?_, ?_, hr.lt, fun x hx ad e hk => RE.lt (hr.el x hx) (by decide) ad e hk⟩
    · rw [hW0]
      exact ((((Blk.new w _ _).alloc _).alloc _).alloc _)
    · have h1 := Blk.new (w.alloc (.cells #[.slice (some ⟨gb, o, none⟩) n C] 54)) 2 #[.int .i64 now]
      simp only [World.size_alloc] at h1
      rw [hW0]
      exact (h1.alloc _).alloc _
    · have h1 := Blk.new (((w.alloc (.cells #[.slice (some ⟨gb, o, none⟩) n C] 54)).alloc (.cells #[.int .i64 now] 2)).alloc (.map #[] 0)) 129 #[.func (.func 109) #[] #[.pointer (some ⟨w.heap.size + 1, 0, none⟩)]]
      simp only [World.size_alloc] at h1
      rw [hW0]
      exact h1
  have b0 : W0.cell? ⟨w.heap.size, 0, none⟩ = some (.slice (some ⟨gb, o, none⟩) n C) := L0.bm.cell 0
  replace hs0 := Lib.hid hs0
  clear hW0
  go_wp2
  clear b0
  go_loopw [5, 18] (fun vk vi wr => ∃ (k j c : Nat) (A : Option Addr) (zs : List Int), vk = .slice A j c ∧ vi = .int .i64 (k : Int) ∧ k ≤ n ∧ j ≤ k ∧ OE elZ9 wr W0.heap.size 2 A j c zs ∧ MpI wr (w.heap.size + 1 + 1) ∧ Chg (fun x => x = w.heap.size + 1 + 1) W0 wr) (fun _ vi _ => n - (intOf vi).toNat)
  case atStart => exact ⟨0, 0, 0, none, [], rfl, rfl, Nat.zero_le _, Nat.le_refl _, OE.nil _ _ _, mp0, Chg.refl _ _⟩
  case round =>
    clear mp0
    obtain ⟨k, j, c, A, zs, rfl, rfl, hk, hjk, hO, mp, hc⟩ := hrel
    have L := L0.chg hc
    by_cases hlt : k < n
    · have hltz : (k : Int) < (n : Int) := by omega
      have p0 : wr.cell? ⟨w.heap.size + 1 + 1 + 1, 0, none⟩ = some (.func (.func 109) #[] #[.pointer (some ⟨w.heap.size + 1, 0, none⟩)]) := L.bp.cell 0
      have lp := L.bp.lt
      have lb := L.row.lt
      obtain ⟨c0, c1, c2, c3, c4, c5, c6, _⟩ := L.row.fam ho.out (by omega) G hG.out
      have y0 := c0 k (by omega)
      have y1 := c1 k (by omega)
      have y2 := c2 k (by omega)
      have y3 := c3 k (by omega)
      have y4 := c4 k (by omega)
      have y5 := c5 k (by omega)
      have y6 := c6 k (by omega)
      clear c0 c1 c2 c3 c4 c5 c6
      have gB : Grew wr (wr.alloc (.cells #[.int .u64 ((G k).m.id : Int), .int .i64 (G k).m.lo, .int .i64 (G k).m.hi, .int .i64 (G k).m.lv, .slice (G k).A (G k).n (G k).c, .int .i64 (G k).m.sr, .int .i64 (G k).m.pt] 28)) := (Chg.refl _ wr).alloc _
      have hQ := place_any (G k) now (w.heap.size + 1) _ ((L.bn.grew gB).cell 0) (L.bn.grew gB).lt
      have bc0 : Blk (wr.alloc (.cells #[.int .u64 ((G k).m.id : Int), .int .i64 (G k).m.lo, .int .i64 (G k).m.hi, .int .i64 (G k).m.lv, .slice (G k).A (G k).n (G k).c, .int .i64 (G k).m.sr, .int .i64 (G k).m.pt] 28)) wr.heap.size 28 #[.int .u64 ((G k).m.id : Int), .int .i64 (G k).m.lo, .int .i64 (G k).m.hi, .int .i64 (G k).m.lv, .slice (G k).A (G k).n (G k).c, .int .i64 (G k).m.sr, .int .i64 (G k).m.pt] := Blk.new _ _ _
      go_wp2_with fail
      refine hQ.mono ?_
      rintro e w2 ⟨⟨q, b, rfl⟩, g2⟩
      have gA : Grew wr w2 := gB.trans g2
      have hO2 := Lib.hid (OE.grew hO gA)
      have mp2 := mp.chg gA (fun e => e)
      have hc2 := Lib.hid (hc.grow gA)
      have hsz2 := Nat.le_trans hc.size gA.size
      clear p0 lp lb y0 y1 y2 y3 y4 y5 y6 hQ gB bc0 g2 hc hO mp L gA
      cases b
      · replace mp2 := Lib.hid mp2
        go_wp2
        go_roundw
        case rel => exact ⟨k + 1, j, c, A, zs, rfl, by go_num, by omega, by omega, hO2.out, mp2.out, hc2.out⟩
        case measure => simp [intOf]; omega
      · obtain ⟨v, hlk⟩ := mp2.look q
        obtain ⟨w3, hput, mp3, ch3⟩ := mp2.put q (wrap64 (v + 1))
        have hO3 : Hid (OE elZ9 w3 W0.heap.size 2 A j c zs) := OE.chg hO2.out ch3 fun ad e h => by
          have h1 := (Own.blk_lt hO2.out ad e).1
          have h2 := hs0.out
          omega
        have hc3 := Lib.hid (hc2.out.trans ch3)
        have hsz3 := Nat.le_trans hsz2 ch3.size
        replace mp3 := Lib.hid mp3
        have gX : Grew w3 (w3.alloc (.cells #[.int .i64 q] 2)) := (Chg.refl _ w3).alloc _
        have rI : RE elZ9 (w3.alloc (.cells #[.int .i64 q] 2)) (some ⟨w3.heap.size, 0, none⟩) 1 [q] := RE.newAt rfl rfl rfl
        have oX := OE.grew hO3.out gX
        clear mp2 ch3 hO2 hc2
        go_wp2_with (first | (at_mapUpdate; refine wpList_putI rfl _ _ _ _ rfl (w.heap.size + 1 + 1) rfl q rfl _ rfl w3 hput ?_) | (at_builtin; refine wpList_appE rfl _ _ 126 2 infoZ9 rfl Tryz.underlying126 rfl W0.heap.size A j c zs rfl oX (by first | omega | (simp; omega)) _ 1 1 [q] rfl rI (by unfold maxLen; omega) (by omega) ?_; intro A5 c5 w5 h5))
        have hO5 := Lib.hid h5.oe
        have c5' : Hid (Chg (fun x => x = w.heap.size + 1 + 1) W0 w5) := (hc3.out.grow gX).step h5.chg fun x hx ⟨ad, e, he⟩ => by
          have := (Own.blk_lt oX ad e).1
          omega
        have mp5 : Hid (MpI w5 (w.heap.size + 1 + 1)) := (mp3.out.chg gX (fun e => e)).chg h5.chg fun ⟨ad, e, he⟩ => by
          have h1 := (Own.blk_lt oX ad e).1
          have h2 := hs0.out
          omega
        go_roundw
        case rel => exact ⟨k + 1, j + 1, c5, A5, zs ++ [q], rfl, by go_num, by omega, by omega, hO5.out, mp5.out, c5'.out⟩
        case measure => simp [intOf]; omega
    · have hltz : ¬ ((k : Int) < (n : Int)) := by omega
      have hS := isort_any hO (by omega)
      have hblk : ∀ ad, A = some ad → W0.heap.size ≤ ad.block := fun ad e => (Own.blk_lt hO ad e).1
      clear hO
      go_wp2_with fail
      refine hS.mono ?_
      rintro e w4 ⟨rfl, ⟨ys, hO4⟩, ch4⟩
      have hc4 : Chg (fun x => x = w.heap.size + 1 + 1) W0 w4 := hc.step ch4 fun x hx ⟨ad, e, he⟩ => by have := hblk ad e; omega
      have mp4 : MpI w4 (w.heap.size + 1 + 1) := mp.chg ch4 fun ⟨ad, e, he⟩ => by
        have h1 := hblk ad e
        have h2 := hs0.out
        omega
      have L4 := L0.chg hc4
      have hy := hO4.re (by decide)
      have z4 := hc4.size
      clear hS mp L hc ch4 hO4
      replace mp4 := Lib.hid mp4
      go_wp2
      go_loopw [42] (fun vi wq => ∃ i : Nat, i ≤ j ∧ vi = .int .i64 (i : Int) ∧ Grew w4 wq) (fun vi _ => j - (intOf vi).toNat)
      case atStart => exact ⟨0, Nat.zero_le _, rfl, Chg.refl _ _⟩
      case round =>
        obtain ⟨i, hi, rfl, h4⟩ := hrel
        by_cases hij : i < j
        · have hijz : (i : Int) < (j : Int) := by omega
          obtain ⟨ad, z, rfl, hz, hcl⟩ := (hy.grew h4).at_ hij (by decide)
          have x0 : wr.cell? (ad.add i) = some (.int .i64 z) := by
            have := hcl 0 _ rfl
            have e1 : i * elZ9.sz = i := Nat.mul_one i
            rwa [e1] at this
          clear hcl hz
          have gB : Grew wr (wr.alloc (.cells #[.int .i64 z] 2)) := (Chg.refl _ wr).alloc _
          have mpB := (mp4.out.chg (h4.trans gB) (fun e => e))
          obtain ⟨v, hlk⟩ := mpB.look z
          have bz : Blk (wr.alloc (.cells #[.int .i64 z] 2)) wr.heap.size 2 #[.int .i64 z] := Blk.new _ _ _
          have LB := L4.chg (Chg.of_grew (h4.trans gB))
          have hQ := gatherL (fun ids => ∃ P, Gtl d n n P ∧ ids = (metP d P).map Met.id) (.pointer (some ⟨w.heap.size, 0, none⟩)) (.pointer (some ⟨w.heap.size + 1 + 1 + 1, 0, none⟩)) (.pointer (some ⟨wr.heap.size, 0, none⟩)) (wr.alloc (.cells #[.int .i64 z] 2)) fun W g hg hl hL => by
            refine (lev2_any (wr.alloc (.cells #[.int .i64 z] 2)) w.heap.size (w.heap.size + 1 + 1 + 1) wr.heap.size (w.heap.size + 1) gb o C n now z d ho.out LB.row LB.bm LB.bp bz LB.bn W g hg hl hL).mono ?_
            rintro e w' ⟨rfl, ⟨P, hP, hL2⟩, hcg⟩
            exact ⟨rfl, ⟨_, _, ⟨P, hP, rfl⟩, by rw [List.length_map]; unfold metP; rw [List.length_map]; have := hP.gat.len; omega, hL2⟩, hcg⟩
          have hgB := Lib.hid (h4.trans gB)
          replace mpB := Lib.hid mpB
          replace LB := Lib.hid LB
          replace bz := Lib.hid bz
          clear h4 gB
          by_cases hv : v < 2
          · clear hQ
            go_wp2
            go_roundw
            case rel => exact ⟨i + 1, by omega, by go_num, hgB.out⟩
            case measure => simp [intOf]; omega
          · have hU : Hid (∀ ids, (∃ P, Gtl d n n P ∧ ids = (metP d P).map Met.id) → LvA d n (gIds ids)) := by
              rintro ids ⟨P, hP, rfl⟩
              unfold gIds
              by_cases h2 : ((metP d P).map Met.id).length < 2
              · rw [if_pos h2]
                exact ⟨.inl rfl⟩
              · rw [if_neg h2]
                refine ⟨.inr ⟨P, hP.gat, ?_, hP.len, rfl⟩⟩
                rw [List.length_map] at h2
                unfold metP at h2
                rw [List.length_map] at h2
                omega
            go_wp2_with fail
            refine hQ.mono ?_
            rintro e w12 ⟨ids, B, m, cc, hids, rfl, o12, g12⟩
            have hU2 := Lib.hid (hU.out ids hids)
            have hall : Grew w w12 := (g0.step (hc4.trans (Chg.of_grew (hgB.out.trans g12))) fun x hx e => by omega)
            have o13 : Hid (OE elU w12 w.heap.size 22 B m cc (gIds ids)) := Own.mono o12 (by have h1 := hgB.out.size; have h2 := hs0.out; omega)
            clear hQ hlk x0 hids o12 hU
            go_wp2
            go_ret
            exact ⟨_, B, m, cc, hU2.out, rfl, o13.out, hall⟩
        · have hijz : ¬ ((i : Int) < (j : Int)) := by omega
          have hall : Grew w wr := (g0.step (hc4.trans (Chg.of_grew h4)) fun x hx e => by omega)
          clear h4
          go_wp2
          go_ret
          first
            | exact ⟨[], ⟨.inl rfl⟩, none, 0, 0, rfl, OE.nil _ _ _, hall⟩
            | exact ⟨[], none, 0, 0, ⟨.inl rfl⟩, rfl, OE.nil _ _ _, hall⟩
end Go.Proofs.YtjoaonppaokhhaaGreat

namespace Go.Proofs.YtjoaonppaokhhaaGreat
open Go.RowKit

set_option maxRecDepth 100000 in
set_option maxHeartbeats 8000000 in
theorem minsert_some (gb C : Nat) (A1 : Option Addr) (c1 : Nat) (A2 : Option Addr) (c2 : Nat) (A3 : Option Addr) (c3 : Nat) (w : World) (h : Th3 w gb A1 c1 A2 c2 A3 c3) :
    Calls Tryz.prog 123 #[.slice (some ⟨gb, 0, none⟩) 3 C, .int .i64 0, .int .i64 3, .func (.func 75) #[] #[]] w fun e w' => e = .returned (.tuple #[]) ∧ Grew w w' := by
  obtain ⟨x0, x1, x2, x3, x4, x5, x6⟩ := h.at1
  obtain ⟨y0, y1, y2, y3, y4, y5, y6⟩ := h.at2
  have hP := fun w => plan1_any mt2 mt1 A2 A1 0 c2 0 c1 w
  have hv : cmpM mt2 mt1 = 1 := by decide
  rw [hv] at hP
  clear hv
  go_enter Tryz.func123, Tryz.ntmps123
  go_wp2
  refine wp_loop_rounds 3 ?_
  rw [rounds_succ]
  go_wp2
  refine wp_loop_rounds 1 ?_
  rw [rounds_succ]
  go_wp2_with fail
  refine wp_region_text [(3, 1)] (by kernel_rfl) (by kernel_rfl) ?_
  simp only [instr, chk, look, Nat.reduceBEq, if_true, if_false, Nat.reduceEqDiff, List.cons_append, List.nil_append]
  go_wp2_with fail
  refine (hP _).mono ?_
  rintro e w1 ⟨rfl, g1⟩
  have gw1 : Grew w w1 := Chg.trans (by repeat (first | exact Chg.refl _ _ | apply Chg.alloc | apply Chg.drew)) g1
  have h1 := h.chg gw1 (fun e => e)
  clear x0 x1 x2 x3 x4 x5 x6 y0 y1 y2 y3 y4 y5 y6 hP g1
  obtain ⟨x0, x1, x2, x3, x4, x5, x6⟩ := h1.at2
  obtain ⟨y0, y1, y2, y3, y4, y5, y6⟩ := h1.at3
  have hP := fun w => plan1_any mt3 mt2 A3 A2 0 c3 0 c2 w
  have hv : cmpM mt3 mt2 = 1 := by decide
  rw [hv] at hP
  clear hv
  go_wp2_with fail
  refine OnlyN.normal ?_
  go_wp2
  rw [rounds_succ]
  go_wp2
  refine wp_loop_rounds 1 ?_
  rw [rounds_succ]
  go_wp2_with fail
  refine wp_region_text [(3, 1)] (by kernel_rfl) (by kernel_rfl) ?_
  simp only [instr, chk, look, Nat.reduceBEq, if_true, if_false, Nat.reduceEqDiff, List.cons_append, List.nil_append]
  go_wp2_with fail
  refine (hP _).mono ?_
  rintro e w2 ⟨rfl, g2⟩
  have gw2 : Grew w1 w2 := Chg.trans (by repeat (first | exact Chg.refl _ _ | apply Chg.alloc | apply Chg.drew)) g2
  go_wp2_with fail
  refine OnlyN.normal ?_
  go_wp2
  rw [rounds_succ]
  go_wp2
  first
    | go_end0
    | refine bodyPost_ret (results_none rfl _ _ _) rfl ?_
  exact ⟨rfl, gw1.trans gw2⟩

set_option maxRecDepth 100000 in
set_option maxHeartbeats 8000000 in
theorem mstable_some (gb C : Nat) (A1 : Option Addr) (c1 : Nat) (A2 : Option Addr) (c2 : Nat) (A3 : Option Addr) (c3 : Nat) (w : World) (h : Th3 w gb A1 c1 A2 c2 A3 c3) :
    Calls Tryz.prog 103 #[.slice (some ⟨gb, 0, none⟩) 3 C, .int .i64 3, .func (.func 75) #[] #[]] w fun e w' => e = .returned (.tuple #[]) ∧ Grew w w' := by
  have hI := minsert_some gb C A1 c1 A2 c2 A3 c3 w h
  go_enter Tryz.func103, Tryz.ntmps103
  go_wp2
  refine wp_loop_rounds 1 ?_
  rw [rounds_succ]
  go_wp2_with fail
  refine hI.mono ?_
  rintro e w1 ⟨rfl, g1⟩
  go_wp2
  refine wp_loop_rounds 1 ?_
  rw [rounds_succ]
  go_wp2
  first
    | go_end0
    | refine bodyPost_ret (results_none rfl _ _ _) rfl ?_
  exact ⟨rfl, g1⟩

set_option maxRecDepth 100000 in
set_option maxHeartbeats 8000000 in
theorem msort_some (gb C : Nat) (A1 : Option Addr) (c1 : Nat) (A2 : Option Addr) (c2 : Nat) (A3 : Option Addr) (c3 : Nat) (w : World) (h : Th3 w gb A1 c1 A2 c2 A3 c3) :
    Calls Tryz.prog 74 #[.slice (some ⟨gb, 0, none⟩) 3 C, .func (.func 75) #[] #[]] w fun e w' => e = .returned (.tuple #[]) ∧ Grew w w' := by
  have hI := mstable_some gb C A1 c1 A2 c2 A3 c3 w h
  go_enter Tryz.func74, Tryz.ntmps74
  go_wp2_with fail
  refine hI.mono ?_
  rintro e w1 ⟨rfl, g1⟩
  go_wp2
  first
    | go_end0
    | refine bodyPost_ret (results_none rfl _ _ _) rfl ?_
  exact ⟨rfl, g1⟩
end Go.Proofs.YtjoaonppaokhhaaGreat
