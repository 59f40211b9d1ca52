/-
  Several texts in one:
  (index.gather) at each of its two closures. Conditions: what the closures gather, as premises.
  (index.upright) over any metas. Conditions: at most 300 metas, of at most 64 sources each.
-/
import Derived.Test.YtjoaonppaokhhaaGreatPart47

namespace Go.Proofs.YtjoaonppaokhhaaGreat
open Go.RowKit

/-- what gather answers of the IDs -/
def gIds (ids : List Nat) : List Nat := if ids.length < 2 then [] else srtN ids

set_option maxRecDepth 100000 in
set_option maxHeartbeats 8000000 in
theorem gatherU (Q : List Nat → Prop) (c1 c2 : Value) (w : World)
    (hE : ∀ W g, Grew w W → w.heap.size ≤ g → Lst W g [] [] → Calls Tryz.prog 108 #[.func (.func 106) #[.pointer (some ⟨g, 0, none⟩)] #[], c1, c2] W fun e w' => e = .returned (.tuple #[]) ∧ (∃ ids all, Q ids ∧ ids.length ≤ 100000 ∧ Lst w' g ids all) ∧ Chg (fun k => g ≤ k) W w') :
    Calls Tryz.prog 107 #[.func (.func 108) #[] #[c1, c2]] w fun e w' => ∃ ids A n c, Q ids ∧ e = .returned (.slice A n c) ∧ OE elU w' w.heap.size 22 A n c (gIds ids) ∧ Grew w w' := by
  have hmf : ∀ (fn : Fn) (first cap : Array Value) (w : World), (Instr.makeFunc fn first cap).run Tryz.prog w = .ok (.func fn first cap) w := fun _ _ _ _ => rfl
  have hL0 := Lst.new w
  have g0 : Grew w (w.alloc (.cells #[.slice none 0 0, .slice none 0 0] 123)) := (Chg.refl _ w).alloc _
  obtain ⟨W, hW⟩ : ∃ W, W = w.alloc (.cells #[.slice none 0 0, .slice none 0 0] 123) := ⟨_, rfl⟩
  rw [← hW] at hL0 g0
  have hC := hE W w.heap.size g0 (Nat.le_refl _) hL0
  clear hE
  go_enter Tryz.func107, Tryz.ntmps107
  go_wp2_with fail
  rw [← hW]
  refine hC.mono ?_
  rintro e w1 ⟨rfl, ⟨ids, all, hQ, hil, A, c, B, k, d, hL⟩, hch⟩
  have i0 : w1.cell? ⟨w.heap.size, 0, none⟩ = some (.slice A ids.length c) := hL.bk.cell 0
  have gw1 : Grew w w1 := g0.step hch fun k hk e => by omega
  replace hQ := Lib.hid hQ
  clear hC hW
  by_cases h2 : ids.length < 2
  · have hlt : (ids.length : Int) < 2 := by omega
    have hg : Hid (gIds ids = []) := if_pos h2
    replace hL := Lib.hid hL
    go_wp2
    go_ret
    exact ⟨ids, none, 0, 0, hQ.out, rfl, by rw [hg.out]; exact OE.nil _ _ _, gw1⟩
  · have hlt : ¬ (ids.length : Int) < 2 := by omega
    have hg : Hid (gIds ids = srtN ids) := if_neg h2
    go_wp2_with fail
    refine (sorts_all ids (by omega) A ids.length c w.heap.size _ hL.ri).mono ?_
    rintro e w2 ⟨rfl, o2, ch2⟩
    have i2 : w2.cell? ⟨w.heap.size, 0, none⟩ = some (.slice A ids.length c) := (hL.bk.chg ch2 fun ⟨ad, e, hk⟩ => Own.ne_blk hL.ri hL.bk (by decide) ad e hk.symm).cell 0
    have gw2 : Grew w w2 := gw1.step ch2 fun k hk ⟨ad, e, hk2⟩ => by have := (Own.blk_lt hL.ri ad e).1; omega
    clear i0 hlt ch2 hch gw1
    replace o2 := Lib.hid o2
    go_wp2
    go_ret
    exact ⟨ids, A, _, c, hQ.out, rfl, by rw [hg.out]; exact o2.out, gw2⟩

set_option maxRecDepth 100000 in
set_option maxHeartbeats 8000000 in
theorem gatherL (Q : List Nat → Prop) (c1 c2 c3 : Value) (w : World)
    (hE : ∀ W g, Grew w W → w.heap.size ≤ g → Lst W g [] [] → Calls Tryz.prog 112 #[.func (.func 106) #[.pointer (some ⟨g, 0, none⟩)] #[], c1, c2, c3] W fun e w' => e = .returned (.tuple #[]) ∧ (∃ ids all, Q ids ∧ ids.length ≤ 100000 ∧ Lst w' g ids all) ∧ Chg (fun k => g ≤ k) W w') :
    Calls Tryz.prog 107 #[.func (.func 112) #[] #[c1, c2, c3]] w fun e w' => ∃ ids A n c, Q ids ∧ e = .returned (.slice A n c) ∧ OE elU w' w.heap.size 22 A n c (gIds ids) ∧ Grew w w' := by
  have hmf : ∀ (fn : Fn) (first cap : Array Value) (w : World), (Instr.makeFunc fn first cap).run Tryz.prog w = .ok (.func fn first cap) w := fun _ _ _ _ => rfl
  have hL0 := Lst.new w
  have g0 : Grew w (w.alloc (.cells #[.slice none 0 0, .slice none 0 0] 123)) := (Chg.refl _ w).alloc _
  obtain ⟨W, hW⟩ : ∃ W, W = w.alloc (.cells #[.slice none 0 0, .slice none 0 0] 123) := ⟨_, rfl⟩
  rw [← hW] at hL0 g0
  have hC := hE W w.heap.size g0 (Nat.le_refl _) hL0
  clear hE
  go_enter Tryz.func107, Tryz.ntmps107
  go_wp2_with fail
  rw [← hW]
  refine hC.mono ?_
  rintro e w1 ⟨rfl, ⟨ids, all, hQ, hil, A, c, B, k, d, hL⟩, hch⟩
  have i0 : w1.cell? ⟨w.heap.size, 0, none⟩ = some (.slice A ids.length c) := hL.bk.cell 0
  have gw1 : Grew w w1 := g0.step hch fun k hk e => by omega
  replace hQ := Lib.hid hQ
  clear hC hW
  by_cases h2 : ids.length < 2
  · have hlt : (ids.length : Int) < 2 := by omega
    have hg : Hid (gIds ids = []) := if_pos h2
    replace hL := Lib.hid hL
    go_wp2
    go_ret
    exact ⟨ids, none, 0, 0, hQ.out, rfl, by rw [hg.out]; exact OE.nil _ _ _, gw1⟩
  · have hlt : ¬ (ids.length : Int) < 2 := by omega
    have hg : Hid (gIds ids = srtN ids) := if_neg h2
    go_wp2_with fail
    refine (sorts_all ids (by omega) A ids.length c w.heap.size _ hL.ri).mono ?_
    rintro e w2 ⟨rfl, o2, ch2⟩
    have i2 : w2.cell? ⟨w.heap.size, 0, none⟩ = some (.slice A ids.length c) := (hL.bk.chg ch2 fun ⟨ad, e, hk⟩ => Own.ne_blk hL.ri hL.bk (by decide) ad e hk.symm).cell 0
    have gw2 : Grew w w2 := gw1.step ch2 fun k hk ⟨ad, e, hk2⟩ => by have := (Own.blk_lt hL.ri ad e).1; omega
    clear i0 hlt ch2 hch gw1
    replace o2 := Lib.hid o2
    go_wp2
    go_ret
    exact ⟨ids, A, _, c, hQ.out, rfl, by rw [hg.out]; exact o2.out, gw2⟩
end Go.Proofs.YtjoaonppaokhhaaGreat

namespace Go.Proofs.YtjoaonppaokhhaaGreat
open Go.RowKit

/-- no pair (i, j') with j' below j overlaps and fits -/
def NoP (d : Array MtM) (n i j : Nat) : Prop := ∀ j', j' < j → j' < n → i ≠ j' → ovB (d[i]!).m (d[j']!).m = true → 64 < (allOf (metP d [i, j'])).length
def NoAll (d : Array MtM) (n i : Nat) : Prop := ∀ i', i' < i → NoP d n i' n
theorem NoP.step {d : Array MtM} {n i j : Nat} (h : NoP d n i j) (hn : i = j ∨ ovB (d[i]!).m (d[j]!).m = false ∨ 64 < (allOf (metP d [i, j])).length) : NoP d n i (j + 1) := fun j' hj hjn hij hov => by
  rcases Nat.lt_or_ge j' j with e | e
  · exact h j' e hjn hij hov
  · have : j' = j := by omega
    subst this
    rcases hn with e2 | e2 | e2
    · exact absurd e2 hij
    · rw [e2] at hov
      cases hov
    · exact e2
theorem NoAll.step {d : Array MtM} {n i : Nat} (h : NoAll d n i) (hn : NoP d n i n) : NoAll d n (i + 1) := fun i' hi => by
  rcases Nat.lt_or_ge i' i with e | e
  · exact h i' e
  · have : i' = i := by omega
    subst this
    exact hn
theorem no_two {d : Array MtM} {i j : Nat} (h : fitB (metP d [i]) (d[j]!).m = false) : 64 < (allOf (metP d [i, j])).length := by
  have := of_decide_eq_false h
  show 64 < (allOf (metP d [i] ++ [(d[j]!).m])).length
  omega
theorem allOf_le (G : List Met) (m : Met) : (allOf G).length ≤ (allOf (G ++ [m])).length := by
  obtain ⟨h1, h2⟩ := allOf_facts G
  obtain ⟨h3, h4⟩ := allOf_facts (G ++ [m])
  refine List.Nodup.length_le_of_subset (h1.imp fun h => Nat.ne_of_lt h) fun x hx => ?_
  obtain ⟨m', hm, h⟩ := (h2 x).1 hx
  exact (h4 x).2 ⟨m', List.mem_append_left _ hm, h⟩
theorem no_one {d : Array MtM} {i j : Nat} (h : fitB [] (d[i]!).m = false) : 64 < (allOf (metP d [i, j])).length := by
  have h1 := of_decide_eq_false h
  have h2 := allOf_le (metP d [i]) (d[j]!).m
  have h3 : (allOf (metP d [i])).length = (allOf ([] ++ [(d[i]!).m])).length := rfl
  have h4 : (allOf (metP d [i, j])).length = (allOf (metP d [i] ++ [(d[j]!).m])).length := rfl
  omega
theorem PlR.chgP {S : Nat → Prop} {w0 w : World} {gb n C : Nat} {d : Array MtM} (h : PlR w0 gb n C d) (hc : Chg S w0 w) (hb : ¬ S gb) (he : ∀ x ∈ d.toList, ∀ ad, x.A = some ad → 0 < x.n → ¬ S ad.block) : PlR w gb n C d := by
  obtain ⟨base, hr⟩ := h.row
  exact ⟨⟨base, hr.far hc hb⟩, fun x hx => (h.el x hx).far hc (he x hx), h.sz, h.src⟩
/-- what upright answers -/
structure UpA (d : Array MtM) (n : Nat) (p : List Nat) : Prop where
  good : p = [] ∨ ∃ P, Gat n P ∧ 2 ≤ P.length ∧ (allOf (metP d P)).length ≤ 64 ∧ p = srtN ((metP d P).map Met.id)
  none : p = [] → NoAll d n n

set_option maxRecDepth 100000 in
set_option maxHeartbeats 16000000 in
theorem upright_any (gb o C n : Nat) (d : Array MtM) (w : World) (ho : o = 0) (hr : PlR w gb n C d) (hn0 : 0 < n) :
    Calls Tryz.prog 79 #[.slice (some ⟨gb, o, none⟩) n C] w fun e w' => ∃ p A k c, UpA d n p ∧ e = .returned (.slice A k c) ∧ OE elU w' w.heap.size 22 A k c p ∧ Grew w w' := by
  have hmf : ∀ (fn : Fn) (first cap : Array Value) (w : World), (Instr.makeFunc fn first cap).run Tryz.prog w = .ok (.func fn first cap) w := fun _ _ _ _ => rfl
  obtain ⟨G, hG⟩ : ∃ G : Nat → MtM, ∀ k, G k = d[k]! := ⟨fun k => d[k]!, fun _ => rfl⟩
  have hsz := hr.size
  have hn3 := hr.sz
  replace hG := Lib.hid hG
  replace ho := Lib.hid ho
  replace hsz := Lib.hid hsz
  go_enter Tryz.func79, Tryz.ntmps79
  go_wp2_with fail
  go_step3
  go_wp2_with fail
  go_step3
  go_wp2_with fail
  obtain ⟨W0, hW0⟩ : ∃ W, W = allocL w [(.cells #[.slice (some ⟨gb, o, none⟩) n C] 54), (.cells #[.int .i64 (-1)] 3)] := ⟨_, rfl⟩
  rw [show (w.alloc (.cells #[.slice (some ⟨gb, o, none⟩) n C] 54)).alloc (.cells #[.int .i64 (-1)] 3) = W0 from hW0.symm]
  have g0 : Grew w W0 := by rw [hW0]; exact allocL_grew _ _
  have bM : Blk W0 w.heap.size 54 #[.slice (some ⟨gb, o, none⟩) n C] := by rw [hW0]; exact allocL_at _ _ 0 _ _ rfl
  have bF : Blk W0 (w.heap.size + 1) 3 #[.int .i64 (-1)] := by rw [hW0]; exact allocL_at _ _ 1 _ _ rfl
  have hs0 : w.heap.size + 2 ≤ W0.heap.size := by have := bF.lt; omega
  clear hW0
  go_loopw [11] (fun vi wr => ∃ i : Nat, i ≤ n ∧ vi = .int .i64 (i : Int) ∧ NoAll d n i ∧ Grew W0 wr) (fun vi _ => n - (intOf vi).toNat)
  case atStart => exact ⟨0, Nat.zero_le _, rfl, fun i' hi => by omega, Chg.refl _ _⟩
  case round =>
    obtain ⟨i, hi, rfl, hI, h1⟩ := hrel
    replace hI := Lib.hid hI
    by_cases hlt : i < n
    · have hltz : (i : Int) < (n : Int) := by omega
      have b0 : wr.cell? ⟨w.heap.size, 0, none⟩ = some (.slice (some ⟨gb, o, none⟩) n C) := (bM.grew h1).cell 0
      have lm := (bM.grew h1).lt
      have lb := ((hr.grew g0).grew h1).lt
      obtain ⟨c0, c1, c2, c3, c4, c5, c6, _⟩ := (hr.grew (g0.trans h1)).fam ho.out (by omega) G hG.out
      have x0 := c0 i (by omega)
      have x1 := c1 i (by omega)
      have x2 := c2 i (by omega)
      have x3 := c3 i (by omega)
      have x4 := c4 i (by omega)
      have x5 := c5 i (by omega)
      have x6 := c6 i (by omega)
      clear c0 c1 c2 c3 c4 c5 c6
      go_wp2_with fail
      have gA : Grew wr (wr.alloc (.cells #[.int .u64 ((G i).m.id : Int), .int .i64 (G i).m.lo, .int .i64 (G i).m.hi, .int .i64 (G i).m.lv, .slice (G i).A (G i).n (G i).c, .int .i64 (G i).m.sr, .int .i64 (G i).m.pt] 28)) := (Chg.refl _ wr).alloc _
      have bA : Blk (wr.alloc (.cells #[.int .u64 ((G i).m.id : Int), .int .i64 (G i).m.lo, .int .i64 (G i).m.hi, .int .i64 (G i).m.lv, .slice (G i).A (G i).n (G i).c, .int .i64 (G i).m.sr, .int .i64 (G i).m.pt] 28)) wr.heap.size 28 #[.int .u64 ((G i).m.id : Int), .int .i64 (G i).m.lo, .int .i64 (G i).m.hi, .int .i64 (G i).m.lv, .slice (G i).A (G i).n (G i).c, .int .i64 (G i).m.sr, .int .i64 (G i).m.pt] := Blk.new _ _ _
      have hw1 := h1.trans gA
      clear b0 lm lb x0 x1 x2 x3 x4 x5 x6
      generalize (wr.alloc (.cells #[.int .u64 ((G i).m.id : Int), .int .i64 (G i).m.lo, .int .i64 (G i).m.hi, .int .i64 (G i).m.lv, .slice (G i).A (G i).n (G i).c, .int .i64 (G i).m.sr, .int .i64 (G i).m.pt] 28)) = wo at *
      generalize wr.heap.size = ga at *
      clear gA h1
      go_loopw [18] (fun vj wq => ∃ j : Nat, j ≤ n ∧ vj = .int .i64 (j : Int) ∧ NoP d n i j ∧ Grew wo wq) (fun vj _ => n - (intOf vj).toNat)
      case atStart => exact ⟨0, Nat.zero_le _, rfl, fun j' hj => by omega, Chg.refl _ _⟩
      case round =>
        obtain ⟨j, hj, rfl, hJ, ho1⟩ := hrel
        have h1 := hw1.trans ho1
        have zo := ho1.size
        replace hJ := Lib.hid hJ
        by_cases hjl : j < n
        · have hjz : (j : Int) < (n : Int) := by omega
          have b0 : wr.cell? ⟨w.heap.size, 0, none⟩ = some (.slice (some ⟨gb, o, none⟩) n C) := (bM.grew h1).cell 0
          have bA1 : Blk wr ga 28 #[.int .u64 ((G i).m.id : Int), .int .i64 (G i).m.lo, .int .i64 (G i).m.hi, .int .i64 (G i).m.lv, .slice (G i).A (G i).n (G i).c, .int .i64 (G i).m.sr, .int .i64 (G i).m.pt] := bA.grew ho1
          have lm := (bM.grew h1).lt
          have lb := ((hr.grew g0).grew h1).lt
          have lA := bA1.lt
          obtain ⟨c0, c1, c2, c3, c4, c5, c6, _⟩ := (hr.grew (g0.trans h1)).fam ho.out (by omega) G hG.out
          have y0 := c0 j (by omega)
          have y1 := c1 j (by omega)
          have y2 := c2 j (by omega)
          have y3 := c3 j (by omega)
          have y4 := c4 j (by omega)
          have y5 := c5 j (by omega)
          have y6 := c6 j (by omega)
          clear c0 c1 c2 c3 c4 c5 c6
          have g7 : Grew wr ((wr.alloc (.cells #[.int .u64 ((G j).m.id : Int), .int .i64 (G j).m.lo, .int .i64 (G j).m.hi, .int .i64 (G j).m.lv, .slice (G j).A (G j).n (G j).c, .int .i64 (G j).m.sr, .int .i64 (G j).m.pt] 28)).alloc (.cells #[.slice none 0 0, .slice none 0 0] 123)) := ((Chg.refl _ wr).alloc _).alloc _
          have bA7 := bA1.grew g7
          have bB7 : Blk ((wr.alloc (.cells #[.int .u64 ((G j).m.id : Int), .int .i64 (G j).m.lo, .int .i64 (G j).m.hi, .int .i64 (G j).m.lv, .slice (G j).A (G j).n (G j).c, .int .i64 (G j).m.sr, .int .i64 (G j).m.pt] 28)).alloc (.cells #[.slice none 0 0, .slice none 0 0] 123)) wr.heap.size 28 #[.int .u64 ((G j).m.id : Int), .int .i64 (G j).m.lo, .int .i64 (G j).m.hi, .int .i64 (G j).m.lv, .slice (G j).A (G j).n (G j).c, .int .i64 (G j).m.sr, .int .i64 (G j).m.pt] := (Blk.new wr _ _).alloc _
          have a0 := bA7.cell 0
          have a1 := bA7.cell 1
          have a2 := bA7.cell 2
          have a3 := bA7.cell 3
          have a4 := bA7.cell 4
          have a5 := bA7.cell 5
          have a6 := bA7.cell 6
          simp only [List.getElem?_toArray, List.getElem?_cons_succ, List.getElem?_cons_zero] at a0 a1 a2 a3 a4 a5 a6
          have e0 := bB7.cell 0
          have e1 := bB7.cell 1
          have e2 := bB7.cell 2
          have e3 := bB7.cell 3
          have e4 := bB7.cell 4
          have e5 := bB7.cell 5
          have e6 := bB7.cell 6
          simp only [List.getElem?_toArray, List.getElem?_cons_succ, List.getElem?_cons_zero] at e0 e1 e2 e3 e4 e5 e6
          have L7 : Lst ((wr.alloc (.cells #[.int .u64 ((G j).m.id : Int), .int .i64 (G j).m.lo, .int .i64 (G j).m.hi, .int .i64 (G j).m.lv, .slice (G j).A (G j).n (G j).c, .int .i64 (G j).m.sr, .int .i64 (G j).m.pt] 28)).alloc (.cells #[.slice none 0 0, .slice none 0 0] 123)) (wr.heap.size + 1) [] [] := by
            have := Lst.new (wr.alloc (.cells #[.int .u64 ((G j).m.id : Int), .int .i64 (G j).m.lo, .int .i64 (G j).m.hi, .int .i64 (G j).m.lv, .slice (G j).A (G j).n (G j).c, .int .i64 (G j).m.sr, .int .i64 (G j).m.pt] 28))
            rwa [World.size_alloc] at this
          have z0 := g0.size
          have z1 := h1.size
          by_cases hij : i = j
          · have hijb : ((i : Int) != (j : Int)) = false := by simp [hij]
            have hN : Hid (NoP d n i (j + 1)) := hJ.out.step (.inl hij)
            have gN : Hid (Grew wo ((wr.alloc (.cells #[.int .u64 ((G j).m.id : Int), .int .i64 (G j).m.lo, .int .i64 (G j).m.hi, .int .i64 (G j).m.lv, .slice (G j).A (G j).n (G j).c, .int .i64 (G j).m.sr, .int .i64 (G j).m.pt] 28)).alloc (.cells #[.slice none 0 0, .slice none 0 0] 123))) := ho1.trans g7
            replace hij := Lib.hid hij
            clear bA1 bA7 bB7 L7 g7 z0 z1
            go_wp2
            go_roundw
            case rel => exact ⟨j + 1, by omega, by go_num, hN.out, gN.out⟩
            case measure => simp [intOf]; omega
          · have hijb : ((i : Int) != (j : Int)) = true := by simp; omega
            have hijz : ¬ ((i : Int) = (j : Int)) := by omega
            have hO := fun w => overlap_any (G i).m (G j).m (G i).A (G j).A (G i).n (G i).c (G j).n (G j).c w
            by_cases hov : ovB (G i).m (G j).m = true
            · simp only [hov] at hO
              replace hov := Lib.hid hov
              go_wp2_with fail
              refine (hO _).mono ?_
              rintro e w8 ⟨rfl, g8⟩
              have bA8 := bA7.grew g8
              have bB8 := bB7.grew g8
              clear a0 a1 a2 a3 a4 a5 a6 e0 e1 e2 e3 e4 e5 e6 y0 y1 y2 y3 y4 y5 y6 hO
              have a0 := bA8.cell 0
              have a1 := bA8.cell 1
              have a2 := bA8.cell 2
              have a3 := bA8.cell 3
              have a4 := bA8.cell 4
              have a5 := bA8.cell 5
              have a6 := bA8.cell 6
              simp only [List.getElem?_toArray, List.getElem?_cons_succ, List.getElem?_cons_zero] at a0 a1 a2 a3 a4 a5 a6
              have h8 : Grew W0 w8 := (h1.trans g7).trans g8
              have o8 : Grew wo w8 := (ho1.trans g7).trans g8
              have hA1 := ladd_u (wr.heap.size + 1) [] (G i) w8 (L7.grew g8) (by rw [hG.out]; exact (((hr.grew g0).grew h8).el _ (mem_getU (by rw [hsz.out]; exact hlt)))) (Nat.zero_le _) (Nat.zero_le _) (by rw [hG.out]; exact hr.src _ (mem_getU (by rw [hsz.out]; exact hlt)))
              cases hf1 : fitB [] (G i).m
              · have hN : Hid (NoP d n i (j + 1)) := hJ.out.step (.inr (.inr (no_one (by rw [← hG.out]; exact hf1))))
                rw [hf1] at hA1
                go_wp2_with fail
                refine hA1.mono ?_
                rintro e w9 ⟨rfl, L9, ch9⟩
                have gN : Hid (Grew wo w9) := o8.step ch9 fun k hk e => by omega
                clear a0 a1 a2 a3 a4 a5 a6 hA1 L9 ch9 bA8 bB8 bA1 bA7 bB7 L7 g7 g8 z0 z1 h8 o8
                go_wp2
                go_roundw
                case rel => exact ⟨j + 1, by omega, by go_num, hN.out, gN.out⟩
                case measure => simp [intOf]; omega
              · have hg1 : addG [] (G i).m = metP d [i] := by
                  unfold addG
                  rw [hf1, hG.out]
                  rfl
                rw [hf1, hg1] at hA1
                go_wp2_with fail
                refine hA1.mono ?_
                rintro e w9 ⟨rfl, L9, ch9⟩
                have h9 : Grew W0 w9 := h8.step ch9 fun k hk e => by omega
                have o9 : Grew wo w9 := o8.step ch9 fun k hk e => by omega
                have bB9 := bB8.chg ch9 (by omega)
                clear a0 a1 a2 a3 a4 a5 a6 hA1
                have a0 := bB9.cell 0
                have a1 := bB9.cell 1
                have a2 := bB9.cell 2
                have a3 := bB9.cell 3
                have a4 := bB9.cell 4
                have a5 := bB9.cell 5
                have a6 := bB9.cell 6
                simp only [List.getElem?_toArray, List.getElem?_cons_succ, List.getElem?_cons_zero] at a0 a1 a2 a3 a4 a5 a6
                have hl1 : (allOf (metP d [i])).length ≤ 64 := by
                  have := of_decide_eq_true hf1
                  rw [hG.out] at this
                  exact this
                have hA2 := ladd_u (wr.heap.size + 1) (metP d [i]) (G j) w9 L9 (by rw [hG.out]; exact (((hr.grew g0).grew h9).el _ (mem_getU (by rw [hsz.out]; exact hjl)))) (by simp [metP]) hl1 (by rw [hG.out]; exact hr.src _ (mem_getU (by rw [hsz.out]; exact hjl)))
                cases hf2 : fitB (metP d [i]) (G j).m
                · have hN : Hid (NoP d n i (j + 1)) := hJ.out.step (.inr (.inr (no_two (by rw [← hG.out]; exact hf2))))
                  rw [hf2] at hA2
                  go_wp2_with fail
                  refine hA2.mono ?_
                  rintro e w10 ⟨rfl, L10, ch10⟩
                  have gN : Hid (Grew wo w10) := o9.step ch10 fun k hk e => by omega
                  clear a0 a1 a2 a3 a4 a5 a6 hA2 L10 ch10 L9 ch9 bA8 bB8 bB9 bA1 bA7 bB7 L7 g7 g8 z0 z1 h8 h9 o8 o9
                  go_wp2
                  go_roundw
                  case rel => exact ⟨j + 1, by omega, by go_num, hN.out, gN.out⟩
                  case measure => simp [intOf]; omega
                · rw [hf2] at hA2
                  have hfitj : (allOf (metP d [i, j])).length ≤ 64 := by
                    have := of_decide_eq_true hf2
                    rw [hG.out] at this
                    exact this
                  go_wp2_with fail
                  refine hA2.mono ?_
                  rintro e w10 ⟨rfl, L10, ch10⟩
                  have h10 : Grew W0 w10 := h9.step ch10 fun k hk e => by omega
                  clear a0 a1 a2 a3 a4 a5 a6 hA2 L10 ch10 L9 ch9 bA8 bB8 bB9 bA1 bA7 bB7 L7 g7 g8 h8 h9 o8 o9
                  have bF10 := bF.grew h10
                  have q0 := bF10.cell 0
                  have qf := bF10.frozen 0
                  simp only [List.getElem?_toArray, List.getElem?_cons_zero] at q0
                  have hst : Chg (fun k => k = w.heap.size + 1) w10 (w10.setCell ⟨w.heap.size + 1, 0, none⟩ (.int .i64 (i : Int))) := Chg.one _ _ _ _
                  have bF11 := bF10.set 0 (.int .i64 (i : Int))
                  simp only [List.setIfInBounds_toArray, List.set_cons_zero] at bF11
                  have bM11 := (bM.grew h10).chg hst (by omega)
                  have hlb := hr.lt
                  have hr11 := PlR.chgP ((hr.grew g0).grew h10) hst (by omega) (by
                    intro x hx ad e hk he
                    have h1 := RE.lt (hr.el x hx) (by decide) ad e hk
                    omega)
                  have g11 : Grew w (w10.setCell ⟨w.heap.size + 1, 0, none⟩ (.int .i64 (i : Int))) := (g0.trans h10).setCell (p := ⟨w.heap.size + 1, 0, none⟩) (.inl (by show w.heap.size ≤ w.heap.size + 1; omega)) _
                  obtain ⟨W11, hW11⟩ : ∃ W, W = w10.setCell ⟨w.heap.size + 1, 0, none⟩ (.int .i64 (i : Int)) := ⟨_, rfl⟩
                  rw [← hW11] at bF11 bM11 hr11 g11
                  have hQ := gatherU (fun ids => ∃ P, Gth d n i n P ∧ ids = (metP d P).map Met.id) (.pointer (some ⟨w.heap.size, 0, none⟩)) (.pointer (some ⟨w.heap.size + 1, 0, none⟩)) W11 fun W g hg hl hL => by
                    refine (up1_any W11 w.heap.size (w.heap.size + 1) gb o C n i d ho.out hr11 bM11 bF11 hlt hl1 W g hg hl hL).mono ?_
                    rintro e w' ⟨rfl, ⟨P, hP, hL2⟩, hc⟩
                    exact ⟨rfl, ⟨_, _, ⟨P, hP, rfl⟩, by rw [List.length_map]; unfold metP; rw [List.length_map]; have := hP.gat.len; omega, hL2⟩, hc⟩
                  have hU : Hid (∀ ids, (∃ P, Gth d n i n P ∧ ids = (metP d P).map Met.id) → UpA d n (gIds ids)) := by
                    rintro ids ⟨P, hP, rfl⟩
                    have h2 : 2 ≤ P.length := hP.all j hjl (fun e => hij e.symm) (by rw [← hG.out, ← hG.out]; exact hov.out) hfitj
                    have hl : ¬ ((metP d P).map Met.id).length < 2 := by rw [List.length_map]; unfold metP; rw [List.length_map]; omega
                    unfold gIds
                    rw [if_neg hl]
                    exact ⟨.inr ⟨P, hP.gat, h2, hP.len, rfl⟩, fun e => by
                      have := congrArg List.length e
                      rw [srtN_len, List.length_nil] at this
                      omega⟩
                  have i0 := bF11.cell 0
                  simp only [List.getElem?_toArray, List.getElem?_cons_zero] at i0
                  replace bF11 := Lib.hid bF11
                  replace bM11 := Lib.hid bM11
                  clear hst bF10 h10 h1
                  go_wp2_with fail
                  rw [← hW11]
                  refine hQ.mono ?_
                  rintro e w12 ⟨ids, A, k, c, hids, rfl, o12, g12⟩
                  have hz := g11.size
                  have o13 : OE elU w12 w.heap.size 22 A k c (gIds ids) := Own.mono o12 hz
                  have g13 := g11.trans g12
                  have hU2 := Lib.hid (hU.out ids hids)
                  clear hQ q0 qf i0 o12 hids hU
                  go_wp2
                  rw [Exit.noGoto_ret]
                  go_ret
                  exact ⟨_, A, k, c, hU2.out, rfl, o13, g13⟩
            · have hov2 : ovB (G i).m (G j).m = false := by simpa using hov
              have hN : Hid (NoP d n i (j + 1)) := hJ.out.step (.inr (.inl (by rw [← hG.out, ← hG.out]; exact hov2)))
              simp only [hov2] at hO
              replace hov2 := Lib.hid hov2
              replace hov := Lib.hid hov
              go_wp2_with fail
              refine (hO _).mono ?_
              rintro e w8 ⟨rfl, g8⟩
              have gN : Hid (Grew wo w8) := (ho1.trans g7).trans g8
              clear a0 a1 a2 a3 a4 a5 a6 e0 e1 e2 e3 e4 e5 e6 y0 y1 y2 y3 y4 y5 y6 hO bA1 bA7 bB7 L7 g7 g8 z0 z1
              go_wp2
              go_roundw
              case rel => exact ⟨j + 1, by omega, by go_num, hN.out, gN.out⟩
              case measure => simp [intOf]; omega
        · have hjz : ¬ ((j : Int) < (n : Int)) := by omega
          have hN : Hid (NoAll d n (i + 1)) := hI.out.step (by
            have e : j = n := by omega
            have h9 := hJ.out
            rw [e] at h9
            exact h9)
          have gN : Hid (Grew W0 wr) := h1
          clear h1
          go_wp2
          go_roundw
          case rel => exact ⟨i + 1, by omega, by go_num, hN.out, gN.out⟩
          case measure => simp [intOf]; omega
    · have hltz : ¬ ((i : Int) < (n : Int)) := by omega
      have hN : Hid (NoAll d n n) := by
        have e : i = n := by omega
        have h9 := hI.out
        rw [e] at h9
        exact h9
      have bF1 := bF.grew h1
      have q0 := bF1.cell 0
      simp only [List.getElem?_toArray, List.getElem?_cons_zero] at q0
      have g1 := g0.trans h1
      clear bF1 h1
      go_wp2
      first
        | (rw [Exit.noGoto_ret]; go_ret)
        | go_ret
      exact ⟨[], none, 0, 0, ⟨.inl rfl, fun _ => hN.out⟩, rfl, OE.nil _ _ _, g1⟩
end Go.Proofs.YtjoaonppaokhhaaGreat
