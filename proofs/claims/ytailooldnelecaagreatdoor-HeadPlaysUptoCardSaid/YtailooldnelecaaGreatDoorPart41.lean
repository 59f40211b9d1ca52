/-
  Several texts in one:
  The document's head in memory: its blocks, its series; an empty one, how much it holds. Conditions: lengths that memory bears.
  Where the document's head has a series: plain, and walked. Conditions: lengths that memory bears.
  A point put into a sorted list of series: plain. Conditions: none; no program in sight.
  The document's head while a point goes in: at a series that is there, as a new one. Conditions: none.
-/
import Derived.Test.YtailooldnelecaaGreatDoorPart29
import Derived.Test.YtailooldnelecaaGreatDoorPart30
import Derived.Test.YtailooldnelecaaGreatDoorPart35

namespace Go.Proofs.YtailooldnelecaaGreatDoor
open Go.RowKit

/-- the document's head: a row of series, each with rows of its own; R: its blocks -/
structure RH (R : Nat → Prop) (w : World) (wb lim : Nat) (A : Option Addr) (n c : Nat) (ms : List SerM) (W : List Ser) : Prop where
  hd : Blk w wb 39 #[.int .i64 (lim : Int), .slice A n c]
  row : OE elSr w 0 61 A n c ms
  len : ms.length = W.length
  el : ∀ (i : Nat) (m : SerM) (s : Ser), ms[i]? = some m → W[i]? = some s → NsE w 0 m s
  dis : ms.Pairwise fun a b => ∀ ad bd, a.pa = some ad → b.pa = some bd → ad.block ≠ bd.block
  rh : R wb
  rr : ∀ ad, A = some ad → R ad.block
  rl : ∀ m ∈ ms, ∀ ad, m.la = some ad → R ad.block
  rp : ∀ m ∈ ms, ∀ ad, m.pa = some ad → R ad.block
  lt : ∀ k, R k → k < w.heap.size
def RD (R : Nat → Prop) (w : World) (wb lim : Nat) (W : List Ser) : Prop := ∃ A n c ms, RH R w wb lim A n c ms W
section
variable {R : Nat → Prop} {w w' : World} {wb lim : Nat} {A : Option Addr} {n c : Nat} {ms : List SerM} {W : List Ser}
theorem RH.rs (h : RH R w wb lim A n c ms W) : RS w A n W := ⟨ms, h.row.re (by decide), h.len, fun i m s h1 h2 => (h.el i m s h1 h2).is⟩
theorem RH.ln (h : RH R w wb lim A n c ms W) : W.length = n := h.rs.len
theorem RH.chg {T : Nat → Prop} (h : RH R w wb lim A n c ms W) (hc : Chg T w w') (hT : ∀ k, R k → ¬ T k) : RH R w' wb lim A n c ms W :=
  ⟨h.hd.chg hc (hT _ h.rh), h.row.chg hc fun ad e => hT _ (h.rr ad e), h.len, fun i m s h1 h2 => by
    have hm := List.mem_of_getElem? h1
    exact ⟨(h.el i m s h1 h2).lb.chg hc fun ad e => hT _ (h.rl m hm ad e), (h.el i m s h1 h2).pt.chg hc fun ad e => hT _ (h.rp m hm ad e)⟩, h.dis, h.rh, h.rr, h.rl, h.rp, fun k hk => Nat.lt_of_lt_of_le (h.lt k hk) hc.size⟩
theorem RH.grew (h : RH R w wb lim A n c ms W) (hc : Grew w w') : RH R w' wb lim A n c ms W := h.chg hc fun _ _ e => e
theorem RD.chg {T : Nat → Prop} (h : RD R w wb lim W) (hc : Chg T w w') (hT : ∀ k, R k → ¬ T k) : RD R w' wb lim W := by
  obtain ⟨A, n, c, ms, hR⟩ := h
  exact ⟨A, n, c, ms, hR.chg hc hT⟩
theorem RD.grew (h : RD R w wb lim W) (hc : Grew w w') : RD R w' wb lim W := h.chg hc fun _ _ e => e
theorem RD.lt (h : RD R w wb lim W) : ∀ k, R k → k < w.heap.size := by
  obtain ⟨A, n, c, ms, hR⟩ := h
  exact hR.lt
end

set_option maxRecDepth 100000 in
set_option maxHeartbeats 2000000 in
theorem new8_any (lim : Int) (w : World) (h63 : -9223372036854775808 ≤ lim ∧ lim ≤ 9223372036854775807) : Calls Tryz.prog 5 #[.int .i64 lim] w fun e w' => ∃ wb R, e = .returned (.pointer (some ⟨wb, 0, none⟩)) ∧ RD R w' wb (min (max lim 0) 1024).toNat [] ∧ Grew w w' ∧ ∀ k, R k → w.heap.size ≤ k := by
  obtain ⟨n, hn⟩ : ∃ n : Nat, (min (max lim 0) 1024) = (n : Int) := ⟨(min (max lim 0) 1024).toNat, by omega⟩
  go_enter Tryz.func5, Tryz.ntmps5
  go_wp2
  go_ret
  have hb : Blk (w.alloc (.cells #[.int .i64 (n : Int), .slice none 0 0] 39)) w.heap.size 39 #[.int .i64 (n : Int), .slice none 0 0] := Blk.new w _ _
  refine ⟨w.heap.size, fun k => k = w.heap.size, by simp, ⟨none, 0, 0, [], by rw [hn]; exact hb, OE.nil _ _ _, rfl, fun i m s h => (by simp at h), List.Pairwise.nil, rfl, fun ad e => (by cases e), fun m hm => (by cases hm), fun m hm => (by cases hm), fun k hk => ?_⟩, (Chg.refl _ w).alloc _, fun k hk => by omega⟩
  subst hk
  exact hb.lt

set_option maxRecDepth 100000 in
set_option maxHeartbeats 2000000 in
theorem count8_any {R : Nat → Prop} {w : World} {wb lim : Nat} {W : List Ser} (hD : RD R w wb lim W) (ht : tot W ≤ 9223372036854775807) :
    Calls Tryz.prog 23 #[.pointer (some ⟨wb, 0, none⟩)] w fun e w' => e = .returned (.tuple #[.int .i64 (W.length : Int), .int .i64 (tot W : Int)]) ∧ Grew w w' := by
  obtain ⟨A, n, c, ms, hR⟩ := hD
  have hln := hR.ln
  have hb := Lib.hid fun w' (g : Grew w w') => (hR.hd.grew g).cell 1
  have hrs := hR.rs
  have hcap := hR.row.cap
  have b1 := hR.hd.cell 1
  clear hR
  go_enter Tryz.func23, Tryz.ntmps23
  go_wp2
  clear b1
  go_loopw [4, 5] (fun o i wr => ∃ (k : Nat), k ≤ n ∧ i = .int .i64 (k : Int) ∧ o = .int .i64 (tot (W.take k) : Int) ∧ Grew w wr) (fun _ i _ => n - (intOf i).toNat)
  case atStart => exact ⟨0, by omega, rfl, rfl, Chg.refl _ _⟩
  case round =>
    obtain ⟨k, hk, rfl, rfl, hg⟩ := hrel
    have b1 := hb.out _ hg
    by_cases hlt : k < n
    · obtain ⟨ad, m, s, rfl, hx, hsi, _, z1⟩ := (hrs.grew hg).at_ hlt
      have hst := tot_snoc hx
      have hle := tot_take W (k + 1)
      have hpc := hsi.pc
      have hpl := hsi.pt.1
      replace hst := Lib.hid hst
      generalize htk : tot (W.take k) = q at *
      have hq : q + m.pn ≤ 9223372036854775807 := by have := hst.out; omega
      clear hx hsi hle
      go_wp2
      go_roundw
      case rel => exact ⟨k + 1, by omega, by go_num, by rw [hst.out, ← hpl]; go_num, hg⟩
      case measure => simp [intOf] <;> omega
    · obtain rfl : k = n := by omega
      rw [List.take_of_length_le (by omega)]
      go_wp2
      refine bodyPost_ret (v := .tuple #[.int .i64 (k : Int), .int .i64 (tot W : Int)]) ?_ rfl ⟨by rw [hln], hg⟩
      simp [results, Tryz.results23, go_sem]
end Go.Proofs.YtailooldnelecaaGreatDoor

namespace Go.Proofs.YtailooldnelecaaGreatDoor
open Go.RowKit

/-! ### A list's beginning of which something holds -/
theorem tw_at {α : Type} {p : α → Bool} : ∀ {l : List α} {n : Nat}, n ≤ (l.takeWhile p).length → (∀ x, l[n]? = some x → p x = false) → (l.takeWhile p).length = n
  | [], n, h, _ => by
    have h : n ≤ 0 := h
    show 0 = n
    omega
  | a :: r, 0, _, hp => by
    rw [List.takeWhile_cons, hp a rfl]
    rfl
  | a :: r, n + 1, h, hp => by
    rw [List.takeWhile_cons] at h ⊢
    by_cases ha : p a = true
    · rw [if_pos ha, List.length_cons] at h
      rw [if_pos ha, List.length_cons, tw_at (l := r) (n := n) (by omega) fun x hx => hp x (by simpa using hx)]
    · rw [if_neg ha] at h
      simp at h
theorem tw_go {α : Type} {p : α → Bool} : ∀ {l : List α} {n : Nat} {x : α}, n ≤ (l.takeWhile p).length → l[n]? = some x → p x = true → n + 1 ≤ (l.takeWhile p).length
  | [], n, x, _, h, _ => by cases h
  | a :: r, 0, x, _, h, hp => by
    obtain rfl : a = x := by simpa using h
    rw [List.takeWhile_cons, if_pos hp, List.length_cons]
    omega
  | a :: r, n + 1, x, h, hx, hp => by
    rw [List.takeWhile_cons] at h ⊢
    by_cases ha : p a = true
    · rw [if_pos ha, List.length_cons] at h ⊢
      have := tw_go (l := r) (n := n) (x := x) (by omega) (by simpa using hx) hp
      omega
    · rw [if_neg ha] at h
      simp at h
def posS (W : List Ser) (lbs : List Lab) : Nat := (W.takeWhile fun s => decide (cmpLs s.lbs lbs < 0)).length
theorem posS_le (W : List Ser) (lbs : List Lab) : posS W lbs ≤ W.length := List.IsPrefix.length_le (List.takeWhile_prefix _)
def hasS (W : List Ser) (lbs : List Lab) : Bool := match W[posS W lbs]? with
  | some s => decide (s.lbs = lbs)
  | none => false
theorem posS_cons (s : Ser) (r : List Ser) (lbs : List Lab) : posS (s :: r) lbs = if cmpLs s.lbs lbs < 0 then posS r lbs + 1 else 0 := by
  unfold posS
  rw [List.takeWhile_cons]
  by_cases h : cmpLs s.lbs lbs < 0
  · rw [if_pos h, if_pos (by simpa using h)]
    rfl
  · rw [if_neg h, if_neg (by simpa using h)]
    rfl
/-- in a sorted list a series is where its place is, or nowhere -/
theorem find_pos {lbs : List Lab} : ∀ {W : List Ser}, SortS W → (W.find? fun s => decide (s.lbs = lbs)) = if hasS W lbs = true then W[posS W lbs]? else none
  | [], _ => rfl
  | s :: r, h => by
    unfold SortS at h
    rw [List.pairwise_cons] at h
    rw [List.find?_cons]
    by_cases h1 : cmpLs s.lbs lbs < 0
    · have hne : s.lbs ≠ lbs := fun e => cmpLs_ok.irrefl lbs (by rwa [e] at h1)
      rw [decide_eq_false hne, find_pos h.2]
      unfold hasS
      rw [posS_cons, if_pos h1, List.getElem?_cons_succ]
    · unfold hasS
      rw [posS_cons, if_neg h1, List.getElem?_cons_zero]
      by_cases h2 : s.lbs = lbs
      · simp [h2]
      · rw [decide_eq_false h2]
        simp only [h2, decide_false, Bool.false_eq_true, if_false]
        rw [List.find?_eq_none]
        intro x hx
        have h3 := h.1 x hx
        simp only [decide_eq_true_eq]
        intro e
        rw [e] at h3
        rcases cmpLs_ok.tri s.lbs lbs with h4 | h4 | h4
        · exact h1 h4
        · exact h2 h4
        · exact cmpLs_ok.irrefl _ (cmpLs_ok.trans _ _ _ h3 h4)
theorem any_pos {lbs : List Lab} {W : List Ser} (h : SortS W) : (W.any fun s => decide (s.lbs = lbs)) = hasS W lbs := by
  have h1 := find_pos (lbs := lbs) h
  by_cases h2 : hasS W lbs = true
  · rw [if_pos h2] at h1
    have h3 := h2
    unfold hasS at h3
    cases h4 : W[posS W lbs]? with
    | none => rw [h4] at h3; cases h3
    | some s =>
      rw [h4] at h3
      rw [h2]
      exact List.any_eq_true.2 ⟨s, List.mem_of_getElem? h4, h3⟩
  · rw [if_neg h2] at h1
    have h3 : hasS W lbs = false := Bool.eq_false_iff.2 h2
    rw [h3, List.any_eq_false]
    exact fun x hx h4 => List.find?_eq_none.1 h1 x hx h4

set_option maxRecDepth 100000 in
set_option maxHeartbeats 4000000 in
theorem find8_any {R : Nat → Prop} {w : World} {wb lim : Nat} {W : List Ser} (la : Option Addr) (ln lc : Nat) (lbs : List Lab) (hD : RD R w wb lim W) (hl : RE elLb w la ln lbs) (hln : ln ≤ 9223372036854775807) :
    Calls Tryz.prog 33 #[.pointer (some ⟨wb, 0, none⟩), .slice la ln lc] w fun e w' => e = .returned (.tuple #[.int .i64 (posS W lbs : Int), .bool (hasS W lbs)]) ∧ Grew w w' := by
  obtain ⟨A, n, c, ms, hR⟩ := hD
  have hwl := hR.ln
  have hb := Lib.hid fun w' (g : Grew w w') => (hR.hd.grew g).cell 1
  have hrs := hR.rs
  have hcap := hR.row.cap
  have b1 := hR.hd.cell 1
  have hple := posS_le W lbs
  have hhas : ∀ s, W[posS W lbs]? = some s → hasS W lbs = decide (s.lbs = lbs) := fun s h => by unfold hasS; rw [h]
  have hnone : W[posS W lbs]? = none → hasS W lbs = false := fun h => by unfold hasS; rw [h]
  clear hR
  replace hhas := Lib.hid hhas
  replace hnone := Lib.hid hnone
  replace hwl := Lib.hid hwl
  go_enter Tryz.func33, Tryz.ntmps33
  go_wp2
  clear b1
  go_loopw [6] (fun i wr => ∃ (k : Nat), k ≤ posS W lbs ∧ i = .int .i64 (k : Int) ∧ Grew w wr) (fun i _ => n - (intOf i).toNat)
  case atStart => exact ⟨0, by omega, rfl, Chg.refl _ _⟩
  case round =>
    obtain ⟨k, hk, rfl, hg⟩ := hrel
    have b1 := hb.out _ hg
    have hwn := hwl.out
    by_cases hlt : k < n
    · obtain ⟨ad, ⟨ma, mn, mc, pa, pn, pc⟩, s, rfl, hx, hsi, z0, _⟩ := (hrs.grew hg).at_ hlt
      dsimp only at z0
      have hmc := hsi.lc
      dsimp only at hmc
      have hC := fun w' (g : Grew wr w') => compare3_any ma la mn mc ln lc s.lbs lbs w' (hsi.lb.grew g) (hl.grew (hg.trans g)) (by omega) hln
      have hz := Lib.hid fun w' (g : Grew wr w') => Chg.cell g z0 (fun e => e)
      by_cases hlo : cmpLs s.lbs lbs < 0
      · have e1 : decide (cmpLs s.lbs lbs < 0) = true := decide_eq_true hlo
        have hk2 : k + 1 ≤ posS W lbs := tw_go hk hx e1
        clear hx hsi hlo
        go_wp2_with fail
        refine (hC _ (Chg.refl _ wr)).mono ?_
        rintro e w2 ⟨rfl, g2⟩
        have hg2 := hg.trans g2
        clear hC z0 b1
        go_wp2
        go_roundw
        case rel => exact ⟨k + 1, hk2, by go_num, hg2⟩
        case measure => simp [intOf] <;> omega
      · have e1 : decide (cmpLs s.lbs lbs < 0) = false := decide_eq_false hlo
        have hk2 : posS W lbs = k := tw_at hk fun y hy => by
          rw [hx] at hy
          obtain rfl := Option.some.inj hy
          exact e1
        have hfin := Lib.hid (hhas.out s (by rw [hk2]; exact hx))
        go_wp2_with fail
        refine (hC _ (Chg.refl _ wr)).mono ?_
        rintro e w2 ⟨rfl, g2⟩
        have hg2 := hg.trans g2
        have b2 := hb.out _ hg2
        have z2 := hz.out _ g2
        have hC2 := hC _ g2
        clear hC z0 b1 hx hsi hlo
        replace hk2 := Lib.hid hk2
        by_cases hse : s.lbs = lbs
        · have e3 : (cmpLs s.lbs lbs == 0) = true := by rw [beq_iff_eq]; exact (cmpLs_ok.zero _ _).2 hse
          have hff : Hid (hasS W lbs = true) := by show _ = _; rw [hfin.out, decide_eq_true hse]
          clear hse hfin
          go_wp2_with fail
          refine hC2.mono ?_
          rintro e w3 ⟨rfl, g3⟩
          go_wp2
          refine bodyPost_ret (v := .tuple #[.int .i64 (k : Int), .bool true]) ?_ rfl ⟨by rw [hff.out, hk2.out], hg2.trans g3⟩
          simp [results, Tryz.results33, go_sem]
        · have e3 : (cmpLs s.lbs lbs == 0) = false := by rw [beq_eq_false_iff_ne]; exact fun h => hse ((cmpLs_ok.zero _ _).1 h)
          have hff : Hid (hasS W lbs = false) := by show _ = _; rw [hfin.out, decide_eq_false hse]
          clear hse hfin
          go_wp2_with fail
          refine hC2.mono ?_
          rintro e w3 ⟨rfl, g3⟩
          go_wp2
          refine bodyPost_ret (v := .tuple #[.int .i64 (k : Int), .bool false]) ?_ rfl ⟨by rw [hff.out, hk2.out], hg2.trans g3⟩
          simp [results, Tryz.results33, go_sem]
    · have hk2 : posS W lbs = k := by omega
      have hff := Lib.hid (hnone.out (by rw [hk2]; exact List.getElem?_eq_none (by omega)))
      replace hk2 := Lib.hid hk2
      go_wp2
      refine bodyPost_ret (v := .tuple #[.int .i64 (k : Int), .bool false]) ?_ rfl ⟨by rw [hff.out, hk2.out], hg⟩
      simp [results, Tryz.results33, go_sem]
end Go.Proofs.YtailooldnelecaaGreatDoor

namespace Go.Proofs.YtailooldnelecaaGreatDoor
open Go.RowKit

def insS (W : List Ser) (lbs : List Lab) (q : Ptn) : List Ser := if hasS W lbs = true then W.set (posS W lbs) ⟨lbs, (((W[posS W lbs]?).map Ser.pts).getD []) ++ [q]⟩ else W.take (posS W lbs) ++ ⟨lbs, [q]⟩ :: W.drop (posS W lbs)
theorem hasS_at {W : List Ser} {lbs : List Lab} (h : hasS W lbs = true) : ∃ s, W[posS W lbs]? = some s ∧ s.lbs = lbs := by
  unfold hasS at h
  cases h1 : W[posS W lbs]? with
  | none => rw [h1] at h; cases h
  | some s =>
    rw [h1] at h
    exact ⟨s, rfl, by simpa using h⟩
theorem sortS_map {W : List Ser} : SortS W ↔ (W.map Ser.lbs).Pairwise fun a b => cmpLs a b < 0 := by
  unfold SortS
  rw [List.pairwise_map]
theorem sortS_dis {W : List Ser} (h : SortS W) : W.Pairwise fun a b => a.lbs ≠ b.lbs := List.Pairwise.imp (R := fun a b : Ser => cmpLs a.lbs b.lbs < 0) (fun {a b} (hlt : cmpLs a.lbs b.lbs < 0) (e : a.lbs = b.lbs) => cmpLs_ok.irrefl b.lbs (by rw [e] at hlt; exact hlt)) h
theorem insS_sort {W : List Ser} (h : SortS W) (lbs : List Lab) (q : Ptn) : SortS (insS W lbs q) := by
  unfold insS
  by_cases hh : hasS W lbs = true
  · rw [if_pos hh]
    obtain ⟨s, h1, h2⟩ := hasS_at hh
    rw [sortS_map, List.map_set]
    have : (W.map Ser.lbs).set (posS W lbs) lbs = W.map Ser.lbs := by
      refine List.ext_getElem? fun j => ?_
      rw [List.getElem?_set]
      split
      · rename_i e
        subst e
        split
        · rw [List.getElem?_map, h1]
          simp [h2]
        · rename_i h3
          rw [List.getElem?_eq_none (by omega)]
      · rfl
    rw [this]
    exact sortS_map.1 h
  · rw [if_neg hh]
    have hlo : ∀ x ∈ W.take (posS W lbs), cmpLs x.lbs lbs < 0 := fun x hx => by
      have h1 : W.take (posS W lbs) = W.takeWhile fun s => decide (cmpLs s.lbs lbs < 0) := by
        unfold posS
        exact (List.prefix_iff_eq_take.1 (List.takeWhile_prefix _)).symm
      rw [h1] at hx
      simpa using List.all_eq_true.1 List.all_takeWhile x hx
    have hhi : ∀ x ∈ W.drop (posS W lbs), cmpLs lbs x.lbs < 0 := by
      have hd : (W.drop (posS W lbs)).Pairwise fun a b => cmpLs a.lbs b.lbs < 0 := List.Pairwise.sublist (List.drop_sublist _ _) h
      cases hc : W.drop (posS W lbs) with
      | nil => intro x hx; cases hx
      | cons s r =>
        have h1 : W[posS W lbs]? = some s := by
          have := congrArg (fun l => l[0]?) hc
          simpa using this
        have h2 : ¬ cmpLs s.lbs lbs < 0 := fun h3 => by
          have := tw_go (p := fun s : Ser => decide (cmpLs s.lbs lbs < 0)) (Nat.le_refl _) h1 (by simpa using h3)
          unfold posS at this
          omega
        have h3 : s.lbs ≠ lbs := fun e => hh (by unfold hasS; rw [h1]; simpa using e)
        have h4 : cmpLs lbs s.lbs < 0 := by
          rcases cmpLs_ok.tri s.lbs lbs with h5 | h5 | h5
          · exact absurd h5 h2
          · exact absurd h5 h3
          · exact h5
        rw [hc, List.pairwise_cons] at hd
        intro x hx
        rcases List.mem_cons.1 hx with rfl | hx
        · exact h4
        · exact cmpLs_ok.trans _ _ _ h4 (hd.1 x hx)
    refine List.pairwise_append.2 ⟨List.Pairwise.sublist (List.take_sublist _ _) h, List.Pairwise.cons hhi (List.Pairwise.sublist (List.drop_sublist _ _) h), fun a ha b hb => ?_⟩
    rcases List.mem_cons.1 hb with rfl | hb
    · exact hlo a ha
    · exact cmpLs_ok.trans _ _ _ (hlo a ha) (hhi b hb)
theorem insS_put {W : List Ser} (h : SortS W) (lbs : List Lab) (q : Ptn) : (insS W lbs q).Perm (putS W lbs q) := by
  unfold insS putS
  rw [any_pos h]
  by_cases hh : hasS W lbs = true
  · rw [if_pos hh, if_pos hh]
    obtain ⟨s, h1, h2⟩ := hasS_at hh
    refine List.Perm.of_eq (List.ext_getElem? fun j => ?_)
    rw [List.getElem?_set, List.getElem?_map]
    have hlt := (List.getElem?_eq_some_iff.1 h1).1
    by_cases hj : posS W lbs = j
    · subst hj
      rw [if_pos rfl, if_pos hlt, h1]
      simp [h2]
    · rw [if_neg hj]
      cases hx : W[j]? with
      | none => rfl
      | some x =>
        have hne : x.lbs ≠ lbs := fun e => by
          obtain ⟨k1, k2⟩ := List.getElem?_eq_some_iff.1 hx
          obtain ⟨k3, k4⟩ := List.getElem?_eq_some_iff.1 h1
          have hd := List.pairwise_iff_getElem.1 (sortS_dis h)
          rcases Nat.lt_or_gt_of_ne hj with h3 | h3
          · exact hd _ _ k3 k1 h3 (by rw [k2, k4, h2, e])
          · exact hd _ _ k1 k3 h3 (by rw [k2, k4, h2, e])
        simp [hne]
  · rw [if_neg hh, if_neg hh]
    have h1 : (W.take (posS W lbs) ++ (⟨lbs, [q]⟩ : Ser) :: W.drop (posS W lbs)).Perm ((⟨lbs, [q]⟩ : Ser) :: (W.take (posS W lbs) ++ W.drop (posS W lbs))) := List.perm_middle
    rw [List.take_append_drop] at h1
    exact h1.trans (List.perm_append_comm (l₁ := [(⟨lbs, [q]⟩ : Ser)]) (l₂ := W))
def addW (lim : Nat) (W : List Ser) (lbs : List Lab) (T : Int) (V : Nat) : List Ser := if fateS lim W lbs T V = 1 then insS W lbs (T, V) else W
theorem lastS_perm {a b : List Ser} (hp : a.Perm b) (hd : a.Pairwise fun x y => x.lbs ≠ y.lbs) (lbs : List Lab) : lastS a lbs = lastS b lbs := by
  have key : ∀ {l : List Ser}, (l.Pairwise fun x y => x.lbs ≠ y.lbs) → ∀ s, (l.find? fun s => decide (s.lbs = lbs)) = some s ↔ s ∈ l ∧ s.lbs = lbs := by
    intro l
    induction l with
    | nil => intro _ s; simp
    | cons x r ih =>
      intro hd s
      rw [List.pairwise_cons] at hd
      rw [List.find?_cons]
      by_cases hx : x.lbs = lbs
      · rw [decide_eq_true hx]
        simp only [Option.some.injEq, List.mem_cons]
        constructor
        · rintro rfl
          exact ⟨.inl rfl, hx⟩
        · rintro ⟨rfl | h1, h2⟩
          · rfl
          · exact absurd (hx.trans h2.symm) (hd.1 s h1)
      · rw [decide_eq_false hx]
        simp only [List.mem_cons]
        rw [ih hd.2]
        constructor
        · rintro ⟨h1, h2⟩
          exact ⟨.inr h1, h2⟩
        · rintro ⟨rfl | h1, h2⟩
          · exact absurd h2 hx
          · exact ⟨h1, h2⟩
  have hd' := (hp.pairwise_iff (fun e => fun e1 => e e1.symm)).1 hd
  have : (a.find? fun s => decide (s.lbs = lbs)) = b.find? fun s => decide (s.lbs = lbs) := by
    refine Option.ext fun s => ?_
    rw [key hd, key hd', hp.mem_iff]
  unfold lastS
  rw [this]
theorem fateS_perm {a b : List Ser} (hp : a.Perm b) (hd : a.Pairwise fun x y => x.lbs ≠ y.lbs) (lim : Nat) (lbs : List Lab) (T : Int) (V : Nat) : fateS lim a lbs T V = fateS lim b lbs T V := by
  unfold fateS
  rw [lastS_perm hp hd, hp.length_eq]
theorem putS_perm {a b : List Ser} (hp : a.Perm b) (lbs : List Lab) (q : Ptn) : (putS a lbs q).Perm (putS b lbs q) := by
  have h1 : (a.any fun s => decide (s.lbs = lbs)) = b.any fun s => decide (s.lbs = lbs) := by
    rw [Bool.eq_iff_iff, List.any_eq_true, List.any_eq_true]
    exact ⟨fun ⟨x, hx, h⟩ => ⟨x, hp.mem_iff.1 hx, h⟩, fun ⟨x, hx, h⟩ => ⟨x, hp.mem_iff.2 hx, h⟩⟩
  unfold putS
  rw [h1]
  split
  · exact hp.map _
  · exact hp.append_right _
/-- the document's list stays the sorted form of the head's -/
theorem addW_srt {lim : Nat} {W hs : List Ser} (hp : W.Perm hs) (hs2 : SortS W) (lbs : List Lab) (T : Int) (V : Nat) : SortS (addW lim W lbs T V) ∧ (addW lim W lbs T V).Perm (addT lim hs lbs T V) := by
  unfold addW addT
  rw [← fateS_perm hp (sortS_dis hs2)]
  split
  · exact ⟨insS_sort hs2 _ _, (insS_put hs2 _ _).trans (putS_perm hp _ _)⟩
  · exact ⟨hs2, hp⟩
end Go.Proofs.YtailooldnelecaaGreatDoor

namespace Go.Proofs.YtailooldnelecaaGreatDoor
open Go.RowKit

theorem list_set2 {α β : Type} {l : List α} {r : List β} {p : α → β → Prop} {k : Nat} {a : α} {b : β} (h : ∀ (i : Nat) x y, l[i]? = some x → r[i]? = some y → p x y) (hab : p a b) : ∀ (i : Nat) x y, (l.set k a)[i]? = some x → (r.set k b)[i]? = some y → p x y := fun i x y hx hy => by
  rw [List.getElem?_set] at hx hy
  by_cases e : k = i
  · rw [if_pos e] at hx hy
    split at hx
    · split at hy
      · injection hx with hx
        injection hy with hy
        exact hx ▸ hy ▸ hab
      · cases hy
    · cases hx
  · rw [if_neg e] at hx hy
    exact h i x y hx hy
/-- a series' points slice turned in its row -/
theorem flat_pts {ms : List SerM} {k : Nat} {m : SerM} (hm : ms[k]? = some m) (A : Option Addr) (n c : Nat) : elSr.flat (ms.set k ⟨m.la, m.ln, m.lc, A, n, c⟩) = (elSr.flat ms).set (k * 2 + 1) (.slice A n c) := by
  have hk := (List.getElem?_eq_some_iff.1 hm).1
  refine List.ext_getElem? fun i => ?_
  by_cases hi : i < ms.length * 2
  · obtain ⟨a, b, rfl, hb⟩ : ∃ a b, i = a * 2 + b ∧ b < 2 := ⟨i / 2, i % 2, by rw [Nat.mul_comm]; exact (Nat.div_add_mod i 2).symm, Nat.mod_lt _ (by decide)⟩
    have ha : a < ms.length := by omega
    have hx : ms[a]? = some ms[a] := List.getElem?_eq_getElem ha
    rw [List.getElem?_set]
    have h1 : (elSr.flat ms)[a * 2 + b]? = (elSr.cells ms[a])[b]? := elSr.flat_get ms hx hb
    by_cases e : k = a
    · subst e
      have h2 : (elSr.flat (ms.set k ⟨m.la, m.ln, m.lc, A, n, c⟩))[k * 2 + b]? = (elSr.cells ⟨m.la, m.ln, m.lc, A, n, c⟩)[b]? := elSr.flat_get _ (by rw [List.getElem?_set, if_pos rfl, if_pos ha]) hb
      rw [hm] at hx
      injection hx with hx
      rw [h2]
      have hb2 : b = 0 ∨ b = 1 := by omega
      rcases hb2 with rfl | rfl
      · rw [if_neg (by omega), h1, ← hx]
        rfl
      · rw [if_pos rfl, if_pos (by rw [elSr.flat_length]; show k * 2 + 1 < ms.length * 2; omega)]
        rfl
    · have h2 : (elSr.flat (ms.set k ⟨m.la, m.ln, m.lc, A, n, c⟩))[a * 2 + b]? = (elSr.cells ms[a])[b]? := elSr.flat_get _ (by rw [List.getElem?_set, if_neg e]; exact hx) hb
      rw [h2, if_neg (by omega), h1]
  · rw [List.getElem?_eq_none (by rw [elSr.flat_length, List.length_set]; show ms.length * 2 ≤ i; omega), List.getElem?_eq_none (by rw [List.length_set, elSr.flat_length]; show ms.length * 2 ≤ i; omega)]
section
variable {R : Nat → Prop} {w w' : World} {wb lim : Nat} {A : Option Addr} {n c : Nat} {ms : List SerM} {W : List Ser}
theorem RH.push (h : RH R w wb lim A n c ms W) {k g : Nat} {m : SerM} {s : Ser} (hA : A = some ⟨g, 0, none⟩) (hm : ms[k]? = some m) (hs : W[k]? = some s) {q : Ptn} {A4 : Option Addr} {c4 : Nat} (h4 : ApE elPt w 0 69 m.pa (m.pn + 1) m.pc (s.pts ++ [q]) A4 c4 w') :
    RH (More R w w') (w'.setCell ⟨g, k * 2 + 1, none⟩ (.slice A4 (m.pn + 1) c4)) wb lim A n c (ms.set k ⟨m.la, m.ln, m.lc, A4, m.pn + 1, c4⟩) (W.set k ⟨s.lbs, s.pts ++ [q]⟩) := by
  have hmm := List.mem_of_getElem? hm
  have hkm := (List.getElem?_eq_some_iff.1 hm).1
  have hms := h.el k m s hm hs
  have hc1 := h4.chg
  have hz := hc1.size
  subst hA
  have hgr := h.rr _ rfl
  have hc2 : Chg (fun j => j = g) w' (w'.setCell ⟨g, k * 2 + 1, none⟩ (.slice A4 (m.pn + 1) c4)) := Chg.one _ _ _ _
  have hrow1 : OE elSr w' 0 61 (some ⟨g, 0, none⟩) n c ms := h.row.apart hms.pt (by decide) hc1
  obtain ⟨curG, hbG, _⟩ := Own.block hrow1 _ rfl
  have hA4 : ∀ ad, A4 = some ad → m.pa = some ad ∨ (w.heap.size ≤ ad.block ∧ ad.block < w'.heap.size) := fun ad e => by
    rcases h4.2.2 with ⟨e1, _⟩ | ⟨e1, _, e3⟩
    · exact .inl (e1 ▸ e)
    · rw [e1] at e
      injection e with e
      subst e
      exact .inr ⟨Nat.le_refl _, e3⟩
  have hnp : ∀ ad, m.pa = some ad → ∃ cur, Blk w ad.block 69 cur := fun ad e => by
    obtain ⟨cur, hb, _⟩ := Own.block hms.pt ad e
    exact ⟨cur, hb⟩
  have hdisk : ∀ (j : Nat) (z : SerM), j ≠ k → ms[j]? = some z → ∀ ad bd, z.pa = some ad → m.pa = some bd → ad.block ≠ bd.block := fun j z hj hz => by
    obtain ⟨h1, rfl⟩ := List.getElem?_eq_some_iff.1 hz
    obtain ⟨h2, e2⟩ := List.getElem?_eq_some_iff.1 hm
    rcases Nat.lt_or_gt_of_ne hj with e | e
    · have := List.pairwise_iff_getElem.1 h.dis j k h1 h2 e
      rwa [e2] at this
    · have := List.pairwise_iff_getElem.1 h.dis k j h2 h1 e
      rw [e2] at this
      exact fun ad bd a1 a2 a3 => this bd ad a2 a1 a3.symm
  refine ⟨?_, ?_, by rw [List.length_set, List.length_set, h.len], fun i mm ss h1 h2 => ?_, pairwise_set (fun a b hab ad bd e1 e2 e3 => hab bd ad e2 e1 e3.symm) h.dis hm fun j z hj hz ad bd e1 e2 e3 => ?_, .inl h.rh, fun ad e => .inl (h.rr ad e), fun mm hmem ad e => ?_, fun mm hmem ad e => ?_, fun j hj => ?_⟩
  · refine (h.hd.chg hc1 fun ⟨ad, e1, e2⟩ => ?_).chg hc2 ?_
    · obtain ⟨cur, hb⟩ := hnp ad e1
      exact (h.hd.neT hb (by decide)) e2
    · have h1 : Blk w' wb 39 #[.int .i64 (lim : Int), .slice (some ⟨g, 0, none⟩) n c] := h.hd.chg hc1 fun ⟨ad, e1, e2⟩ => by
        obtain ⟨cur, hb⟩ := hnp ad e1
        exact (h.hd.neT hb (by decide)) e2
      exact h1.neT hbG (by decide)
  · have := Own.set hrow1 (k * 2 + 1) (.slice A4 (m.pn + 1) c4)
    unfold OE
    rw [flat_pts hm]
    exact this
  · by_cases e : k = i
    · subst e
      rw [List.getElem?_set, if_pos rfl, if_pos hkm] at h1
      rw [List.getElem?_set, if_pos rfl, if_pos (by rw [← h.len]; exact hkm)] at h2
      obtain rfl := Option.some.inj h1
      obtain rfl := Option.some.inj h2
      have hl1 := hms.lb.apart hms.pt (by decide) hc1
      exact ⟨hl1.chg hc2 fun ad e1 e2 => Own.ne_blk hl1 hbG (by decide) ad e1 e2, h4.oe.chg hc2 fun ad e1 e2 => Own.ne_blk h4.oe hbG (by decide) ad e1 e2⟩
    · rw [List.getElem?_set, if_neg e] at h1 h2
      have hz := h.el i mm ss h1 h2
      have hl1 := hz.lb.apart hms.pt (by decide) hc1
      have hp1 := hz.pt.chg hc1 fun ad e1 ⟨bd, e2, e3⟩ => hdisk i mm (fun e' => e e'.symm) h1 ad bd e1 e2 e3
      exact ⟨hl1.chg hc2 fun ad e1 e2 => Own.ne_blk hl1 hbG (by decide) ad e1 e2, hp1.chg hc2 fun ad e1 e2 => Own.ne_blk hp1 hbG (by decide) ad e1 e2⟩
  · rcases hA4 bd e2 with h5 | h5
    · exact hdisk j z hj hz ad bd e1 h5 e3
    · have := h.lt _ (h.rp z (List.mem_of_getElem? hz) ad e1)
      omega
  · rcases mem_set hmem with rfl | ⟨j, _, hz⟩
    · exact .inl (h.rl m hmm ad e)
    · exact .inl (h.rl mm (List.mem_of_getElem? hz) ad e)
  · rcases mem_set hmem with rfl | ⟨j, _, hz⟩
    · rcases hA4 ad e with h5 | h5
      · exact .inl (h.rp m hmm ad h5)
      · exact .inr (by simpa using h5)
    · exact .inl (h.rp mm (List.mem_of_getElem? hz) ad e)
  · rcases hj with h5 | h5
    · have := h.lt j h5
      have := hc2.size
      omega
    · have := hc2.size
      omega
/-- a new series, and the row anew -/
theorem RH.ins (h : RH R w wb lim A n c ms W) (hg : Grew w w') {k : Nat} {mx : SerM} {x : Ser} {A2 : Option Addr} {c2 : Nat} (hrow : OE elSr w' w.heap.size 61 A2 (n + 1) c2 (ms.take k ++ mx :: ms.drop k)) (hx : NsE w' w.heap.size mx x) :
    RH (More R w w') (w'.setCell ⟨wb, 1, none⟩ (.slice A2 (n + 1) c2)) wb lim A2 (n + 1) c2 (ms.take k ++ mx :: ms.drop k) (W.take k ++ x :: W.drop k) := by
  have hr' := h.grew hg
  have hc2 : Chg (fun j => j = wb) w' (w'.setCell ⟨wb, 1, none⟩ (.slice A2 (n + 1) c2)) := Chg.one _ _ _ _
  have hz := hg.size
  have hmid : ∀ {y : SerM}, y ∈ ms.take k ++ mx :: ms.drop k → y = mx ∨ y ∈ ms := fun {y} hy => by
    rcases List.mem_append.1 hy with hy | hy
    · exact .inr (List.mem_of_mem_take hy)
    · rcases List.mem_cons.1 hy with hy | hy
      · exact .inl hy
      · exact .inr (List.mem_of_mem_drop hy)
  have hxb : ∀ ad, mx.pa = some ad → w.heap.size ≤ ad.block ∧ ad.block < w'.heap.size := fun ad e => Own.blk_lt hx.pt ad e
  have hold : ∀ y ∈ ms, ∀ ad, y.pa = some ad → ad.block < w.heap.size := fun y hy ad e => h.lt _ (h.rp y hy ad e)
  refine ⟨by simpa using hr'.hd.set 1 (.slice A2 (n + 1) c2), Own.mono (hrow.chg hc2 fun ad e1 e2 => Own.ne_blk hrow hr'.hd (by decide) ad e1 e2) (Nat.zero_le _), by simp [h.len], fun i m s h1 h2 => ?_, ?_, .inl h.rh, fun ad e => .inr ?_, fun m hm ad e => ?_, fun m hm ad e => ?_, fun j hj => ?_⟩
  · have key : NsE w' 0 m s := by
      rcases Nat.lt_trichotomy i (ms.take k).length with h3 | h3 | h3
      · rw [List.getElem?_append_left h3, List.getElem?_take] at h1
        rw [List.getElem?_append_left (by rw [List.length_take] at h3 ⊢; rw [← h.len]; exact h3), List.getElem?_take] at h2
        split at h1
        · rename_i hlt
          rw [if_pos hlt] at h2
          exact hr'.el i m s h1 h2
        · cases h1
      · have h4 : (ms.take k).length = (W.take k).length := by rw [List.length_take, List.length_take, h.len]
        rw [List.getElem?_append_right (by omega), show i - (ms.take k).length = 0 by omega] at h1
        rw [List.getElem?_append_right (by omega), show i - (W.take k).length = 0 by omega] at h2
        obtain rfl := Option.some.inj h1
        obtain rfl := Option.some.inj h2
        exact ⟨Own.mono hx.lb (Nat.zero_le _), Own.mono hx.pt (Nat.zero_le _)⟩
      · have h4 : (ms.take k).length = (W.take k).length := by rw [List.length_take, List.length_take, h.len]
        obtain ⟨j, hj⟩ : ∃ j, i = (ms.take k).length + (j + 1) := ⟨i - (ms.take k).length - 1, by omega⟩
        rw [List.getElem?_append_right (by omega), show i - (ms.take k).length = j + 1 by omega, List.getElem?_cons_succ, List.getElem?_drop] at h1
        rw [List.getElem?_append_right (by omega), show i - (W.take k).length = j + 1 by omega, List.getElem?_cons_succ, List.getElem?_drop] at h2
        exact hr'.el _ m s h1 h2
    exact ⟨key.lb.chg hc2 fun ad e1 e2 => Own.ne_blk key.lb hr'.hd (by decide) ad e1 e2, key.pt.chg hc2 fun ad e1 e2 => Own.ne_blk key.pt hr'.hd (by decide) ad e1 e2⟩
  · have hd := h.dis
    rw [← List.take_append_drop k ms] at hd
    obtain ⟨d1, d2, d3⟩ := List.pairwise_append.1 hd
    refine List.pairwise_append.2 ⟨d1, List.Pairwise.cons (fun y hy ad bd e1 e2 e3 => ?_) d2, fun a ha b hb => ?_⟩
    · have := hxb ad e1
      have := hold y (List.mem_of_mem_drop hy) bd e2
      omega
    · rcases List.mem_cons.1 hb with rfl | hb
      · intro ad bd e1 e2 e3
        have := hxb bd e2
        have := hold a (List.mem_of_mem_take ha) ad e1
        omega
      · exact d3 a ha b hb
  · exact Own.blk_lt hrow ad e
  · rcases hmid hm with rfl | hm
    · exact .inr (Own.blk_lt hx.lb ad e)
    · exact .inl (h.rl m hm ad e)
  · rcases hmid hm with rfl | hm
    · exact .inr (hxb ad e)
    · exact .inl (h.rp m hm ad e)
  · have := hc2.size
    rcases hj with h5 | h5
    · have := h.lt j h5
      omega
    · omega
end
end Go.Proofs.YtailooldnelecaaGreatDoor
