/-
  Several texts in one:
  The law ObjSlices, walked. Conditions: none but what memory bears.
-/
import Derived.Test.YtepncgeaehjhiaaPart9

namespace Go.Proofs.Ytepncgeaehjhiaa
open Go.RowKit

theorem take_drop_take {α : Type} (l : List α) (a b : Nat) : l.take a ++ (l.drop a).take b = l.take (a + b) := by
  rw [List.take_add]

set_option maxRecDepth 100000 in
set_option maxHeartbeats 8000000 in
theorem walk_objSlices (A : Option Addr) (n ca : Nat) (la : List UInt8) (B : Option Addr) (m cb : Nat) (lb : List UInt8) (C : Option Addr) (q cc : Nat) (cs : List Int) (w : World) (ha : RB w A n la) (hn : n ≤ 140737488351232) (hb : RB w B m lb) (hm : m ≤ 140737488351232) (hc : RE elI w C q cs) (hcc : q ≤ cc ∧ cc ≤ 9223372036854775807) (_ : ∀ x ∈ cs, (Lit.int .i64 x).wf = true) :
    Calls Try.prog 5 #[.slice A n ca, .slice B m cb, .slice C q cc] w fun e w' => e = .returned (.bool true) ∧ Grew w w' := by
  go_enter Try.func5, Try.ntmps5
  go_wp2_with fail
  refine (fs_new w).mono ?_
  rintro e w1 ⟨d, mm, rfl, hF, hg1⟩
  go_wp2_with fail
  refine (open_clean hF (by simp) rfl).mono ?_
  rintro e w2 ⟨s, rfl, hbk, hs, hg2⟩
  obtain ⟨S2, L2, hS2⟩ := start_ex hF hbk hs hg2
  have G2 := hg1.trans hg2
  clear hF hbk hg1 hg2
  by_cases hbig : 5000 < n + m
  · have e1 : decide ((5000 : Int) < (n : Int) + (m : Int)) = true := decide_eq_true (by omega)
    clear hbig
    go_wp2_with fail
    refine (awake_any _).mono ?_
    rintro e w3 ⟨rfl, hg3⟩
    go_wp2
    go_ret
    exact ⟨by simp, G2.trans hg3⟩
  have e1 : decide ((5000 : Int) < (n : Int) + (m : Int)) = false := decide_eq_false (by omega)
  have hsm : n + m ≤ 5000 := by omega
  clear hbig
  go_wp2_with fail
  refine (copyBytes_any A n ca la _ (by exact ha.grew G2) (by omega)).mono ?_
  rintro e w3 ⟨X, cx, rfl, hX, hg3⟩
  go_wp2_with fail
  refine (liv_put (L2.out.grew hg3) (by omega) (by simp) kK key_k (by decide) X n cx la hX.rb (by omega)).mono ?_
  rintro e w4 ⟨rfl, ⟨S4, L4, x4⟩, hc4⟩
  have G4 : Grew w w4 := liv_grow (G2.trans hg3) hc4 hS2.out
  have hS4 : Hid (∀ k, S4 k → w.heap.size ≤ k) := ext_ge x4 hS2.out (G2.trans hg3).size
  have L4 : Hid (Liv S4 w4 s [⟨kK, la, 1⟩] 3) := L4
  have hlen : la.length = n := ha.1
  have hlook : lookO [(⟨kK, la, 1⟩ : OEnt)] kK = some ⟨kK, la, 1⟩ := look_one _
  clear x4 hc4 L2 hS2 G2 hg3 hX e1
  go_wp2
  go_loopw [9, 10, 11] (fun al at_ i wr => ∃ k a : Nat, k ≤ q ∧ a ≤ n ∧ at_ = .int .i64 (a : Int) ∧ i = .int .i64 (k : Int) ∧ ∃ D cd, al = .slice D a cd ∧ OB wr w4.heap.size 5 D a cd (la.take a) ∧ Grew w4 wr) (fun _ _ i _ => q - (intOf i).toNat)
  case atStart => exact ⟨0, 0, by omega, by omega, rfl, rfl, none, 0, rfl, Own.nil _ _ _ _, Chg.refl _ _⟩
  case round =>
    obtain ⟨k, a, hk, hka, rfl, rfl, D, cd, rfl, hD, hG⟩ := hrel
    have hgo : (k < q ∧ a < n) ∨ ¬ (k < q ∧ a < n) := Classical.em _
    rcases hgo with ⟨hlt, hat⟩ | hgo
    · obtain ⟨ad, x, rfl, hx, hcx⟩ := (hc.grew (G4.trans hG)).at_ hlt (by decide)
      have hcx : wr.cell? (ad.add k) = some (.int .i64 x) := by simpa [elI] using hcx 0 _ rfl
      obtain ⟨dn, hdn⟩ : ∃ dn, n - a = dn := ⟨_, rfl⟩
      have hdi : (n : Int) - (a : Int) = (dn : Int) := by omega
      have hdp : 0 < dn := by omega
      go_wp2_with fail
      refine (low_any x _).mono ?_
      rintro e w5 ⟨r, hr, rfl, rfl⟩
      have hrb : r % dn < dn := Nat.mod_lt _ hdp
      obtain ⟨rn, hrn⟩ : ∃ rn, r % dn = rn := ⟨_, rfl⟩
      have hri : (r : Int) % (dn : Int) = (rn : Int) := by omega
      rw [hrn] at hrb
      clear hrn
      have hSl := liv_slice (L4.out.grew hG) kK key_k hlook a (a + 1 + rn) (by omega) (by show _ ≤ la.length; omega)
      rw [show a + 1 + rn - a = rn + 1 by omega, show ((a + 1 + rn : Nat) : Int) = (a : Int) + 1 + (rn : Int) by omega] at hSl
      go_wp2_with fail
      refine hSl.mono ?_
      rintro e w6 ⟨Y, cy, rfl, hY, hg6⟩
      have hwl := hG.size
      have hwl6 := hg6.size
      have hown := hD.grew hg6
      have htk : la.take a ++ (la.drop a).take (rn + 1) = la.take (a + 1 + rn) := by rw [take_drop_take, show a + (rn + 1) = a + 1 + rn by omega]
      have htk := Lib.hid htk
      clear hSl hcx hx
      go_wp2_with (at_builtin; refine wpList_appB rfl _ _ rfl w4.heap.size D a cd (la.take a) rfl hown (by omega) Y (rn + 1) cy _ rfl hY.rb (by omega) ?_; intro A3 c3 w7 h7)
      have ho7 := h7.ob
      rw [htk.out, show a + (rn + 1) = a + 1 + rn by omega] at ho7
      have G7 : Grew w4 w7 := h7.grew (hG.trans hg6) fun ad e => (Own.blk_lt hD ad e).1
      have hbn : a + 1 + rn ≤ n := by omega
      clear h7 hown hD hY hdi hri hdn
      go_roundw
      case rel => exact ⟨k + 1, a + 1 + rn, by omega, hbn, by go_num, by go_num, A3, c3, by simp; omega, ho7, G7⟩
      case measure => simp [intOf]; omega
    · have hex : (decide (k < q) && decide (a < n)) = false := by
        rw [Bool.and_eq_false_iff]
        by_cases h1 : k < q
        · exact .inr (decide_eq_false fun h2 => hgo ⟨h1, h2⟩)
        · exact .inl (decide_eq_false h1)
      have hS := liv_slice (L4.out.grew hG) kK key_k hlook a n (by omega) (by show _ ≤ la.length; omega)
      rw [show ((la.drop a).take (n - a)) = la.drop a from List.take_of_length_le (by rw [List.length_drop]; omega)] at hS
      have hw4 := hG.size
      have hSb := fun w' (hg : Grew w4 w') => liv_slice_bad (L4.out.grew hg) kK key_k hlook (n + 1) (by show la.length < _; omega)
      rw [show ((n + 1 : Nat) : Int) = (n : Int) + 1 by omega] at hSb
      have hSb := Lib.hid hSb
      have h2 : decide (k < q) = true → decide (a < n) = false := fun h1 => decide_eq_false fun h2 => hgo ⟨by simpa using h1, h2⟩
      clear hgo hex
      obtain ⟨z, hz⟩ : ∃ z, n - a = z := ⟨_, rfl⟩
      rw [hz] at hS
      have hcat : la.take a ++ la.drop a = la := List.take_append_drop a la
      have hcat := Lib.hid hcat
      have hhk := Lib.hid hlook
      clear hlook
      cases h1 : decide (k < q)
      rotate_left
      have h3 := h2 h1
      all_goals
        clear h2
        go_wp2_with fail
        refine hS.mono ?_
        rintro e w5 ⟨Y, cy, rfl, hY, hg5⟩
        have G5 := hG.trans hg5
        have hYb : ∀ ad, Y = some ad → w4.heap.size ≤ ad.block := fun ad e => Nat.le_trans hw4 (Own.blk_lt hY ad e).1
        have hY := hY.rb
        have hDb : ∀ ad, D = some ad → w4.heap.size ≤ ad.block := fun ad e => (Own.blk_lt hD ad e).1
        have hDl : ∀ ad, D = some ad → ad.block < wr.heap.size := fun ad e => (Own.blk_lt hD ad e).2
        have hD5 := hD.grew hg5
        clear hS hD
        go_wp2_with fail
        refine (hSb.out _ G5).mono ?_
        rintro e w6 ⟨rfl, hg6⟩
        have G6 := G5.trans hg6
        go_wp2_with fail
        refine (copyBytes_any B m cb lb _ (by exact hb.grew (G4.trans G6)) (by omega)).mono ?_
        rintro e w7 ⟨X, cx, rfl, hX, hg7⟩
        have G7 := G6.trans hg7
        have hP := liv_put (L4.out.grew G7) (by omega) (by simp) kK key_k (by rw [show genO [(⟨kK, la, 1⟩ : OEnt)] kK = 1 from gen_one _]; decide) X m cx lb hX.rb (by omega)
        rw [show genO [(⟨kK, la, 1⟩ : OEnt)] kK = 1 from gen_one _, set_one _ _ (show (⟨kK, la, 1⟩ : OEnt).key = (⟨kK, lb, 1 + 1⟩ : OEnt).key from rfl)] at hP
        go_wp2_with fail
        refine hP.mono ?_
        rintro e w8 ⟨rfl, ⟨S8, L8, _⟩, hc8⟩
        have hY8 := ((hY.grew hg6).grew hg7).chg hc8 fun ad e hs => by have := L4.out.lt _ hs; have := hYb ad e; omega
        have hD8 := ((hD5.grew hg6).grew hg7).chg hc8 fun ad e hs => by have := L4.out.lt _ hs; have := hDb ad e; omega
        have G8 : Grew w w8 := liv_grow (G4.trans G7) hc8 hS4.out
        have G48 : w4.heap.size ≤ w8.heap.size := Nat.le_trans G7.size hc8.size
        have hS9 := liv_slice L8 kK key_k (o := ⟨kK, lb, 1 + 1⟩) (look_one _) 0 m (by omega) (by show m ≤ lb.length; rw [hb.1]; exact Nat.le_refl _)
        rw [show ((0 : Nat) : Int) = 0 from rfl, Nat.sub_zero, List.drop_zero] at hS9
        have hc8s := hc8.size
        clear hP hX hD5 hY hc8
        go_wp2_with fail
        refine hS9.mono ?_
        rintro e w9 ⟨Z, cz, rfl, hZ, hg9⟩
        have hZb : ∀ ad, Z = some ad → w8.heap.size ≤ ad.block := fun ad e => (Own.blk_lt hZ ad e).1
        have hZ := hZ.rb
        rw [show lb.take m = lb from List.take_of_length_le (by rw [hb.1]; exact Nat.le_refl _)] at hZ
        have hg9s := hg9.size
        have hwr8 : wr.heap.size ≤ w8.heap.size := by have := hg5.size; have := hg6.size; have := hg7.size; have := hc8s; omega
        clear hS9 L8
        go_wp2_with (at_builtin; refine wpList_appBw rfl _ _ rfl w4.heap.size D a cd (la.take a) rfl (by exact hD8.grew hg9) (by omega) Y z cy (la.drop a) rfl (by exact hY8.grew hg9) (by omega) ?_; intro A3 c3 w10 h10)
        rw [hcat.out] at h10
        have hr10 := h10.ob.rb
        have hc10 := h10.chg
        have GW : Grew w w10 := G8.step (Chg.step (S := fun k => ∃ ad, D = some ad ∧ k = ad.block) (Chg.of_grew hg9) hc10 fun _ _ e => e) fun k hk ⟨ad, e, he⟩ => by
          have := hDb ad e
          have := G4.size
          omega
        have hZ10 := hZ.chg hc10 fun ad e ⟨bd, e1, e2⟩ => by
          have := hZb ad e
          have := hDl bd e1
          omega
        clear h10 hc10
        go_wp2_with fail
        refine (sameBytes_yes A3 A _ n c3 ca la _ hr10 (by exact ha.grew GW) (by omega) (by omega)).mono ?_
        rintro e w11 ⟨rfl, k1, rfl⟩
        go_wp2_with fail
        refine (sameBytes_yes Z B m m cz cb lb _ (by exact hZ10.drewN k1) (by exact (hb.grew GW).drewN k1) (by omega) (by omega)).mono ?_
        rintro e w12 ⟨rfl, k2, rfl⟩
        go_wp2_with fail
        refine (awake_any _).mono ?_
        rintro e w13 ⟨rfl, hg13⟩
        go_wp2
        go_ret
        exact ⟨by simp, (GW.drewN (k1 + k2)).trans hg13⟩
end Go.Proofs.Ytepncgeaehjhiaa
