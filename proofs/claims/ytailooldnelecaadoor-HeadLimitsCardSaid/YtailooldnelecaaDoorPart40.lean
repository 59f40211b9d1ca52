/-
  Several texts in one:
  The law HeadLimits, walked. Conditions: the longest text that the library takes is as it is set.
-/
import Derived.Test.YtailooldnelecaaDoorPart39

namespace Go.Proofs.YtailooldnelecaaDoor
open Go.RowKit

def lbN : List Lab := [(⟨#[110, 101, 119]⟩, ⟨#[120]⟩)]
theorem lim_f (lim : Nat) : fateS lim [] lbN 1 0 = if lim = 0 then 5 else 1 := by
  unfold fateS
  rw [if_pos ⟨by kernel_rfl, by decide⟩]
  show (if lim ≤ 0 then (5 : Int) else 1) = _
  by_cases h : lim = 0
  · rw [if_pos h, if_pos (by omega)]
  · rw [if_neg h, if_neg (by omega)]
set_option maxRecDepth 100000 in
set_option maxHeartbeats 8000000 in
theorem walk_headLimits (lim : Int) (A : Option Addr) (n c : Nat) (xs : List Smp) (w : World) (hA : RSa w A n xs) (hn : n ≤ c ∧ c ≤ 9223372036854775807) (hm : MaxL w) :
    Calls Tryd.prog 6 #[.int .i64 lim, .slice A n c] w fun e w' => e = .returned (.bool true) ∧ Grew w w' := by
  go_enter Tryd.func6, Tryd.ntmps6
  go_wp2_with fail
  refine (low_any lim w).mono ?_
  rintro e w0 ⟨r, hr, rfl, rfl⟩
  obtain ⟨m, hm5, hmr⟩ : ∃ m : Nat, m < 5 ∧ ((r : Int) % 5) = (m : Int) := ⟨r % 5, by omega, by omega⟩
  replace hmr := Lib.hid hmr
  have hN := new_hd (m : Int) w (by omega)
  rw [show (min (max (m : Int) 0) 1024).toNat = m by omega] at hN
  go_wp2_with fail
  rw [hmr.out]
  clear hmr
  refine hN.mono ?_
  rintro e w1 ⟨h, S1, rfl, hD1, g1, hs1⟩
  clear hN hr
  go_wp2
  go_loopw [7] (fun i wr => ∃ (k : Nat) (S : Nat → Prop) (ss : List Ser), k ≤ n ∧ i = .int .i64 (k : Int) ∧ HD S wr h m ss ∧ (∀ k, S k → w.heap.size ≤ k) ∧ Grew w wr) (fun i _ => n - (intOf i).toNat)
  case atStart => exact ⟨0, S1, [], by omega, rfl, hD1, hs1, g1⟩
  case round =>
    clear hD1 hs1 g1 w1 S1
    obtain ⟨k, S, ss, hk, rfl, hD, hs, hg⟩ := hrel
    by_cases hlt : k < n
    · obtain ⟨ad, la, ln, lc, s, rfl, hx, hlb, hlc, _, _, x0, x1, x2⟩ := (hA.grew hg).at_ hlt
      have hAd := add_hd la ln lc s.lbs s.t s.v hD hlb hlc
      have hfull : fateS m ss s.lbs s.t s.v = 5 → (addT m ss s.lbs s.t s.v).length = m := fun h5 => by
        have h1 := fateS_full h5
        have h2 := hD.hv.len
        rw [fateS_same (by rw [h5]; decide)]
        omega
      generalize fateS m ss s.lbs s.t s.v = f at *
      generalize addT m ss s.lbs s.t s.v = tt at *
      replace hfull := Lib.hid hfull
      replace hs := Lib.hid hs
      replace hg := Lib.hid hg
      clear hx hlb hlc hD
      go_wp2_with fail
      refine hAd.mono ?_
      rintro e w2 ⟨rfl, S2, hD2, hs12, hs21, hc2⟩
      have hz := hg.out.size
      have g2 : Grew w w2 := Chg.new hg.out hc2 hs.out
      have hs2 : ∀ k, S2 k → w.heap.size ≤ k := fun k hk => by
        rcases hs21 k hk with h | h
        · exact hs.out k h
        · omega
      have hlen := hD2.hv.len
      clear hAd hs12 hs21 hc2 x0 x1 x2 hg hs
      go_wp2_with fail
      refine (count_hd hD2).mono ?_
      rintro e w3 ⟨rfl, g3⟩
      have hD3 := hD2.grew g3
      have g03 := g2.trans g3
      generalize tt.length = q at *
      clear hD2 g2 g3
      have e1 : decide ((m : Int) < (q : Int)) = false := decide_eq_false (by omega)
      by_cases h5 : f = 5
      · have e2 : q = m := hfull.out h5
        subst h5
        subst e2
        clear hfull
        go_wp2
        go_roundw
        case rel => exact ⟨k + 1, S2, tt, by omega, by go_num, hD3, hs2, g03⟩
        case measure => simp [intOf] <;> omega
      · clear hfull
        go_wp2
        go_roundw
        case rel => exact ⟨k + 1, S2, tt, by omega, by go_num, hD3, hs2, g03⟩
        case measure => simp [intOf] <;> omega
    · obtain rfl : k = n := by omega
      have hC := cut_hd 1099511627777 hD (hm.grew hg)
      rw [hD.hv.sel_none (a := 1099511627777) (.inr (by decide))] at hC
      replace hs := Lib.hid hs
      replace hg := Lib.hid hg
      clear hD
      go_wp2_with fail
      refine hC.mono ?_
      rintro e w2 ⟨B, d, rfl, _, hc2, hD2⟩
      have g2 : Grew w w2 := Chg.new hg.out hc2 hs.out
      clear hC hc2 hg
      go_wp2_with fail
      refine (count_hd hD2).mono ?_
      rintro e w3 ⟨rfl, g3⟩
      rw [show tot [] = 0 from rfl, show ([] : List Ser).length = 0 from rfl]
      have hD3 := hD2.grew g3
      have g03 := g2.trans g3
      clear hD2 g2 g3
      go_wp2_with fail
      refine (span_hd hD3).mono ?_
      rintro e w4 ⟨tt, hp, rfl, g4⟩
      obtain rfl : tt = [] := List.perm_nil.1 hp
      rw [show spanS [] = (0, 0, false) from rfl]
      have hD4 := hD3.grew g4
      have g04 := g03.trans g4
      clear hD3 g03 g4 hp
      obtain ⟨W, hW⟩ : ∃ W, W = w4.alloc (.cells #[.string ⟨#[110, 101, 119]⟩, .string ⟨#[120]⟩] 53) := ⟨_, rfl⟩
      have gW : Grew w4 W := by rw [hW]; exact (Chg.refl _ w4).alloc _
      have hl : RE elLb W (some ⟨w4.heap.size, 0, none⟩) 1 lbN := by rw [hW]; exact RE.newAt rfl rfl rfl
      have hAd := add_hd (some ⟨w4.heap.size, 0, none⟩) 1 1 lbN 1 0 (hD4.grew gW) hl (by decide)
      rw [lim_f] at hAd
      have g0W := g04.trans gW
      clear hD4 gW hl g04
      go_wp2_with fail
      rw [← hW]
      clear hW
      refine hAd.mono ?_
      rintro e w5 ⟨rfl, S5, _, _, _, hc5⟩
      have g5 : Grew w w5 := Chg.new g0W hc5 hs.out
      clear hAd hc5 g0W
      have hAw := awake8_any w5 (hm.grew g5)
      by_cases h0 : m = 0
      · subst h0
        go_wp2_with fail
        refine hAw.mono ?_
        rintro e w6 ⟨rfl, g6⟩
        go_wp2
        go_ret
        exact ⟨by simp, g5.trans g6⟩
      · have e1 : ((m : Int) == 0) = false := by simp [h0]
        have e2 : decide ((0 : Int) < (m : Int)) = true := decide_eq_true (by omega)
        rw [if_neg h0]
        go_wp2_with fail
        refine hAw.mono ?_
        rintro e w6 ⟨rfl, g6⟩
        go_wp2
        go_ret
        exact ⟨by simp, g5.trans g6⟩
end Go.Proofs.YtailooldnelecaaDoor
