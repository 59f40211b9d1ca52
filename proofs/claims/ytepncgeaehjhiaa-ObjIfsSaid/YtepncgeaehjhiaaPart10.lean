/-
  Several texts in one:
  The law ObjIfs, walked. Conditions: none but what memory bears.
-/
import Derived.Test.YtepncgeaehjhiaaPart9

namespace Go.Proofs.Ytepncgeaehjhiaa
open Go.RowKit

theorem byt_of (k : Nat) : byt (UInt8.ofNat k) = .int .u8 ((k : Int) % 256) := by
  unfold byt
  rw [UInt8.toNat_ofNat']
  simp
theorem rb_byte (w : World) (k : Nat) : RB (w.alloc (.cells #[.int .u8 ((k : Int) % 256)] 5)) (some ⟨w.heap.size, 0, none⟩) 1 [UInt8.ofNat k] := RB.newAt rfl rfl (by rw [List.map_cons, List.map_nil, byt_of])

set_option maxRecDepth 100000 in
set_option maxHeartbeats 4000000 in
theorem walk_objIfs (A : Option Addr) (n ca : Nat) (gs : List Nat) (B : Option Addr) (m cb : Nat) (lb : List UInt8) (w : World) (ha : RE elU w A n gs) (hca : n ≤ ca ∧ ca ≤ 9223372036854775807) (hz : ∀ x ∈ gs, x < 18446744073709551616) (hb : RB w B m lb) (hm : m ≤ 140737488351232) :
    Calls Try.prog 3 #[.slice A n ca, .slice B m cb] w fun e w' => e = .returned (.bool true) ∧ Grew w w' := by
  go_enter Try.func3, Try.ntmps3
  go_wp2_with fail
  refine (fs_new w).mono ?_
  rintro e w1 ⟨d, mm, rfl, hF, hg1⟩
  go_wp2_with fail
  refine (open_clean hF (by simp) rfl).mono ?_
  rintro e w2 ⟨s, rfl, hbk, hs, hg2⟩
  obtain ⟨S2, L2, hS2⟩ := start_ex hF hbk hs hg2
  have G2 := hg1.trans hg2
  clear hF hbk hg1 hg2
  by_cases hbig : 1000 < m
  · have e1 : decide ((1000 : Int) < (m : Int)) = true := decide_eq_true (by omega)
    clear hbig
    go_wp2_with fail
    refine (awake_any _).mono ?_
    rintro e w3 ⟨rfl, hg3⟩
    go_wp2
    go_ret
    exact ⟨by simp, G2.trans hg3⟩
  have e1 : decide ((1000 : Int) < (m : Int)) = false := decide_eq_false (by omega)
  go_wp2
  go_loopw [7, 8] (fun nw i wr => ∃ k t : Nat, k ≤ n ∧ t ≤ 8 ∧ nw = .int .u64 (t : Int) ∧ i = .int .i64 (k : Int) ∧ ∃ S Ob, Hid (Liv S wr s Ob (3 * t)) ∧ Hid (∀ k, S k → w.heap.size ≤ k) ∧ Hid (genO Ob kK = t) ∧ Hid (Ob.length ≤ t) ∧ Grew w wr) (fun _ i _ => n - (intOf i).toNat)
  case atStart => exact ⟨0, 0, by omega, by omega, rfl, rfl, S2, [], L2, hS2, rfl, Nat.le_refl 0, G2⟩
  case round =>
    obtain ⟨k, t, hk, ht, rfl, rfl, S, Ob, hL, hS, hgen, hlen, hG⟩ := hrel
    by_cases hlt : k < n
    · obtain ⟨ad, x, rfl, hx, hcx⟩ := (ha.grew hG).at_ hlt (by decide)
      have hcx : wr.cell? (ad.add k) = some (.int .u64 (x : Int)) := by simpa [elU] using hcx 0 _ rfl
      have hxb := hz x (List.mem_of_getElem? hx)
      obtain ⟨g, hg⟩ : ∃ g : Nat, x % 8 = g := ⟨_, rfl⟩
      have hg8 : g < 8 := by omega
      go_wp2_with fail
      refine (copyBytes_any B m cb lb _ (by exact hb.grew hG) (by omega)).mono ?_
      rintro e w3 ⟨X, cx, rfl, hX, hg3⟩
      have hwl := hG.size
      have hwl3 := hg3.size
      have hown := hX.grew ((Chg.refl _ w3).alloc (.cells #[.int .u8 ((k : Int) % 256)] 5))
      go_wp2_with (at_builtin; refine wpList_appB rfl _ _ rfl wr.heap.size X m cx lb rfl hown (by simp; omega) _ 1 1 [UInt8.ofNat k] rfl (rb_byte w3 k) (by omega) ?_; intro A3 c3 w4 h4)
      have ho4 := h4.ob
      have hr4 : RB w4 A3 (m + 1) (lb ++ [UInt8.ofNat k]) := ho4.rb
      have G4 : Grew wr w4 := h4.grew (hg3.alloc _) fun ad e => (Own.blk_lt hX ad e).1
      have L4 := Lib.hid (hL.out.grew G4)
      clear h4 hown ho4 hX hcx hg3 hwl3 hL
      have e8 : ((g : Nat) : Int) = (x : Int) % 8 := by omega
      by_cases hgt : g = t
      · subst hgt
        have hP := liv_putIf L4.out (by omega) (by have := hlen.out; omega) kK key_k (by rw [hgen.out]; omega) A3 (m + 1) c3 _ hr4 (by omega)
        rw [hgen.out, e8] at hP
        have hq : (((x : Int) % 8) == ((g : Nat) : Int)) = true := by simp; omega
        clear e8 hg
        go_wp2_with fail
        refine hP.mono ?_
        rintro e w5 ⟨rfl, ⟨S5, L5, x5⟩, hc5⟩
        have GG := hG.trans G4
        have G5 : Grew w w5 := liv_grow GG hc5 hS.out
        have hS5 : Hid (∀ k, S5 k → w.heap.size ≤ k) := ext_ge x5 hS.out GG.size
        have hgen5 : Hid (genO (setO Ob ⟨kK, lb ++ [UInt8.ofNat k], g + 1⟩) kK = g + 1) := gen_set Ob ⟨kK, lb ++ [UInt8.ofNat k], g + 1⟩
        have hlen5 : Hid ((setO Ob ⟨kK, lb ++ [UInt8.ofNat k], g + 1⟩).length ≤ g + 1) := Nat.le_trans (setO_len _ _) (Nat.succ_le_succ hlen.out)
        have L5 := Lib.hid L5
        generalize setO Ob ⟨kK, lb ++ [UInt8.ofNat k], g + 1⟩ = Ob5 at *
        clear x5 hc5 L4 hS hlen hgen hP
        have hGet := liv_gen L5.out kK key_k
        rw [hgen5.out] at hGet
        go_wp2_with fail
        refine hGet.mono ?_
        rintro e w6 ⟨⟨v, u, rfl⟩, hg6⟩
        have L6 : Hid (Liv S5 w6 s Ob5 (3 * (g + 1))) := L5.out.grew hg6
        clear hq hGet
        go_wp2
        go_roundw
        case rel => exact ⟨k + 1, g + 1, by omega, by omega, by go_num, by go_num, S5, Ob5, L6, hS5, hgen5, hlen5, G5.trans hg6⟩
        case measure => simp [intOf]; omega
      · have hP := liv_putIf_no L4.out kK key_k A3 (m + 1) c3 (by omega) g (by rw [hgen.out]; omega)
        rw [hgen.out, e8] at hP
        have hq : (((x : Int) % 8) == ((t : Nat) : Int)) = false := by simp; omega
        clear e8 hg hgt
        go_wp2_with fail
        refine hP.mono ?_
        rintro e w5 ⟨rfl, hg5⟩
        have L5 := Lib.hid (L4.out.grew hg5)
        have hGet := liv_gen L5.out kK key_k
        rw [hgen.out] at hGet
        go_wp2_with fail
        refine hGet.mono ?_
        rintro e w6 ⟨⟨v, u, rfl⟩, hg6⟩
        have L6 := Lib.hid (L5.out.grew hg6)
        clear hq hGet L5 L4 hP
        go_wp2
        go_roundw
        case rel => exact ⟨k + 1, t, by omega, by omega, by go_num, by go_num, S, Ob, L6, hS, hgen, hlen, ((hG.trans G4).trans hg5).trans hg6⟩
        case measure => simp [intOf]; omega
    · obtain rfl : k = n := by omega
      go_wp2_with fail
      refine (awake_any _).mono ?_
      rintro e w3 ⟨rfl, hg3⟩
      go_wp2
      go_ret
      exact ⟨by simp, hG.trans hg3⟩
end Go.Proofs.Ytepncgeaehjhiaa
