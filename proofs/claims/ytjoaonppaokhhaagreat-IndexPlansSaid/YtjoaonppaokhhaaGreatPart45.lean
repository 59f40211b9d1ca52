/-
  Several texts in one:
  (slices.symMergeCmpFunc) of metas by Plan's comparison: the same metas, in some order. Conditions: lengths that a slice has.
-/
import Derived.Test.YtjoaonppaokhhaaGreatPart44
import Derived.Deep.CutRange

namespace Go.Proofs.YtjoaonppaokhhaaGreat
open Go.RowKit

set_option maxRecDepth 100000 in
set_option maxHeartbeats 16000000 in
theorem msym_one (base g o n cp a m b : Nat) (d : Array MtM) (w : World) (ho : o = 0) (hn : n < 100000) (h : MA w base g n cp d) (ham : a < m) (hmb : m < b) (hb : b ≤ n) (h1 : m - a = 1) :
    Calls Tryz.prog 124 #[.slice (some ⟨g, o, none⟩) n cp, .int .i64 (a : Int), .int .i64 (m : Int), .int .i64 (b : Int), .func (.func 75) #[] #[]] w fun e w' => e = .returned (.tuple #[]) ∧ MpTo base g n cp d w w' := by
  replace ho := Lib.hid ho
  replace h := Lib.hid h
  have h1z : ((m : Int) - (a : Int) == 1) = true := by
    have : (m : Int) - (a : Int) = 1 := by omega
    simp [this]
  go_enter Tryz.func124, Tryz.ntmps124
  go_wp2
  go_loopw [10, 11] (fun vi vj wr => ∃ (i j : Nat), vi = .int .i64 (i : Int) ∧ vj = .int .i64 (j : Int) ∧ m ≤ i ∧ i ≤ j ∧ j ≤ b ∧ MsTo base g n cp w d wr) (fun vi vj _ => (intOf vj).toNat - (intOf vi).toNat)
  case atStart => exact ⟨m, b, rfl, rfl, Nat.le_refl _, by omega, Nat.le_refl _, h.out, Chg.refl _ _⟩
  case round =>
    clear h
    obtain ⟨i, j, rfl, rfl, hli, hij, hjh, hu⟩ := hrel
    obtain ⟨e, he⟩ : ∃ e, e = d := ⟨_, rfl⟩
    rw [← he] at hu
    have hp : Hid (Go.Sort.PermIn 0 n d e) := by rw [he]; exact Go.Sort.permIn_refl _ _ _
    replace he := Lib.hid he
    by_cases hlt : i < j
    · have hltz : (i : Int) < (j : Int) := by omega
      obtain ⟨c, hc0⟩ : ∃ u, u = (i + j) / 2 := ⟨_, rfl⟩
      have hcz : ((i : Int) + (j : Int)) / 2 = (c : Int) := by omega
      have hc1 : i ≤ c := by omega
      have hc2 : c < j := by omega
      clear hc0
      have hT : True := True.intro
      obtain ⟨G, hG⟩ : ∃ G : Nat → MtM, ∀ k, G k = e[k]! := ⟨fun k => e[k]!, fun _ => rfl⟩
      obtain ⟨c0, c1, c2, c3, c4, c5, c6, fr⟩ := hu.1.fam ho.out (by omega) G hG
      replace hG := Lib.hid hG
      have x0 := c0 c (by omega)
      have x1 := c1 c (by omega)
      have x2 := c2 c (by omega)
      have x3 := c3 c (by omega)
      have x4 := c4 c (by omega)
      have x5 := c5 c (by omega)
      have x6 := c6 c (by omega)
      have y0 := c0 a (by omega)
      have y1 := c1 a (by omega)
      have y2 := c2 a (by omega)
      have y3 := c3 a (by omega)
      have y4 := c4 a (by omega)
      have y5 := c5 a (by omega)
      have y6 := c6 a (by omega)
      clear c0 c1 c2 c3 c4 c5 c6
      replace hu := Lib.hid hu
      go_wp2_with fail
      refine wp_region_text [(3, 1)] (by kernel_rfl) (by kernel_rfl) ?_
      simp only [instr, chk, look, Nat.reduceBEq, if_true, if_false, Nat.reduceEqDiff, List.cons_append, List.nil_append]
      go_wp2_with fail
      refine (plan1_any (G c).m (G a).m (G c).A (G a).A (G c).n (G c).c (G a).n (G a).c _).mono ?_
      rintro x w1 ⟨rfl, g1⟩
      have gw1 : Grew wr w1 := Chg.trans (by repeat (first | exact Chg.refl _ _ | apply Chg.alloc | apply Chg.drew)) g1
      clear g1 x0 x1 x2 x3 x4 x5 x6 y0 y1 y2 y3 y4 y5 y6 fr
      generalize cmpM (G c).m (G a).m = z
      go_wp2_with fail
      refine OnlyN.normal ?_
      go_wp2_with fail
      all_goals
        have hu1 : Hid (MsTo base g n cp w d w1) := by
          have := hu.out.grow gw1
          rw [he.out] at this
          exact this
        clear hu gw1
        go_wp2
        go_roundw
      case' rel => first | exact ⟨c + 1, j, by go_num, rfl, by omega, by omega, by omega, hu1.out⟩ | exact ⟨i, c, rfl, rfl, by omega, by omega, by omega, hu1.out⟩
      all_goals first | (simp [intOf]; done) | (simp [intOf]; omega) | exact ⟨i, c, rfl, rfl, by omega, by omega, by omega, hu1.out⟩
    · have hltz : ¬ ((i : Int) < (j : Int)) := by omega
      replace hu := Lib.hid hu
      go_wp2
      go_loopw [13] (fun vk wr => ∃ (k : Nat) (e : Array MtM), vk = .int .i64 (k : Int) ∧ a ≤ k ∧ k < i ∧ Go.Sort.PermIn 0 n d e ∧ MsTo base g n cp w e wr) (fun vk _ => i - (intOf vk).toNat)
      case atStart => exact ⟨a, e, rfl, Nat.le_refl _, by omega, hp.out, hu.out⟩
      case round =>
        clear hp hu he
        obtain ⟨k, e, rfl, hak, hki, hp, hu⟩ := hrel
        by_cases hkl : k < i - 1
        · have hklz : (k : Int) < (i : Int) - 1 := by omega
          obtain ⟨u, hu0⟩ : ∃ u, u = k + 1 := ⟨_, rfl⟩
          have hku : (k : Int) + 1 = (u : Int) := by omega
          have hk1 : k < u := by omega
          have hk2 : u < i := by omega
          clear hu0
          obtain ⟨G, hG⟩ : ∃ G : Nat → MtM, ∀ k, G k = e[k]! := ⟨fun k => e[k]!, fun _ => rfl⟩
          obtain ⟨c0, c1, c2, c3, c4, c5, c6, fr⟩ := hu.1.fam ho.out (by omega) G hG
          replace hG := Lib.hid hG
          have x0 := c0 k (by omega)
          have x1 := c1 k (by omega)
          have x2 := c2 k (by omega)
          have x3 := c3 k (by omega)
          have x4 := c4 k (by omega)
          have x5 := c5 k (by omega)
          have x6 := c6 k (by omega)
          have y0 := c0 u (by omega)
          have y1 := c1 u (by omega)
          have y2 := c2 u (by omega)
          have y3 := c3 u (by omega)
          have y4 := c4 u (by omega)
          have y5 := c5 u (by omega)
          have y6 := c6 u (by omega)
          clear c0 c1 c2 c3 c4 c5 c6
          have S1 := Lib.hid (hu.1.swpo ho.out (i := k) (j := u) (by omega) (by omega) _ _ (hG.out _).symm (hG.out _).symm)
          have C1 := Lib.hid ((hu.2.setMt (o + k * 7) (G u)).setMt (o + u * 7) (G k))
          have P1 := Lib.hid (mt_swap hp hu.1.size (i := k) (j := u) (by omega) (by omega))
          go_wp2_with fail
          go_region
          clear x0 x1 x2 x3 x4 x5 x6 y0 y1 y2 y3 y4 y5 y6 fr
          obtain ⟨W1, hW1⟩ : ∃ W1, W1 = (setMt (setMt wr g (o + k * 7) (G u)) g (o + u * 7) (G k)).drew := ⟨_, rfl⟩
          have R1 : Hid (MsTo base g n cp w (Go.Sort.swp e k u) W1) := by rw [hW1]; exact ⟨S1.out.drew, C1.out.drew⟩
          unfold setMt at hW1
          rw [← hW1]
          clear hW1 S1 C1
          clear hp hu
          go_wp2
          go_roundw
          case rel => exact ⟨u, _, rfl, by omega, hk2, P1.out, R1.out⟩
          case measure => simp [intOf]; omega
        · have hklz : ¬ ((k : Int) < (i : Int) - 1) := by omega
          replace hp := Lib.hid hp
          replace hu := Lib.hid hu
          go_wp2
          first
            | go_end0
            | refine bodyPost_ret (results_none rfl _ _ _) rfl ?_
          exact ⟨rfl, e, hp.out, hu.out⟩

set_option maxRecDepth 100000 in
set_option maxHeartbeats 16000000 in
theorem msym_last (base g o n cp a m b : Nat) (d : Array MtM) (w : World) (ho : o = 0) (hn : n < 100000) (h : MA w base g n cp d) (ham : a < m) (hmb : m < b) (hb : b ≤ n) (h1 : m - a ≠ 1) (h2 : b - m = 1) :
    Calls Tryz.prog 124 #[.slice (some ⟨g, o, none⟩) n cp, .int .i64 (a : Int), .int .i64 (m : Int), .int .i64 (b : Int), .func (.func 75) #[] #[]] w fun e w' => e = .returned (.tuple #[]) ∧ MpTo base g n cp d w w' := by
  replace ho := Lib.hid ho
  replace h := Lib.hid h
  have h1z : ((m : Int) - (a : Int) == 1) = false := by
    have : ¬ ((m : Int) - (a : Int) = 1) := by omega
    simp [this]
  have h1y : ¬ ((m : Int) - (a : Int) = 1) := by omega
  have h2z : ((b : Int) - (m : Int) == 1) = true := by
    have : (b : Int) - (m : Int) = 1 := by omega
    simp [this]
  go_enter Tryz.func124, Tryz.ntmps124
  go_wp2
  go_loopw [14, 15] (fun vi vj wr => ∃ (i j : Nat), vi = .int .i64 (i : Int) ∧ vj = .int .i64 (j : Int) ∧ a ≤ i ∧ i ≤ j ∧ j ≤ m ∧ MsTo base g n cp w d wr) (fun vi vj _ => (intOf vj).toNat - (intOf vi).toNat)
  case atStart => exact ⟨a, m, rfl, rfl, Nat.le_refl _, by omega, Nat.le_refl _, h.out, Chg.refl _ _⟩
  case round =>
    clear h
    obtain ⟨i, j, rfl, rfl, hli, hij, hjh, hu⟩ := hrel
    obtain ⟨e, he⟩ : ∃ e, e = d := ⟨_, rfl⟩
    rw [← he] at hu
    have hp : Hid (Go.Sort.PermIn 0 n d e) := by rw [he]; exact Go.Sort.permIn_refl _ _ _
    replace he := Lib.hid he
    by_cases hlt : i < j
    · have hltz : (i : Int) < (j : Int) := by omega
      obtain ⟨c, hc0⟩ : ∃ u, u = (i + j) / 2 := ⟨_, rfl⟩
      have hcz : ((i : Int) + (j : Int)) / 2 = (c : Int) := by omega
      have hc1 : i ≤ c := by omega
      have hc2 : c < j := by omega
      clear hc0
      have hT : True := True.intro
      obtain ⟨G, hG⟩ : ∃ G : Nat → MtM, ∀ k, G k = e[k]! := ⟨fun k => e[k]!, fun _ => rfl⟩
      obtain ⟨c0, c1, c2, c3, c4, c5, c6, fr⟩ := hu.1.fam ho.out (by omega) G hG
      replace hG := Lib.hid hG
      have x0 := c0 m (by omega)
      have x1 := c1 m (by omega)
      have x2 := c2 m (by omega)
      have x3 := c3 m (by omega)
      have x4 := c4 m (by omega)
      have x5 := c5 m (by omega)
      have x6 := c6 m (by omega)
      have y0 := c0 c (by omega)
      have y1 := c1 c (by omega)
      have y2 := c2 c (by omega)
      have y3 := c3 c (by omega)
      have y4 := c4 c (by omega)
      have y5 := c5 c (by omega)
      have y6 := c6 c (by omega)
      clear c0 c1 c2 c3 c4 c5 c6
      replace hu := Lib.hid hu
      go_wp2_with fail
      refine wp_region_text [(3, 1)] (by kernel_rfl) (by kernel_rfl) ?_
      simp only [instr, chk, look, Nat.reduceBEq, if_true, if_false, Nat.reduceEqDiff, List.cons_append, List.nil_append]
      go_wp2_with fail
      refine (plan1_any (G m).m (G c).m (G m).A (G c).A (G m).n (G m).c (G c).n (G c).c _).mono ?_
      rintro x w1 ⟨rfl, g1⟩
      have gw1 : Grew wr w1 := Chg.trans (by repeat (first | exact Chg.refl _ _ | apply Chg.alloc | apply Chg.drew)) g1
      clear g1 x0 x1 x2 x3 x4 x5 x6 y0 y1 y2 y3 y4 y5 y6 fr
      generalize cmpM (G m).m (G c).m = z
      go_wp2_with fail
      refine OnlyN.normal ?_
      go_wp2_with fail
      all_goals
        have hu1 : Hid (MsTo base g n cp w d w1) := by
          have := hu.out.grow gw1
          rw [he.out] at this
          exact this
        clear hu gw1
        go_wp2
        go_roundw
      case' rel => first | exact ⟨c + 1, j, by go_num, rfl, by omega, by omega, by omega, hu1.out⟩ | exact ⟨i, c, rfl, rfl, by omega, by omega, by omega, hu1.out⟩
      all_goals first | (simp [intOf]; done) | (simp [intOf]; omega) | exact ⟨i, c, rfl, rfl, by omega, by omega, by omega, hu1.out⟩
    · have hltz : ¬ ((i : Int) < (j : Int)) := by omega
      replace hu := Lib.hid hu
      go_wp2
      go_loopw [17] (fun vk wr => ∃ (k : Nat) (e : Array MtM), vk = .int .i64 (k : Int) ∧ i ≤ k ∧ k ≤ m ∧ Go.Sort.PermIn 0 n d e ∧ MsTo base g n cp w e wr) (fun vk _ => (intOf vk).toNat)
      case atStart => exact ⟨m, e, rfl, by omega, Nat.le_refl _, hp.out, hu.out⟩
      case round =>
        clear hp hu he
        obtain ⟨k, e, rfl, hik, hkm, hp, hu⟩ := hrel
        by_cases hkl : i < k
        · have hklz : (i : Int) < (k : Int) := by omega
          obtain ⟨u, hu0⟩ : ∃ u, u = k - 1 := ⟨_, rfl⟩
          have hku : (k : Int) - 1 = (u : Int) := by omega
          have hk1 : u < k := by omega
          have hk2 : i ≤ u := by omega
          clear hu0
          obtain ⟨G, hG⟩ : ∃ G : Nat → MtM, ∀ k, G k = e[k]! := ⟨fun k => e[k]!, fun _ => rfl⟩
          obtain ⟨c0, c1, c2, c3, c4, c5, c6, fr⟩ := hu.1.fam ho.out (by omega) G hG
          replace hG := Lib.hid hG
          have x0 := c0 k (by omega)
          have x1 := c1 k (by omega)
          have x2 := c2 k (by omega)
          have x3 := c3 k (by omega)
          have x4 := c4 k (by omega)
          have x5 := c5 k (by omega)
          have x6 := c6 k (by omega)
          have y0 := c0 u (by omega)
          have y1 := c1 u (by omega)
          have y2 := c2 u (by omega)
          have y3 := c3 u (by omega)
          have y4 := c4 u (by omega)
          have y5 := c5 u (by omega)
          have y6 := c6 u (by omega)
          clear c0 c1 c2 c3 c4 c5 c6
          have S1 := Lib.hid (hu.1.swpo ho.out (i := k) (j := u) (by omega) (by omega) _ _ (hG.out _).symm (hG.out _).symm)
          have C1 := Lib.hid ((hu.2.setMt (o + k * 7) (G u)).setMt (o + u * 7) (G k))
          have P1 := Lib.hid (mt_swap hp hu.1.size (i := k) (j := u) (by omega) (by omega))
          go_wp2_with fail
          go_region
          clear x0 x1 x2 x3 x4 x5 x6 y0 y1 y2 y3 y4 y5 y6 fr
          obtain ⟨W1, hW1⟩ : ∃ W1, W1 = (setMt (setMt wr g (o + k * 7) (G u)) g (o + u * 7) (G k)).drew := ⟨_, rfl⟩
          have R1 : Hid (MsTo base g n cp w (Go.Sort.swp e k u) W1) := by rw [hW1]; exact ⟨S1.out.drew, C1.out.drew⟩
          unfold setMt at hW1
          rw [← hW1]
          clear hW1 S1 C1
          clear hp hu
          go_wp2
          go_roundw
          case rel => exact ⟨u, _, rfl, hk2, by omega, P1.out, R1.out⟩
          case measure => simp [intOf]; omega
        · have hklz : ¬ ((i : Int) < (k : Int)) := by omega
          replace hp := Lib.hid hp
          replace hu := Lib.hid hu
          go_wp2
          first
            | go_end0
            | refine bodyPost_ret (results_none rfl _ _ _) rfl ?_
          exact ⟨rfl, e, hp.out, hu.out⟩
end Go.Proofs.YtjoaonppaokhhaaGreat
