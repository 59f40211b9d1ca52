/-
  Several texts in one:
  (slices.symMergeCmpFunc) of metas by Plan's comparison: the same metas, in some order. Conditions: lengths that a slice has.
-/
import Derived.Test.YtjoaonppaokhhaaGreatPart45

namespace Go.Proofs.YtjoaonppaokhhaaGreat
open Go.RowKit

set_option maxRecDepth 100000 in
set_option maxHeartbeats 16000000 in
theorem msym_hi (base g o n cp a m b : Nat) (d : Array MtM) (w : World) (ho : o = 0) (hn : n < 100000) (h : MA w base g n cp d) (ham : a < m) (hmb : m < b) (hb : b ≤ n) (r : Nat) (hr : b - a ≤ r) (ih : ∀ r', r' < r → ∀ (a m b : Nat) (d : Array MtM) (w : World), b - a ≤ r' → MA w base g n cp d → a < m → m < b → b ≤ n → Calls Tryz.prog 124 #[.slice (some ⟨g, o, none⟩) n cp, .int .i64 (a : Int), .int .i64 (m : Int), .int .i64 (b : Int), .func (.func 75) #[] #[]] w fun e w' => e = .returned (.tuple #[]) ∧ MpTo base g n cp d w w') (h1 : m - a ≠ 1) (h2 : b - m ≠ 1) (hmm : (a + b) / 2 < m) :
    Calls Tryz.prog 124 #[.slice (some ⟨g, o, none⟩) n cp, .int .i64 (a : Int), .int .i64 (m : Int), .int .i64 (b : Int), .func (.func 75) #[] #[]] w fun e w' => e = .returned (.tuple #[]) ∧ MpTo base g n cp d w w' := by
  replace ho := Lib.hid ho
  replace h := Lib.hid h
  have h1z : ((m : Int) - (a : Int) == 1) = false := by
    have : ¬ ((m : Int) - (a : Int) = 1) := by omega
    simp [this]
  have h1y : ¬ ((m : Int) - (a : Int) = 1) := by omega
  have h2z : ((b : Int) - (m : Int) == 1) = false := by
    have : ¬ ((b : Int) - (m : Int) = 1) := by omega
    simp [this]
  have h2y : ¬ ((b : Int) - (m : Int) = 1) := by omega
  go_enter Tryz.func124, Tryz.ntmps124
  obtain ⟨mid, hmid0⟩ : ∃ u, u = (a + b) / 2 := ⟨_, rfl⟩
  have hmidz : ((a : Int) + (b : Int)) / 2 = (mid : Int) := by omega
  have hmid1 : 2 * mid ≤ a + b := by omega
  have hmid2 : a + b ≤ 2 * mid + 1 := by omega
  have hmq : mid < m := by omega
  clear hmid0 hmm
  obtain ⟨s, hs0⟩ : ∃ u, u = mid + m := ⟨_, rfl⟩
  have hsz : (mid : Int) + (m : Int) = (s : Int) := by omega
  have hs1 : s ≤ mid + m := by omega
  have hs2 : mid + m ≤ s := by omega
  clear hs0
  have hmmz : (mid : Int) < (m : Int) := by omega
  obtain ⟨lo, hlo0⟩ : ∃ u, u = s - b := ⟨_, rfl⟩
  have hloz : (s : Int) - (b : Int) = (lo : Int) := by omega
  have hlo1 : s ≤ b + lo := by omega
  have hlo2 : lo ≤ mid := by omega
  clear hlo0

  replace h := Lib.hid h
  go_wp2
  go_loopw [20, 21] (fun vi vj wr => ∃ (i j : Nat), vi = .int .i64 (i : Int) ∧ vj = .int .i64 (j : Int) ∧ lo ≤ i ∧ i ≤ j ∧ j ≤ mid ∧ MsTo base g n cp w d wr) (fun vi vj _ => (intOf vj).toNat - (intOf vi).toNat)
  case atStart => exact ⟨lo, mid, rfl, rfl, Nat.le_refl _, by omega, Nat.le_refl _, h.out, Chg.refl _ _⟩
  case round =>
    clear h
    obtain ⟨i, j, rfl, rfl, hli, hij, hjh, hu⟩ := hrel
    obtain ⟨e, he⟩ : ∃ e, e = d := ⟨_, rfl⟩
    rw [← he] at hu
    have hp : Hid (Go.Sort.PermIn 0 n d e) := by rw [he]; exact Go.Sort.permIn_refl _ _ _
    replace he := Lib.hid he
    by_cases hlt : i < j
    · have hltz : (i : Int) < (j : Int) := by omega
      obtain ⟨c, hc0⟩ : ∃ u, u = (i + j) / 2 := ⟨_, rfl⟩
      have hcz : ((i : Int) + (j : Int)) / 2 = (c : Int) := by omega
      have hc1 : i ≤ c := by omega
      have hc2 : c < j := by omega
      clear hc0
      obtain ⟨q, hq0⟩ : ∃ u, u = s - 1 - c := ⟨_, rfl⟩
      have hqz : (s : Int) - 1 - (c : Int) = (q : Int) := by omega
      have hq1 : q < n := by omega
      have hq2 : mid ≤ q := by omega
      clear hq0
      obtain ⟨G, hG⟩ : ∃ G : Nat → MtM, ∀ k, G k = e[k]! := ⟨fun k => e[k]!, fun _ => rfl⟩
      obtain ⟨c0, c1, c2, c3, c4, c5, c6, fr⟩ := hu.1.fam ho.out (by omega) G hG
      replace hG := Lib.hid hG
      have x0 := c0 q (by omega)
      have x1 := c1 q (by omega)
      have x2 := c2 q (by omega)
      have x3 := c3 q (by omega)
      have x4 := c4 q (by omega)
      have x5 := c5 q (by omega)
      have x6 := c6 q (by omega)
      have y0 := c0 c (by omega)
      have y1 := c1 c (by omega)
      have y2 := c2 c (by omega)
      have y3 := c3 c (by omega)
      have y4 := c4 c (by omega)
      have y5 := c5 c (by omega)
      have y6 := c6 c (by omega)
      clear c0 c1 c2 c3 c4 c5 c6
      replace hu := Lib.hid hu
      go_wp2_with fail
      refine wp_region_text [(3, 1)] (by kernel_rfl) (by kernel_rfl) ?_
      simp only [instr, chk, look, Nat.reduceBEq, if_true, if_false, Nat.reduceEqDiff, List.cons_append, List.nil_append]
      go_wp2_with fail
      refine (plan1_any (G q).m (G c).m (G q).A (G c).A (G q).n (G q).c (G c).n (G c).c _).mono ?_
      rintro x w1 ⟨rfl, g1⟩
      have gw1 : Grew wr w1 := Chg.trans (by repeat (first | exact Chg.refl _ _ | apply Chg.alloc | apply Chg.drew)) g1
      clear g1 x0 x1 x2 x3 x4 x5 x6 y0 y1 y2 y3 y4 y5 y6 fr
      generalize cmpM (G q).m (G c).m = z
      go_wp2_with fail
      refine OnlyN.normal ?_
      go_wp2_with fail
      all_goals
        have hu1 : Hid (MsTo base g n cp w d w1) := by
          have := hu.out.grow gw1
          rw [he.out] at this
          exact this
        clear hu gw1
        go_wp2
        go_roundw
      case' rel => first | exact ⟨c + 1, j, by go_num, rfl, by omega, by omega, by omega, hu1.out⟩ | exact ⟨i, c, rfl, rfl, by omega, by omega, by omega, hu1.out⟩
      all_goals first | (simp [intOf]; done) | (simp [intOf]; omega) | exact ⟨i, c, rfl, rfl, by omega, by omega, by omega, hu1.out⟩
    · have hltz : ¬ ((i : Int) < (j : Int)) := by omega
      obtain ⟨en, hen0⟩ : ∃ u, u = s - i := ⟨_, rfl⟩
      have henz : (s : Int) - (i : Int) = (en : Int) := by omega
      have hen1 : en ≤ b := by omega
      have hen2 : mid ≤ en := by omega
      clear hen0
      replace hu := Lib.hid hu
      go_upto_region 39 with fail
      go_cut [185] from 178 to 185 (fun v wx => v = .bool (decide (i < m ∧ m < en)) ∧ MsTo base g n cp w e wx)
      case first =>
        by_cases h1 : i < m
        · have h1z : (i : Int) < (m : Int) := by omega
          by_cases h2 : m < en
          · have h2z : (m : Int) < (en : Int) := by omega
            go_wp2_with fail
            go_meet
            case rel => exact ⟨by simp [h1, h2], hu.out⟩
          · have h2z : ¬ ((m : Int) < (en : Int)) := by omega
            go_wp2_with fail
            go_meet
            case rel => exact ⟨by simp [h1, h2], hu.out⟩
        · have h1z : ¬ ((i : Int) < (m : Int)) := by omega
          go_wp2_with fail
          go_meet
          case rel => exact ⟨by simp [h1], hu.out⟩
      case rest =>
        obtain ⟨rfl, hu2⟩ := hcut
        clear hu
        have hu := Lib.hid hu2
        clear hu2
        go_upto_if 185 with fail
        go_cut [] from 185 to 191 (fun wx => ∃ e, Go.Sort.PermIn 0 n d e ∧ MsTo base g n cp w e wx)
        case first =>
          by_cases hc : i < m ∧ m < en
          · have hcb : decide (i < m ∧ m < en) = true := decide_eq_true hc
            have hQ := mrot_any base g o n cp i m en (.func (.func 75) #[] #[]) e wc ho.out hu.out.1 hc.1 hc.2 (by omega) hn
            simp only [hcb]
            clear hcb
            go_wp2_with fail
            refine hQ.mono ?_
            rintro x w1 ⟨rfl, f, hp1, hu1⟩
            have P1 := Lib.hid (Go.Sort.permIn_trans _ _ _ 0 n hp.out hp1)
            have R1 := Lib.hid (hu.out.trans hu1)
            clear hQ hp1 hu1
            go_wp2_with fail
            go_meet
            case rel => exact ⟨f, P1.out, R1.out⟩
          · have hcb : decide (i < m ∧ m < en) = false := decide_eq_false hc
            simp only [hcb]
            clear hcb
            go_wp2_with fail
            go_meet
            case rel => exact ⟨e, hp.out, hu.out⟩
        case rest =>
          clear hp hu
          obtain ⟨e, hp, hu⟩ := hcut
          replace hp := Lib.hid hp
          replace hu := Lib.hid hu
          go_upto_region 41 with fail
          go_cut [199] from 192 to 199 (fun v wx => v = .bool (decide (a < i ∧ i < mid)) ∧ MsTo base g n cp w e wx)
          case first =>
            by_cases h1 : a < i
            · have h1z : (a : Int) < (i : Int) := by omega
              by_cases h2 : i < mid
              · have h2z : (i : Int) < (mid : Int) := by omega
                go_wp2_with fail
                go_meet
                case rel => exact ⟨by simp [h1, h2], hu.out⟩
              · have h2z : ¬ ((i : Int) < (mid : Int)) := by omega
                go_wp2_with fail
                go_meet
                case rel => exact ⟨by simp [h1, h2], hu.out⟩
            · have h1z : ¬ ((a : Int) < (i : Int)) := by omega
              go_wp2_with fail
              go_meet
              case rel => exact ⟨by simp [h1], hu.out⟩
          case rest =>
            obtain ⟨rfl, hu2⟩ := hcut
            clear hu
            have hu := Lib.hid hu2
            clear hu2
            go_upto_if 199 with fail
            go_cut [] from 199 to 205 (fun wx => ∃ e, Go.Sort.PermIn 0 n d e ∧ MsTo base g n cp w e wx)
            case first =>
              by_cases hc : a < i ∧ i < mid
              · have hcb : decide (a < i ∧ i < mid) = true := decide_eq_true hc
                have hQ := ih (mid - a) (by omega) a i mid e wc (Nat.le_refl _) hu.out.1 hc.1 hc.2 (by omega)
                simp only [hcb]
                clear hcb
                go_wp2_with fail
                refine hQ.mono ?_
                rintro x w1 ⟨rfl, f, hp1, hu1⟩
                have P1 := Lib.hid (Go.Sort.permIn_trans _ _ _ 0 n hp.out hp1)
                have R1 := Lib.hid (hu.out.trans hu1)
                clear hQ hp1 hu1
                go_wp2_with fail
                go_meet
                case rel => exact ⟨f, P1.out, R1.out⟩
              · have hcb : decide (a < i ∧ i < mid) = false := decide_eq_false hc
                simp only [hcb]
                clear hcb
                go_wp2_with fail
                go_meet
                case rel => exact ⟨e, hp.out, hu.out⟩
            case rest =>
              clear hp hu
              obtain ⟨e, hp, hu⟩ := hcut
              replace hp := Lib.hid hp
              replace hu := Lib.hid hu
              go_upto_region 43 with fail
              go_cut [213] from 206 to 213 (fun v wx => v = .bool (decide (mid < en ∧ en < b)) ∧ MsTo base g n cp w e wx)
              case first =>
                by_cases h1 : mid < en
                · have h1z : (mid : Int) < (en : Int) := by omega
                  by_cases h2 : en < b
                  · have h2z : (en : Int) < (b : Int) := by omega
                    go_wp2_with fail
                    go_meet
                    case rel => exact ⟨by simp [h1, h2], hu.out⟩
                  · have h2z : ¬ ((en : Int) < (b : Int)) := by omega
                    go_wp2_with fail
                    go_meet
                    case rel => exact ⟨by simp [h1, h2], hu.out⟩
                · have h1z : ¬ ((mid : Int) < (en : Int)) := by omega
                  go_wp2_with fail
                  go_meet
                  case rel => exact ⟨by simp [h1], hu.out⟩
              case rest =>
                obtain ⟨rfl, hu2⟩ := hcut
                clear hu
                have hu := Lib.hid hu2
                clear hu2
                by_cases hc : mid < en ∧ en < b
                · have hcb : decide (mid < en ∧ en < b) = true := decide_eq_true hc
                  have hQ := ih (b - mid) (by omega) mid en b e wc (Nat.le_refl _) hu.out.1 hc.1 hc.2 hb
                  simp only [hcb]
                  clear hcb
                  go_wp2_with fail
                  refine hQ.mono ?_
                  rintro x w1 ⟨rfl, f, hp1, hu1⟩
                  have P1 := Lib.hid (Go.Sort.permIn_trans _ _ _ 0 n hp.out hp1)
                  have R1 := Lib.hid (hu.out.trans hu1)
                  clear hQ hp1 hu1
                  go_wp2
                  first
                    | go_end0
                    | refine bodyPost_ret (results_none rfl _ _ _) rfl ?_
                  exact ⟨rfl, f, P1.out, R1.out⟩
                · have hcb : decide (mid < en ∧ en < b) = false := decide_eq_false hc
                  simp only [hcb]
                  clear hcb
                  go_wp2
                  first
                    | go_end0
                    | refine bodyPost_ret (results_none rfl _ _ _) rfl ?_
                  exact ⟨rfl, e, hp.out, hu.out⟩

set_option maxRecDepth 100000 in
set_option maxHeartbeats 16000000 in
theorem msym_lo (base g o n cp a m b : Nat) (d : Array MtM) (w : World) (ho : o = 0) (hn : n < 100000) (h : MA w base g n cp d) (ham : a < m) (hmb : m < b) (hb : b ≤ n) (r : Nat) (hr : b - a ≤ r) (ih : ∀ r', r' < r → ∀ (a m b : Nat) (d : Array MtM) (w : World), b - a ≤ r' → MA w base g n cp d → a < m → m < b → b ≤ n → Calls Tryz.prog 124 #[.slice (some ⟨g, o, none⟩) n cp, .int .i64 (a : Int), .int .i64 (m : Int), .int .i64 (b : Int), .func (.func 75) #[] #[]] w fun e w' => e = .returned (.tuple #[]) ∧ MpTo base g n cp d w w') (h1 : m - a ≠ 1) (h2 : b - m ≠ 1) (hmm : ¬ (a + b) / 2 < m) :
    Calls Tryz.prog 124 #[.slice (some ⟨g, o, none⟩) n cp, .int .i64 (a : Int), .int .i64 (m : Int), .int .i64 (b : Int), .func (.func 75) #[] #[]] w fun e w' => e = .returned (.tuple #[]) ∧ MpTo base g n cp d w w' := by
  replace ho := Lib.hid ho
  replace h := Lib.hid h
  have h1z : ((m : Int) - (a : Int) == 1) = false := by
    have : ¬ ((m : Int) - (a : Int) = 1) := by omega
    simp [this]
  have h1y : ¬ ((m : Int) - (a : Int) = 1) := by omega
  have h2z : ((b : Int) - (m : Int) == 1) = false := by
    have : ¬ ((b : Int) - (m : Int) = 1) := by omega
    simp [this]
  have h2y : ¬ ((b : Int) - (m : Int) = 1) := by omega
  go_enter Tryz.func124, Tryz.ntmps124
  obtain ⟨mid, hmid0⟩ : ∃ u, u = (a + b) / 2 := ⟨_, rfl⟩
  have hmidz : ((a : Int) + (b : Int)) / 2 = (mid : Int) := by omega
  have hmid1 : 2 * mid ≤ a + b := by omega
  have hmid2 : a + b ≤ 2 * mid + 1 := by omega
  have hmq : ¬ mid < m := by omega
  clear hmid0 hmm
  obtain ⟨s, hs0⟩ : ∃ u, u = mid + m := ⟨_, rfl⟩
  have hsz : (mid : Int) + (m : Int) = (s : Int) := by omega
  have hs1 : s ≤ mid + m := by omega
  have hs2 : mid + m ≤ s := by omega
  clear hs0
  have hmmz : ¬ ((mid : Int) < (m : Int)) := by omega
  have hlo1 : s ≤ b + a := by omega

  replace h := Lib.hid h
  go_wp2
  go_loopw [20, 21] (fun vi vj wr => ∃ (i j : Nat), vi = .int .i64 (i : Int) ∧ vj = .int .i64 (j : Int) ∧ a ≤ i ∧ i ≤ j ∧ j ≤ m ∧ MsTo base g n cp w d wr) (fun vi vj _ => (intOf vj).toNat - (intOf vi).toNat)
  case atStart => exact ⟨a, m, rfl, rfl, Nat.le_refl _, by omega, Nat.le_refl _, h.out, Chg.refl _ _⟩
  case round =>
    clear h
    obtain ⟨i, j, rfl, rfl, hli, hij, hjh, hu⟩ := hrel
    obtain ⟨e, he⟩ : ∃ e, e = d := ⟨_, rfl⟩
    rw [← he] at hu
    have hp : Hid (Go.Sort.PermIn 0 n d e) := by rw [he]; exact Go.Sort.permIn_refl _ _ _
    replace he := Lib.hid he
    by_cases hlt : i < j
    · have hltz : (i : Int) < (j : Int) := by omega
      obtain ⟨c, hc0⟩ : ∃ u, u = (i + j) / 2 := ⟨_, rfl⟩
      have hcz : ((i : Int) + (j : Int)) / 2 = (c : Int) := by omega
      have hc1 : i ≤ c := by omega
      have hc2 : c < j := by omega
      clear hc0
      obtain ⟨q, hq0⟩ : ∃ u, u = s - 1 - c := ⟨_, rfl⟩
      have hqz : (s : Int) - 1 - (c : Int) = (q : Int) := by omega
      have hq1 : q < n := by omega
      have hq2 : mid ≤ q := by omega
      clear hq0
      obtain ⟨G, hG⟩ : ∃ G : Nat → MtM, ∀ k, G k = e[k]! := ⟨fun k => e[k]!, fun _ => rfl⟩
      obtain ⟨c0, c1, c2, c3, c4, c5, c6, fr⟩ := hu.1.fam ho.out (by omega) G hG
      replace hG := Lib.hid hG
      have x0 := c0 q (by omega)
      have x1 := c1 q (by omega)
      have x2 := c2 q (by omega)
      have x3 := c3 q (by omega)
      have x4 := c4 q (by omega)
      have x5 := c5 q (by omega)
      have x6 := c6 q (by omega)
      have y0 := c0 c (by omega)
      have y1 := c1 c (by omega)
      have y2 := c2 c (by omega)
      have y3 := c3 c (by omega)
      have y4 := c4 c (by omega)
      have y5 := c5 c (by omega)
      have y6 := c6 c (by omega)
      clear c0 c1 c2 c3 c4 c5 c6
      replace hu := Lib.hid hu
      go_wp2_with fail
      refine wp_region_text [(3, 1)] (by kernel_rfl) (by kernel_rfl) ?_
      simp only [instr, chk, look, Nat.reduceBEq, if_true, if_false, Nat.reduceEqDiff, List.cons_append, List.nil_append]
      go_wp2_with fail
      refine (plan1_any (G q).m (G c).m (G q).A (G c).A (G q).n (G q).c (G c).n (G c).c _).mono ?_
      rintro x w1 ⟨rfl, g1⟩
      have gw1 : Grew wr w1 := Chg.trans (by repeat (first | exact Chg.refl _ _ | apply Chg.alloc | apply Chg.drew)) g1
      clear g1 x0 x1 x2 x3 x4 x5 x6 y0 y1 y2 y3 y4 y5 y6 fr
      generalize cmpM (G q).m (G c).m = z
      go_wp2_with fail
      refine OnlyN.normal ?_
      go_wp2_with fail
      all_goals
        have hu1 : Hid (MsTo base g n cp w d w1) := by
          have := hu.out.grow gw1
          rw [he.out] at this
          exact this
        clear hu gw1
        go_wp2
        go_roundw
      case' rel => first | exact ⟨c + 1, j, by go_num, rfl, by omega, by omega, by omega, hu1.out⟩ | exact ⟨i, c, rfl, rfl, by omega, by omega, by omega, hu1.out⟩
      all_goals first | (simp [intOf]; done) | (simp [intOf]; omega) | exact ⟨i, c, rfl, rfl, by omega, by omega, by omega, hu1.out⟩
    · have hltz : ¬ ((i : Int) < (j : Int)) := by omega
      obtain ⟨en, hen0⟩ : ∃ u, u = s - i := ⟨_, rfl⟩
      have henz : (s : Int) - (i : Int) = (en : Int) := by omega
      have hen1 : en ≤ b := by omega
      have hen2 : mid ≤ en := by omega
      clear hen0
      replace hu := Lib.hid hu
      go_upto_region 39 with fail
      go_cut [185] from 178 to 185 (fun v wx => v = .bool (decide (i < m ∧ m < en)) ∧ MsTo base g n cp w e wx)
      case first =>
        by_cases h1 : i < m
        · have h1z : (i : Int) < (m : Int) := by omega
          by_cases h2 : m < en
          · have h2z : (m : Int) < (en : Int) := by omega
            go_wp2_with fail
            go_meet
            case rel => exact ⟨by simp [h1, h2], hu.out⟩
          · have h2z : ¬ ((m : Int) < (en : Int)) := by omega
            go_wp2_with fail
            go_meet
            case rel => exact ⟨by simp [h1, h2], hu.out⟩
        · have h1z : ¬ ((i : Int) < (m : Int)) := by omega
          go_wp2_with fail
          go_meet
          case rel => exact ⟨by simp [h1], hu.out⟩
      case rest =>
        obtain ⟨rfl, hu2⟩ := hcut
        clear hu
        have hu := Lib.hid hu2
        clear hu2
        go_upto_if 185 with fail
        go_cut [] from 185 to 191 (fun wx => ∃ e, Go.Sort.PermIn 0 n d e ∧ MsTo base g n cp w e wx)
        case first =>
          by_cases hc : i < m ∧ m < en
          · have hcb : decide (i < m ∧ m < en) = true := decide_eq_true hc
            have hQ := mrot_any base g o n cp i m en (.func (.func 75) #[] #[]) e wc ho.out hu.out.1 hc.1 hc.2 (by omega) hn
            simp only [hcb]
            clear hcb
            go_wp2_with fail
            refine hQ.mono ?_
            rintro x w1 ⟨rfl, f, hp1, hu1⟩
            have P1 := Lib.hid (Go.Sort.permIn_trans _ _ _ 0 n hp.out hp1)
            have R1 := Lib.hid (hu.out.trans hu1)
            clear hQ hp1 hu1
            go_wp2_with fail
            go_meet
            case rel => exact ⟨f, P1.out, R1.out⟩
          · have hcb : decide (i < m ∧ m < en) = false := decide_eq_false hc
            simp only [hcb]
            clear hcb
            go_wp2_with fail
            go_meet
            case rel => exact ⟨e, hp.out, hu.out⟩
        case rest =>
          clear hp hu
          obtain ⟨e, hp, hu⟩ := hcut
          replace hp := Lib.hid hp
          replace hu := Lib.hid hu
          go_upto_region 41 with fail
          go_cut [199] from 192 to 199 (fun v wx => v = .bool (decide (a < i ∧ i < mid)) ∧ MsTo base g n cp w e wx)
          case first =>
            by_cases h1 : a < i
            · have h1z : (a : Int) < (i : Int) := by omega
              by_cases h2 : i < mid
              · have h2z : (i : Int) < (mid : Int) := by omega
                go_wp2_with fail
                go_meet
                case rel => exact ⟨by simp [h1, h2], hu.out⟩
              · have h2z : ¬ ((i : Int) < (mid : Int)) := by omega
                go_wp2_with fail
                go_meet
                case rel => exact ⟨by simp [h1, h2], hu.out⟩
            · have h1z : ¬ ((a : Int) < (i : Int)) := by omega
              go_wp2_with fail
              go_meet
              case rel => exact ⟨by simp [h1], hu.out⟩
          case rest =>
            obtain ⟨rfl, hu2⟩ := hcut
            clear hu
            have hu := Lib.hid hu2
            clear hu2
            go_upto_if 199 with fail
            go_cut [] from 199 to 205 (fun wx => ∃ e, Go.Sort.PermIn 0 n d e ∧ MsTo base g n cp w e wx)
            case first =>
              by_cases hc : a < i ∧ i < mid
              · have hcb : decide (a < i ∧ i < mid) = true := decide_eq_true hc
                have hQ := ih (mid - a) (by omega) a i mid e wc (Nat.le_refl _) hu.out.1 hc.1 hc.2 (by omega)
                simp only [hcb]
                clear hcb
                go_wp2_with fail
                refine hQ.mono ?_
                rintro x w1 ⟨rfl, f, hp1, hu1⟩
                have P1 := Lib.hid (Go.Sort.permIn_trans _ _ _ 0 n hp.out hp1)
                have R1 := Lib.hid (hu.out.trans hu1)
                clear hQ hp1 hu1
                go_wp2_with fail
                go_meet
                case rel => exact ⟨f, P1.out, R1.out⟩
              · have hcb : decide (a < i ∧ i < mid) = false := decide_eq_false hc
                simp only [hcb]
                clear hcb
                go_wp2_with fail
                go_meet
                case rel => exact ⟨e, hp.out, hu.out⟩
            case rest =>
              clear hp hu
              obtain ⟨e, hp, hu⟩ := hcut
              replace hp := Lib.hid hp
              replace hu := Lib.hid hu
              go_upto_region 43 with fail
              go_cut [213] from 206 to 213 (fun v wx => v = .bool (decide (mid < en ∧ en < b)) ∧ MsTo base g n cp w e wx)
              case first =>
                by_cases h1 : mid < en
                · have h1z : (mid : Int) < (en : Int) := by omega
                  by_cases h2 : en < b
                  · have h2z : (en : Int) < (b : Int) := by omega
                    go_wp2_with fail
                    go_meet
                    case rel => exact ⟨by simp [h1, h2], hu.out⟩
                  · have h2z : ¬ ((en : Int) < (b : Int)) := by omega
                    go_wp2_with fail
                    go_meet
                    case rel => exact ⟨by simp [h1, h2], hu.out⟩
                · have h1z : ¬ ((mid : Int) < (en : Int)) := by omega
                  go_wp2_with fail
                  go_meet
                  case rel => exact ⟨by simp [h1], hu.out⟩
              case rest =>
                obtain ⟨rfl, hu2⟩ := hcut
                clear hu
                have hu := Lib.hid hu2
                clear hu2
                by_cases hc : mid < en ∧ en < b
                · have hcb : decide (mid < en ∧ en < b) = true := decide_eq_true hc
                  have hQ := ih (b - mid) (by omega) mid en b e wc (Nat.le_refl _) hu.out.1 hc.1 hc.2 hb
                  simp only [hcb]
                  clear hcb
                  go_wp2_with fail
                  refine hQ.mono ?_
                  rintro x w1 ⟨rfl, f, hp1, hu1⟩
                  have P1 := Lib.hid (Go.Sort.permIn_trans _ _ _ 0 n hp.out hp1)
                  have R1 := Lib.hid (hu.out.trans hu1)
                  clear hQ hp1 hu1
                  go_wp2
                  first
                    | go_end0
                    | refine bodyPost_ret (results_none rfl _ _ _) rfl ?_
                  exact ⟨rfl, f, P1.out, R1.out⟩
                · have hcb : decide (mid < en ∧ en < b) = false := decide_eq_false hc
                  simp only [hcb]
                  clear hcb
                  go_wp2
                  first
                    | go_end0
                    | refine bodyPost_ret (results_none rfl _ _ _) rfl ?_
                  exact ⟨rfl, e, hp.out, hu.out⟩

theorem msym_any (base g o n cp : Nat) (ho : o = 0) (hn : n < 100000) : ∀ (r a m b : Nat) (d : Array MtM) (w : World), b - a ≤ r → MA w base g n cp d → a < m → m < b → b ≤ n →
    Calls Tryz.prog 124 #[.slice (some ⟨g, o, none⟩) n cp, .int .i64 (a : Int), .int .i64 (m : Int), .int .i64 (b : Int), .func (.func 75) #[] #[]] w fun e w' => e = .returned (.tuple #[]) ∧ MpTo base g n cp d w w' := by
  intro r
  induction r using Nat.strongRecOn with
  | _ r ih =>
    intro a m b d w hr h ham hmb hb
    by_cases h1 : m - a = 1
    · exact msym_one base g o n cp a m b d w ho hn h ham hmb hb h1
    · by_cases h2 : b - m = 1
      · exact msym_last base g o n cp a m b d w ho hn h ham hmb hb h1 h2
      · by_cases h3 : (a + b) / 2 < m
        · exact msym_hi base g o n cp a m b d w ho hn h ham hmb hb r hr ih h1 h2 h3
        · exact msym_lo base g o n cp a m b d w ho hn h ham hmb hb r hr ih h1 h2 h3
end Go.Proofs.YtjoaonppaokhhaaGreat
