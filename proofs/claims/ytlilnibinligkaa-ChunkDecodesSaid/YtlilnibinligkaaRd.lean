/-
  The reference of chunk: Encode of points that may be. Conditions: lengths that memory bears.
-/
import Derived.Test.YtlilnibinligkaaRc
namespace Go.Proofs.Ytlilnibinligkaa
open Go.RowKit

theorem len_fits {B z y k : Nat} (h1 : B ≤ 141 + 145 * k) (h2 : z ≤ 68) (h3 : y ≤ 64) : B + z + 1 + 1 + 5 + 6 + y ≤ 141 + 145 * (k + 1) := by omega
theorem diff_fits {p q : Int} (b1 : -1099511627776 ≤ p ∧ p ≤ 1099511627776) (b2 : -1099511627776 ≤ q ∧ q ≤ 1099511627776) : -2199023255552 ≤ q - p ∧ q - p ≤ 2199023255552 := by omega
theorem less_left {k n : Nat} (h : k < n) : n - (k + 1) < n - k := by omega

set_option maxRecDepth 100000 in
set_option maxHeartbeats 8000000 in
theorem rencode_ok (A : Option Addr) (n c : Nat) (ps : List Pnt) (w : World) (h : RE elPt w A n ps) (hn : n ≤ 8191) (ho : Okp ps) (hv : Okv ps) :
    Calls Try.prog 10 #[.slice A n c] w fun e w' => ∃ B m d, e = .returned (.tuple #[.slice B m d, .int .i64 0]) ∧ OB w' w.heap.size 5 B m d (pack (encB ps)) ∧ Grew w w' := by
  have M1 : ∀ w, RE elPt w A n ps → Calls Try.prog 26 #[.slice A n c] w fun e w' => e = .returned (.bool true) ∧ Grew w w' := fun w h => (points_any A n c ps w h (by omega)).mono fun e w' ⟨b, h1, h2, h3⟩ => ⟨by rw [h1, h2.2 ho], h3⟩
  have M := Lib.hid M1
  have Hl := Lib.hid h.1
  have hstep : ∀ k p q, ps[k]? = some p → ps[k + 1]? = some q → (-1099511627776 ≤ p.1 ∧ p.1 ≤ 1099511627776) ∧ (-1099511627776 ≤ q.1 ∧ q.1 ≤ 1099511627776) ∧ p.1 < q.1 ∧ p.2 < 18446744073709551616 ∧ q.2 < 18446744073709551616 := fun k p q hp hq =>
    ⟨(ho k p hp).1, (ho (k + 1) q hq).1, (ho k p hp).2 q hq, hv p (List.mem_of_getElem? hp), hv q (List.mem_of_getElem? hq)⟩
  have Hstep := Lib.hid hstep
  have hfirst : ∀ p, ps[0]? = some p → (-1099511627776 ≤ p.1 ∧ p.1 ≤ 1099511627776) ∧ p.2 < 18446744073709551616 := fun p hp => ⟨(ho 0 p hp).1, hv p (List.mem_of_getElem? hp)⟩
  have Hfirst := Lib.hid hfirst
  clear M1 hstep hfirst ho hv
  go_enter Try.func10, Try.ntmps10
  go_wp2_with fail
  refine (M.out _ h).mono ?_
  rintro e w1 ⟨rfl, hg1⟩
  have hs1 := hg1.size
  have hr1 := TapIs.new w1 w.heap.size hs1
  go_wp2_with fail
  refine (put_tape w1.heap.size [] n 13 _ _ w.heap.size _ hr1 rfl rfl (by omega) (by omega) (by simp)).mono ?_
  rintro e w2 ⟨rfl, hr2, hc2⟩
  have hg2 := RChg.up (hg1.alloc (.cells #[.slice none 0 0, .int .i64 0] 48)) (Nat.le_refl _) hc2
  generalize w1.heap.size = g at *
  clear hg1 hs1 hr1 hc2 M
  go_wp2
  go_loopw [5, 6, 7, 8] (fun sd sa sb si wr => ∃ (k : Nat) (d az : Int) (wa wb : Nat) (wh : Bool) (bs : List Bool), sd = .int .i64 d ∧ sa = .int .i64 az ∧ sb = .int .i64 (wb : Int) ∧ si = .int .i64 (k : Int) ∧ k ≤ n ∧
    Hid (k = 0 → bs = toBits n 13 ∧ d = 0 ∧ (wa, wb, wh) = (0, 0, false)) ∧ Hid (0 < k → Left ps (k - 1) d (wa, wb, wh) bs) ∧ ((wh = true ∧ az = (wa : Int)) ∨ (wh = false ∧ az = -1 ∧ wb = 0)) ∧
    bs.length ≤ 141 + 145 * k ∧ (-2199023255552 ≤ d ∧ d ≤ 2199023255552) ∧ Hid (WinOk (wa, wb, wh)) ∧ TapIs wr w.heap.size g bs ∧ Grew w wr) (fun _ _ _ si _ => n - (intOf si).toNat)
  case atStart => exact ⟨0, 0, -1, 0, 0, false, _, rfl, rfl, rfl, rfl, by omega, (fun _ => ⟨rfl, rfl, rfl⟩), (fun h => by omega), .inr ⟨rfl, rfl, rfl⟩, by simp, by omega, (fun h => by cases h), hr2, hg2⟩
  case round =>
    obtain ⟨k, d, az, wa, wb, wh, bs, rfl, rfl, rfl, rfl, hk, H0, H1, haz, hbl, hd, hwo, htap, hgr⟩ := hrel
    have hr := h.grew hgr
    by_cases hkn : k = n
    · subst hkn
      have hbs : bs = encB ps := by
        have hl := Hl.out
        by_cases k0 : k = 0
        · rw [(H0.out k0).1, List.eq_nil_of_length_eq_zero (hl.trans k0), k0]
          rfl
        · exact (H1.out (by omega)).last (by omega)
      have Hbs := Lib.hid hbs
      obtain ⟨hb0', B, m, dd, hbk, hob⟩ := htap
      have hc0 : wr.cell? ⟨g, 0, none⟩ = some (.slice B m dd) := by rw [hbk.cell]; rfl
      clear hbs hr
      go_wp2
      go_ret2
      exact ⟨B, m, dd, by simp, by rw [← Hbs.out]; exact hob, hgr⟩
    · have hlt : k < n := by omega
      clear hkn
      by_cases k0 : k = 0
      · subst k0
        obtain ⟨ad, p, rfl, hp, hc1, hc2⟩ := hr.pt0 hlt
        obtain ⟨hb1, hb2⟩ := Hfirst.out p hp
        have hbs := (H0.out rfl).1
        have hd0 := (H0.out rfl).2.1
        have hwin := (H0.out rfl).2.2
        have hlw := RE.lt h (by decide) ad rfl (by omega)
        have hU := wrap_u64 p.1
        have hUl : Go.Proofs.Ytlilnibinligkaa.u64 p.1 < 18446744073709551616 := by unfold Go.Proofs.Ytlilnibinligkaa.u64; omega
        have hleft : Left ps 0 d (wa, wb, wh) (bs ++ toBits (Go.Proofs.Ytlilnibinligkaa.u64 p.1) 64 ++ toBits p.2 64) := by
          refine ⟨p, hp, ?_⟩
          rw [hd0, hwin, hbs]
          cases ps with
          | nil => cases hp
          | cons p' r =>
            obtain rfl := Option.some.inj hp
            rw [encB_cons, ← Hl.out]
            rfl
        have Hleft := Lib.hid hleft
        clear hleft hbs hd0 hwin hp H0 H1
        generalize Go.Proofs.Ytlilnibinligkaa.u64 p.1 = U at *
        go_wp2_with fail
        refine (put_tape g bs U 64 _ _ w.heap.size _ htap rfl rfl hUl (by omega) (by omega)).mono ?_
        rintro e w3 ⟨rfl, hr3, hc3⟩
        have hg3 := RChg.up hgr (Nat.le_refl _) hc3
        have hc2' : w3.cell? ⟨ad.block, ad.off + 1, none⟩ = some (.int .u64 (p.2 : Int)) := hc3.cell hc2 (by rintro ⟨h1, _⟩; exact absurd h1 (by show ¬ (w.heap.size ≤ ad.block); omega))
        clear hc3 hgr htap hc1 hc2 hr
        go_wp2_with fail
        refine (put_tape g _ p.2 64 _ _ w.heap.size _ hr3 rfl rfl hb2 (by omega) (by simp; omega)).mono ?_
        rintro e w4 ⟨rfl, hr4, hc4⟩
        have hg4 := RChg.up hg3 (Nat.le_refl _) hc4
        go_wp2
        go_roundw
        case rel => exact ⟨1, d, az, wa, wb, wh, _, rfl, rfl, rfl, rfl, by omega, (fun h => by omega), (fun _ => Hleft.out), haz, by simp; omega, hd, hwo, hr4, hg4⟩
        case measure => simp [intOf]; omega
      · obtain ⟨ad, q, rfl, hq, hq1, hq2⟩ := hr.pt hlt
        obtain ⟨ad', p, e, hp, hp1, hp2⟩ := hr.pt (k := k - 1) (by omega)
        injection e with e
        subst e
        have ek : k - 1 + 1 = k := by omega
        obtain ⟨b1, b2, b3, b4, b5⟩ := Hstep.out (k - 1) p q hp (by rw [ek]; exact hq)
        have hleft := (H1.out (by omega)).step hp (by rw [ek]; exact hq)
        rw [ek] at hleft
        have zl := zB_len (q.1 - p.1 - d)
        have vl := valB_len (wa, wb, wh) (q.2 ^^^ p.2)
        have hwo2 := valB_ok hwo.out (xor_lt b5 b4)
        have hxl := xor_lt b5 b4
        have hxz := u64_xor_nat q.2 p.2 b5 b4
        have hlw := RE.lt h (by decide) ad rfl (by omega)
        have hlw1 : (ad.add (k * 2)).block < w.heap.size := by rw [block_add]; exact hlw
        have hlw2 : (ad.add ((k - 1) * 2)).block < w.heap.size := by rw [block_add]; exact hlw
        have k1 : ((k : Int) == 0) = false := by simp; omega
        have kz : (k : Int) - 1 = ((k - 1 : Nat) : Int) := by omega
        have hk1 : k - 1 < n := by omega
        have hk0 : 0 < k := by omega
        clear hp hq H0 H1 ek k0
        generalize hxx : q.2 ^^^ p.2 = x at *
        clear hxx
        have hgr0 : Grew w wr.drew := hgr.drew
        have htap0 : TapIs wr.drew w.heap.size g bs := htap
        have Hleft := Lib.hid hleft
        have Hwo2 := Lib.hid hwo2
        clear hleft hwo2
        go_wp2_with fail
        refine wp_region_text [(3, 1), (2, 1)] (by kernel_rfl) (by kernel_rfl) ?_
        simp only [instr, chk, look, Nat.reduceBEq, Bool.false_eq_true, if_true, if_false, Nat.reduceEqDiff, List.cons_append, List.nil_append]
        go_wp2_with fail
        refine OnlyN.normal ?_
        go_wp2_with fail
        refine (step_any g bs (q.1 - p.1 - d) w.heap.size _ (by exact htap0) (by omega) (by omega)).mono ?_
        rintro e w3 ⟨rfl, hr3, hc3⟩
        have hg3 := RChg.up hgr0 (Nat.le_refl _) (by exact hc3)
        have q2 : w3.cell? ⟨(ad.add (k * 2)).block, (ad.add (k * 2)).off + 1, none⟩ = some (.int .u64 (q.2 : Int)) := hc3.cell (by exact hq2) (by rintro ⟨h1, _⟩; exact absurd h1 (by show ¬ (w.heap.size ≤ (ad.add (k * 2)).block); omega))
        have p2 : w3.cell? ⟨(ad.add ((k - 1) * 2)).block, (ad.add ((k - 1) * 2)).off + 1, none⟩ = some (.int .u64 (p.2 : Int)) := hc3.cell (by exact hp2) (by rintro ⟨h1, _⟩; exact absurd h1 (by show ¬ (w.heap.size ≤ (ad.add ((k - 1) * 2)).block); omega))
        clear hc3 hgr htap hgr0 htap0 hq1 hq2 hp1 hp2 hr
        go_wp2_with fail
        refine wp_region_text [(3, 1), (38, 1)] (by kernel_rfl) (by kernel_rfl) ?_
        simp only [instr, chk, look, Nat.reduceBEq, Bool.false_eq_true, if_true, if_false, Nat.reduceEqDiff, List.cons_append, List.nil_append]
        go_wp2_with fail
        refine OnlyN.normal ?_
        have hr4 : TapIs w3.drew w.heap.size g (bs ++ zB (q.1 - p.1 - d)) := hr3
        have hg4 : Grew w w3.drew := hg3.drew
        clear hr3 hg3 q2 p2
        by_cases x0 : x = 0
        · subst x0
          have hv : valB (wa, wb, wh) 0 = ([false], (wa, wb, wh)) := by unfold valB; rw [if_pos rfl]
          rw [hv] at Hleft Hwo2 vl
          clear hv
          go_wp2_with fail
          refine (put_tape g _ 0 1 _ _ w.heap.size _ (by exact hr4) rfl rfl (by omega) (by omega) (by simp; omega)).mono ?_
          rintro e w5 ⟨rfl, hr5, hc5⟩
          have hg5 := RChg.up hg4 (Nat.le_refl _) (by exact hc5)
          go_wp2
          go_roundw
          case rel => exact ⟨k + 1, q.1 - p.1, az, wa, wb, wh, _, rfl, rfl, rfl, by go_num, by omega, (fun h => by omega), (fun _ => Hleft.out), haz, by simp; omega, by omega, hwo, hr5, hg5⟩
          case measure => simp [intOf]; omega
        · have e0 : ((x : Int) == 0) = false := by simpa using x0
          have hl := lz_tz x0 hxl
          have hll := lz_le x
          have E0 : ∀ w, Calls Try.prog 29 #[.int .u64 (x : Int)] w fun e w' => e = .returned (.tuple #[.int .i64 (lz x : Int), .int .i64 (tz x : Int)]) ∧ w = w' := fun w => edges_any x w hxl x0
          have Hxd : Hid (∀ s : Nat, (x : Int) / 2 ^ s = ((x / 2 ^ s : Nat) : Int)) := fun s => by simp
          have hxs : ∀ s : Nat, x / 2 ^ s < 18446744073709551616 := fun s => Nat.lt_of_le_of_lt (Nat.div_le_self _ _) hxl
          by_cases hc : wh = true ∧ wa ≤ lz x ∧ wb ≤ tz x
          · obtain ⟨rfl, hca, hcb⟩ := hc
            have hv : valB (wa, wb, true) x = (toBits 1 1 ++ toBits 0 1 ++ toBits (x / 2 ^ wb) (64 - wa - wb), (wa, wb, true)) := by unfold valB; rw [if_neg x0, if_pos ⟨rfl, hca, hcb⟩]
            have hw1 : wa ≤ 31 ∧ wa + wb ≤ 63 := hwo.out rfl
            rw [hv] at Hleft Hwo2 vl
            obtain rfl : az = (wa : Int) := by
              rcases haz with ⟨_, h⟩ | ⟨h, _⟩
              · exact h
              · cases h
            generalize lz x = a at *
            generalize tz x = b at *
            have E1 := Lib.hid E0
            have hxs1 := hxs wb
            clear E0 hv hxs x0 vl
            go_wp2_with fail
            refine (put_tape g _ 1 1 _ _ w.heap.size _ (by exact hr4) rfl rfl (by omega) (by omega) (by simp; omega)).mono ?_
            rintro e w5 ⟨rfl, hr5, hc5⟩
            have hg5 := RChg.up hg4 (Nat.le_refl _) (by exact hc5)
            clear hc5 hr4 hg4
            go_wp2_with fail
            refine (E1.out _).mono ?_
            rintro e w6 ⟨rfl, rfl⟩
            go_wp2_with fail
            refine (put_tape g _ 0 1 _ _ w.heap.size _ (by exact hr5) rfl rfl (by omega) (by omega) (by simp; omega)).mono ?_
            rintro e w6 ⟨rfl, hr6, hc6⟩
            have hg6 := RChg.up hg5 (Nat.le_refl _) (by exact hc6)
            clear hc6 hr5 hg5
            go_wp2_with fail
            refine (put_tape g _ (x / 2 ^ wb) (64 - wa - wb) _ _ w.heap.size _ (by exact hr6) (Hxd.out wb) (by omega) hxs1 (by omega) (by simp; omega)).mono ?_
            rintro e w7 ⟨rfl, hr7, hc7⟩
            have hg7 := RChg.up hg6 (Nat.le_refl _) (by exact hc7)
            go_wp2
            go_roundw
            case rel => exact ⟨k + 1, q.1 - p.1, _, wa, wb, true, _, rfl, rfl, rfl, by go_num, by omega, (fun h => by omega), (fun _ => by have := Hleft.out; simp only [← List.append_assoc] at this; exact this), .inl ⟨rfl, rfl⟩, by simp; omega, by omega, hwo, hr7, hg7⟩
            case measure => simp [intOf]; omega
          · have hv : valB (wa, wb, wh) x = (toBits 1 1 ++ toBits 1 1 ++ toBits (lz x) 5 ++ toBits (63 - lz x - tz x) 6 ++ toBits (x / 2 ^ tz x) (64 - lz x - tz x), (lz x, tz x, true)) := by unfold valB; rw [if_neg x0, if_neg hc]
            rw [hv] at Hleft Hwo2 vl
            have hsp : decide (0 ≤ az) = false ∨ (decide (0 ≤ az) = true ∧ decide (az ≤ (lz x : Int)) = false) ∨ (decide (0 ≤ az) = true ∧ decide (az ≤ (lz x : Int)) = true ∧ decide (wb ≤ tz x) = false) := by
              simp only [decide_eq_true_eq, decide_eq_false_iff_not]
              rcases haz with ⟨h1, h2⟩ | ⟨h1, h2, _⟩
              · by_cases h3 : wa ≤ lz x
                · by_cases h4 : wb ≤ tz x
                  · exact (hc ⟨h1, h3, h4⟩).elim
                  · omega
                · omega
              · omega
            generalize lz x = a at *
            generalize tz x = b at *
            have E1 := Lib.hid E0
            have hxs1 := hxs b
            have hw3 : Hid (WinOk (a, b, true)) := Hwo2.out
            have HL : Hid (Left ps k (q.1 - p.1) (a, b, true) (bs ++ zB (q.1 - p.1 - d) ++ toBits 1 1 ++ toBits 1 1 ++ toBits a 5 ++ toBits (63 - a - b) 6 ++ toBits (x / 2 ^ b) (64 - a - b))) := by
              have := Hleft.out
              simp only [← List.append_assoc] at this
              exact this
            clear E0 hv hxs x0 vl hc haz Hleft Hwo2 hwo
            rcases hsp with s1 | ⟨s1, s2⟩ | ⟨s1, s2, s3⟩
            all_goals
              go_wp2_with fail
              refine (put_tape g _ 1 1 _ _ w.heap.size _ (by exact hr4) rfl rfl (by omega) (by omega) (by simp; omega)).mono ?_
              rintro e w5 ⟨rfl, hr5, hc5⟩
              have hg5 := RChg.up hg4 (Nat.le_refl _) (by exact hc5)
              clear hc5 hr4 hg4
              go_wp2_with fail
              refine (E1.out _).mono ?_
              rintro e w6 ⟨rfl, rfl⟩
              go_wp2_with fail
              refine (put_tape g _ 1 1 _ _ w.heap.size _ (by exact hr5) rfl rfl (by omega) (by omega) (by simp; omega)).mono ?_
              rintro e w6 ⟨rfl, hr6, hc6⟩
              have hg6 := RChg.up hg5 (Nat.le_refl _) (by exact hc6)
              clear hc6 hr5 hg5
              go_wp2_with fail
              refine (put_tape g _ a 5 _ _ w.heap.size _ (by exact hr6) rfl rfl (by omega) (by omega) (by simp; omega)).mono ?_
              rintro e w7 ⟨rfl, hr7, hc7⟩
              have hg7 := RChg.up hg6 (Nat.le_refl _) (by exact hc7)
              clear hc7 hr6 hg6
              go_wp2_with fail
              refine (put_tape g _ (63 - a - b) 6 _ _ w.heap.size _ (by exact hr7) (by omega) rfl (by omega) (by omega) (by simp; omega)).mono ?_
              rintro e w8 ⟨rfl, hr8, hc8⟩
              have hg8 := RChg.up hg7 (Nat.le_refl _) (by exact hc8)
              clear hc8 hr7 hg7
              go_wp2_with fail
              refine (put_tape g _ (x / 2 ^ b) (64 - a - b) _ _ w.heap.size _ (by exact hr8) (Hxd.out b) (by omega) hxs1 (by omega) (by simp; omega)).mono ?_
              rintro e w9 ⟨rfl, hr9, hc9⟩
              have hg9 := RChg.up hg8 (Nat.le_refl _) (by exact hc9)
              go_wp2
              go_roundw
              case rel =>
                refine ⟨k + 1, q.1 - p.1, (a : Int), a, b, true, bs ++ zB (q.1 - p.1 - d) ++ toBits 1 1 ++ toBits 1 1 ++ toBits a 5 ++ toBits (63 - a - b) 6 ++ toBits (x / 2 ^ b) (64 - a - b), rfl, rfl, rfl, by go_num, hlt, (fun h => by cases h), (fun _ => HL.out), .inl ⟨rfl, rfl⟩, ?_, diff_fits b1 b2, hw3, hr9, hg9⟩
                simp only [List.length_append, length_toBits]
                exact len_fits hbl zl (Nat.le_trans (Nat.sub_le _ _) (Nat.sub_le _ _))
              case measure => simp [intOf]; first | exact less_left hlt | omega
end Go.Proofs.Ytlilnibinligkaa
