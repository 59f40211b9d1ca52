/-
  Several texts in one:
  Has a row of points all of another one? Conditions: none.
-/
import Derived.Test.YtjgbdkokcgcpjaaDoorPart15

namespace Go.Proofs.YtjgbdkokcgcpjaaDoor
open Go.RowKit

def holdsP : List Ptn → List Ptn → Bool
  | _, [] => true
  | [], _ :: _ => false
  | p :: a, q :: b => if p.1 < q.1 then holdsP a (q :: b) else decide (p = q) && holdsP (p :: a) b
termination_by a b => a.length + b.length
theorem holdsP_nil (a : List Ptn) : holdsP a [] = true := by cases a <;> simp [holdsP]
theorem holdsP_none (q : Ptn) (b : List Ptn) : holdsP [] (q :: b) = false := by simp [holdsP]
theorem holdsP_lt {p q : Ptn} {a b : List Ptn} (h : p.1 < q.1) : holdsP (p :: a) (q :: b) = holdsP a (q :: b) := by rw [holdsP, if_pos h]
theorem holdsP_ge {p q : Ptn} {a b : List Ptn} (h : ¬ p.1 < q.1) : holdsP (p :: a) (q :: b) = (decide (p = q) && holdsP (p :: a) b) := by rw [holdsP, if_neg h]

set_option maxHeartbeats 4000000 in
theorem holds_any (A B : Option Addr) (n c m d : Nat) (ps qs : List Ptn) (w : World) (h : RE elPt w A n ps) (hb : RE elPt w B m qs) (hn : n ≤ c ∧ c ≤ 9223372036854775807) (hm : m ≤ 9223372036854775807) :
    Calls Tryd.prog 45 #[.slice A n c, .slice B m d] w fun e w' => e = .returned (.bool (holdsP ps qs)) ∧ Grew w w' := by
  have hlm := hb.1
  obtain ⟨z, hz⟩ : ∃ z, holdsP ps qs = z := ⟨_, rfl⟩
  rw [hz]
  have hz0 : Hid (z = holdsP ps (qs.drop 0)) := hz.symm
  clear hz
  go_enter Tryd.func45, Tryd.ntmps45
  go_wp2
  go_loopw [0, 9] (fun a i wr => ∃ (k n c : Nat) (A : Option Addr) (ps : List Ptn), k ≤ m ∧ i = .int .i64 (k : Int) ∧ a = .slice A n c ∧ RE elPt w A n ps ∧ (n ≤ c ∧ c ≤ 9223372036854775807) ∧ Hid (z = holdsP ps (qs.drop k)) ∧ Grew w wr) (fun a i _ => m - (intOf i).toNat)
  case atStart => exact ⟨0, n, c, A, ps, by omega, rfl, rfl, h, hn, hz0, Chg.refl _ _⟩
  case round =>
    clear h hn hz0
    obtain ⟨k, n, c, A, ps, hk, rfl, rfl, h, hn, hv, hg⟩ := hrel
    by_cases hlt : k < m
    · obtain ⟨bd, q, rfl, hq, q0, q1⟩ := (hb.grew hg).pt hlt
      have hqd : qs.drop k = q :: qs.drop (k + 1) := by
        obtain ⟨h1, h2⟩ := List.getElem?_eq_some_iff.1 hq
        rw [List.drop_eq_getElem_cons h1, h2]
      rw [hqd] at hv
      clear hq hqd
      go_wp2
      have hbx : Blk (wr.alloc (.cells #[.int .i64 q.1, .int .u64 (q.2 : Int)] 49)) wr.heap.size 49 #[.int .i64 q.1, .int .u64 (q.2 : Int)] := Blk.new wr _ _
      have hg1 := hg.alloc (.cells #[.int .i64 q.1, .int .u64 (q.2 : Int)] 49)
      generalize hbk : wr.heap.size = bk at *
      obtain ⟨W, hW⟩ : ∃ W, W = wr.alloc (.cells #[.int .i64 q.1, .int .u64 (q.2 : Int)] 49) := ⟨_, rfl⟩
      rw [← hW] at hbx hg1 ⊢
      clear hg q0 q1 hW hbk
      go_loopw [0] (fun a wr => ∃ (n c : Nat) (A : Option Addr) (ps : List Ptn), a = .slice A n c ∧ RE elPt w A n ps ∧ (n ≤ c ∧ c ≤ 9223372036854775807) ∧ Hid (z = holdsP ps (q :: qs.drop (k + 1))) ∧ Blk wr bk 49 #[.int .i64 q.1, .int .u64 (q.2 : Int)] ∧ Grew w wr) (fun a _ => lenS a)
      case atStart => exact ⟨n, c, A, ps, rfl, h, hn, hv, hbx, hg1⟩
      case round =>
        clear h hn hv hbx hg1
        obtain ⟨n, c, A, ps, rfl, h, hn, hv, hbx, hg⟩ := hrel
        have hln := h.1
        have b0 := hbx.cell 0
        have b1 := hbx.cell 1
        rcases ps with _ | ⟨p, r⟩
        · obtain rfl : n = 0 := hln.symm
          rw [holdsP_none] at hv
          replace hv := Lib.hid hv
          go_wp2_with fail
          refine wp_region_text [(2, 1), (3, 1)] (by kernel_rfl) (by kernel_rfl) ?_
          simp only [instr, chk, look, Nat.reduceBEq, if_true, if_false, Nat.reduceEqDiff, List.cons_append, List.nil_append]
          go_wp2_with fail
          refine OnlyN.normal ?_
          go_wp2_with fail
          refine wp_region_text [(2, 1), (3, 1)] (by kernel_rfl) (by kernel_rfl) ?_
          simp only [instr, chk, look, Nat.reduceBEq, if_true, List.nil_append]
          go_wp2_with fail
          refine OnlyN.normal ?_
          go_wp2
          go_ret
          exact ⟨by rw [hv.out.out]; simp, hg.drew.drew⟩
        · have hn0 : 0 < n := by rw [← hln]; simp
          replace hln := Lib.hid hln
          obtain ⟨ad, p', rfl, hp, p0, p1⟩ := (h.grew hg).pt0 hn0
          obtain rfl : p = p' := by simpa using hp
          by_cases hlt2 : p.1 < q.1
          · rw [holdsP_lt hlt2] at hv
            replace hv := Lib.hid hv
            have hdr := h.tl (by decide) hn0 hn.1
            have e1 : decide (p.1 < q.1) = true := decide_eq_true hlt2
            have e2 : decide (0 < n) = true := decide_eq_true hn0
            clear hlt2 hp
            go_wp2_with fail
            refine wp_region_text [(2, 1), (3, 1)] (by kernel_rfl) (by kernel_rfl) ?_
            simp only [instr, chk, look, Nat.reduceBEq, if_true, if_false, Nat.reduceEqDiff, List.cons_append, List.nil_append]
            go_wp2_with fail
            refine OnlyN.normal ?_
            go_wp2
            go_roundw
            case rel => exact ⟨n - 1, c - 1, _, r, rfl, hdr, by omega, hv.out, hbx.drewN 1, hg.drew⟩
            case measure => simp [lenS] <;> omega
          · rw [holdsP_ge hlt2] at hv
            have e1 : decide (p.1 < q.1) = false := decide_eq_false hlt2
            have e2 : decide (0 < n) = true := decide_eq_true hn0
            by_cases hpq : p = q
            · subst hpq
              rw [decide_eq_true rfl, Bool.true_and] at hv
              replace hv := Lib.hid hv
              clear hlt2 hp
              go_wp2_with fail
              refine wp_region_text [(2, 1), (3, 1)] (by kernel_rfl) (by kernel_rfl) ?_
              simp only [instr, chk, look, Nat.reduceBEq, if_true, if_false, Nat.reduceEqDiff, List.cons_append, List.nil_append]
              go_wp2_with fail
              refine OnlyN.normal ?_
              go_wp2_with fail
              refine wp_region_text [(2, 1), (3, 1)] (by kernel_rfl) (by kernel_rfl) ?_
              simp only [instr, chk, look, Nat.reduceBEq, if_true, List.nil_append]
              go_wp2_with fail
              refine OnlyN.normal ?_
              go_wp2
              go_roundw
              case rel => exact ⟨k + 1, n, c, _, _, by omega, by go_num, rfl, h, hn, hv.out, hg.drew.drew⟩
              case measure => simp [intOf] <;> omega
            · have hd : ¬ p.1 = q.1 ∨ (p.1 = q.1 ∧ ¬ ((p.2 : Int) = (q.2 : Int))) := by
                by_cases h1 : p.1 = q.1
                · exact .inr ⟨h1, fun h2 => hpq (Prod.ext h1 (by omega))⟩
                · exact .inl h1
              rw [decide_eq_false hpq, Bool.false_and] at hv
              replace hv := Lib.hid hv
              clear hpq hlt2 hp
              rcases hd with h1 | ⟨h1, h2⟩
              all_goals
                go_wp2_with fail
                refine wp_region_text [(2, 1), (3, 1)] (by kernel_rfl) (by kernel_rfl) ?_
                simp only [instr, chk, look, Nat.reduceBEq, if_true, if_false, Nat.reduceEqDiff, List.cons_append, List.nil_append]
                go_wp2_with fail
                refine OnlyN.normal ?_
                go_wp2_with fail
                refine wp_region_text [(2, 1), (3, 1)] (by kernel_rfl) (by kernel_rfl) ?_
                simp only [instr, chk, look, Nat.reduceBEq, if_true, List.nil_append]
                go_wp2_with fail
                refine OnlyN.normal ?_
                go_wp2
                go_ret
                exact ⟨by rw [hv.out.out]; simp, hg.drew.drew⟩
    · obtain rfl : k = m := by omega
      rw [List.drop_of_length_le (by omega), holdsP_nil] at hv
      replace hv := Lib.hid hv
      go_wp2
      go_ret
      exact ⟨by rw [hv.out.out]; simp, hg⟩
end Go.Proofs.YtjgbdkokcgcpjaaDoor
