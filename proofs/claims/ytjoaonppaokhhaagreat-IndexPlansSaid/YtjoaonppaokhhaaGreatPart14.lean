/-
  Several texts in one:
  (slices.insertionSortOrdered) of numbers. Conditions: lengths that a slice has.
  The functions of the sort unrolled, one round at a time. Conditions: none; no program in sight.
  (slices.reverseRangeOrdered) of numbers. Conditions: lengths that a slice has.
  (slices.siftDownOrdered) of numbers. Conditions: lengths that a slice has.
-/
import Derived.Test.YtjoaonppaokhhaaGreatPart13
import Derived.Deep.LoopGhost
import Derived.CellFam

namespace Go.Proofs.YtjoaonppaokhhaaGreat
open Go.RowKit

/-- what a function of the sort does to a row -/
def SrtTo (base : Nat) (t : TypeId) (g n c : Nat) (w : World) (d' : Array Nat) (w' : World) : Prop := UA w' base t g n c d' ∧ Chg (fun k => k = g) w w'

set_option maxRecDepth 100000 in
set_option maxHeartbeats 8000000 in
theorem uins_any (base g o n c a b : Nat) (t : TypeId) (d : Array Nat) (w : World) (ho : o = 0) (h : UA w base t g n c d) (hab : a ≤ b) (hb : b ≤ n) (hn : n ≤ 4611686018427387904) :
    Calls Tryz.prog 145 #[.slice (some ⟨g, o, none⟩) n c, .int .i64 (a : Int), .int .i64 (b : Int)] w fun e w' => e = .returned (.tuple #[]) ∧ SrtTo base t g n c w (Go.Sort.insertionSort ltU d a b) w' := by
  obtain ⟨z, hz⟩ : ∃ z, Go.Sort.insOuter ltU a b (a + 1) d = z := ⟨_, rfl⟩
  have hz2 : Go.Sort.insertionSort ltU d a b = z := hz
  rw [hz2]
  replace hz := Lib.hid hz
  replace ho := Lib.hid ho
  clear hz2
  go_enter Tryz.func145, Tryz.ntmps145
  go_wp2
  go_loopw [6] (fun i wr => ∃ (k : Nat) (e : Array Nat), a < k ∧ k ≤ b + 1 ∧ i = .int .i64 (k : Int) ∧ SrtTo base t g n c w e wr ∧ Go.Sort.insOuter ltU a b k e = z) (fun i _ => b + 1 - (intOf i).toNat)
  case atStart => exact ⟨a + 1, d, by omega, by omega, by go_num, ⟨h, Chg.refl _ _⟩, hz.out⟩
  case round =>
    obtain ⟨k, e, hk1, hk, rfl, hu, hE⟩ := hrel
    by_cases hlt : k < b
    · rw [insO_go hlt] at hE
      obtain ⟨y, hy⟩ : ∃ y, Go.Sort.insInner ltU a k e = y := ⟨_, rfl⟩
      rw [hy] at hE
      replace hE := Lib.hid hE
      replace hy := Lib.hid hy
      replace hu := Lib.hid hu
      go_wp2
      go_loopw [7] (fun i wq => ∃ (j : Nat) (f : Array Nat), a ≤ j ∧ j ≤ k ∧ i = .int .i64 (j : Int) ∧ SrtTo base t g n c w f wq ∧ Go.Sort.insInner ltU a j f = y) (fun i _ => (intOf i).toNat)
      case atStart => exact ⟨k, e, by omega, Nat.le_refl _, rfl, hu.out, hy.out⟩
      case round =>
        obtain ⟨j, f, hj1, hj, rfl, hv, hF⟩ := hrel
        by_cases hja : a < j
        · obtain ⟨i, rfl⟩ : ∃ i, j = i + 1 := ⟨j - 1, by omega⟩
          obtain ⟨x, hx⟩ : ∃ x, f[i + 1]! = x := ⟨_, rfl⟩
          obtain ⟨y2, hy2⟩ : ∃ y2, f[i]! = y2 := ⟨_, rfl⟩
          have hcw := hv.1.fam ho.out
          have hfw := hv.1.fre (o := o)
          have hc1 := hcw (i + 1) (by omega)
          have hc0 := hcw i (by omega)
          have hf1 := hfw (i + 1) (by omega)
          have hf0 := hfw i (by omega)
          rw [hx] at hc1
          rw [hy2] at hc0
          have S1 := Lib.hid (hv.1.swpo ho.out (i + 1) i x y2 hx hy2)
          have S2 := Lib.hid (hv.1.swpo2 ho.out (i + 1) i x y2 hx hy2)
          have C1 := Lib.hid (Chg.swap hv.2 (o + (i + 1)) (o + i) (.int .u64 (y2 : Int)) (.int .u64 (x : Int)))
          have C2 := Lib.hid (Chg.swap hv.2 (o + i) (o + (i + 1)) (.int .u64 (x : Int)) (.int .u64 (y2 : Int)))
          clear hcw hfw
          replace hv := Lib.hid hv
          by_cases hl : x < y2
          · have hL := fun w => lessU_any x y2 w
            have hl2 : ltU x y2 = true := by simp [ltU, hl]
            simp only [hl2] at hL
            have hF2 := Lib.hid ((insI_go (lt := ltU) (by omega : a < i + 1) (by rw [hx, hy2]; exact hl2)).symm.trans hF)
            clear hF hl hl2 hx hy2
            go_wp2_with fail
            refine wp_region_text [(3, 1), (22, 1)] (by kernel_rfl) (by kernel_rfl) ?_
            simp only [instr, chk, look, Nat.reduceBEq, Bool.false_eq_true, if_true, if_false, Nat.reduceEqDiff, List.cons_append, List.nil_append]
            go_wp2_with fail
            refine (hL _).mono ?_
            rintro e w1 ⟨rfl, rfl⟩
            go_wp2_with fail
            refine OnlyN.normal ?_
            go_wp2
            go_region
            all_goals go_wp2
            all_goals go_roundw
            case rel => first | exact ⟨i, _, by omega, by omega, by go_num, ⟨S1.out, C1.out.drew.drew⟩, hF2.out⟩ | exact ⟨i, _, by omega, by omega, by go_num, ⟨S2.out, C2.out.drew.drew⟩, hF2.out⟩
            all_goals (simp [intOf])
          · have hL := fun w => lessU_any x y2 w
            have hl2 : ltU x y2 = false := by simp [ltU, hl]
            simp only [hl2] at hL
            have hF2 := Lib.hid ((insI_no (lt := ltU) (by rw [hx, hy2]; exact hl2)).symm.trans hF)
            clear hF hl hl2 hx hy2 S1 S2 C1 C2
            go_wp2_with fail
            refine wp_region_text [(3, 1), (22, 1)] (by kernel_rfl) (by kernel_rfl) ?_
            simp only [instr, chk, look, Nat.reduceBEq, Bool.false_eq_true, if_true, if_false, Nat.reduceEqDiff, List.cons_append, List.nil_append]
            go_wp2_with fail
            refine (hL _).mono ?_
            rintro e w1 ⟨rfl, rfl⟩
            go_wp2_with fail
            refine OnlyN.normal ?_
            go_wp2
            go_roundw
            case rel => exact ⟨k + 1, f, by omega, by omega, by go_num, ⟨hv.out.1, hv.out.2.drew⟩, by rw [hF2.out]; exact hE.out⟩
            case measure => simp [intOf]; omega
        · have hF2 := (insI_stop (lt := ltU) (d := f) (by omega : j ≤ a)).symm.trans hF
          subst hF2
          replace hv := Lib.hid hv
          go_wp2_with fail
          refine wp_region_text [(3, 1), (22, 1)] (by kernel_rfl) (by kernel_rfl) ?_
          simp only [instr, chk, look, Nat.reduceBEq, Bool.false_eq_true, if_true, if_false, Nat.reduceEqDiff, List.cons_append, List.nil_append]
          go_wp2
          refine OnlyN.normal ?_
          go_wp2
          go_roundw
          case rel => exact ⟨k + 1, f, by omega, by omega, by go_num, ⟨hv.out.1, hv.out.2.drew⟩, hE.out⟩
          case measure => simp [intOf]; omega
    · rw [insO_stop hlt] at hE
      subst hE
      have hk2 : ¬ (k : Int) < (b : Int) := by omega
      go_wp2
      first
        | go_end0
        | refine bodyPost_ret (results_none rfl _ _ _) rfl ?_
      exact ⟨rfl, hu⟩
end Go.Proofs.YtjoaonppaokhhaaGreat

namespace Go.Proofs.YtjoaonppaokhhaaGreat
section
open Go.Sort
variable {lt : Nat → Nat → Bool} {d : Array Nat}

theorem sd_end {hi first root : Nat} (h : hi ≤ 2 * root + 1) : siftDown lt hi first root d = d := by rw [siftDown, dif_pos h]
/-- the left child is looked at: there is no right one, or it is no greater -/
theorem sd_left {hi first root : Nat} (h : 2 * root + 1 < hi) (hr : (decide (2 * root + 1 + 1 < hi) && lt d[first + (2 * root + 1)]! d[first + (2 * root + 1) + 1]!) = false) :
    siftDown lt hi first root d = if lt d[first + root]! d[first + (2 * root + 1)]! = true then siftDown lt hi first (2 * root + 1) (swp d (first + root) (first + (2 * root + 1))) else d := by
  rw [siftDown, dif_neg (by omega), hr]
  by_cases hl : lt d[first + root]! d[first + (2 * root + 1)]! = true <;> simp [hl]
theorem sd_right {hi first root : Nat} (h : 2 * root + 2 < hi) (hr : lt d[first + (2 * root + 1)]! d[first + (2 * root + 1) + 1]! = true) :
    siftDown lt hi first root d = if lt d[first + root]! d[first + (2 * root + 2)]! = true then siftDown lt hi first (2 * root + 2) (swp d (first + root) (first + (2 * root + 2))) else d := by
  rw [siftDown, dif_neg (by omega), hr, decide_eq_true (by omega : 2 * root + 1 + 1 < hi)]
  by_cases hl : lt d[first + root]! d[first + (2 * root + 2)]! = true <;> simp [hl, h]
theorem hb_zero {hi first : Nat} : heapBuild lt hi first 0 d = d := rfl
theorem hb_go {hi first k : Nat} : heapBuild lt hi first (k + 1) d = heapBuild lt hi first k (siftDown lt hi first k d) := rfl
theorem hp_zero {first : Nat} : heapPop lt first 0 d = d := rfl
theorem hp_go {first k : Nat} : heapPop lt first (k + 1) d = heapPop lt first k (siftDown lt k first 0 (swp d first (first + k))) := rfl
theorem su_go {p : Nat → Bool} {j i : Nat} (h : i ≤ j) (hp : p d[i]! = true) : scanUp p d j i = scanUp p d j (i + 1) := by
  rw [scanUp, decide_eq_true h, hp]
  rfl
theorem su_end {p : Nat → Bool} {j i : Nat} (h : j < i) : scanUp p d j i = i := by
  rw [scanUp, decide_eq_false (by omega)]
  rfl
theorem su_no {p : Nat → Bool} {j i : Nat} (hp : p d[i]! = false) : scanUp p d j i = i := by
  rw [scanUp, hp, Bool.and_false]
  rfl
theorem sn_go {p : Nat → Bool} {j i : Nat} (h : i ≤ j + 1) (hp : p d[j + 1]! = true) : scanDown p d i (j + 1) = scanDown p d i j := by
  rw [scanDown, decide_eq_true h, hp]
  rfl
theorem sn_end {p : Nat → Bool} {j i : Nat} (h : j < i) : scanDown p d i j = j := by
  cases j with
  | zero => rfl
  | succ j =>
    rw [scanDown, decide_eq_false (by omega)]
    rfl
theorem sn_no {p : Nat → Bool} {j i : Nat} (hp : p d[j + 1]! = false) : scanDown p d i (j + 1) = j + 1 := by
  rw [scanDown, hp, Bool.and_false]
  rfl
theorem ss_go {b i : Nat} (h : i < b) (hl : lt d[i]! d[i - 1]! = false) : scanSorted lt d b i = scanSorted lt d b (i + 1) := by
  rw [scanSorted, decide_eq_true h, hl]
  rfl
theorem ss_end {b i : Nat} (h : b ≤ i) : scanSorted lt d b i = i := by
  rw [scanSorted, decide_eq_false (by omega)]
  rfl
theorem ss_no {b i : Nat} (hl : lt d[i]! d[i - 1]! = true) : scanSorted lt d b i = i := by
  rw [scanSorted, hl, Bool.not_true, Bool.and_false]
  rfl
theorem sh_go {j : Nat} (hl : lt d[j + 1]! d[j]! = true) : shiftDown lt (j + 1) d = shiftDown lt j (swp d (j + 1) j) := by
  rw [shiftDown, hl]
  rfl
theorem sh_no {j : Nat} (hl : lt d[j + 1]! d[j]! = false) : shiftDown lt (j + 1) d = d := by
  rw [shiftDown, hl]
  rfl
theorem sp_go {b j : Nat} (h : j < b) (hl : lt d[j]! d[j - 1]! = true) : shiftUp lt b j d = shiftUp lt b (j + 1) (swp d j (j - 1)) := by
  rw [shiftUp, if_pos h, hl]
  rfl
theorem sp_no {b j : Nat} (hl : lt d[j]! d[j - 1]! = false) : shiftUp lt b j d = d := by
  rw [shiftUp, hl]
  simp
theorem sp_end {b j : Nat} (h : b ≤ j) : shiftUp lt b j d = d := by rw [shiftUp, if_neg (by omega)]
theorem rl_go {i j : Nat} (h : i < j) : reverseLoop i j d = reverseLoop (i + 1) (j - 1) (swp d i j) := by rw [reverseLoop, if_pos h]
theorem rl_end {i j : Nat} (h : j ≤ i) : reverseLoop i j d = d := by rw [reverseLoop, if_neg (by omega)]
end
end Go.Proofs.YtjoaonppaokhhaaGreat

namespace Go.Proofs.YtjoaonppaokhhaaGreat
open Go.RowKit

set_option maxRecDepth 100000 in
set_option maxHeartbeats 8000000 in
theorem urev_any (base g o n c a b : Nat) (t : TypeId) (d : Array Nat) (w : World) (ho : o = 0) (h : UA w base t g n c d) (hab : a < b) (hb : b ≤ n) (hn : n ≤ 4611686018427387904) :
    Calls Tryz.prog 149 #[.slice (some ⟨g, o, none⟩) n c, .int .i64 (a : Int), .int .i64 (b : Int)] w fun e w' => e = .returned (.tuple #[]) ∧ SrtTo base t g n c w (Go.Sort.reverseRange d a b) w' := by
  obtain ⟨z, hz⟩ : ∃ z, Go.Sort.reverseLoop a (b - 1) d = z := ⟨_, rfl⟩
  have hz2 : Go.Sort.reverseRange d a b = z := hz
  rw [hz2]
  replace hz := Lib.hid hz
  replace ho := Lib.hid ho
  clear hz2
  go_enter Tryz.func149, Tryz.ntmps149
  go_wp2
  go_loopg [6, 7] (b - a) (fun k s6 s7 wr => ∃ (i j : Nat) (e : Array Nat), s6 = .int .i64 (i : Int) ∧ s7 = .int .i64 (j : Int) ∧ a ≤ i ∧ j < n ∧ j - i ≤ k ∧ SrtTo base t g n c w e wr ∧ Go.Sort.reverseLoop i j e = z)
  case atStart => exact ⟨a, b - 1, d, rfl, by congr 1; omega, by omega, by omega, by omega, ⟨h, Chg.refl _ _⟩, hz.out⟩
  case round =>
    obtain ⟨i, j, e, rfl, rfl, ha, hj, hk, hu, hE⟩ := hrel
    by_cases hij : i < j
    · rw [rl_go hij] at hE
      obtain ⟨x, hx⟩ : ∃ x, e[i]! = x := ⟨_, rfl⟩
      obtain ⟨y, hy⟩ : ∃ y, e[j]! = y := ⟨_, rfl⟩
      have hcw := hu.1.fam ho.out
      have hfw := hu.1.fre (o := o)
      have hc1 := hcw i (by omega)
      have hc0 := hcw j (by omega)
      have hf1 := hfw i (by omega)
      have hf0 := hfw j (by omega)
      rw [hx] at hc1
      rw [hy] at hc0
      have S1 := Lib.hid (hu.1.swpo ho.out i j x y hx hy)
      have C1 := Lib.hid (Chg.swap hu.2 (o + i) (o + j) (.int .u64 (y : Int)) (.int .u64 (x : Int)))
      replace hE := Lib.hid hE
      obtain ⟨v1, k1⟩ := cell?_setCell_some (w := wr) (p := ⟨g, o + i, none⟩) (x := .int .u64 (y : Int)) (q := ⟨g, o + j, none⟩) hc0
      clear hcw hfw hu h hx hy
      go_wp2_with fail
      go_region
      go_wp2
      go_roundg (j - 1 - (i + 1))
      case measure => omega
      case rel => exact ⟨i + 1, j - 1, _, by go_num, by congr 1; omega, by omega, by omega, Nat.le_refl _, ⟨S1.out, C1.out.drew⟩, hE.out⟩
    · rw [rl_end (by omega)] at hE
      subst hE
      go_wp2
      go_end0
      exact ⟨rfl, hu⟩
end Go.Proofs.YtjoaonppaokhhaaGreat

namespace Go.Proofs.YtjoaonppaokhhaaGreat
open Go.RowKit

set_option maxRecDepth 100000 in
set_option maxHeartbeats 8000000 in
theorem usift_any (base g o n c lo hi first : Nat) (t : TypeId) (d : Array Nat) (w : World) (ho : o = 0) (h : UA w base t g n c d) (hlo : lo ≤ hi) (hb : first + hi ≤ n) (hn : n < 4611686018427387904) :
    Calls Tryz.prog 159 #[.slice (some ⟨g, o, none⟩) n c, .int .i64 (lo : Int), .int .i64 (hi : Int), .int .i64 (first : Int)] w fun e w' => e = .returned (.tuple #[]) ∧ SrtTo base t g n c w (Go.Sort.siftDown ltU hi first lo d) w' := by
  obtain ⟨z, hz⟩ : ∃ z, Go.Sort.siftDown ltU hi first lo d = z := ⟨_, rfl⟩
  rw [hz]
  replace hz := Lib.hid hz
  replace ho := Lib.hid ho
  go_enter Tryz.func159, Tryz.ntmps159
  go_wp2
  go_loopw [8] (fun i wr => ∃ (r : Nat) (e : Array Nat), r ≤ hi ∧ i = .int .i64 (r : Int) ∧ SrtTo base t g n c w e wr ∧ Go.Sort.siftDown ltU hi first r e = z) (fun i _ => hi - (intOf i).toNat)
  case atStart => exact ⟨lo, d, hlo, rfl, ⟨h, Chg.refl _ _⟩, hz.out⟩
  case round =>
    obtain ⟨r, e, hr, rfl, hu, hE⟩ := hrel
    by_cases h0 : hi ≤ 2 * r + 1
    · rw [sd_end h0] at hE
      subst hE
      have h0z : (hi : Int) ≤ 2 * (r : Int) + 1 := by omega
      go_wp2
      first
        | go_end0
        | refine bodyPost_ret (results_none rfl _ _ _) rfl ?_
      exact ⟨rfl, hu⟩
    · have h0z : ¬ ((hi : Int) ≤ 2 * (r : Int) + 1) := by omega
      by_cases h1 : 2 * r + 2 < hi
      · have h1z : 2 * (r : Int) + 1 + 1 < (hi : Int) := by omega
        obtain ⟨G, hG⟩ : ∃ G : Nat → Nat, ∀ k, G k = e[k]! := ⟨fun k => e[k]!, fun _ => rfl⟩
        have hcw : ∀ k, k < n → wr.cell? ⟨g, o + k, none⟩ = some (.int .u64 ((G k : Nat) : Int)) := fun k hk => by rw [hG]; exact hu.1.fam ho.out k hk
        have hfw : ∀ k, k < n → wr.frozen? ⟨g, o + k, none⟩ = false := hu.1.fre
        replace hu := Lib.hid hu
        replace hE := Lib.hid hE
        replace hG := Lib.hid hG
        clear h
        go_wp2_with fail
        refine wp_region_text [(3, 1), (22, 1)] (by kernel_rfl) (by kernel_rfl) ?_
        simp only [instr, chk, look, Nat.reduceBEq, Bool.false_eq_true, if_true, if_false, Nat.reduceEqDiff, List.cons_append, List.nil_append]
        go_wp2_with fail
        refine (lessU_any _ _ _).mono ?_
        rintro e w1 ⟨rfl, rfl⟩
        go_wp2_with fail
        refine OnlyN.normal ?_
        go_wp2_with fail
        · have hl : ltU (G (first + 2 * r + 1)) (G (first + 2 * r + 2)) = true := by assumption
          have hcw2 : ∀ k, k < n → wr.drew.cell? ⟨g, o + k, none⟩ = some (.int .u64 ((G k : Nat) : Int)) := hcw
          have hfw2 : ∀ k, k < n → wr.drew.frozen? ⟨g, o + k, none⟩ = false := hfw
          refine wp_region_text [(3, 1), (22, 1)] (by kernel_rfl) (by kernel_rfl) ?_
          simp only [instr, chk, look, Nat.reduceBEq, Bool.false_eq_true, if_true, if_false, Nat.reduceEqDiff, List.cons_append, List.nil_append]
          go_wp2_with fail
          refine (lessU_any _ _ _).mono ?_
          rintro e w1 ⟨rfl, rfl⟩
          go_wp2_with fail
          refine OnlyN.normal ?_
          go_wp2_with fail
          · have hm : (!ltU (G (first + r)) (G (first + 2 * r + 2))) = true := by assumption
            have hm2 : ltU (G (first + r)) (G (first + 2 * r + 2)) = false := by simpa using hm
            refine bodyPost_ret (results_none rfl _ _ _) rfl ?_
            have hE2 := hE.out
            rw [sd_right h1 (by rw [← hG.out, ← hG.out]; exact hl), if_neg (by rw [← Nat.add_assoc, ← hG.out, ← hG.out, hm2]; decide)] at hE2
            subst hE2
            exact ⟨rfl, hu.out.1, hu.out.2.drew.drew⟩
          · have hm : (!ltU (G (first + r)) (G (first + 2 * r + 2))) = false := by assumption
            have hm2 : ltU (G (first + r)) (G (first + 2 * r + 2)) = true := by simpa using hm
            have hE2 := hE.out
            rw [sd_right h1 (by rw [← hG.out, ← hG.out]; exact hl), if_pos (by rw [← Nat.add_assoc, ← hG.out, ← hG.out, hm2])] at hE2
            replace hE2 := Lib.hid hE2
            have S1 := Lib.hid (hu.out.1.swpo ho.out (first + r) (first + (2 * r + 2)) _ _ (hG.out _).symm (hG.out _).symm)
            have C1 := Lib.hid (Chg.swap hu.out.2 (o + (first + r)) (o + (first + (2 * r + 2))) (.int .u64 ((G (first + (2 * r + 2)) : Nat) : Int)) (.int .u64 ((G (first + r) : Nat) : Int)))
            go_region
            go_wp2
            go_roundw
            case rel => exact ⟨2 * r + 2, _, by omega, by go_num, ⟨S1.out, C1.out.drew.drew.drew⟩, hE2.out⟩
            case measure => simp [intOf]; omega
        · have hl : ltU (G (first + 2 * r + 1)) (G (first + 2 * r + 2)) = false := by assumption
          have hcw2 : ∀ k, k < n → wr.drew.cell? ⟨g, o + k, none⟩ = some (.int .u64 ((G k : Nat) : Int)) := hcw
          have hfw2 : ∀ k, k < n → wr.drew.frozen? ⟨g, o + k, none⟩ = false := hfw
          refine wp_region_text [(3, 1), (22, 1)] (by kernel_rfl) (by kernel_rfl) ?_
          simp only [instr, chk, look, Nat.reduceBEq, Bool.false_eq_true, if_true, if_false, Nat.reduceEqDiff, List.cons_append, List.nil_append]
          go_wp2_with fail
          refine (lessU_any _ _ _).mono ?_
          rintro e w1 ⟨rfl, rfl⟩
          go_wp2_with fail
          refine OnlyN.normal ?_
          go_wp2_with fail
          · have hm : (!ltU (G (first + r)) (G (first + 2 * r + 1))) = true := by assumption
            have hm2 : ltU (G (first + r)) (G (first + 2 * r + 1)) = false := by simpa using hm
            refine bodyPost_ret (results_none rfl _ _ _) rfl ?_
            have hE2 := hE.out
            rw [sd_left (by omega) (by rw [← hG.out, ← hG.out]; rw [← Nat.add_assoc, show first + 2 * r + 1 + 1 = first + 2 * r + 2 by omega, hl, Bool.and_false]), if_neg (by rw [← Nat.add_assoc, ← hG.out, ← hG.out, hm2]; decide)] at hE2
            subst hE2
            exact ⟨rfl, hu.out.1, hu.out.2.drew.drew⟩
          · have hm : (!ltU (G (first + r)) (G (first + 2 * r + 1))) = false := by assumption
            have hm2 : ltU (G (first + r)) (G (first + 2 * r + 1)) = true := by simpa using hm
            have hE2 := hE.out
            rw [sd_left (by omega) (by rw [← hG.out, ← hG.out]; rw [← Nat.add_assoc, show first + 2 * r + 1 + 1 = first + 2 * r + 2 by omega, hl, Bool.and_false]), if_pos (by rw [← Nat.add_assoc, ← hG.out, ← hG.out, hm2])] at hE2
            replace hE2 := Lib.hid hE2
            have S1 := Lib.hid (hu.out.1.swpo ho.out (first + r) (first + (2 * r + 1)) _ _ (hG.out _).symm (hG.out _).symm)
            have C1 := Lib.hid (Chg.swap hu.out.2 (o + (first + r)) (o + (first + (2 * r + 1))) (.int .u64 ((G (first + (2 * r + 1)) : Nat) : Int)) (.int .u64 ((G (first + r) : Nat) : Int)))
            go_region
            go_wp2
            go_roundw
            case rel => exact ⟨2 * r + 1, _, by omega, by go_num, ⟨S1.out, C1.out.drew.drew.drew⟩, hE2.out⟩
            case measure => simp [intOf]; omega
      · have h1z : decide (2 * (r : Int) + 1 + 1 < (hi : Int)) = false := decide_eq_false (by omega)
        obtain ⟨G, hG⟩ : ∃ G : Nat → Nat, ∀ k, G k = e[k]! := ⟨fun k => e[k]!, fun _ => rfl⟩
        have hcw : ∀ k, k < n → wr.cell? ⟨g, o + k, none⟩ = some (.int .u64 ((G k : Nat) : Int)) := fun k hk => by rw [hG]; exact hu.1.fam ho.out k hk
        have hfw : ∀ k, k < n → wr.frozen? ⟨g, o + k, none⟩ = false := hu.1.fre
        replace hu := Lib.hid hu
        replace hE := Lib.hid hE
        replace hG := Lib.hid hG
        clear h
        go_wp2_with fail
        refine wp_region_text [(3, 1), (22, 1)] (by kernel_rfl) (by kernel_rfl) ?_
        simp only [instr, chk, look, Nat.reduceBEq, Bool.false_eq_true, if_true, if_false, Nat.reduceEqDiff, List.cons_append, List.nil_append]
        go_wp2_with fail
        refine OnlyN.normal ?_
        go_wp2_with fail
        have hcw2 : ∀ k, k < n → wr.drew.cell? ⟨g, o + k, none⟩ = some (.int .u64 ((G k : Nat) : Int)) := hcw
        have hfw2 : ∀ k, k < n → wr.drew.frozen? ⟨g, o + k, none⟩ = false := hfw
        refine wp_region_text [(3, 1), (22, 1)] (by kernel_rfl) (by kernel_rfl) ?_
        simp only [instr, chk, look, Nat.reduceBEq, Bool.false_eq_true, if_true, if_false, Nat.reduceEqDiff, List.cons_append, List.nil_append]
        go_wp2_with fail
        refine (lessU_any _ _ _).mono ?_
        rintro e w1 ⟨rfl, rfl⟩
        go_wp2_with fail
        refine OnlyN.normal ?_
        go_wp2_with fail
        · have hm : (!ltU (G (first + r)) (G (first + 2 * r + 1))) = true := by assumption
          have hm2 : ltU (G (first + r)) (G (first + 2 * r + 1)) = false := by simpa using hm
          refine bodyPost_ret (results_none rfl _ _ _) rfl ?_
          have hE2 := hE.out
          rw [sd_left (by omega) (by rw [decide_eq_false (by omega), Bool.false_and]), if_neg (by rw [← Nat.add_assoc, ← hG.out, ← hG.out, hm2]; decide)] at hE2
          subst hE2
          exact ⟨rfl, hu.out.1, hu.out.2.drew.drew⟩
        · have hm : (!ltU (G (first + r)) (G (first + 2 * r + 1))) = false := by assumption
          have hm2 : ltU (G (first + r)) (G (first + 2 * r + 1)) = true := by simpa using hm
          have hE2 := hE.out
          rw [sd_left (by omega) (by rw [decide_eq_false (by omega), Bool.false_and]), if_pos (by rw [← Nat.add_assoc, ← hG.out, ← hG.out, hm2])] at hE2
          replace hE2 := Lib.hid hE2
          have S1 := Lib.hid (hu.out.1.swpo ho.out (first + r) (first + (2 * r + 1)) _ _ (hG.out _).symm (hG.out _).symm)
          have C1 := Lib.hid (Chg.swap hu.out.2 (o + (first + r)) (o + (first + (2 * r + 1))) (.int .u64 ((G (first + (2 * r + 1)) : Nat) : Int)) (.int .u64 ((G (first + r) : Nat) : Int)))
          go_region
          go_wp2
          go_roundw
          case rel => exact ⟨2 * r + 1, _, by omega, by go_num, ⟨S1.out, C1.out.drew.drew.drew⟩, hE2.out⟩
          case measure => simp [intOf]; omega
end Go.Proofs.YtjoaonppaokhhaaGreat
