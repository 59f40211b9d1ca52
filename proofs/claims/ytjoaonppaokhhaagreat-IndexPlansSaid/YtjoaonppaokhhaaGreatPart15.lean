/-
  Several texts in one:
  (slices.heapSortOrdered) of numbers. Conditions: lengths that a slice has.
  (slices.partitionEqualOrdered) of numbers. Conditions: lengths that a slice has.
-/
import Derived.Test.YtjoaonppaokhhaaGreatPart14

namespace Go.Proofs.YtjoaonppaokhhaaGreat
open Go.RowKit

theorem SrtTo.trans {base : Nat} {t : TypeId} {g n c : Nat} {w w1 w2 : World} {d1 d2 : Array Nat} (h1 : SrtTo base t g n c w d1 w1) (h2 : SrtTo base t g n c w1 d2 w2) : SrtTo base t g n c w d2 w2 := ⟨h2.1, h1.2.trans h2.2⟩

set_option maxRecDepth 100000 in
set_option maxHeartbeats 8000000 in
theorem uheap_any (base g o n c a b : Nat) (t : TypeId) (d : Array Nat) (w : World) (ho : o = 0) (h : UA w base t g n c d) (hab : a < b) (hb : b ≤ n) (hn : n < 4611686018427387904) :
    Calls Tryz.prog 146 #[.slice (some ⟨g, o, none⟩) n c, .int .i64 (a : Int), .int .i64 (b : Int)] w fun e w' => e = .returned (.tuple #[]) ∧ SrtTo base t g n c w (Go.Sort.heapSort ltU d a b) w' := by
  obtain ⟨z, hz⟩ : ∃ z, Go.Sort.heapSort ltU d a b = z := ⟨_, rfl⟩
  rw [hz]
  unfold Go.Sort.heapSort at hz
  obtain ⟨y, hy⟩ : ∃ y, Go.Sort.heapBuild ltU (b - a) a ((b - a - 1) / 2 + 1) d = y := ⟨_, rfl⟩
  rw [hy] at hz
  have ecast : ((b - a : Nat) : Int) = (b : Int) - (a : Int) := by omega
  have ehalf : (((b : Int) - (a : Int) - 1) / 2) = (((b - a - 1) / 2 + 1 : Nat) : Int) - 1 := by omega
  have hS : Hid (∀ (lo : Nat) (e : Array Nat) (wr : World), UA wr base t g n c e → lo ≤ b - a → Calls Tryz.prog 159 #[.slice (some ⟨g, o, none⟩) n c, .int .i64 (lo : Int), .int .i64 ((b : Int) - (a : Int)), .int .i64 (a : Int)] wr fun x w' => x = .returned (.tuple #[]) ∧ SrtTo base t g n c wr (Go.Sort.siftDown ltU (b - a) a lo e) w') := fun lo e wr hu hl => by
    rw [← ecast]
    exact usift_any base g o n c lo (b - a) a t e wr ho hu hl (by omega) hn
  have hS2 : Hid (∀ (k : Nat) (e : Array Nat) (wr : World), UA wr base t g n c e → k ≤ b - a → Calls Tryz.prog 159 #[.slice (some ⟨g, o, none⟩) n c, .int .i64 0, .int .i64 (k : Int), .int .i64 (a : Int)] wr fun x w' => x = .returned (.tuple #[]) ∧ SrtTo base t g n c wr (Go.Sort.siftDown ltU k a 0 e) w') := fun k e wr hu hl =>
    usift_any base g o n c 0 k a t e wr ho hu (by omega) (by omega) hn
  replace hz := Lib.hid hz
  replace hy := Lib.hid hy
  replace ho := Lib.hid ho
  replace ecast := Lib.hid ecast
  replace ehalf := Lib.hid ehalf
  go_enter Tryz.func146, Tryz.ntmps146
  go_wp2
  go_loopw [9] (fun i wr => ∃ (k : Nat) (e : Array Nat), k ≤ (b - a - 1) / 2 + 1 ∧ i = .int .i64 ((k : Int) - 1) ∧ SrtTo base t g n c w e wr ∧ Go.Sort.heapBuild ltU (b - a) a k e = y) (fun i _ => (intOf i + 1).toNat)
  case atStart => exact ⟨(b - a - 1) / 2 + 1, d, Nat.le_refl _, by rw [ehalf.out], ⟨h, Chg.refl _ _⟩, hy.out⟩
  case round =>
    obtain ⟨k, e, hk, rfl, hu, hE⟩ := hrel
    cases k with
    | zero =>
      rw [hb_zero] at hE
      subst hE
      clear hy hS ehalf
      generalize hm1 : (((0 : Nat) : Int) - 1) = m1
      have hneg : ¬ (0 ≤ m1) := by omega
      clear hm1
      go_wp2
      go_loopw [10] (fun i wq => ∃ (k : Nat) (f : Array Nat), k ≤ b - a ∧ i = .int .i64 ((k : Int) - 1) ∧ SrtTo base t g n c w f wq ∧ Go.Sort.heapPop ltU a k f = z) (fun i _ => (intOf i + 1).toNat)
      case atStart => exact ⟨b - a, e, Nat.le_refl _, by rw [ecast.out], hu, hz.out⟩
      case round =>
        obtain ⟨k, f, hk, rfl, hv, hF⟩ := hrel
        cases k with
        | zero =>
          rw [hp_zero] at hF
          subst hF
          go_wp2
          first
            | go_end0
            | refine bodyPost_ret (results_none rfl _ _ _) rfl ?_
          exact ⟨rfl, hv⟩
        | succ k =>
          rw [hp_go] at hF
          have ek : ((k + 1 : Nat) : Int) - 1 = (k : Int) := by omega
          rw [ek]
          clear ek
          obtain ⟨x, hx⟩ : ∃ x, f[a]! = x := ⟨_, rfl⟩
          obtain ⟨x2, hx2⟩ : ∃ x2, f[a + k]! = x2 := ⟨_, rfl⟩
          have hcw := hv.1.fam ho.out
          have hfw := hv.1.fre (o := o)
          have hc1 := hcw a (by omega)
          have hc0 := hcw (a + k) (by omega)
          have hf1 := hfw a (by omega)
          have hf0 := hfw (a + k) (by omega)
          rw [hx] at hc1
          rw [hx2] at hc0
          have S1 := Lib.hid (hv.1.swpo ho.out a (a + k) x x2 hx hx2)
          have C1 := Lib.hid (Chg.swap hv.2 (o + a) (o + (a + k)) (.int .u64 (x2 : Int)) (.int .u64 (x : Int)))
          have hS3 := hS2.out k _ _ S1.out.drew (by omega)
          clear hcw hfw
          replace hv := Lib.hid hv
          replace hF := Lib.hid hF
          by_cases hk0 : k = 0
          · subst hk0
            have hxx : x2 = x := by rw [← hx, ← hx2, Nat.add_zero]
            subst hxx
            clear hx hx2
            simp only [Nat.add_zero] at S1 C1 hF hc0 hf0 hS3
            go_wp2_with fail
            go_region
            go_wp2_with fail
            refine hS3.mono ?_
            rintro e3 w3 ⟨rfl, hq⟩
            go_wp2
            go_roundw
            case rel => exact ⟨0, _, by omega, by go_num, ⟨hq.1, C1.out.drew.trans hq.2⟩, hF.out⟩
            case measure => simp [intOf]
          · clear hx hx2
            go_wp2_with fail
            go_region
            go_wp2_with fail
            refine hS3.mono ?_
            rintro e3 w3 ⟨rfl, hq⟩
            go_wp2
            go_roundw
            case rel => exact ⟨k, _, by omega, by go_num, ⟨hq.1, C1.out.drew.trans hq.2⟩, hF.out⟩
            case measure => simp [intOf]
    | succ k =>
      rw [hb_go] at hE
      have ek : ((k + 1 : Nat) : Int) - 1 = (k : Int) := by omega
      rw [ek]
      clear ek
      have hS3 := hS.out k e wr hu.1 (by omega)
      replace hE := Lib.hid hE
      go_wp2_with fail
      refine hS3.mono ?_
      rintro x w1 ⟨rfl, hq⟩
      go_wp2
      go_roundw
      case rel => exact ⟨k, _, by omega, by go_num, hu.trans hq, hE.out⟩
      case measure => simp [intOf]
end Go.Proofs.YtjoaonppaokhhaaGreat

namespace Go.Proofs.YtjoaonppaokhhaaGreat
open Go.RowKit

theorem predV {q : Nat} (h : 0 < q) : Value.int .i64 ((q : Int) - 1) = .int .i64 ((q - 1 : Nat) : Int) := by
  rw [show ((q - 1 : Nat) : Int) = (q : Int) - 1 by omega]
theorem sn_go2 {p : Nat → Bool} {d : Array Nat} {j i : Nat} (h : i ≤ j) (h0 : 0 < j) (hp : p d[j]! = true) : Go.Sort.scanDown p d i j = Go.Sort.scanDown p d i (j - 1) := by
  obtain ⟨k, rfl⟩ : ∃ k, j = k + 1 := ⟨j - 1, by omega⟩
  exact sn_go h hp
theorem sn_no2 {p : Nat → Bool} {d : Array Nat} {j i : Nat} (hp : p d[j]! = false) : Go.Sort.scanDown p d i j = j := by
  cases j with
  | zero => rfl
  | succ j => exact sn_no hp
theorem pe_end {a i j i2 j2 : Nat} {e : Array Nat} (hi : Go.Sort.scanUp (fun x => !ltU e[a]! x) e j i = i2) (hj : Go.Sort.scanDown (fun x => ltU e[a]! x) e i2 j = j2) (h : j2 < i2) : Go.Sort.partEqLoop ltU a i j e = (i2, e) := by
  rw [Go.Sort.partEqLoop_eq, hi, hj, if_pos h]
theorem pe_go {a i j i2 j2 : Nat} {e : Array Nat} (hi : Go.Sort.scanUp (fun x => !ltU e[a]! x) e j i = i2) (hj : Go.Sort.scanDown (fun x => ltU e[a]! x) e i2 j = j2) (h : ¬ j2 < i2) : Go.Sort.partEqLoop ltU a i j e = Go.Sort.partEqLoop ltU a (i2 + 1) (j2 - 1) (Go.Sort.swp e i2 j2) := by
  rw [Go.Sort.partEqLoop_eq, hi, hj, if_neg h]

set_option maxRecDepth 100000 in
set_option maxHeartbeats 8000000 in
theorem upartEq_any (base g o n c a b pv : Nat) (t : TypeId) (d : Array Nat) (w : World) (ho : o = 0) (h : UA w base t g n c d) (hap : a ≤ pv) (hpb : pv < b) (hb : b ≤ n) (hn : n < 4611686018427387904) :
    Calls Tryz.prog 152 #[.slice (some ⟨g, o, none⟩) n c, .int .i64 (a : Int), .int .i64 (b : Int), .int .i64 (pv : Int)] w fun x w' => x = .returned (.int .i64 ((Go.Sort.partitionEqual ltU d a b pv).1 : Int)) ∧ SrtTo base t g n c w (Go.Sort.partitionEqual ltU d a b pv).2 w' := by
  unfold Go.Sort.partitionEqual
  obtain ⟨⟨m, z⟩, hz⟩ : ∃ r, Go.Sort.partEqLoop ltU a (a + 1) (b - 1) (Go.Sort.swp d a pv) = r := ⟨_, rfl⟩
  rw [hz]
  replace hz := Lib.hid hz
  replace ho := Lib.hid ho
  have hu0 : SrtTo base t g n c w d w := ⟨h, Chg.refl _ _⟩
  clear h
  obtain ⟨x, hx⟩ : ∃ x, d[a]! = x := ⟨_, rfl⟩
  obtain ⟨y, hy⟩ : ∃ y, d[pv]! = y := ⟨_, rfl⟩
  have ca : w.cell? ⟨g, o + a, none⟩ = some (.int .u64 (x : Int)) := by rw [← hx]; exact hu0.1.fam ho.out a (by omega)
  have cp : w.cell? ⟨g, o + pv, none⟩ = some (.int .u64 (y : Int)) := by rw [← hy]; exact hu0.1.fam ho.out pv (by omega)
  have fa : w.frozen? ⟨g, o + a, none⟩ = false := hu0.1.fre a (by omega)
  have fp : w.frozen? ⟨g, o + pv, none⟩ = false := hu0.1.fre pv (by omega)
  obtain ⟨v', hy'⟩ := cell?_setCell_some (w := w) (p := ⟨g, o + a, none⟩) (x := .int .u64 (y : Int)) (q := ⟨g, o + pv, none⟩) cp
  have S1 := Lib.hid (hu0.1.swpo ho.out a pv x y hx hy)
  have C1 := Lib.hid (Chg.swap hu0.2 (o + a) (o + pv) (.int .u64 (y : Int)) (.int .u64 (x : Int)))
  clear hx hy
  clear hu0
  go_enter Tryz.func152, Tryz.ntmps152
  go_wp2_with fail
  go_region
  go_wp2
  go_loopw [9, 10] (fun vi vj wr => ∃ (i j : Nat) (e : Array Nat), vi = .int .i64 (i : Int) ∧ vj = .int .i64 (j : Int) ∧ a < i ∧ i ≤ j + 1 ∧ j < b ∧ SrtTo base t g n c w e wr ∧ Go.Sort.partEqLoop ltU a i j e = (m, z)) (fun vi vj _ => (intOf vj).toNat + 1 - (intOf vi).toNat)
  case atStart => exact ⟨a + 1, b - 1, _, by go_num, predV (by omega), by omega, by omega, by omega, ⟨S1.out.drew, C1.out.drew⟩, hz.out⟩
  case round =>
    obtain ⟨i, j, e, rfl, rfl, hai, hij, hjb, hu, hE⟩ := hrel
    clear ca cp fa fp hy' S1 C1 hz
    obtain ⟨i2, hi2⟩ : ∃ i2, Go.Sort.scanUp (fun x => !ltU e[a]! x) e j i = i2 := ⟨_, rfl⟩
    replace hE := Lib.hid hE
    obtain ⟨G, hG⟩ : ∃ G : Nat → Nat, ∀ k, G k = e[k]! := ⟨fun k => e[k]!, fun _ => rfl⟩
    replace hG := Lib.hid hG
    go_wp2
    go_loopw [9] (fun vi wq => ∃ k : Nat, vi = .int .i64 (k : Int) ∧ i ≤ k ∧ k ≤ j + 1 ∧ SrtTo base t g n c w e wq ∧ Go.Sort.scanUp (fun x => !ltU e[a]! x) e j k = i2) (fun vi _ => j + 1 - (intOf vi).toNat)
    case atStart => exact ⟨i, rfl, Nat.le_refl _, hij, hu, hi2⟩
    case round =>
      obtain ⟨k, rfl, hk1, hk2, hv, hsc⟩ := hrel
      have hcw : ∀ k, k < n → wr.cell? ⟨g, o + k, none⟩ = some (.int .u64 ((G k : Nat) : Int)) := fun k hk => by rw [hG.out]; exact hv.1.fam ho.out k hk
      have hv2 : SrtTo base t g n c w e wr.drew := ⟨hv.1.drew, hv.2.drew⟩
      replace hv2 := Lib.hid hv2
      replace hv := Lib.hid hv
      replace hsc := Lib.hid hsc
      by_cases hle : k ≤ j
      case pos =>
        have hlez : (k : Int) ≤ (j : Int) := by omega
        go_wp2_with fail
        refine wp_region_text [(3, 1), (22, 1)] (by kernel_rfl) (by kernel_rfl) ?_
        simp only [instr, chk, look, Nat.reduceBEq, Bool.false_eq_true, if_true, if_false, Nat.reduceEqDiff, List.cons_append, List.nil_append]
        go_wp2_with fail
        refine (lessU_any _ _ _).mono ?_
        rintro x w1 ⟨rfl, rfl⟩
        go_wp2_with fail
        refine OnlyN.normal ?_
        go_wp2_with fail
        · have ht : (!ltU (G a) (G k)) = true := by assumption
          go_roundw
          case rel => exact ⟨k + 1, by go_num, by omega, by omega, hv2.out, (su_go (p := fun x => !ltU e[a]! x) hle (by rw [← hG.out, ← hG.out]; exact ht)).symm.trans hsc.out⟩
          case measure => simp [intOf]; omega
        have ht : (!ltU (G a) (G k)) = false := by assumption
        have e2 := (su_no (p := fun x => !ltU e[a]! x) (d := e) (j := j) (i := k) (by rw [← hG.out, ← hG.out]; exact ht)).symm.trans hsc.out
        have hup : j < k ∨ ltU (G a) (G k) = true := .inr (by simpa using ht)
        try simp only [ht]
        clear ht hlez
        subst e2
        clear hcw hsc
        replace hv2 := hv2.out
        replace hv := hv.out
        obtain ⟨j2, hj2⟩ : ∃ j2, Go.Sort.scanDown (fun x => ltU e[a]! x) e k j = j2 := ⟨_, rfl⟩
        replace hi2 := Lib.hid hi2
        clear hv
        go_loopw [10] (fun vj wq => ∃ q : Nat, vj = .int .i64 (q : Int) ∧ q ≤ j ∧ k ≤ q + 1 ∧ SrtTo base t g n c w e wq ∧ Go.Sort.scanDown (fun x => ltU e[a]! x) e k q = j2) (fun vj _ => (intOf vj).toNat)
        case atStart => exact ⟨j, rfl, Nat.le_refl _, hk2, hv2, hj2⟩
        case round =>
          obtain ⟨q, rfl, hq1, hq2, hv, hsc⟩ := hrel
          have hcw : ∀ k, k < n → wr.cell? ⟨g, o + k, none⟩ = some (.int .u64 ((G k : Nat) : Int)) := fun k hk => by rw [hG.out]; exact hv.1.fam ho.out k hk
          have hv2 : SrtTo base t g n c w e wr.drew := ⟨hv.1.drew, hv.2.drew⟩
          replace hv2 := Lib.hid hv2
          replace hv := Lib.hid hv
          replace hsc := Lib.hid hsc
          by_cases hle : k ≤ q
          case pos =>
            have hlez : (k : Int) ≤ (q : Int) := by omega
            have hjz : ¬ ((q : Int) < (k : Int)) := by omega
            go_wp2_with fail
            refine wp_region_text [(3, 1), (22, 1)] (by kernel_rfl) (by kernel_rfl) ?_
            simp only [instr, chk, look, Nat.reduceBEq, Bool.false_eq_true, if_true, if_false, Nat.reduceEqDiff, List.cons_append, List.nil_append]
            go_wp2_with fail
            refine (lessU_any _ _ _).mono ?_
            rintro x w1 ⟨rfl, rfl⟩
            go_wp2_with fail
            refine OnlyN.normal ?_
            go_wp2_with fail
            · have ht : ltU (G a) (G q) = true := by assumption
              go_roundw
              case rel => exact ⟨q - 1, predV (by omega), by omega, by omega, hv2.out, (sn_go2 (p := fun x => ltU e[a]! x) hle (by omega) (by rw [← hG.out, ← hG.out]; exact ht)).symm.trans hsc.out⟩
              case measure => simp [intOf]; omega
            have ht : ltU (G a) (G q) = false := by assumption
            have e2 := (sn_no2 (p := fun x => ltU e[a]! x) (d := e) (j := q) (i := k) (by rw [← hG.out, ← hG.out]; exact ht)).symm.trans hsc.out
            have hdn : q < k ∨ ltU (G a) (G q) = false := .inr (by simpa using ht)
            try simp only [ht]
            clear ht hlez
            subst e2
            clear hcw hsc
            replace hv2 := hv2.out
            replace hv := hv.out
            replace hj2 := Lib.hid hj2
            have hE2 := Lib.hid ((pe_go hi2.out hj2.out (by omega)).symm.trans hE.out)
            have hlt : k < q := by
              rcases hup with h1 | h1
              · omega
              · rcases hdn with h2 | h2
                · omega
                · rcases Nat.lt_or_ge k q with h3 | h3
                  · exact h3
                  · have h4 : k = q := by omega
                    rw [h4, h2] at h1
                    cases h1
            have hcw : ∀ k, k < n → wr.cell? ⟨g, o + k, none⟩ = some (.int .u64 ((G k : Nat) : Int)) := fun k hk => by rw [hG.out]; exact hv.1.fam ho.out k hk
            have hfw : ∀ k, k < n → wr.frozen? ⟨g, o + k, none⟩ = false := hv.1.fre
            have S1 := Lib.hid (hv.1.swpo ho.out k q _ _ (hG.out _).symm (hG.out _).symm)
            have C1 := Lib.hid (Chg.swap hv.2 (o + k) (o + q) (.int .u64 ((G q : Nat) : Int)) (.int .u64 ((G k : Nat) : Int)))
            clear hv hv2 hup hdn
            go_wp2_with fail
            go_region
            go_wp2
            go_roundw
            case rel => exact ⟨k + 1, q - 1, _, by go_num, predV (by omega), by omega, by omega, by omega, ⟨S1.out.drew.drew, C1.out.drew.drew⟩, hE2.out⟩
            case measure => simp [intOf]; omega
          case neg =>
            have hlez : decide ((k : Int) ≤ (q : Int)) = false := decide_eq_false (by omega)
            have hjz : (q : Int) < (k : Int) := by omega
            go_wp2_with fail
            refine wp_region_text [(3, 1), (22, 1)] (by kernel_rfl) (by kernel_rfl) ?_
            simp only [instr, chk, look, Nat.reduceBEq, Bool.false_eq_true, if_true, if_false, Nat.reduceEqDiff, List.cons_append, List.nil_append]
            go_wp2_with fail
            refine OnlyN.normal ?_
            go_wp2_with fail
            have e2 := (sn_end (p := fun x => ltU e[a]! x) (d := e) (by omega : q < k)).symm.trans hsc.out
            have hdn : q < k ∨ ltU (G a) (G q) = false := .inl (by omega)
            subst e2
            clear hcw hsc hlez
            replace hv2 := hv2.out
            replace hv := hv.out
            replace hj2 := Lib.hid hj2
            have hE2 := (pe_end hi2.out hj2.out (by omega)).symm.trans hE.out
            injection hE2 with hE3 hE4
            subst hE3
            subst hE4
            replace hv2 := Lib.hid hv2
            replace hv := Lib.hid hv
            clear hup hdn
            go_wp2
            go_ret
            exact ⟨rfl, hv2.out⟩
      case neg =>
        have hlez : decide ((k : Int) ≤ (j : Int)) = false := decide_eq_false (by omega)
        go_wp2_with fail
        refine wp_region_text [(3, 1), (22, 1)] (by kernel_rfl) (by kernel_rfl) ?_
        simp only [instr, chk, look, Nat.reduceBEq, Bool.false_eq_true, if_true, if_false, Nat.reduceEqDiff, List.cons_append, List.nil_append]
        go_wp2_with fail
        refine OnlyN.normal ?_
        go_wp2_with fail
        have e2 := (su_end (p := fun x => !ltU e[a]! x) (d := e) (by omega : j < k)).symm.trans hsc.out
        have hup : j < k ∨ ltU (G a) (G k) = true := .inl (by omega)
        subst e2
        clear hcw hsc hlez
        replace hv2 := hv2.out
        replace hv := hv.out
        obtain ⟨j2, hj2⟩ : ∃ j2, Go.Sort.scanDown (fun x => ltU e[a]! x) e k j = j2 := ⟨_, rfl⟩
        replace hi2 := Lib.hid hi2
        clear hv
        have hkj : j < k := by omega
        clear hle
        go_loopw [10] (fun vj wq => ∃ q : Nat, vj = .int .i64 (q : Int) ∧ q ≤ j ∧ k ≤ q + 1 ∧ SrtTo base t g n c w e wq ∧ Go.Sort.scanDown (fun x => ltU e[a]! x) e k q = j2) (fun vj _ => (intOf vj).toNat)
        case atStart => exact ⟨j, rfl, Nat.le_refl _, hk2, hv2, hj2⟩
        case round =>
          obtain ⟨q, rfl, hq1, hq2, hv, hsc⟩ := hrel
          have hcw : ∀ k, k < n → wr.cell? ⟨g, o + k, none⟩ = some (.int .u64 ((G k : Nat) : Int)) := fun k hk => by rw [hG.out]; exact hv.1.fam ho.out k hk
          have hv2 : SrtTo base t g n c w e wr.drew := ⟨hv.1.drew, hv.2.drew⟩
          replace hv2 := Lib.hid hv2
          replace hv := Lib.hid hv
          replace hsc := Lib.hid hsc
          by_cases hle : k ≤ q
          case pos =>
            exfalso
            omega
          case neg =>
            have hlez : decide ((k : Int) ≤ (q : Int)) = false := decide_eq_false (by omega)
            have hjz : (q : Int) < (k : Int) := by omega
            go_wp2_with fail
            refine wp_region_text [(3, 1), (22, 1)] (by kernel_rfl) (by kernel_rfl) ?_
            simp only [instr, chk, look, Nat.reduceBEq, Bool.false_eq_true, if_true, if_false, Nat.reduceEqDiff, List.cons_append, List.nil_append]
            go_wp2_with fail
            refine OnlyN.normal ?_
            go_wp2_with fail
            have e2 := (sn_end (p := fun x => ltU e[a]! x) (d := e) (by omega : q < k)).symm.trans hsc.out
            have hdn : q < k ∨ ltU (G a) (G q) = false := .inl (by omega)
            subst e2
            clear hcw hsc hlez
            replace hv2 := hv2.out
            replace hv := hv.out
            replace hj2 := Lib.hid hj2
            have hE2 := (pe_end hi2.out hj2.out (by omega)).symm.trans hE.out
            injection hE2 with hE3 hE4
            subst hE3
            subst hE4
            replace hv2 := Lib.hid hv2
            replace hv := Lib.hid hv
            clear hup hdn
            go_wp2
            go_ret
            exact ⟨rfl, hv2.out⟩
end Go.Proofs.YtjoaonppaokhhaaGreat
