/-
  Several texts in one:
  (slices.partitionOrdered) of numbers. Conditions: lengths that a slice has.
-/
import Derived.Test.YtjoaonppaokhhaaGreatPart15

namespace Go.Proofs.YtjoaonppaokhhaaGreat
open Go.RowKit

theorem pt_end {d e : Array Nat} {a b pv i j i2 j2 : Nat} (he : Go.Sort.swp d a pv = e) (hi0 : i = a + 1) (hj0 : j = b - 1) (hi : Go.Sort.scanUp (fun x => ltU x e[a]!) e j i = i2) (hj : Go.Sort.scanDown (fun x => !ltU x e[a]!) e i2 j = j2) (h : j2 < i2) :
    Go.Sort.partition ltU d a b pv = (j2, true, Go.Sort.swp e j2 a) := by
  subst he hi0 hj0
  unfold Go.Sort.partition
  simp only []
  rw [hi, hj, if_pos h]
theorem pt_go {d e : Array Nat} {a b pv i j i2 j2 m : Nat} {z : Array Nat} (he : Go.Sort.swp d a pv = e) (hi0 : i = a + 1) (hj0 : j = b - 1) (hi : Go.Sort.scanUp (fun x => ltU x e[a]!) e j i = i2) (hj : Go.Sort.scanDown (fun x => !ltU x e[a]!) e i2 j = j2) (h : ¬ j2 < i2)
    (hl : Go.Sort.partLoop ltU a (i2 + 1) (j2 - 1) (Go.Sort.swp e i2 j2) = (m, z)) : Go.Sort.partition ltU d a b pv = (m, false, Go.Sort.swp z m a) := by
  subst he hi0 hj0
  unfold Go.Sort.partition
  simp only []
  rw [hi, hj, if_neg h, hl]
theorem pl_end {a i j i2 j2 : Nat} {e : Array Nat} (hi : Go.Sort.scanUp (fun x => ltU x e[a]!) e j i = i2) (hj : Go.Sort.scanDown (fun x => !ltU x e[a]!) e i2 j = j2) (h : j2 < i2) : Go.Sort.partLoop ltU a i j e = (j2, e) := by
  rw [Go.Sort.partLoop_eq, hi, hj, if_pos h]
theorem pl_go {a i j i2 j2 : Nat} {e : Array Nat} (hi : Go.Sort.scanUp (fun x => ltU x e[a]!) e j i = i2) (hj : Go.Sort.scanDown (fun x => !ltU x e[a]!) e i2 j = j2) (h : ¬ j2 < i2) : Go.Sort.partLoop ltU a i j e = Go.Sort.partLoop ltU a (i2 + 1) (j2 - 1) (Go.Sort.swp e i2 j2) := by
  rw [Go.Sort.partLoop_eq, hi, hj, if_neg h]

set_option maxRecDepth 100000 in
set_option maxHeartbeats 8000000 in
theorem upart_any (base g o n c a b pv : Nat) (t : TypeId) (d : Array Nat) (w : World) (ho : o = 0) (h : UA w base t g n c d) (hap : a ≤ pv) (hpb : pv < b) (hb : b ≤ n) (hn : n < 4611686018427387904) :
    Calls Tryz.prog 153 #[.slice (some ⟨g, o, none⟩) n c, .int .i64 (a : Int), .int .i64 (b : Int), .int .i64 (pv : Int)] w fun x w' => x = .returned (.tuple #[.int .i64 ((Go.Sort.partition ltU d a b pv).1 : Int), .bool (Go.Sort.partition ltU d a b pv).2.1]) ∧ SrtTo base t g n c w (Go.Sort.partition ltU d a b pv).2.2 w' := by
  obtain ⟨⟨m0, f0, z0⟩, hz⟩ : ∃ r, Go.Sort.partition ltU d a b pv = r := ⟨_, rfl⟩
  rw [hz]
  replace hz := Lib.hid hz
  replace ho := Lib.hid ho
  have hu0 : SrtTo base t g n c w d w := ⟨h, Chg.refl _ _⟩
  clear h
  obtain ⟨x, hx⟩ : ∃ x, d[a]! = x := ⟨_, rfl⟩
  obtain ⟨y, hy⟩ : ∃ y, d[pv]! = y := ⟨_, rfl⟩
  have ca : w.cell? ⟨g, o + a, none⟩ = some (.int .u64 (x : Int)) := by rw [← hx]; exact hu0.1.fam ho.out a (by omega)
  have cp : w.cell? ⟨g, o + pv, none⟩ = some (.int .u64 (y : Int)) := by rw [← hy]; exact hu0.1.fam ho.out pv (by omega)
  have fa : w.frozen? ⟨g, o + a, none⟩ = false := hu0.1.fre a (by omega)
  have fp : w.frozen? ⟨g, o + pv, none⟩ = false := hu0.1.fre pv (by omega)
  obtain ⟨v', hy'⟩ := cell?_setCell_some (w := w) (p := ⟨g, o + a, none⟩) (x := .int .u64 (y : Int)) (q := ⟨g, o + pv, none⟩) cp
  have S1 := Lib.hid (hu0.1.swpo ho.out a pv x y hx hy)
  have C1 := Lib.hid (Chg.swap hu0.2 (o + a) (o + pv) (.int .u64 (y : Int)) (.int .u64 (x : Int)))
  clear hx hy
  clear hu0
  go_enter Tryz.func153, Tryz.ntmps153
  go_wp2_with fail
  go_region
  go_wp2
  obtain ⟨e, he⟩ : ∃ e, Go.Sort.swp d a pv = e := ⟨_, rfl⟩
  rw [he] at S1
  obtain ⟨i, hi0⟩ : ∃ i, i = a + 1 := ⟨_, rfl⟩
  obtain ⟨j, hj0⟩ : ∃ j, j = b - 1 := ⟨_, rfl⟩
  have hA : (a : Int) + 1 = (i : Int) := by omega
  have hB : (b : Int) - 1 = (j : Int) := by omega
  simp only [hA, hB]
  clear hA hB
  have hij : i ≤ j + 1 := by omega
  have hjb0 : j < b := by omega
  have hia0 : a < i := by omega
  replace hi0 := Lib.hid hi0
  replace hj0 := Lib.hid hj0
  replace he := Lib.hid he
  have hu : SrtTo base t g n c w e _ := ⟨S1.out.drew, C1.out.drew⟩
  clear ca cp fa fp hy' S1 C1
  obtain ⟨i2, hi2⟩ : ∃ i2, Go.Sort.scanUp (fun x => ltU x e[a]!) e j i = i2 := ⟨_, rfl⟩
  obtain ⟨G, hG⟩ : ∃ G : Nat → Nat, ∀ k, G k = e[k]! := ⟨fun k => e[k]!, fun _ => rfl⟩
  replace hG := Lib.hid hG
  go_loopw [10] (fun vi wq => ∃ k : Nat, vi = .int .i64 (k : Int) ∧ i ≤ k ∧ k ≤ j + 1 ∧ SrtTo base t g n c w e wq ∧ Go.Sort.scanUp (fun x => ltU x e[a]!) e j k = i2) (fun vi _ => j + 1 - (intOf vi).toNat)
  case atStart => exact ⟨i, rfl, Nat.le_refl _, hij, hu, hi2⟩
  case round =>
    obtain ⟨k, rfl, hk1, hk2, hv, hsc⟩ := hrel
    have hcw : ∀ k, k < n → wr.cell? ⟨g, o + k, none⟩ = some (.int .u64 ((G k : Nat) : Int)) := fun k hk => by rw [hG.out]; exact hv.1.fam ho.out k hk
    have hv2 : SrtTo base t g n c w e wr.drew := ⟨hv.1.drew, hv.2.drew⟩
    replace hv2 := Lib.hid hv2
    replace hv := Lib.hid hv
    replace hsc := Lib.hid hsc
    by_cases hle : k ≤ j
    case pos =>
      have hlez : (k : Int) ≤ (j : Int) := by omega
      go_wp2_with fail
      refine wp_region_text [(3, 1), (22, 1)] (by kernel_rfl) (by kernel_rfl) ?_
      simp only [instr, chk, look, Nat.reduceBEq, Bool.false_eq_true, if_true, if_false, Nat.reduceEqDiff, List.cons_append, List.nil_append]
      go_wp2_with fail
      refine (lessU_any _ _ _).mono ?_
      rintro x w1 ⟨rfl, rfl⟩
      go_wp2_with fail
      refine OnlyN.normal ?_
      go_wp2_with fail
      · have ht : ltU (G k) (G a) = true := by assumption
        go_roundw
        case rel => exact ⟨k + 1, by go_num, by omega, by omega, hv2.out, (su_go (p := fun x => ltU x e[a]!) hle (by rw [← hG.out, ← hG.out]; exact ht)).symm.trans hsc.out⟩
        case measure => simp [intOf]; omega
      have ht : ltU (G k) (G a) = false := by assumption
      have e2 := (su_no (p := fun x => ltU x e[a]!) (d := e) (j := j) (i := k) (by rw [← hG.out, ← hG.out]; exact ht)).symm.trans hsc.out
      have hup : j < k ∨ ltU (G k) (G a) = false := .inr (by simpa using ht)
      try simp only [ht]
      clear ht hlez
      subst e2
      clear hcw hsc
      replace hv2 := hv2.out
      replace hv := hv.out
      obtain ⟨j2, hj2⟩ : ∃ j2, Go.Sort.scanDown (fun x => !ltU x e[a]!) e k j = j2 := ⟨_, rfl⟩
      replace hi2 := Lib.hid hi2
      clear hv
      go_loopw [11] (fun vj wq => ∃ q : Nat, vj = .int .i64 (q : Int) ∧ q ≤ j ∧ k ≤ q + 1 ∧ SrtTo base t g n c w e wq ∧ Go.Sort.scanDown (fun x => !ltU x e[a]!) e k q = j2) (fun vj _ => (intOf vj).toNat)
      case atStart => exact ⟨j, rfl, Nat.le_refl _, hk2, hv2, hj2⟩
      case round =>
        obtain ⟨q, rfl, hq1, hq2, hv, hsc⟩ := hrel
        have hcw : ∀ k, k < n → wr.cell? ⟨g, o + k, none⟩ = some (.int .u64 ((G k : Nat) : Int)) := fun k hk => by rw [hG.out]; exact hv.1.fam ho.out k hk
        have hv2 : SrtTo base t g n c w e wr.drew := ⟨hv.1.drew, hv.2.drew⟩
        replace hv2 := Lib.hid hv2
        replace hv := Lib.hid hv
        replace hsc := Lib.hid hsc
        by_cases hle : k ≤ q
        case pos =>
          have hlez : (k : Int) ≤ (q : Int) := by omega
          have hjz : ¬ ((q : Int) < (k : Int)) := by omega
          go_wp2_with fail
          refine wp_region_text [(3, 1), (22, 1)] (by kernel_rfl) (by kernel_rfl) ?_
          simp only [instr, chk, look, Nat.reduceBEq, Bool.false_eq_true, if_true, if_false, Nat.reduceEqDiff, List.cons_append, List.nil_append]
          go_wp2_with fail
          refine (lessU_any _ _ _).mono ?_
          rintro x w1 ⟨rfl, rfl⟩
          go_wp2_with fail
          refine OnlyN.normal ?_
          go_wp2_with fail
          · have ht : (!ltU (G q) (G a)) = true := by assumption
            go_roundw
            case rel => exact ⟨q - 1, predV (by omega), by omega, by omega, hv2.out, (sn_go2 (p := fun x => !ltU x e[a]!) hle (by omega) (by rw [← hG.out, ← hG.out]; exact ht)).symm.trans hsc.out⟩
            case measure => simp [intOf]; omega
          have ht : (!ltU (G q) (G a)) = false := by assumption
          have e2 := (sn_no2 (p := fun x => !ltU x e[a]!) (d := e) (j := q) (i := k) (by rw [← hG.out, ← hG.out]; exact ht)).symm.trans hsc.out
          have hdn : q < k ∨ ltU (G q) (G a) = true := .inr (by simpa using ht)
          try simp only [ht]
          clear ht hlez
          subst e2
          clear hcw hsc
          replace hv2 := hv2.out
          replace hv := hv.out
          replace hj2 := Lib.hid hj2
          have hlt : k < q := by
            rcases hup with h1 | h1
            · omega
            · rcases hdn with h2 | h2
              · omega
              · rcases Nat.lt_or_ge k q with h3 | h3
                · exact h3
                · have h4 : k = q := by omega
                  rw [h4, h2] at h1
                  cases h1
          obtain ⟨⟨m, z⟩, hm⟩ : ∃ r, Go.Sort.partLoop ltU a (k + 1) (q - 1) (Go.Sort.swp e k q) = r := ⟨_, rfl⟩
          have hE2 := (pt_go he.out hi0.out hj0.out hi2.out hj2.out (by omega) hm).symm.trans hz.out
          injection hE2 with hE3 hE4
          injection hE4 with hE4 hE5
          subst hE3
          subst hE4
          subst hE5
          replace hm := Lib.hid hm
          have hai : a < k := by have := hi0.out; omega
          have hjb : q < b := by have := hj0.out; omega
          have hcw : ∀ k, k < n → wr.cell? ⟨g, o + k, none⟩ = some (.int .u64 ((G k : Nat) : Int)) := fun k hk => by rw [hG.out]; exact hv.1.fam ho.out k hk
          have hfw : ∀ k, k < n → wr.frozen? ⟨g, o + k, none⟩ = false := hv.1.fre
          have S1 := Lib.hid (hv.1.swpo ho.out k q _ _ (hG.out _).symm (hG.out _).symm)
          have C1 := Lib.hid (Chg.swap hv.2 (o + k) (o + q) (.int .u64 ((G q : Nat) : Int)) (.int .u64 ((G k : Nat) : Int)))
          clear hv hv2 hup hdn
          go_wp2_with fail
          go_region
          go_wp2
          clear hcw hfw hz hi2 hj2 he
          have hqk : decide (q < k) = false := decide_eq_false (by omega)
          simp only [hqk]
          clear hqk
          go_loopw [10, 11] (fun vi vj wr => ∃ (i j : Nat) (e : Array Nat), vi = .int .i64 (i : Int) ∧ vj = .int .i64 (j : Int) ∧ a < i ∧ i ≤ j + 1 ∧ j < b ∧ SrtTo base t g n c w e wr ∧ Go.Sort.partLoop ltU a i j e = (m, z)) (fun vi vj _ => (intOf vj).toNat + 1 - (intOf vi).toNat)
          case atStart => exact ⟨k + 1, q - 1, _, by go_num, predV (by omega), by omega, by omega, by omega, ⟨S1.out.drew.drew, C1.out.drew.drew⟩, hm.out⟩
          case round =>
            obtain ⟨i, j, e, rfl, rfl, hai, hij, hjb, hu, hE⟩ := hrel
            clear S1 C1 hm
            obtain ⟨i2, hi2⟩ : ∃ i2, Go.Sort.scanUp (fun x => ltU x e[a]!) e j i = i2 := ⟨_, rfl⟩
            replace hE := Lib.hid hE
            obtain ⟨G, hG⟩ : ∃ G : Nat → Nat, ∀ k, G k = e[k]! := ⟨fun k => e[k]!, fun _ => rfl⟩
            replace hG := Lib.hid hG
            go_wp2
            go_loopw [10] (fun vi wq => ∃ k : Nat, vi = .int .i64 (k : Int) ∧ i ≤ k ∧ k ≤ j + 1 ∧ SrtTo base t g n c w e wq ∧ Go.Sort.scanUp (fun x => ltU x e[a]!) e j k = i2) (fun vi _ => j + 1 - (intOf vi).toNat)
            case atStart => exact ⟨i, rfl, Nat.le_refl _, hij, hu, hi2⟩
            case round =>
              obtain ⟨k, rfl, hk1, hk2, hv, hsc⟩ := hrel
              have hcw : ∀ k, k < n → wr.cell? ⟨g, o + k, none⟩ = some (.int .u64 ((G k : Nat) : Int)) := fun k hk => by rw [hG.out]; exact hv.1.fam ho.out k hk
              have hv2 : SrtTo base t g n c w e wr.drew := ⟨hv.1.drew, hv.2.drew⟩
              replace hv2 := Lib.hid hv2
              replace hv := Lib.hid hv
              replace hsc := Lib.hid hsc
              by_cases hle : k ≤ j
              case pos =>
                have hlez : (k : Int) ≤ (j : Int) := by omega
                go_wp2_with fail
                refine wp_region_text [(3, 1), (22, 1)] (by kernel_rfl) (by kernel_rfl) ?_
                simp only [instr, chk, look, Nat.reduceBEq, Bool.false_eq_true, if_true, if_false, Nat.reduceEqDiff, List.cons_append, List.nil_append]
                go_wp2_with fail
                refine (lessU_any _ _ _).mono ?_
                rintro x w1 ⟨rfl, rfl⟩
                go_wp2_with fail
                refine OnlyN.normal ?_
                go_wp2_with fail
                · have ht : ltU (G k) (G a) = true := by assumption
                  go_roundw
                  case rel => exact ⟨k + 1, by go_num, by omega, by omega, hv2.out, (su_go (p := fun x => ltU x e[a]!) hle (by rw [← hG.out, ← hG.out]; exact ht)).symm.trans hsc.out⟩
                  case measure => simp [intOf]; omega
                have ht : ltU (G k) (G a) = false := by assumption
                have e2 := (su_no (p := fun x => ltU x e[a]!) (d := e) (j := j) (i := k) (by rw [← hG.out, ← hG.out]; exact ht)).symm.trans hsc.out
                have hup : j < k ∨ ltU (G k) (G a) = false := .inr (by simpa using ht)
                try simp only [ht]
                clear ht hlez
                subst e2
                clear hcw hsc
                replace hv2 := hv2.out
                replace hv := hv.out
                obtain ⟨j2, hj2⟩ : ∃ j2, Go.Sort.scanDown (fun x => !ltU x e[a]!) e k j = j2 := ⟨_, rfl⟩
                replace hi2 := Lib.hid hi2
                clear hv
                go_loopw [11] (fun vj wq => ∃ q : Nat, vj = .int .i64 (q : Int) ∧ q ≤ j ∧ k ≤ q + 1 ∧ SrtTo base t g n c w e wq ∧ Go.Sort.scanDown (fun x => !ltU x e[a]!) e k q = j2) (fun vj _ => (intOf vj).toNat)
                case atStart => exact ⟨j, rfl, Nat.le_refl _, hk2, hv2, hj2⟩
                case round =>
                  obtain ⟨q, rfl, hq1, hq2, hv, hsc⟩ := hrel
                  have hcw : ∀ k, k < n → wr.cell? ⟨g, o + k, none⟩ = some (.int .u64 ((G k : Nat) : Int)) := fun k hk => by rw [hG.out]; exact hv.1.fam ho.out k hk
                  have hv2 : SrtTo base t g n c w e wr.drew := ⟨hv.1.drew, hv.2.drew⟩
                  replace hv2 := Lib.hid hv2
                  replace hv := Lib.hid hv
                  replace hsc := Lib.hid hsc
                  by_cases hle : k ≤ q
                  case pos =>
                    have hlez : (k : Int) ≤ (q : Int) := by omega
                    have hjz : ¬ ((q : Int) < (k : Int)) := by omega
                    go_wp2_with fail
                    refine wp_region_text [(3, 1), (22, 1)] (by kernel_rfl) (by kernel_rfl) ?_
                    simp only [instr, chk, look, Nat.reduceBEq, Bool.false_eq_true, if_true, if_false, Nat.reduceEqDiff, List.cons_append, List.nil_append]
                    go_wp2_with fail
                    refine (lessU_any _ _ _).mono ?_
                    rintro x w1 ⟨rfl, rfl⟩
                    go_wp2_with fail
                    refine OnlyN.normal ?_
                    go_wp2_with fail
                    · have ht : (!ltU (G q) (G a)) = true := by assumption
                      go_roundw
                      case rel => exact ⟨q - 1, predV (by omega), by omega, by omega, hv2.out, (sn_go2 (p := fun x => !ltU x e[a]!) hle (by omega) (by rw [← hG.out, ← hG.out]; exact ht)).symm.trans hsc.out⟩
                      case measure => simp [intOf]; omega
                    have ht : (!ltU (G q) (G a)) = false := by assumption
                    have e2 := (sn_no2 (p := fun x => !ltU x e[a]!) (d := e) (j := q) (i := k) (by rw [← hG.out, ← hG.out]; exact ht)).symm.trans hsc.out
                    have hdn : q < k ∨ ltU (G q) (G a) = true := .inr (by simpa using ht)
                    try simp only [ht]
                    clear ht hlez
                    subst e2
                    clear hcw hsc
                    replace hv2 := hv2.out
                    replace hv := hv.out
                    replace hj2 := Lib.hid hj2
                    have hE2 := Lib.hid ((pl_go hi2.out hj2.out (by omega)).symm.trans hE.out)
                    have hlt : k < q := by
                      rcases hup with h1 | h1
                      · omega
                      · rcases hdn with h2 | h2
                        · omega
                        · rcases Nat.lt_or_ge k q with h3 | h3
                          · exact h3
                          · have h4 : k = q := by omega
                            rw [h4, h2] at h1
                            cases h1
                    have hcw : ∀ k, k < n → wr.cell? ⟨g, o + k, none⟩ = some (.int .u64 ((G k : Nat) : Int)) := fun k hk => by rw [hG.out]; exact hv.1.fam ho.out k hk
                    have hfw : ∀ k, k < n → wr.frozen? ⟨g, o + k, none⟩ = false := hv.1.fre
                    have S1 := Lib.hid (hv.1.swpo ho.out k q _ _ (hG.out _).symm (hG.out _).symm)
                    have C1 := Lib.hid (Chg.swap hv.2 (o + k) (o + q) (.int .u64 ((G q : Nat) : Int)) (.int .u64 ((G k : Nat) : Int)))
                    clear hv hv2 hup hdn
                    go_wp2_with fail
                    go_region
                    go_wp2
                    go_roundw
                    case rel => exact ⟨k + 1, q - 1, _, by go_num, predV (by omega), by omega, by omega, by omega, ⟨S1.out.drew.drew, C1.out.drew.drew⟩, hE2.out⟩
                    case measure => simp [intOf]; omega
                  case neg =>
                    have hlez : decide ((k : Int) ≤ (q : Int)) = false := decide_eq_false (by omega)
                    have hjz : (q : Int) < (k : Int) := by omega
                    go_wp2_with fail
                    refine wp_region_text [(3, 1), (22, 1)] (by kernel_rfl) (by kernel_rfl) ?_
                    simp only [instr, chk, look, Nat.reduceBEq, Bool.false_eq_true, if_true, if_false, Nat.reduceEqDiff, List.cons_append, List.nil_append]
                    go_wp2_with fail
                    refine OnlyN.normal ?_
                    go_wp2_with fail
                    have e2 := (sn_end (p := fun x => !ltU x e[a]!) (d := e) (by omega : q < k)).symm.trans hsc.out
                    have hdn : q < k ∨ ltU (G q) (G a) = true := .inl (by omega)
                    subst e2
                    clear hcw hsc hlez
                    replace hv2 := hv2.out
                    replace hv := hv.out
                    replace hj2 := Lib.hid hj2
                    have hE2 := (pl_end hi2.out hj2.out (by omega)).symm.trans hE.out
                    injection hE2 with hE3 hE4
                    subst hE3
                    subst hE4
                    clear hup hdn
                    obtain ⟨x, hx⟩ : ∃ x, e[q]! = x := ⟨_, rfl⟩
                    obtain ⟨y, hy⟩ : ∃ y, e[a]! = y := ⟨_, rfl⟩
                    have ca : wr.cell? ⟨g, o + q, none⟩ = some (.int .u64 (x : Int)) := by rw [← hx]; exact hv.1.fam ho.out q (by omega)
                    have cp : wr.cell? ⟨g, o + a, none⟩ = some (.int .u64 (y : Int)) := by rw [← hy]; exact hv.1.fam ho.out a (by omega)
                    have fa : wr.frozen? ⟨g, o + q, none⟩ = false := hv.1.fre q (by omega)
                    have fp : wr.frozen? ⟨g, o + a, none⟩ = false := hv.1.fre a (by omega)
                    obtain ⟨v', hy'⟩ := cell?_setCell_some (w := wr) (p := ⟨g, o + q, none⟩) (x := .int .u64 (y : Int)) (q := ⟨g, o + a, none⟩) cp
                    have S1 := Lib.hid (hv.1.swpo ho.out q a x y hx hy)
                    have C1 := Lib.hid (Chg.swap hv.2 (o + q) (o + a) (.int .u64 (y : Int)) (.int .u64 (x : Int)))
                    clear hx hy
                    clear hv hv2
                    go_wp2_with fail
                    go_region
                    go_wp2
                    go_ret2
                    exact ⟨rfl, S1.out.drew.drew, C1.out.drew.drew⟩
              case neg =>
                have hlez : decide ((k : Int) ≤ (j : Int)) = false := decide_eq_false (by omega)
                go_wp2_with fail
                refine wp_region_text [(3, 1), (22, 1)] (by kernel_rfl) (by kernel_rfl) ?_
                simp only [instr, chk, look, Nat.reduceBEq, Bool.false_eq_true, if_true, if_false, Nat.reduceEqDiff, List.cons_append, List.nil_append]
                go_wp2_with fail
                refine OnlyN.normal ?_
                go_wp2_with fail
                have e2 := (su_end (p := fun x => ltU x e[a]!) (d := e) (by omega : j < k)).symm.trans hsc.out
                have hup : j < k ∨ ltU (G k) (G a) = false := .inl (by omega)
                subst e2
                clear hcw hsc hlez
                replace hv2 := hv2.out
                replace hv := hv.out
                obtain ⟨j2, hj2⟩ : ∃ j2, Go.Sort.scanDown (fun x => !ltU x e[a]!) e k j = j2 := ⟨_, rfl⟩
                replace hi2 := Lib.hid hi2
                clear hv
                have hkj : j < k := by omega
                clear hle
                go_loopw [11] (fun vj wq => ∃ q : Nat, vj = .int .i64 (q : Int) ∧ q ≤ j ∧ k ≤ q + 1 ∧ SrtTo base t g n c w e wq ∧ Go.Sort.scanDown (fun x => !ltU x e[a]!) e k q = j2) (fun vj _ => (intOf vj).toNat)
                case atStart => exact ⟨j, rfl, Nat.le_refl _, hk2, hv2, hj2⟩
                case round =>
                  obtain ⟨q, rfl, hq1, hq2, hv, hsc⟩ := hrel
                  have hcw : ∀ k, k < n → wr.cell? ⟨g, o + k, none⟩ = some (.int .u64 ((G k : Nat) : Int)) := fun k hk => by rw [hG.out]; exact hv.1.fam ho.out k hk
                  have hv2 : SrtTo base t g n c w e wr.drew := ⟨hv.1.drew, hv.2.drew⟩
                  replace hv2 := Lib.hid hv2
                  replace hv := Lib.hid hv
                  replace hsc := Lib.hid hsc
                  by_cases hle : k ≤ q
                  case pos =>
                    exfalso
                    omega
                  case neg =>
                    have hlez : decide ((k : Int) ≤ (q : Int)) = false := decide_eq_false (by omega)
                    have hjz : (q : Int) < (k : Int) := by omega
                    go_wp2_with fail
                    refine wp_region_text [(3, 1), (22, 1)] (by kernel_rfl) (by kernel_rfl) ?_
                    simp only [instr, chk, look, Nat.reduceBEq, Bool.false_eq_true, if_true, if_false, Nat.reduceEqDiff, List.cons_append, List.nil_append]
                    go_wp2_with fail
                    refine OnlyN.normal ?_
                    go_wp2_with fail
                    have e2 := (sn_end (p := fun x => !ltU x e[a]!) (d := e) (by omega : q < k)).symm.trans hsc.out
                    have hdn : q < k ∨ ltU (G q) (G a) = true := .inl (by omega)
                    subst e2
                    clear hcw hsc hlez
                    replace hv2 := hv2.out
                    replace hv := hv.out
                    replace hj2 := Lib.hid hj2
                    have hE2 := (pl_end hi2.out hj2.out (by omega)).symm.trans hE.out
                    injection hE2 with hE3 hE4
                    subst hE3
                    subst hE4
                    clear hup hdn
                    obtain ⟨x, hx⟩ : ∃ x, e[q]! = x := ⟨_, rfl⟩
                    obtain ⟨y, hy⟩ : ∃ y, e[a]! = y := ⟨_, rfl⟩
                    have ca : wr.cell? ⟨g, o + q, none⟩ = some (.int .u64 (x : Int)) := by rw [← hx]; exact hv.1.fam ho.out q (by omega)
                    have cp : wr.cell? ⟨g, o + a, none⟩ = some (.int .u64 (y : Int)) := by rw [← hy]; exact hv.1.fam ho.out a (by omega)
                    have fa : wr.frozen? ⟨g, o + q, none⟩ = false := hv.1.fre q (by omega)
                    have fp : wr.frozen? ⟨g, o + a, none⟩ = false := hv.1.fre a (by omega)
                    obtain ⟨v', hy'⟩ := cell?_setCell_some (w := wr) (p := ⟨g, o + q, none⟩) (x := .int .u64 (y : Int)) (q := ⟨g, o + a, none⟩) cp
                    have S1 := Lib.hid (hv.1.swpo ho.out q a x y hx hy)
                    have C1 := Lib.hid (Chg.swap hv.2 (o + q) (o + a) (.int .u64 (y : Int)) (.int .u64 (x : Int)))
                    clear hx hy
                    clear hv hv2
                    go_wp2_with fail
                    go_region
                    go_wp2
                    go_ret2
                    exact ⟨rfl, S1.out.drew.drew, C1.out.drew.drew⟩
        case neg =>
          have hlez : decide ((k : Int) ≤ (q : Int)) = false := decide_eq_false (by omega)
          have hjz : (q : Int) < (k : Int) := by omega
          go_wp2_with fail
          refine wp_region_text [(3, 1), (22, 1)] (by kernel_rfl) (by kernel_rfl) ?_
          simp only [instr, chk, look, Nat.reduceBEq, Bool.false_eq_true, if_true, if_false, Nat.reduceEqDiff, List.cons_append, List.nil_append]
          go_wp2_with fail
          refine OnlyN.normal ?_
          go_wp2_with fail
          have e2 := (sn_end (p := fun x => !ltU x e[a]!) (d := e) (by omega : q < k)).symm.trans hsc.out
          have hdn : q < k ∨ ltU (G q) (G a) = true := .inl (by omega)
          subst e2
          clear hcw hsc hlez
          replace hv2 := hv2.out
          replace hv := hv.out
          replace hj2 := Lib.hid hj2
          have hE2 := (pt_end he.out hi0.out hj0.out hi2.out hj2.out (by omega)).symm.trans hz.out
          injection hE2 with hE3 hE4
          injection hE4 with hE4 hE5
          subst hE3
          subst hE4
          subst hE5
          have hqn : q < n := by have := hj0.out; omega
          clear hup hdn
          obtain ⟨x, hx⟩ : ∃ x, e[q]! = x := ⟨_, rfl⟩
          obtain ⟨y, hy⟩ : ∃ y, e[a]! = y := ⟨_, rfl⟩
          have ca : wr.cell? ⟨g, o + q, none⟩ = some (.int .u64 (x : Int)) := by rw [← hx]; exact hv.1.fam ho.out q (by omega)
          have cp : wr.cell? ⟨g, o + a, none⟩ = some (.int .u64 (y : Int)) := by rw [← hy]; exact hv.1.fam ho.out a (by omega)
          have fa : wr.frozen? ⟨g, o + q, none⟩ = false := hv.1.fre q (by omega)
          have fp : wr.frozen? ⟨g, o + a, none⟩ = false := hv.1.fre a (by omega)
          obtain ⟨v', hy'⟩ := cell?_setCell_some (w := wr) (p := ⟨g, o + q, none⟩) (x := .int .u64 (y : Int)) (q := ⟨g, o + a, none⟩) cp
          have S1 := Lib.hid (hv.1.swpo ho.out q a x y hx hy)
          have C1 := Lib.hid (Chg.swap hv.2 (o + q) (o + a) (.int .u64 (y : Int)) (.int .u64 (x : Int)))
          clear hx hy
          clear hv hv2
          go_wp2_with fail
          go_region
          go_wp2
          go_ret2
          exact ⟨rfl, S1.out.drew.drew, C1.out.drew.drew⟩
    case neg =>
      have hlez : decide ((k : Int) ≤ (j : Int)) = false := decide_eq_false (by omega)
      go_wp2_with fail
      refine wp_region_text [(3, 1), (22, 1)] (by kernel_rfl) (by kernel_rfl) ?_
      simp only [instr, chk, look, Nat.reduceBEq, Bool.false_eq_true, if_true, if_false, Nat.reduceEqDiff, List.cons_append, List.nil_append]
      go_wp2_with fail
      refine OnlyN.normal ?_
      go_wp2_with fail
      have e2 := (su_end (p := fun x => ltU x e[a]!) (d := e) (by omega : j < k)).symm.trans hsc.out
      have hup : j < k ∨ ltU (G k) (G a) = false := .inl (by omega)
      subst e2
      clear hcw hsc hlez
      replace hv2 := hv2.out
      replace hv := hv.out
      obtain ⟨j2, hj2⟩ : ∃ j2, Go.Sort.scanDown (fun x => !ltU x e[a]!) e k j = j2 := ⟨_, rfl⟩
      replace hi2 := Lib.hid hi2
      clear hv
      have hkj : j < k := by omega
      clear hle
      go_loopw [11] (fun vj wq => ∃ q : Nat, vj = .int .i64 (q : Int) ∧ q ≤ j ∧ k ≤ q + 1 ∧ SrtTo base t g n c w e wq ∧ Go.Sort.scanDown (fun x => !ltU x e[a]!) e k q = j2) (fun vj _ => (intOf vj).toNat)
      case atStart => exact ⟨j, rfl, Nat.le_refl _, hk2, hv2, hj2⟩
      case round =>
        obtain ⟨q, rfl, hq1, hq2, hv, hsc⟩ := hrel
        have hcw : ∀ k, k < n → wr.cell? ⟨g, o + k, none⟩ = some (.int .u64 ((G k : Nat) : Int)) := fun k hk => by rw [hG.out]; exact hv.1.fam ho.out k hk
        have hv2 : SrtTo base t g n c w e wr.drew := ⟨hv.1.drew, hv.2.drew⟩
        replace hv2 := Lib.hid hv2
        replace hv := Lib.hid hv
        replace hsc := Lib.hid hsc
        by_cases hle : k ≤ q
        case pos =>
          exfalso
          omega
        case neg =>
          have hlez : decide ((k : Int) ≤ (q : Int)) = false := decide_eq_false (by omega)
          have hjz : (q : Int) < (k : Int) := by omega
          go_wp2_with fail
          refine wp_region_text [(3, 1), (22, 1)] (by kernel_rfl) (by kernel_rfl) ?_
          simp only [instr, chk, look, Nat.reduceBEq, Bool.false_eq_true, if_true, if_false, Nat.reduceEqDiff, List.cons_append, List.nil_append]
          go_wp2_with fail
          refine OnlyN.normal ?_
          go_wp2_with fail
          have e2 := (sn_end (p := fun x => !ltU x e[a]!) (d := e) (by omega : q < k)).symm.trans hsc.out
          have hdn : q < k ∨ ltU (G q) (G a) = true := .inl (by omega)
          subst e2
          clear hcw hsc hlez
          replace hv2 := hv2.out
          replace hv := hv.out
          replace hj2 := Lib.hid hj2
          have hE2 := (pt_end he.out hi0.out hj0.out hi2.out hj2.out (by omega)).symm.trans hz.out
          injection hE2 with hE3 hE4
          injection hE4 with hE4 hE5
          subst hE3
          subst hE4
          subst hE5
          have hqn : q < n := by have := hj0.out; omega
          clear hup hdn
          obtain ⟨x, hx⟩ : ∃ x, e[q]! = x := ⟨_, rfl⟩
          obtain ⟨y, hy⟩ : ∃ y, e[a]! = y := ⟨_, rfl⟩
          have ca : wr.cell? ⟨g, o + q, none⟩ = some (.int .u64 (x : Int)) := by rw [← hx]; exact hv.1.fam ho.out q (by omega)
          have cp : wr.cell? ⟨g, o + a, none⟩ = some (.int .u64 (y : Int)) := by rw [← hy]; exact hv.1.fam ho.out a (by omega)
          have fa : wr.frozen? ⟨g, o + q, none⟩ = false := hv.1.fre q (by omega)
          have fp : wr.frozen? ⟨g, o + a, none⟩ = false := hv.1.fre a (by omega)
          obtain ⟨v', hy'⟩ := cell?_setCell_some (w := wr) (p := ⟨g, o + q, none⟩) (x := .int .u64 (y : Int)) (q := ⟨g, o + a, none⟩) cp
          have S1 := Lib.hid (hv.1.swpo ho.out q a x y hx hy)
          have C1 := Lib.hid (Chg.swap hv.2 (o + q) (o + a) (.int .u64 (y : Int)) (.int .u64 (x : Int)))
          clear hx hy
          clear hv hv2
          go_wp2_with fail
          go_region
          go_wp2
          go_ret2
          exact ⟨rfl, S1.out.drew.drew, C1.out.drew.drew⟩
end Go.Proofs.YtjoaonppaokhhaaGreat
