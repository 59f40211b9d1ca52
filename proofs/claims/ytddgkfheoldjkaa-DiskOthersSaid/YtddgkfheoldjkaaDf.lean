/-
  A write of the disk, whatever it asks and does. Conditions: counts that have not come to their ends.
-/
import Derived.Test.YtddgkfheoldjkaaDe
namespace Go.Proofs.Ytddgkfheoldjkaa
open Go.RowKit

set_option maxHeartbeats 800000 in
theorem write_off {O : Nat → Prop} {w : World} {d m : Nat} {es : Array MapEntry} {clock : Nat} {armed : Bool} {left keep : Int} {n : Nat} (hD : Dsk O w d m es clock false armed left keep n) (v1 v2 v3 : Value) :
    Calls Try.prog 23 #[.pointer (some ⟨d, 0, none⟩), v1, v2, v3] w fun e w' => e = .returned (.int .i64 60) ∧ w = w' := by
  have c1 := hD.c1
  clear hD
  go_enter Try.func23, Try.ntmps23
  go_wp2
  go_ret
  exact ⟨by simp, rfl⟩

set_option maxHeartbeats 800000 in
theorem write_ok {O : Nat → Prop} {w : World} {d m : Nat} {es : Array MapEntry} {clock : Nat} {armed : Bool} {left keep : Int} {n : Nat} (hD : Dsk O w d m es clock true armed left keep n) (hna : armed = true → left ≠ 0) (hle : -1000000 ≤ left ∧ left ≤ 1000000) (hn : n ≤ 1000000)
    (fa fd fh : Nat) (ea : ∀ args w, (callFunc fa args).run Try.prog w = .ok (.enter fa args) w) (ed : ∀ args w, (callFunc fd args).run Try.prog w = .ok (.enter fd args) w) (ca cd ch : Array Value) (hA : Calls Try.prog fa ca w fun e w' => e = .returned (.int .i64 0) ∧ ∃ k, w' = w.drewN k) {R : World → World → Prop}
    (hdo : ∀ w1, Chg (fun k => k = d) w w1 → Dsk O w1 d m es clock true armed (left - 1) keep (n + 1) → Calls Try.prog fd cd w1 fun e w' => e = .returned (.tuple #[]) ∧ R w1 w') :
    Calls Try.prog 23 #[.pointer (some ⟨d, 0, none⟩), .func (.func fa) #[] ca, .func (.func fd) #[] cd, .func (.func fh) #[] ch] w fun e w' => e = .returned (.int .i64 0) ∧ ∃ w1, Chg (fun k => k = d) w w1 ∧ Dsk O w1 d m es clock true armed (left - 1) keep (n + 1) ∧ R w1 w' := by
  have c1 := hD.c1
  have c2 := hD.c2
  have c3 := hD.c3
  have c5 := hD.c5
  have f3 : w.frozen? ⟨d, 3, none⟩ = false := hD.hd.frozen 3
  have f5 : w.frozen? ⟨d, 5, none⟩ = false := hD.hd.frozen 5
  go_enter Try.func23, Try.ntmps23
  go_wp2_with fail
  refine hA.mono ?_
  rintro e w1 ⟨rfl, k, rfl⟩
  have hc : Chg (fun j => j = d) w (((w.drewN k).setCell ⟨d, 5, none⟩ (.int .u64 ((n : Int) + 1))).setCell ⟨d, 3, none⟩ (.int .i64 (left - 1))) :=
    Chg.setCell (S := fun j => j = d) (Chg.setCell (S := fun j => j = d) ((Chg.refl _ w).drewN k) (p := ⟨d, 5, none⟩) (.inr rfl) _) (p := ⟨d, 3, none⟩) (.inr rfl) _
  have hD1 : Dsk O (((w.drewN k).setCell ⟨d, 5, none⟩ (.int .u64 ((n : Int) + 1))).setCell ⟨d, 3, none⟩ (.int .i64 (left - 1))) d m es clock true armed (left - 1) keep (n + 1) :=
    ⟨Blk.set (Blk.set (Blk.drewN hD.hd k) 5 (.int .u64 ((n : Int) + 1))) 3 (.int .i64 (left - 1)), hD.hm.chg hc (hD.hm.ne_blk hD.hd), hD.od, hD.om⟩
  cases armed
  · go_wp2_with fail
    refine (hdo _ hc hD1).mono ?_
    rintro e w2 ⟨rfl, hR⟩
    go_wp2
    go_ret
    exact ⟨by simp, _, hc, hD1, hR⟩
  · have h0 : (left == 0) = false := by simpa using hna rfl
    go_wp2_with fail
    refine (hdo _ hc hD1).mono ?_
    rintro e w2 ⟨rfl, hR⟩
    go_wp2
    go_ret
    exact ⟨by simp, _, hc, hD1, hR⟩

set_option maxHeartbeats 800000 in
theorem write_cut {O : Nat → Prop} {w : World} {d m : Nat} {es : Array MapEntry} {clock : Nat} {keep : Int} {n : Nat} (hD : Dsk O w d m es clock true true 0 keep n) (hn : n ≤ 1000000)
    (fa fd fh : Nat) (ea : ∀ args w, (callFunc fa args).run Try.prog w = .ok (.enter fa args) w) (eh : ∀ args w, (callFunc fh args).run Try.prog w = .ok (.enter fh args) w) (ca cd ch : Array Value) (hA : Calls Try.prog fa ca w fun e w' => e = .returned (.int .i64 0) ∧ ∃ k, w' = w.drewN k) {R T : World → World → Prop}
    (hh : ∀ w1, Chg (fun k => k = d) w w1 → Dsk O w1 d m es clock true true 0 keep (n + 1) → Calls Try.prog fh ch w1 fun e w' => e = .returned (.tuple #[]) ∧ R w1 w')
    (hk : ∀ w1 w2, R w1 w2 → w2.cell? ⟨d, 4, none⟩ = some (.int .i64 keep)) (hcut : ∀ w1 w2, R w1 w2 → Calls Try.prog 30 #[.pointer (some ⟨d, 0, none⟩), .int .i64 keep] w2 fun e w' => e = .returned (.tuple #[]) ∧ T w2 w') :
    Calls Try.prog 23 #[.pointer (some ⟨d, 0, none⟩), .func (.func fa) #[] ca, .func (.func fd) #[] cd, .func (.func fh) #[] ch] w fun e w' => e = .returned (.int .i64 60) ∧ ∃ w1 w2, Chg (fun k => k = d) w w1 ∧ Dsk O w1 d m es clock true true 0 keep (n + 1) ∧ R w1 w2 ∧ T w2 w' := by
  have c1 := hD.c1
  have c2 := hD.c2
  have c3 := hD.c3
  have c5 := hD.c5
  have f5 : w.frozen? ⟨d, 5, none⟩ = false := hD.hd.frozen 5
  go_enter Try.func23, Try.ntmps23
  go_wp2_with fail
  refine hA.mono ?_
  rintro e w1 ⟨rfl, k, rfl⟩
  have hc : Chg (fun j => j = d) w ((w.drewN k).setCell ⟨d, 5, none⟩ (.int .u64 ((n : Int) + 1))) := Chg.setCell (S := fun j => j = d) ((Chg.refl _ w).drewN k) (p := ⟨d, 5, none⟩) (.inr rfl) _
  have hD1 : Dsk O ((w.drewN k).setCell ⟨d, 5, none⟩ (.int .u64 ((n : Int) + 1))) d m es clock true true 0 keep (n + 1) :=
    ⟨Blk.set (Blk.drewN hD.hd k) 5 (.int .u64 ((n : Int) + 1)), hD.hm.chg hc (hD.hm.ne_blk hD.hd), hD.od, hD.om⟩
  go_wp2_with fail
  refine (hh _ hc hD1).mono ?_
  rintro e w2 ⟨rfl, hR⟩
  have c4 := hk _ _ hR
  go_wp2_with fail
  refine (hcut _ _ hR).mono ?_
  rintro e w3 ⟨rfl, hT⟩
  go_wp2
  go_ret
  exact ⟨by simp, _, _, hc, hD1, hR, hT⟩
end Go.Proofs.Ytddgkfheoldjkaa
