/-
  Several texts in one:
  The power goes: what stays of a disk of one file. Conditions: one file, within the file's bound.
  A write of the disk, whatever it asks and does. Conditions: counts that have not come to their ends.
  Append: a new file; bytes behind those of a file; the power off; the power going. Conditions: names of one letter; lengths within the file's bound.
-/
import Derived.Test.YtepncgeaehjhiaaGreatPart12
import Derived.Shelf.Abstract

namespace Go.Proofs.YtepncgeaehjhiaaGreat
open Go.RowKit

def stayN (len sy : Nat) (kp : Int) : Nat := if 0 ≤ kp then sy + kp.toNat % (len - sy + 1) else sy
theorem stay_le {len sy : Nat} (h : sy ≤ len) (kp : Int) : stayN len sy kp ≤ len := by
  unfold stayN
  split
  · have := Nat.mod_lt kp.toNat (show 0 < len - sy + 1 by omega)
    omega
  · exact h
theorem IterB.chg {S : Nat → Prop} {w w' : World} {r m since c0 : Nat} {seen : Array Nat} (h : IterB w r m since seen c0) (hc : Chg S w w') (hn : ¬ S r) : IterB w' r m since seen c0 := (hc.block r h.lt hn).trans h
theorem IterB.ne_blk {w : World} {r m since c0 g : Nat} {seen : Array Nat} {t : TypeId} {cs : Array Value} (h : IterB w r m since seen c0) (h' : Blk w g t cs) : r ≠ g := fun e => by
  subst e
  have := Eq.trans (Eq.symm h) h'
  cases this

set_option maxRecDepth 100000 in
set_option maxHeartbeats 2000000 in
theorem cut_one {O : Nat → Prop} {w : World} {d m : Nat} {x : ByteArray} {g born clock : Nat} {up armed : Bool} {left keep : Int} {n : Nat} (hD : Dsk O w d m #[entF x g born] clock up armed left keep n) (hbn : born < clock)
    {A : Option Addr} {cap sy : Nat} {l : List UInt8} (hF : Fil O w g A cap l sy) (hsy : sy ≤ l.length) (hl : l.length ≤ 4194304) (kp : Int) (hkp : kp ≤ 9223372036854775807) :
    Calls Tryz.prog 18 #[.pointer (some ⟨d, 0, none⟩), .int .i64 kp] w fun e w' => e = .returned (.tuple #[]) ∧ Dsk O w' d m #[entF x g born] clock false false left keep n ∧
      Fil O w' g A cap (l.take (stayN l.length sy kp)) (stayN l.length sy kp) ∧ Chg (fun k => k = g ∨ k = d) w w' := by
  have hst := stay_le hsy kp
  obtain ⟨st, hstd⟩ : ∃ st, st = stayN l.length sy kp := ⟨_, rfl⟩
  rw [← hstd] at hst ⊢
  have hb := hF.hg
  have hcap := hF.hA.cap
  have c0 := hD.c0
  have hg1 : Grew w (w.alloc (.mapIter (some m) clock #[] clock)) := (Chg.refl _ w).alloc _
  have hi1 : IterB (w.alloc (.mapIter (some m) clock #[] clock)) w.heap.size m clock #[] clock := heap_alloc_new w _
  have hrange := run_range_b (P := Tryz.prog) Tryz.underlying44 hD.hm
  have hD1 := hD.grew hg1
  have hnext := fun ty => run_next_one (P := Tryz.prog) ty hi1 hD1.hm hbn
  obtain ⟨r, hr⟩ : ∃ r, r = w.heap.size := ⟨_, rfl⟩
  have hi2 : IterB (setB (w.alloc (.mapIter (some m) clock #[] clock)) w.heap.size (.mapIter (some m) clock #[born] clock)) w.heap.size m clock #[born] clock := setB_here hi1.lt _
  have hg2 : Grew w (setB (w.alloc (.mapIter (some m) clock #[] clock)) w.heap.size (.mapIter (some m) clock #[born] clock)) := Chg.setB hg1 (.inl (Nat.le_refl _)) _
  have hD2 := hD.grew hg2
  have hb2 := hb.grew hg2
  have hentry := run_entry_one (P := Tryz.prog) (x := entF x g born) hi2 hD2.hm
  simp only [entF] at hnext hentry
  have g0 : (setB (w.alloc (.mapIter (some m) clock #[] clock)) w.heap.size (.mapIter (some m) clock #[born] clock)).cell? ⟨g, 0, none⟩ = some (.slice A l.length cap) := hb2.cell 0
  have g1 : (setB (w.alloc (.mapIter (some m) clock #[] clock)) w.heap.size (.mapIter (some m) clock #[born] clock)).cell? ⟨g, 1, none⟩ = some (.int .i64 (sy : Int)) := hb2.cell 1
  have fr0 : (setB (w.alloc (.mapIter (some m) clock #[] clock)) w.heap.size (.mapIter (some m) clock #[born] clock)).frozen? ⟨g, 0, none⟩ = false := hb2.frozen 0
  have fr1 : (setB (w.alloc (.mapIter (some m) clock #[] clock)) w.heap.size (.mapIter (some m) clock #[born] clock)).frozen? ⟨g, 1, none⟩ = false := hb2.frozen 1
  go_enter Tryz.func18, Tryz.ntmps18
  go_wp2
  refine wp_loop_rounds 2 ?_
  rw [rounds_succ]
  by_cases h0 : 0 ≤ kp
  · obtain ⟨kn, rfl⟩ := Int.eq_ofNat_of_zero_le h0
    obtain ⟨k, hk⟩ : ∃ k, k = kn % (l.length - sy + 1) := ⟨_, rfl⟩
    have hkz : (kn : Int) % ((l.length : Int) - (sy : Int) + 1) = (k : Int) := by
      rw [hk, Int.natCast_emod, Int.natCast_add, Int.natCast_sub hsy]
      rfl
    have hste : st = sy + k := by
      rw [hstd]
      unfold stayN
      rw [if_pos h0, hk]
      rfl
    clear hstd hk
    subst hste
    go_wp2_with fail
    generalize setB (w.alloc (.mapIter (some m) clock #[] clock)) w.heap.size (.mapIter (some m) clock #[born] clock) = w2 at *
    refine wp_region_text [(3, 1)] (by kernel_rfl) (by kernel_rfl) ?_
    simp only [instr, chk, look, Nat.reduceBEq, if_true, if_false, Nat.reduceEqDiff, List.cons_append, List.nil_append]
    go_wp2_with fail
    refine OnlyN.normal ?_
    go_wp2_with fail
    refine wp_region_textL [(3, 1)] [g] (by kernel_rfl) (by kernel_rfl) (cellsIn_cons g0 (cellsIn_nil _)) ?_
    simp only [wpUL, tagOf, chk, look, Nat.reduceBEq, if_true, if_false, Nat.reduceEqDiff, List.cons_append, List.nil_append]
    intro K hK
    go_wp2_with fail
    refine OnlyN.normal (hK _ _ (fun _ => ⟨_, _, _, rfl, rfl, by simp⟩) ?_)
    clear hK K
    intro K hK
    go_wp2_with fail
    refine OnlyN.normal (hK _ _ (fun _ => ⟨_, _, _, rfl, rfl, by simp⟩) ?_)
    clear hK K
    go_wp2_with fail
    refine OnlyN.normal ?_
    go_wp2_with fail
    have hm3 : Chg (fun j => j = g) w2 (((w2.setCell ⟨g, 0, none⟩ (.slice A (sy + k) cap)).setCell ⟨g, 1, none⟩ (.int .i64 ((sy : Int) + (k : Int)))).drew.drew) :=
      (Chg.setCell (S := fun j => j = g) (Chg.setCell (S := fun j => j = g) (Chg.refl _ w2) (p := ⟨g, 0, none⟩) (.inr rfl) _) (p := ⟨g, 1, none⟩) (.inr rfl) _).drew.drew
    have hb3 : Blk (((w2.setCell ⟨g, 0, none⟩ (.slice A (sy + k) cap)).setCell ⟨g, 1, none⟩ (.int .i64 ((sy : Int) + (k : Int)))).drew.drew) g 77 #[.slice A (sy + k) cap, .int .i64 ((sy + k : Nat) : Int)] :=
      Blk.set (hb2.set 0 (.slice A (sy + k) cap)) 1 (.int .i64 ((sy : Int) + (k : Int)))
    generalize ((w2.setCell ⟨g, 0, none⟩ (.slice A (sy + k) cap)).setCell ⟨g, 1, none⟩ (.int .i64 ((sy : Int) + (k : Int)))).drew.drew = w3 at *
    have hD3 := hD2.chg hm3 (hD2.hd.ne_type hb2 (by decide)) (hD2.hm.ne_blk hb2)
    have hi3 := hi2.chg hm3 (hi2.ne_blk hb2)
    have hA3 := Own.chg (hF.hA.grew hg2) hm3 ((Own.grew hF.hA hg2).ne_blk hb2 (by decide))
    have hc3 : Chg (fun k => k = g ∨ k = d) w w3 := (Chg.of_grew hg2).trans (hm3.mono fun j _ h => .inl h)
    have hdd := hD3.hd
    have hnx := fun ty => run_next_end (P := Tryz.prog) ty (x := entF x g born) hi3 hD3.hm hbn
    have hdne := hD3.hd.ne_type hb3 (by decide)
    have hmne := hD3.hm.ne_blk hD3.hd
    have d1 := hD3.c1
    have d2 := hD3.c2
    have fd1 : w3.frozen? ⟨d, 1, none⟩ = false := hD3.hd.frozen 1
    have fd2 : w3.frozen? ⟨d, 2, none⟩ = false := hD3.hd.frozen 2
    clear hnext hentry hi2 hb2 hD2 g0 g1 fr0 fr1 hg2 hm3 hi3
    rw [rounds_succ]
    go_wp2
    go_end0
    refine ⟨rfl, ⟨?_, ?_, hD.od, hD.om⟩, ⟨?_, ?_, hF.og, hF.oA⟩, ?_⟩
    · exact Blk.set (hD3.hd.set 1 (.bool false)) 2 (.bool false)
    · exact MapB.setCell (MapB.setCell hD3.hm (p := ⟨d, 1, none⟩) hmne _) (p := ⟨d, 2, none⟩) hmne _
    · rw [List.length_take, Nat.min_eq_left hst]
      exact Blk.far (Blk.far hb3 (p := ⟨d, 1, none⟩) (fun e => hdne e.symm) _) (p := ⟨d, 2, none⟩) (fun e => hdne e.symm) _
    · have h9 := Own.setFar (Own.setFar hA3 (p := ⟨d, 1, none⟩) (hA3.ne_blk hdd (by decide)) (.bool false)) (p := ⟨d, 2, none⟩) (hA3.ne_blk hdd (by decide)) (.bool false)
      have h8 := Own.shrink h9 hst
      rw [Nat.mul_one, ← List.map_take] at h8
      rw [List.length_take, Nat.min_eq_left hst]
      exact h8
    · exact Chg.setCell (Chg.setCell hc3 (p := ⟨d, 1, none⟩) (.inr (.inr rfl)) _) (p := ⟨d, 2, none⟩) (.inr (.inr rfl)) _
  · have hste : st = sy := by
      rw [hstd]
      unfold stayN
      rw [if_neg h0]
    clear hstd
    subst st
    go_wp2_with fail
    generalize setB (w.alloc (.mapIter (some m) clock #[] clock)) w.heap.size (.mapIter (some m) clock #[born] clock) = w2 at *
    refine wp_region_textL [(3, 1)] [g] (by kernel_rfl) (by kernel_rfl) (cellsIn_cons g0 (cellsIn_nil _)) ?_
    simp only [wpUL, tagOf, chk, look, Nat.reduceBEq, if_true, if_false, Nat.reduceEqDiff, List.cons_append, List.nil_append]
    intro K hK
    go_wp2_with fail
    refine OnlyN.normal (hK _ _ (fun _ => ⟨_, _, _, rfl, rfl, by simp⟩) ?_)
    clear hK K
    intro K hK
    go_wp2_with fail
    refine OnlyN.normal (hK _ _ (fun _ => ⟨_, _, _, rfl, rfl, by simp⟩) ?_)
    clear hK K
    go_wp2_with fail
    refine OnlyN.normal ?_
    go_wp2_with fail
    have hm3 : Chg (fun j => j = g) w2 (((w2.setCell ⟨g, 0, none⟩ (.slice A (sy) cap)).setCell ⟨g, 1, none⟩ (.int .i64 (sy : Int))).drew) :=
      (Chg.setCell (S := fun j => j = g) (Chg.setCell (S := fun j => j = g) (Chg.refl _ w2) (p := ⟨g, 0, none⟩) (.inr rfl) _) (p := ⟨g, 1, none⟩) (.inr rfl) _).drew
    have hb3 : Blk (((w2.setCell ⟨g, 0, none⟩ (.slice A (sy) cap)).setCell ⟨g, 1, none⟩ (.int .i64 (sy : Int))).drew) g 77 #[.slice A (sy) cap, .int .i64 ((sy : Nat) : Int)] :=
      Blk.set (hb2.set 0 (.slice A (sy) cap)) 1 (.int .i64 (sy : Int))
    generalize ((w2.setCell ⟨g, 0, none⟩ (.slice A (sy) cap)).setCell ⟨g, 1, none⟩ (.int .i64 (sy : Int))).drew = w3 at *
    have hD3 := hD2.chg hm3 (hD2.hd.ne_type hb2 (by decide)) (hD2.hm.ne_blk hb2)
    have hi3 := hi2.chg hm3 (hi2.ne_blk hb2)
    have hA3 := Own.chg (hF.hA.grew hg2) hm3 ((Own.grew hF.hA hg2).ne_blk hb2 (by decide))
    have hc3 : Chg (fun k => k = g ∨ k = d) w w3 := (Chg.of_grew hg2).trans (hm3.mono fun j _ h => .inl h)
    have hdd := hD3.hd
    have hnx := fun ty => run_next_end (P := Tryz.prog) ty (x := entF x g born) hi3 hD3.hm hbn
    have hdne := hD3.hd.ne_type hb3 (by decide)
    have hmne := hD3.hm.ne_blk hD3.hd
    have d1 := hD3.c1
    have d2 := hD3.c2
    have fd1 : w3.frozen? ⟨d, 1, none⟩ = false := hD3.hd.frozen 1
    have fd2 : w3.frozen? ⟨d, 2, none⟩ = false := hD3.hd.frozen 2
    clear hnext hentry hi2 hb2 hD2 g0 g1 fr0 fr1 hg2 hm3 hi3
    rw [rounds_succ]
    go_wp2
    go_end0
    refine ⟨rfl, ⟨?_, ?_, hD.od, hD.om⟩, ⟨?_, ?_, hF.og, hF.oA⟩, ?_⟩
    · exact Blk.set (hD3.hd.set 1 (.bool false)) 2 (.bool false)
    · exact MapB.setCell (MapB.setCell hD3.hm (p := ⟨d, 1, none⟩) hmne _) (p := ⟨d, 2, none⟩) hmne _
    · rw [List.length_take, Nat.min_eq_left hst]
      exact Blk.far (Blk.far hb3 (p := ⟨d, 1, none⟩) (fun e => hdne e.symm) _) (p := ⟨d, 2, none⟩) (fun e => hdne e.symm) _
    · have h9 := Own.setFar (Own.setFar hA3 (p := ⟨d, 1, none⟩) (hA3.ne_blk hdd (by decide)) (.bool false)) (p := ⟨d, 2, none⟩) (hA3.ne_blk hdd (by decide)) (.bool false)
      have h8 := Own.shrink h9 hst
      rw [Nat.mul_one, ← List.map_take] at h8
      rw [List.length_take, Nat.min_eq_left hst]
      exact h8
    · exact Chg.setCell (Chg.setCell hc3 (p := ⟨d, 1, none⟩) (.inr (.inr rfl)) _) (p := ⟨d, 2, none⟩) (.inr (.inr rfl)) _
end Go.Proofs.YtepncgeaehjhiaaGreat

namespace Go.Proofs.YtepncgeaehjhiaaGreat
open Go.RowKit

set_option maxHeartbeats 800000 in
theorem write_off {O : Nat → Prop} {w : World} {d m : Nat} {es : Array MapEntry} {clock : Nat} {armed : Bool} {left keep : Int} {n : Nat} (hD : Dsk O w d m es clock false armed left keep n) (v1 v2 v3 : Value) :
    Calls Tryz.prog 41 #[.pointer (some ⟨d, 0, none⟩), v1, v2, v3] w fun e w' => e = .returned (.int .i64 60) ∧ w = w' := by
  have c1 := hD.c1
  clear hD
  go_enter Tryz.func41, Tryz.ntmps41
  go_wp2
  go_ret
  exact ⟨by simp, rfl⟩

/-- one less, as the machine reckons it -/
def dcl (z : Int) : Int := if z = -9223372036854775808 then 9223372036854775807 else z - 1
def dclN : Nat → Int → Int
  | 0, z => z
  | j + 1, z => dcl (dclN j z)
theorem dcl_rng {z : Int} (h : -9223372036854775808 ≤ z ∧ z ≤ 9223372036854775807) : -9223372036854775808 ≤ dcl z ∧ dcl z ≤ 9223372036854775807 := by
  unfold dcl
  split <;> omega
theorem dclN_rng {z : Int} (h : -9223372036854775808 ≤ z ∧ z ≤ 9223372036854775807) : ∀ j, -9223372036854775808 ≤ dclN j z ∧ dclN j z ≤ 9223372036854775807
  | 0 => h
  | j + 1 => dcl_rng (dclN_rng h j)
theorem dcl_pos {z : Int} (h : -9223372036854775808 < z) : dcl z = z - 1 := by
  unfold dcl
  rw [if_neg (by omega)]

set_option maxHeartbeats 800000 in
theorem write_ok {O : Nat → Prop} {w : World} {d m : Nat} {es : Array MapEntry} {clock : Nat} {armed : Bool} {left keep : Int} {n : Nat} (hD : Dsk O w d m es clock true armed left keep n) (hna : armed = true → left ≠ 0) (hle : -9223372036854775808 ≤ left ∧ left ≤ 9223372036854775807) (hn : n ≤ 4000000000000000000)
    (fa fd fh : Nat) (ea : ∀ args w, (callFunc fa args).run Tryz.prog w = .ok (.enter fa args) w) (ed : ∀ args w, (callFunc fd args).run Tryz.prog w = .ok (.enter fd args) w) (ca cd ch : Array Value) (hA : Calls Tryz.prog fa ca w fun e w' => e = .returned (.int .i64 0) ∧ ∃ k, w' = w.drewN k) {R : World → World → Prop}
    (hdo : ∀ w1, Chg (fun k => k = d) w w1 → Dsk O w1 d m es clock true armed (dcl left) keep (n + 1) → Calls Tryz.prog fd cd w1 fun e w' => e = .returned (.tuple #[]) ∧ R w1 w') :
    Calls Tryz.prog 41 #[.pointer (some ⟨d, 0, none⟩), .func (.func fa) #[] ca, .func (.func fd) #[] cd, .func (.func fh) #[] ch] w fun e w' => e = .returned (.int .i64 0) ∧ ∃ w1, Chg (fun k => k = d) w w1 ∧ Dsk O w1 d m es clock true armed (dcl left) keep (n + 1) ∧ R w1 w' := by
  by_cases hz : left = -9223372036854775808
  · subst hz
    have e9 : dcl (-9223372036854775808) = 9223372036854775807 := rfl
    rw [e9] at hdo ⊢
    clear e9 hle
    have c1 := hD.c1
    have c2 := hD.c2
    have c3 := hD.c3
    have c5 := hD.c5
    have f3 : w.frozen? ⟨d, 3, none⟩ = false := hD.hd.frozen 3
    have f5 : w.frozen? ⟨d, 5, none⟩ = false := hD.hd.frozen 5
    go_enter Tryz.func41, Tryz.ntmps41
    go_wp2_with fail
    refine hA.mono ?_
    rintro e w1 ⟨rfl, k, rfl⟩
    have hc : Chg (fun j => j = d) w (((w.drewN k).setCell ⟨d, 5, none⟩ (.int .u64 ((n : Int) + 1))).setCell ⟨d, 3, none⟩ (.int .i64 9223372036854775807)) :=
      Chg.setCell (S := fun j => j = d) (Chg.setCell (S := fun j => j = d) ((Chg.refl _ w).drewN k) (p := ⟨d, 5, none⟩) (.inr rfl) _) (p := ⟨d, 3, none⟩) (.inr rfl) _
    have hD1 : Dsk O (((w.drewN k).setCell ⟨d, 5, none⟩ (.int .u64 ((n : Int) + 1))).setCell ⟨d, 3, none⟩ (.int .i64 9223372036854775807)) d m es clock true armed 9223372036854775807 keep (n + 1) :=
      ⟨Blk.set (Blk.set (Blk.drewN hD.hd k) 5 (.int .u64 ((n : Int) + 1))) 3 (.int .i64 9223372036854775807), hD.hm.chg hc (hD.hm.ne_blk hD.hd), hD.od, hD.om⟩
    cases armed
    · go_wp2_with fail
      rw [show wrap64 (-9223372036854775809) = 9223372036854775807 by unfold wrap64; omega]
      refine (hdo _ hc hD1).mono ?_
      rintro e w2 ⟨rfl, hR⟩
      go_wp2
      go_ret
      exact ⟨by simp, _, hc, hD1, hR⟩
    · have h0 : ((-9223372036854775808 : Int) == 0) = false := by decide
      go_wp2_with fail
      rw [show wrap64 (-9223372036854775809) = 9223372036854775807 by unfold wrap64; omega]
      refine (hdo _ hc hD1).mono ?_
      rintro e w2 ⟨rfl, hR⟩
      go_wp2
      go_ret
      exact ⟨by simp, _, hc, hD1, hR⟩
  · have e9 : dcl left = left - 1 := dcl_pos (by omega)
    rw [e9] at hdo ⊢
    clear e9
    have c1 := hD.c1
    have c2 := hD.c2
    have c3 := hD.c3
    have c5 := hD.c5
    have f3 : w.frozen? ⟨d, 3, none⟩ = false := hD.hd.frozen 3
    have f5 : w.frozen? ⟨d, 5, none⟩ = false := hD.hd.frozen 5
    go_enter Tryz.func41, Tryz.ntmps41
    go_wp2_with fail
    refine hA.mono ?_
    rintro e w1 ⟨rfl, k, rfl⟩
    have hc : Chg (fun j => j = d) w (((w.drewN k).setCell ⟨d, 5, none⟩ (.int .u64 ((n : Int) + 1))).setCell ⟨d, 3, none⟩ (.int .i64 (left - 1))) :=
      Chg.setCell (S := fun j => j = d) (Chg.setCell (S := fun j => j = d) ((Chg.refl _ w).drewN k) (p := ⟨d, 5, none⟩) (.inr rfl) _) (p := ⟨d, 3, none⟩) (.inr rfl) _
    have hD1 : Dsk O (((w.drewN k).setCell ⟨d, 5, none⟩ (.int .u64 ((n : Int) + 1))).setCell ⟨d, 3, none⟩ (.int .i64 (left - 1))) d m es clock true armed (left - 1) keep (n + 1) :=
      ⟨Blk.set (Blk.set (Blk.drewN hD.hd k) 5 (.int .u64 ((n : Int) + 1))) 3 (.int .i64 (left - 1)), hD.hm.chg hc (hD.hm.ne_blk hD.hd), hD.od, hD.om⟩
    cases armed
    · go_wp2_with fail
      refine (hdo _ hc hD1).mono ?_
      rintro e w2 ⟨rfl, hR⟩
      go_wp2
      go_ret
      exact ⟨by simp, _, hc, hD1, hR⟩
    · have h0 : (left == 0) = false := by simpa using hna rfl
      go_wp2_with fail
      refine (hdo _ hc hD1).mono ?_
      rintro e w2 ⟨rfl, hR⟩
      go_wp2
      go_ret
      exact ⟨by simp, _, hc, hD1, hR⟩

set_option maxHeartbeats 800000 in
theorem write_cut {O : Nat → Prop} {w : World} {d m : Nat} {es : Array MapEntry} {clock : Nat} {keep : Int} {n : Nat} (hD : Dsk O w d m es clock true true 0 keep n) (hn : n ≤ 4000000000000000000)
    (fa fd fh : Nat) (ea : ∀ args w, (callFunc fa args).run Tryz.prog w = .ok (.enter fa args) w) (eh : ∀ args w, (callFunc fh args).run Tryz.prog w = .ok (.enter fh args) w) (ca cd ch : Array Value) (hA : Calls Tryz.prog fa ca w fun e w' => e = .returned (.int .i64 0) ∧ ∃ k, w' = w.drewN k) {R T : World → World → Prop}
    (hh : ∀ w1, Chg (fun k => k = d) w w1 → Dsk O w1 d m es clock true true 0 keep (n + 1) → Calls Tryz.prog fh ch w1 fun e w' => e = .returned (.tuple #[]) ∧ R w1 w')
    (hk : ∀ w1 w2, R w1 w2 → w2.cell? ⟨d, 4, none⟩ = some (.int .i64 keep)) (hcut : ∀ w1 w2, R w1 w2 → Calls Tryz.prog 18 #[.pointer (some ⟨d, 0, none⟩), .int .i64 keep] w2 fun e w' => e = .returned (.tuple #[]) ∧ T w2 w') :
    Calls Tryz.prog 41 #[.pointer (some ⟨d, 0, none⟩), .func (.func fa) #[] ca, .func (.func fd) #[] cd, .func (.func fh) #[] ch] w fun e w' => e = .returned (.int .i64 60) ∧ ∃ w1 w2, Chg (fun k => k = d) w w1 ∧ Dsk O w1 d m es clock true true 0 keep (n + 1) ∧ R w1 w2 ∧ T w2 w' := by
  have c1 := hD.c1
  have c2 := hD.c2
  have c3 := hD.c3
  have c5 := hD.c5
  have f5 : w.frozen? ⟨d, 5, none⟩ = false := hD.hd.frozen 5
  go_enter Tryz.func41, Tryz.ntmps41
  go_wp2_with fail
  refine hA.mono ?_
  rintro e w1 ⟨rfl, k, rfl⟩
  have hc : Chg (fun j => j = d) w ((w.drewN k).setCell ⟨d, 5, none⟩ (.int .u64 ((n : Int) + 1))) := Chg.setCell (S := fun j => j = d) ((Chg.refl _ w).drewN k) (p := ⟨d, 5, none⟩) (.inr rfl) _
  have hD1 : Dsk O ((w.drewN k).setCell ⟨d, 5, none⟩ (.int .u64 ((n : Int) + 1))) d m es clock true true 0 keep (n + 1) :=
    ⟨Blk.set (Blk.drewN hD.hd k) 5 (.int .u64 ((n : Int) + 1)), hD.hm.chg hc (hD.hm.ne_blk hD.hd), hD.od, hD.om⟩
  go_wp2_with fail
  refine (hh _ hc hD1).mono ?_
  rintro e w2 ⟨rfl, hR⟩
  have c4 := hk _ _ hR
  go_wp2_with fail
  refine (hcut _ _ hR).mono ?_
  rintro e w3 ⟨rfl, hT⟩
  go_wp2
  go_ret
  exact ⟨by simp, _, _, hc, hD1, hR, hT⟩
end Go.Proofs.YtepncgeaehjhiaaGreat

namespace Go.Proofs.YtepncgeaehjhiaaGreat
open Go.RowKit

theorem entA2 : ∀ args w, (callFunc 100 args).run Tryz.prog w = .ok (.enter 100 args) w := Go.Proofs.enters_of Tryz.func100 (by kernel_rfl) rfl
theorem entA1 : ∀ args w, (callFunc 99 args).run Tryz.prog w = .ok (.enter 99 args) w := Go.Proofs.enters_of Tryz.func99 (by kernel_rfl) rfl
theorem three_boxes (w : World) (v1 v2 v3 : Value) (t1 t2 t3 : TypeId) : ∃ W, W = ((w.alloc (.cells #[v1] t1)).alloc (.cells #[v2] t2)).alloc (.cells #[v3] t3) ∧ Grew w W ∧ Blk W w.heap.size t1 #[v1] ∧ Blk W (w.heap.size + 1) t2 #[v2] ∧ Blk W (w.heap.size + 1 + 1) t3 #[v3] ∧ W.heap.size = w.heap.size + 3 := by
  have h1 := Blk.new w t1 #[v1]
  have h2 := Blk.new (w.alloc (.cells #[v1] t1)) t2 #[v2]
  have h3 := Blk.new ((w.alloc (.cells #[v1] t1)).alloc (.cells #[v2] t2)) t3 #[v3]
  have e1 : (w.alloc (.cells #[v1] t1)).heap.size = w.heap.size + 1 := by simp
  have e2 : ((w.alloc (.cells #[v1] t1)).alloc (.cells #[v2] t2)).heap.size = w.heap.size + 1 + 1 := by simp
  rw [e1] at h2
  rw [e2] at h3
  exact ⟨_, rfl, (((Chg.refl _ w).alloc _).alloc _).alloc _, (h1.alloc _).alloc _, h2.alloc _, h3, by simp⟩
theorem two_boxes (w : World) (v1 v2 : Value) (t1 t2 : TypeId) : ∃ W, W = (w.alloc (.cells #[v1] t1)).alloc (.cells #[v2] t2) ∧ Grew w W ∧ Blk W w.heap.size t1 #[v1] ∧ Blk W (w.heap.size + 1) t2 #[v2] ∧ W.heap.size = w.heap.size + 2 := by
  have h1 := Blk.new w t1 #[v1]
  have h2 := Blk.new (w.alloc (.cells #[v1] t1)) t2 #[v2]
  have e1 : (w.alloc (.cells #[v1] t1)).heap.size = w.heap.size + 1 := by simp
  rw [e1] at h2
  exact ⟨_, rfl, ((Chg.refl _ w).alloc _).alloc _, h1.alloc _, h2, by simp⟩

/-- what Append of a new file leaves -/
def AppNew (O : Nat → Prop) (w : World) (d m : Nat) (es : Array MapEntry) (clock : Nat) (armed : Bool) (left keep : Int) (n : Nat) (x : ByteArray) (l : List UInt8) (w' : World) : Prop :=
  ∃ g A c, Dsk O w' d m (es.push (entF x g clock)) (clock + 1) true armed (dcl left) keep (n + 1) ∧ Fil O w' g A c l 0 ∧ Chg (fun k => k = d ∨ k = m) w w' ∧ w.heap.size ≤ g ∧ ∀ ad, A = some ad → w.heap.size ≤ ad.block

set_option maxHeartbeats 1000000 in
theorem append_new {O : Nat → Prop} {w : World} {d m : Nat} {es : Array MapEntry} {clock : Nat} {armed : Bool} {left keep : Int} {n : Nat} (hO : ∀ k, w.heap.size ≤ k → O k) (hD : Dsk O w d m es clock true armed left keep n) (hna : armed = true → left ≠ 0) (hle : -9223372036854775808 ≤ left ∧ left ≤ 9223372036854775807) (hn : n ≤ 4000000000000000000)
    (x : ByteArray) (hc : NmOk x) (h : Instr.findNow .string (.string x) es.toList 0 = some none) (hes : es.size < 1048576) (A : Option Addr) (k cap : Nat) (l : List UInt8) (hr : RB w A k l) (hk : k ≤ 4194304) (hAd : ∀ ad, A = some ad → 0 < k → ad.block ≠ d) :
    Calls Tryz.prog 75 #[.pointer (some ⟨d, 0, none⟩), .string x, .slice A k cap] w fun e w' => e = .returned (.int .i64 0) ∧ AppNew O w d m es clock armed left keep n x l w' := by
  have hmf : ∀ (fn : Fn) (first cp : Array Value) (w : World), (Instr.makeFunc fn first cp).run Tryz.prog w = .ok (.func fn first cp) w := fun _ _ _ _ => rfl
  obtain ⟨W, hW, hgW, b1, b2, b3, hzW⟩ := three_boxes w (.pointer (some ⟨d, 0, none⟩)) (.string x) (.slice A k cap) 23 9 37
  have hdl := hD.hd.lt
  have hml := hD.hm.lt
  go_enter Tryz.func75, Tryz.ntmps75
  go_wp2_with fail
  rw [← hW]
  have hDW := hD.grew hgW
  have hrW := hr.grew hgW
  clear hW
  refine (write_ok hDW hna hle hn _ _ _ entA2 entA1 _ _ _ (app_new hDW x hc h hes (b2.cell 0) (b1.cell 0) (b3.cell 0) hk) (R := fun w1 w' => NewF O w1 d m es clock true armed (dcl left) keep (n + 1) x l (.returned (.tuple #[])) w') ?_).mono ?_
  · intro w1 hc1 hD1
    have hO1 : ∀ k, w1.heap.size ≤ k → O k := fun k hk => hO k (by have := hc1.size; omega)
    have ne1 := b1.ne_type hDW.hd (by decide)
    have ne2 := b2.ne_type hDW.hd (by decide)
    have ne3 := b3.ne_type hDW.hd (by decide)
    refine (do_new hO1 hD1 x h ((b2.chg hc1 ne2).cell 0) ((b1.chg hc1 ne1).cell 0) ((b3.chg hc1 ne3).cell 0) (hrW.far hc1 hAd) hk).mono ?_
    intro e w' he
    have := he.1
    subst this
    exact ⟨rfl, he⟩
  rintro e w' ⟨rfl, w1, hc1, hD1, ⟨_, g, A', c', h1, h2, h3, h4, h5⟩⟩
  go_wp2
  go_ret
  have hs1 := hc1.size
  refine ⟨by simp, g, A', c', h1, h2, ?_, by omega, fun ad e => by have := h5 ad e; omega⟩
  exact ((Chg.of_grew hgW).trans (hc1.mono fun j _ e => .inl e)).trans (h3.mono fun j _ e => .inr e)
end Go.Proofs.YtepncgeaehjhiaaGreat
