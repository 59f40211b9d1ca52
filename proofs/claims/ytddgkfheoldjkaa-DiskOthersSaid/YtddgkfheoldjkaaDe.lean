/-
  The power goes: what stays of a disk of one file. Conditions: one file, within the file's bound.
-/
import Derived.Test.YtddgkfheoldjkaaDd
namespace Go.Proofs.Ytddgkfheoldjkaa
open Go.RowKit

def stayN (len sy : Nat) (kp : Int) : Nat := if 0 ≤ kp then sy + kp.toNat % (len - sy + 1) else sy
theorem stay_le {len sy : Nat} (h : sy ≤ len) (kp : Int) : stayN len sy kp ≤ len := by
  unfold stayN
  split
  · have := Nat.mod_lt kp.toNat (show 0 < len - sy + 1 by omega)
    omega
  · exact h
theorem IterB.chg {S : Nat → Prop} {w w' : World} {r m since c0 : Nat} {seen : Array Nat} (h : IterB w r m since seen c0) (hc : Chg S w w') (hn : ¬ S r) : IterB w' r m since seen c0 := (hc.block r h.lt hn).trans h
theorem IterB.ne_blk {w : World} {r m since c0 g : Nat} {seen : Array Nat} {t : TypeId} {cs : Array Value} (h : IterB w r m since seen c0) (h' : Blk w g t cs) : r ≠ g := fun e => by
  subst e
  have := Eq.trans (Eq.symm h) h'
  cases this

set_option maxRecDepth 100000 in
set_option maxHeartbeats 2000000 in
theorem cut_one {O : Nat → Prop} {w : World} {d m : Nat} {x : ByteArray} {g born clock : Nat} {up armed : Bool} {left keep : Int} {n : Nat} (hD : Dsk O w d m #[entF x g born] clock up armed left keep n) (hbn : born < clock)
    {A : Option Addr} {cap sy : Nat} {l : List UInt8} (hF : Fil O w g A cap l sy) (hsy : sy ≤ l.length) (hl : l.length ≤ 4194304) (kp : Int) (hkp : kp ≤ 9223372036854775807) :
    Calls Try.prog 30 #[.pointer (some ⟨d, 0, none⟩), .int .i64 kp] w fun e w' => e = .returned (.tuple #[]) ∧ Dsk O w' d m #[entF x g born] clock false false left keep n ∧
      Fil O w' g A cap (l.take (stayN l.length sy kp)) (stayN l.length sy kp) ∧ Chg (fun k => k = g ∨ k = d) w w' := by
  have hst := stay_le hsy kp
  obtain ⟨st, hstd⟩ : ∃ st, st = stayN l.length sy kp := ⟨_, rfl⟩
  rw [← hstd] at hst ⊢
  have hb := hF.hg
  have hcap := hF.hA.cap
  have c0 := hD.c0
  have hg1 : Grew w (w.alloc (.mapIter (some m) clock #[] clock)) := (Chg.refl _ w).alloc _
  have hi1 : IterB (w.alloc (.mapIter (some m) clock #[] clock)) w.heap.size m clock #[] clock := heap_alloc_new w _
  have hrange := run_range_b (P := Try.prog) Try.underlying45 hD.hm
  have hD1 := hD.grew hg1
  have hnext := fun ty => run_next_one (P := Try.prog) ty hi1 hD1.hm hbn
  obtain ⟨r, hr⟩ : ∃ r, r = w.heap.size := ⟨_, rfl⟩
  have hi2 : IterB (setB (w.alloc (.mapIter (some m) clock #[] clock)) w.heap.size (.mapIter (some m) clock #[born] clock)) w.heap.size m clock #[born] clock := setB_here hi1.lt _
  have hg2 : Grew w (setB (w.alloc (.mapIter (some m) clock #[] clock)) w.heap.size (.mapIter (some m) clock #[born] clock)) := Chg.setB hg1 (.inl (Nat.le_refl _)) _
  have hD2 := hD.grew hg2
  have hb2 := hb.grew hg2
  have hentry := run_entry_one (P := Try.prog) (x := entF x g born) hi2 hD2.hm
  simp only [entF] at hnext hentry
  have g0 : (setB (w.alloc (.mapIter (some m) clock #[] clock)) w.heap.size (.mapIter (some m) clock #[born] clock)).cell? ⟨g, 0, none⟩ = some (.slice A l.length cap) := hb2.cell 0
  have g1 : (setB (w.alloc (.mapIter (some m) clock #[] clock)) w.heap.size (.mapIter (some m) clock #[born] clock)).cell? ⟨g, 1, none⟩ = some (.int .i64 (sy : Int)) := hb2.cell 1
  have fr0 : (setB (w.alloc (.mapIter (some m) clock #[] clock)) w.heap.size (.mapIter (some m) clock #[born] clock)).frozen? ⟨g, 0, none⟩ = false := hb2.frozen 0
  have fr1 : (setB (w.alloc (.mapIter (some m) clock #[] clock)) w.heap.size (.mapIter (some m) clock #[born] clock)).frozen? ⟨g, 1, none⟩ = false := hb2.frozen 1
  go_enter Try.func30, Try.ntmps30
  go_wp2
  refine wp_loop_rounds 2 ?_
  rw [rounds_succ]
  by_cases h0 : 0 ≤ kp
  · obtain ⟨kn, rfl⟩ := Int.eq_ofNat_of_zero_le h0
    obtain ⟨k, hk⟩ : ∃ k, k = kn % (l.length - sy + 1) := ⟨_, rfl⟩
    have hkz : (kn : Int) % ((l.length : Int) - (sy : Int) + 1) = (k : Int) := by
      rw [hk, Int.natCast_emod, Int.natCast_add, Int.natCast_sub hsy]
      rfl
    have hste : st = sy + k := by
      rw [hstd]
      unfold stayN
      rw [if_pos h0, hk]
      rfl
    clear hstd hk
    subst hste
    go_wp2_with fail
    generalize setB (w.alloc (.mapIter (some m) clock #[] clock)) w.heap.size (.mapIter (some m) clock #[born] clock) = w2 at *
    refine wp_region_text [(3, 1)] (by kernel_rfl) (by kernel_rfl) ?_
    simp only [instr, chk, look, Nat.reduceBEq, if_true, if_false, Nat.reduceEqDiff, List.cons_append, List.nil_append]
    go_wp2_with fail
    refine OnlyN.normal ?_
    go_wp2_with fail
    refine wp_region_textL [(3, 1)] [g] (by kernel_rfl) (by kernel_rfl) (cellsIn_cons g0 (cellsIn_nil _)) ?_
    simp only [wpUL, tagOf, chk, look, Nat.reduceBEq, if_true, if_false, Nat.reduceEqDiff, List.cons_append, List.nil_append]
    intro K hK
    go_wp2_with fail
    refine OnlyN.normal (hK _ _ (fun _ => ⟨_, _, _, rfl, rfl, by simp⟩) ?_)
    clear hK K
    intro K hK
    go_wp2_with fail
    refine OnlyN.normal (hK _ _ (fun _ => ⟨_, _, _, rfl, rfl, by simp⟩) ?_)
    clear hK K
    go_wp2_with fail
    refine OnlyN.normal ?_
    go_wp2_with fail
    have hm3 : Chg (fun j => j = g) w2 (((w2.setCell ⟨g, 0, none⟩ (.slice A (sy + k) cap)).setCell ⟨g, 1, none⟩ (.int .i64 ((sy : Int) + (k : Int)))).drew.drew) :=
      (Chg.setCell (S := fun j => j = g) (Chg.setCell (S := fun j => j = g) (Chg.refl _ w2) (p := ⟨g, 0, none⟩) (.inr rfl) _) (p := ⟨g, 1, none⟩) (.inr rfl) _).drew.drew
    have hb3 : Blk (((w2.setCell ⟨g, 0, none⟩ (.slice A (sy + k) cap)).setCell ⟨g, 1, none⟩ (.int .i64 ((sy : Int) + (k : Int)))).drew.drew) g 50 #[.slice A (sy + k) cap, .int .i64 ((sy + k : Nat) : Int)] :=
      Blk.set (hb2.set 0 (.slice A (sy + k) cap)) 1 (.int .i64 ((sy : Int) + (k : Int)))
    generalize ((w2.setCell ⟨g, 0, none⟩ (.slice A (sy + k) cap)).setCell ⟨g, 1, none⟩ (.int .i64 ((sy : Int) + (k : Int)))).drew.drew = w3 at *
    have hD3 := hD2.chg hm3 (hD2.hd.ne_type hb2 (by decide)) (hD2.hm.ne_blk hb2)
    have hi3 := hi2.chg hm3 (hi2.ne_blk hb2)
    have hA3 := Own.chg (hF.hA.grew hg2) hm3 ((Own.grew hF.hA hg2).ne_blk hb2 (by decide))
    have hc3 : Chg (fun k => k = g ∨ k = d) w w3 := (Chg.of_grew hg2).trans (hm3.mono fun j _ h => .inl h)
    have hdd := hD3.hd
    have hnx := fun ty => run_next_end (P := Try.prog) ty (x := entF x g born) hi3 hD3.hm hbn
    have hdne := hD3.hd.ne_type hb3 (by decide)
    have hmne := hD3.hm.ne_blk hD3.hd
    have d1 := hD3.c1
    have d2 := hD3.c2
    have fd1 : w3.frozen? ⟨d, 1, none⟩ = false := hD3.hd.frozen 1
    have fd2 : w3.frozen? ⟨d, 2, none⟩ = false := hD3.hd.frozen 2
    clear hnext hentry hi2 hb2 hD2 g0 g1 fr0 fr1 hg2 hm3 hi3
    rw [rounds_succ]
    go_wp2
    go_end0
    refine ⟨rfl, ⟨?_, ?_, hD.od, hD.om⟩, ⟨?_, ?_, hF.og, hF.oA⟩, ?_⟩
    · exact Blk.set (hD3.hd.set 1 (.bool false)) 2 (.bool false)
    · exact MapB.setCell (MapB.setCell hD3.hm (p := ⟨d, 1, none⟩) hmne _) (p := ⟨d, 2, none⟩) hmne _
    · rw [List.length_take, Nat.min_eq_left hst]
      exact Blk.far (Blk.far hb3 (p := ⟨d, 1, none⟩) (fun e => hdne e.symm) _) (p := ⟨d, 2, none⟩) (fun e => hdne e.symm) _
    · have h9 := Own.setFar (Own.setFar hA3 (p := ⟨d, 1, none⟩) (hA3.ne_blk hdd (by decide)) (.bool false)) (p := ⟨d, 2, none⟩) (hA3.ne_blk hdd (by decide)) (.bool false)
      have h8 := Own.shrink h9 hst
      rw [Nat.mul_one, ← List.map_take] at h8
      rw [List.length_take, Nat.min_eq_left hst]
      exact h8
    · exact Chg.setCell (Chg.setCell hc3 (p := ⟨d, 1, none⟩) (.inr (.inr rfl)) _) (p := ⟨d, 2, none⟩) (.inr (.inr rfl)) _
  · have hste : st = sy := by
      rw [hstd]
      unfold stayN
      rw [if_neg h0]
    clear hstd
    subst st
    go_wp2_with fail
    generalize setB (w.alloc (.mapIter (some m) clock #[] clock)) w.heap.size (.mapIter (some m) clock #[born] clock) = w2 at *
    refine wp_region_textL [(3, 1)] [g] (by kernel_rfl) (by kernel_rfl) (cellsIn_cons g0 (cellsIn_nil _)) ?_
    simp only [wpUL, tagOf, chk, look, Nat.reduceBEq, if_true, if_false, Nat.reduceEqDiff, List.cons_append, List.nil_append]
    intro K hK
    go_wp2_with fail
    refine OnlyN.normal (hK _ _ (fun _ => ⟨_, _, _, rfl, rfl, by simp⟩) ?_)
    clear hK K
    intro K hK
    go_wp2_with fail
    refine OnlyN.normal (hK _ _ (fun _ => ⟨_, _, _, rfl, rfl, by simp⟩) ?_)
    clear hK K
    go_wp2_with fail
    refine OnlyN.normal ?_
    go_wp2_with fail
    have hm3 : Chg (fun j => j = g) w2 (((w2.setCell ⟨g, 0, none⟩ (.slice A (sy) cap)).setCell ⟨g, 1, none⟩ (.int .i64 (sy : Int))).drew) :=
      (Chg.setCell (S := fun j => j = g) (Chg.setCell (S := fun j => j = g) (Chg.refl _ w2) (p := ⟨g, 0, none⟩) (.inr rfl) _) (p := ⟨g, 1, none⟩) (.inr rfl) _).drew
    have hb3 : Blk (((w2.setCell ⟨g, 0, none⟩ (.slice A (sy) cap)).setCell ⟨g, 1, none⟩ (.int .i64 (sy : Int))).drew) g 50 #[.slice A (sy) cap, .int .i64 ((sy : Nat) : Int)] :=
      Blk.set (hb2.set 0 (.slice A (sy) cap)) 1 (.int .i64 (sy : Int))
    generalize ((w2.setCell ⟨g, 0, none⟩ (.slice A (sy) cap)).setCell ⟨g, 1, none⟩ (.int .i64 (sy : Int))).drew = w3 at *
    have hD3 := hD2.chg hm3 (hD2.hd.ne_type hb2 (by decide)) (hD2.hm.ne_blk hb2)
    have hi3 := hi2.chg hm3 (hi2.ne_blk hb2)
    have hA3 := Own.chg (hF.hA.grew hg2) hm3 ((Own.grew hF.hA hg2).ne_blk hb2 (by decide))
    have hc3 : Chg (fun k => k = g ∨ k = d) w w3 := (Chg.of_grew hg2).trans (hm3.mono fun j _ h => .inl h)
    have hdd := hD3.hd
    have hnx := fun ty => run_next_end (P := Try.prog) ty (x := entF x g born) hi3 hD3.hm hbn
    have hdne := hD3.hd.ne_type hb3 (by decide)
    have hmne := hD3.hm.ne_blk hD3.hd
    have d1 := hD3.c1
    have d2 := hD3.c2
    have fd1 : w3.frozen? ⟨d, 1, none⟩ = false := hD3.hd.frozen 1
    have fd2 : w3.frozen? ⟨d, 2, none⟩ = false := hD3.hd.frozen 2
    clear hnext hentry hi2 hb2 hD2 g0 g1 fr0 fr1 hg2 hm3 hi3
    rw [rounds_succ]
    go_wp2
    go_end0
    refine ⟨rfl, ⟨?_, ?_, hD.od, hD.om⟩, ⟨?_, ?_, hF.og, hF.oA⟩, ?_⟩
    · exact Blk.set (hD3.hd.set 1 (.bool false)) 2 (.bool false)
    · exact MapB.setCell (MapB.setCell hD3.hm (p := ⟨d, 1, none⟩) hmne _) (p := ⟨d, 2, none⟩) hmne _
    · rw [List.length_take, Nat.min_eq_left hst]
      exact Blk.far (Blk.far hb3 (p := ⟨d, 1, none⟩) (fun e => hdne e.symm) _) (p := ⟨d, 2, none⟩) (fun e => hdne e.symm) _
    · have h9 := Own.setFar (Own.setFar hA3 (p := ⟨d, 1, none⟩) (hA3.ne_blk hdd (by decide)) (.bool false)) (p := ⟨d, 2, none⟩) (hA3.ne_blk hdd (by decide)) (.bool false)
      have h8 := Own.shrink h9 hst
      rw [Nat.mul_one, ← List.map_take] at h8
      rw [List.length_take, Nat.min_eq_left hst]
      exact h8
    · exact Chg.setCell (Chg.setCell hc3 (p := ⟨d, 1, none⟩) (.inr (.inr rfl)) _) (p := ⟨d, 2, none⟩) (.inr (.inr rfl)) _
end Go.Proofs.Ytddgkfheoldjkaa
