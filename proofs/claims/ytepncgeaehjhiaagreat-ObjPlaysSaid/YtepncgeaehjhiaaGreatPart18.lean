/-
  Several texts in one:
  The power goes: what stays of a disk of any number of files; Off. Conditions: files within the file's bound.
-/
import Derived.Test.YtepncgeaehjhiaaGreatPart17

namespace Go.Proofs.YtepncgeaehjhiaaGreat
open Go.RowKit

/-- what stays of a file -/
def cutE (kp : Int) (f : FEnt) : FEnt := { f with l := f.l.take (stayN f.l.length f.sy kp), sy := stayN f.l.length f.sy kp }
/-- .. of those that the loop has seen -/
def cv (kp : Int) (bs : List Nat) (f : FEnt) : FEnt := if f.born ∈ bs then cutE kp f else f
theorem cv_born (kp : Int) (bs : List Nat) (f : FEnt) : (cv kp bs f).born = f.born := by
  unfold cv
  split <;> rfl
theorem cv_ent (kp : Int) (bs : List Nat) (f : FEnt) : (cv kp bs f).ent = f.ent := by
  unfold cv
  split <;> rfl
theorem cv_step {kp : Int} {bs : List Nat} {E : List FEnt} (hE : E.Pairwise Apart) {i : Nat} {f : FEnt} (hi : (E.map (cv kp bs))[i]? = some f) (hn : f.born ∉ bs) :
    (E.map (cv kp bs)).set i (cutE kp f) = E.map (cv kp (bs ++ [f.born])) := by
  rw [List.getElem?_map] at hi
  cases hE0 : E[i]? with
  | none => rw [hE0] at hi; cases hi
  | some f0 =>
    rw [hE0] at hi
    injection hi with hi
    have hb : f.born = f0.born := by rw [← hi, cv_born]
    have hf0 : f0 = f := by
      rw [← hi]
      unfold cv
      rw [if_neg (hb ▸ hn)]
    subst hf0
    have hil := (List.getElem?_eq_some_iff.1 hE0).1
    apply List.ext_getElem?
    intro j
    rw [List.getElem?_set, List.getElem?_map, List.getElem?_map, List.length_map]
    by_cases hij : i = j
    · subst hij
      rw [if_pos rfl, if_pos hil, hE0]
      simp [cv]
    · rw [if_neg hij]
      cases hj : E[j]? with
      | none => rfl
      | some e =>
        have ha := pair_at hE hE0 hj hij
        simp only [Option.map_some]
        unfold cv
        by_cases hm : e.born ∈ bs
        · rw [if_pos hm, if_pos (by simp [hm])]
        · rw [if_neg hm, if_neg fun h => (List.mem_append.1 h).elim hm fun h => ha.2.2.1 (by simpa using h)]

section
variable {S : Nat → Prop} {w w' : World} {d m : Nat} {E : List FEnt} {clock : Nat} {up armed : Bool} {left kp : Int} {n : Nat}
theorem fs_trim (h : FS S w d m E clock up armed left kp n) {i : Nat} {f : FEnt} (hi : E[i]? = some f) {st : Nat} (hst : st ≤ f.l.length) (hc : Chg (fun k => k = f.g) w w') (hb : Blk w' f.g 77 #[.slice f.A st f.cap, .int .i64 (st : Int)]) :
    FS S w' d m (E.set i { f with l := f.l.take st, sy := st }) clock up armed left kp n := by
  have hf := h.ok f (List.mem_of_getElem? hi)
  obtain ⟨hil, hie⟩ := List.getElem?_eq_some_iff.1 hi
  have hent : ((E.set i { f with l := f.l.take st, sy := st }).map FEnt.ent) = E.map FEnt.ent := by
    apply List.ext_getElem?
    intro j
    simp only [List.getElem?_map, List.getElem?_set]
    by_cases hij : i = j
    · subst hij
      simp [hil, hie, FEnt.ent, entF]
    · simp [hij]
  have hlt : (f.l.take st).length = st := by rw [List.length_take, Nat.min_eq_left hst]
  refine ⟨by rw [hent]; exact h.dsk.chg hc (h.dsk.hd.ne_type hf.fil.hg (by decide)) (h.dsk.hm.ne_blk hf.fil.hg), ?_, ?_⟩
  · intro e he
    obtain ⟨j, hj⟩ := List.getElem?_of_mem he
    rw [List.getElem?_set] at hj
    by_cases hij : i = j
    · subst hij
      simp [hil] at hj
      subst hj
      refine ⟨⟨?_, ?_, hf.fil.og, hf.fil.oA⟩, ?_, ?_, hf.born⟩
      · show Blk w' f.g 77 #[.slice f.A (f.l.take st).length f.cap, .int .i64 (st : Int)]
        rw [hlt]
        exact hb
      · have h8 := Own.shrink (Own.chg hf.fil.hA hc (hf.fil.hA.ne_blk hf.fil.hg (by decide))) hst
        rw [Nat.mul_one, ← List.map_take] at h8
        show OB w' 0 5 f.A (f.l.take st).length f.cap (f.l.take st)
        rw [hlt]
        exact h8
      · show st ≤ (f.l.take st).length
        omega
      · show (f.l.take st).length ≤ _
        have := hf.len
        omega
    · simp [hij] at hj
      have ho := h.ok e (List.mem_of_getElem? hj)
      have ha := pair_at h.ap hi hj hij
      exact ho.chg hc (fun e1 => ha.2.1 e1) (fun ad e1 e2 => ho.fil.hA.ne_blk hf.fil.hg (by decide) ad e1 e2) (Nat.le_refl _)
  · exact pair_set h.ap hi ⟨f.nm, f.g, f.born, f.A, f.cap, f.l.take st, st⟩ fun b _ hb => hb

/-- what holds at the head of the loop -/
structure CutAt (S : Nat → Prop) (w : World) (d m : Nat) (E : List FEnt) (clock : Nat) (up armed : Bool) (left keep : Int) (n : Nat) (kp : Int) (V : List FEnt) (wr : World) : Prop where
  fs : FS S wr d m (E.map (cv kp (V.map FEnt.born))) clock up armed left keep n
  it : ItV wr w.heap.size m clock V
  pt : Part V (E.map (cv kp (V.map FEnt.born)))
  ch : Chg S w wr
theorem CutAt.step {keep : Int} {V : List FEnt} {wr w1 w3 : World} (hE : E.Pairwise Apart) (h : CutAt S w d m E clock up armed left keep n kp V wr) {f : FEnt} (hf : f ∈ E.map (cv kp (V.map FEnt.born))) (hp : Part (V ++ [f]) (E.map (cv kp (V.map FEnt.born)))) (hc1 : Chg (fun k => k = w.heap.size) wr w1) (hi : ItV w1 w.heap.size m clock (V ++ [f]))
    (h1 : FS S w1 d m (E.map (cv kp (V.map FEnt.born))) clock up armed left keep n) (hc : Chg (fun k => k = f.g) w1 w3) (hb : Blk w3 f.g 77 #[.slice f.A (stayN f.l.length f.sy kp) f.cap, .int .i64 ((stayN f.l.length f.sy kp : Nat) : Int)]) :
    CutAt S w d m E clock up armed left keep n kp (V ++ [cutE kp f]) w3 := by
  obtain ⟨i, hfi⟩ := List.getElem?_of_mem hf
  have hok := h1.ok f hf
  have hn : f.born ∉ V.map FEnt.born := by
    intro hm
    obtain ⟨v, hv, hvb⟩ := List.mem_map.1 hm
    have hnd := hp.nd
    rw [List.pairwise_append] at hnd
    exact (hnd.2.2 v hv f (by simp)).2.2.1 hvb
  have hst := stay_le hok.sy kp
  have hT := fs_trim h1 hfi hst hc hb
  have hbs : (V ++ [cutE kp f]).map FEnt.born = V.map FEnt.born ++ [f.born] := by simp [cutE]
  have he : (E.map (cv kp (V.map FEnt.born))).set i { f with l := f.l.take (stayN f.l.length f.sy kp), sy := stayN f.l.length f.sy kp } = E.map (cv kp ((V ++ [cutE kp f]).map FEnt.born)) := by
    rw [hbs]
    exact cv_step hE hfi hn
  rw [he] at hT
  refine ⟨hT, ?_, ⟨?_, ?_⟩, ?_⟩
  · have hi3 := hi.chg hc (by
      obtain ⟨c0, h9, _⟩ := hi
      exact h9.ne_blk hok.fil.hg)
    obtain ⟨c0, h9, h8⟩ := hi3
    refine ⟨c0, ?_, h8⟩
    have : seenOf (V ++ [cutE kp f]) = seenOf (V ++ [f]) := by simp [seenOf, cutE]
    rw [this]
    exact h9
  · intro v hv
    rw [← he]
    rcases List.mem_append.1 hv with hv | hv
    · have h7 := h.pt.sub v hv
      obtain ⟨j, hj⟩ := List.getElem?_of_mem h7
      have hij : i ≠ j := by
        rintro rfl
        rw [hfi] at hj
        injection hj with hj
        subst hj
        exact hn (List.mem_map_of_mem hv)
      refine List.mem_of_getElem? (i := j) ?_
      rw [List.getElem?_set, if_neg hij]
      exact hj
    · obtain rfl : v = cutE kp f := by simpa using hv
      refine List.mem_of_getElem? (i := i) ?_
      rw [List.getElem?_set, if_pos rfl, if_pos (List.getElem?_eq_some_iff.1 hfi).1]
      rfl
  · have hnd := hp.nd
    rw [List.pairwise_append] at hnd ⊢
    refine ⟨hnd.1, List.pairwise_singleton _ _, fun a ha b hb => ?_⟩
    obtain rfl : b = cutE kp f := by simpa using hb
    exact hnd.2.2 a ha f (by simp)
  · refine (h.ch.step (hc1.mono (S' := fun k => k = w.heap.size ∨ S k) fun k _ e => .inl e) fun k hk e => e.elim (fun e => by omega) id).step hc fun k _ e => ?_
    have e : k = f.g := e
    rw [e]
    exact hok.fil.og
theorem CutAt.done {keep : Int} {V : List FEnt} {wr : World} (h : CutAt S w d m E clock up armed left keep n kp V wr) (hp : V.Perm (E.map (cv kp (V.map FEnt.born)))) : FS S wr d m (E.map (cutE kp)) clock up armed left keep n := by
  have : E.map (cv kp (V.map FEnt.born)) = E.map (cutE kp) := by
    apply List.map_congr_left
    intro f hf
    unfold cv
    rw [if_pos]
    have h1 : cv kp (V.map FEnt.born) f ∈ V := hp.symm.subset (List.mem_map_of_mem hf)
    rw [← cv_born kp (V.map FEnt.born) f]
    exact List.mem_map_of_mem h1
  rw [← this]
  exact h.fs

set_option maxRecDepth 100000 in
set_option maxHeartbeats 4000000 in
theorem fs_cut {keep : Int} (h : FS S w d m E clock up armed left keep n) (kp : Int) (hkp : kp ≤ 9223372036854775807) :
    Calls Tryz.prog 18 #[.pointer (some ⟨d, 0, none⟩), .int .i64 kp] w fun e w' => e = .returned (.tuple #[]) ∧ FS S w' d m (E.map (cutE kp)) clock false false left keep n ∧ Chg S w w' := by
  have c0 := h.dsk.c0
  have hg1 : Grew w (w.alloc (.mapIter (some m) clock #[] clock)) := (Chg.refl _ w).alloc _
  have hrange := run_range_b (P := Tryz.prog) Tryz.underlying44 h.dsk.hm
  have hE := Lib.hid h.ap
  have hcv : E.map (cv kp ([] : List Nat)) = E := by
    rw [show cv kp ([] : List Nat) = id from funext fun f => by unfold cv; rw [if_neg (by simp)]; rfl]
    simp
  have hL : Hid (CutAt S w d m E clock up armed left keep n kp [] (w.alloc (.mapIter (some m) clock #[] clock))) :=
    ⟨by show FS S _ d m (E.map (cv kp [])) clock up armed left keep n; rw [hcv]; exact h.grew hg1, ⟨clock, heap_alloc_new w _, Nat.le_refl _⟩, Part.nil _, Chg.of_grew hg1⟩
  have hod := h.dsk.od
  clear h hcv
  go_enter Tryz.func18, Tryz.ntmps18
  go_wp2
  go_loopw [5] (fun _ wr => ∃ V, Hid (CutAt S w d m E clock up armed left keep n kp V wr)) (fun _ wr => match wr.heap[w.heap.size]? with | some (.mapIter _ _ seen _) => E.length - seen.size | _ => 0)
  case atStart => exact ⟨[], hL⟩
  case round =>
    obtain ⟨V, hV⟩ := hrel
    have hm0 : (match wr.heap[w.heap.size]? with | some (.mapIter _ _ seen _) => E.length - seen.size | _ => 0) = E.length - V.length := by
      obtain ⟨c0, h1, _⟩ := hV.out.it
      unfold IterB at h1
      rw [h1]
      simp [seenOf]
    rcases itv_next hV.out.fs hV.out.it hV.out.pt with ⟨hpm, hnx⟩ | ⟨f, hfE, hpt, w1, hc1, hs1, hnx, hit, hfs, hen⟩
    · have hD := hV.out.done hpm
      have hch := Lib.hid hV.out.ch
      have fd1 : wr.frozen? ⟨d, 1, none⟩ = false := hD.dsk.hd.frozen 1
      have fd2 : wr.frozen? ⟨d, 2, none⟩ = false := hD.dsk.hd.frozen 2
      have d1 := hD.dsk.c1
      have d2 := hD.dsk.c2
      have hD := Lib.hid hD
      clear hV hm0 hpm hL
      go_wp2
      go_end0
      have hcc : Chg (fun k => k = d) wr ((wr.setCell ⟨d, 1, none⟩ (.bool false)).setCell ⟨d, 2, none⟩ (.bool false)) :=
        Chg.setCell (S := fun j => j = d) (Chg.setCell (S := fun j => j = d) (Chg.refl _ wr) (p := ⟨d, 1, none⟩) (.inr rfl) _) (p := ⟨d, 2, none⟩) (.inr rfl) _
      refine ⟨rfl, ⟨⟨?_, ?_, hD.out.dsk.od, hD.out.dsk.om⟩, fun e he => ?_, hD.out.ap⟩, hch.out.step hcc fun k _ e => ?_⟩
      · exact Blk.set (hD.out.dsk.hd.set 1 (.bool false)) 2 (.bool false)
      · exact hD.out.dsk.hm.chg hcc (hD.out.dsk.hm.ne_blk hD.out.dsk.hd)
      · have ho := hD.out.ok e he
        exact ho.chg hcc (ho.fil.hg.ne_type hD.out.dsk.hd (by decide)) (fun ad e1 => ho.fil.hA.ne_blk hD.out.dsk.hd (by decide) ad e1) (Nat.le_refl _)
      · have e : k = d := e
        rw [e]
        exact hod
    · have hlt : V.length < E.length := by
        have := hpt.le
        simp at this
        omega
      have hok := hfs.ok f hfE
      have hfsy := hok.sy
      have hfln := hok.len
      have hcap := hok.fil.hA.cap
      have hb2 := hok.fil.hg
      have g0 : w1.cell? ⟨f.g, 0, none⟩ = some (.slice f.A f.l.length f.cap) := hb2.cell 0
      have g1 : w1.cell? ⟨f.g, 1, none⟩ = some (.int .i64 (f.sy : Int)) := hb2.cell 1
      have fr0 : w1.frozen? ⟨f.g, 0, none⟩ = false := hb2.frozen 0
      have fr1 : w1.frozen? ⟨f.g, 1, none⟩ = false := hb2.frozen 1
      have hstep : Hid (∀ w3, Chg (fun k => k = f.g) w1 w3 → Blk w3 f.g 77 #[.slice f.A (stayN f.l.length f.sy kp) f.cap, .int .i64 ((stayN f.l.length f.sy kp : Nat) : Int)] → CutAt S w d m E clock up armed left keep n kp (V ++ [cutE kp f]) w3) :=
        fun w3 hc hb => hV.out.step hE.out hfE hpt hc1 hit hfs hc hb
      have hm1 : Hid (∀ w3, CutAt S w d m E clock up armed left keep n kp (V ++ [cutE kp f]) w3 → (match w3.heap[w.heap.size]? with | some (.mapIter _ _ seen _) => E.length - seen.size | _ => 0) < (match wr.heap[w.heap.size]? with | some (.mapIter _ _ seen _) => E.length - seen.size | _ => 0)) := by
        intro w3 h3
        obtain ⟨c0, h1, _⟩ := h3.it
        unfold IterB at h1
        rw [h1, hm0]
        simp [seenOf]
        omega
      clear hm0 hc1 hs1 hV hpt hit hfs hok hL
      obtain ⟨st, hstd⟩ : ∃ st, stayN f.l.length f.sy kp = st := ⟨_, rfl⟩
      rw [hstd] at hstep
      have hst : st ≤ f.l.length := hstd ▸ stay_le hfsy kp
      generalize cutE kp f = f' at *
      generalize f.g = g at *
      generalize f.A = A at *
      generalize f.cap = cap at *
      generalize f.nm = nm at *
      generalize f.sy = sy at *
      generalize f.l.length = ln at *
      by_cases h0 : 0 ≤ kp
      · obtain ⟨kn, rfl⟩ := Int.eq_ofNat_of_zero_le h0
        obtain ⟨k, hk⟩ : ∃ k, k = kn % (ln - sy + 1) := ⟨_, rfl⟩
        have hkz : (kn : Int) % ((ln : Int) - (sy : Int) + 1) = (k : Int) := by
          rw [hk, Int.natCast_emod, Int.natCast_add, Int.natCast_sub hfsy]
          rfl
        have hste : st = sy + k := by
          rw [← hstd]
          unfold stayN
          rw [if_pos h0, hk]
          rfl
        clear hstd hk
        subst hste
        go_wp2_with fail
        refine wp_region_text [(3, 1)] (by kernel_rfl) (by kernel_rfl) ?_
        simp only [instr, chk, look, Nat.reduceBEq, if_true, if_false, Nat.reduceEqDiff, List.cons_append, List.nil_append]
        go_wp2_with fail
        refine OnlyN.normal ?_
        go_wp2_with fail
        refine wp_region_textL [(3, 1)] [g] (by kernel_rfl) (by kernel_rfl) (cellsIn_cons g0 (cellsIn_nil _)) ?_
        simp only [wpUL, tagOf, chk, look, Nat.reduceBEq, if_true, if_false, Nat.reduceEqDiff, List.cons_append, List.nil_append]
        intro K hK
        go_wp2_with fail
        refine OnlyN.normal (hK _ _ (fun _ => ⟨_, _, _, rfl, rfl, by simp⟩) ?_)
        clear hK K
        intro K hK
        go_wp2_with fail
        refine OnlyN.normal (hK _ _ (fun _ => ⟨_, _, _, rfl, rfl, by simp⟩) ?_)
        clear hK K
        go_wp2_with fail
        refine OnlyN.normal ?_
        go_wp2_with fail
        have hm3 : Chg (fun j => j = g) w1 (((w1.setCell ⟨g, 0, none⟩ (.slice A (sy + k) cap)).setCell ⟨g, 1, none⟩ (.int .i64 ((sy : Int) + (k : Int)))).drew.drew) :=
          (Chg.setCell (S := fun j => j = g) (Chg.setCell (S := fun j => j = g) (Chg.refl _ w1) (p := ⟨g, 0, none⟩) (.inr rfl) _) (p := ⟨g, 1, none⟩) (.inr rfl) _).drew.drew
        have hb3 : Blk (((w1.setCell ⟨g, 0, none⟩ (.slice A (sy + k) cap)).setCell ⟨g, 1, none⟩ (.int .i64 ((sy : Int) + (k : Int)))).drew.drew) g 77 #[.slice A (sy + k) cap, .int .i64 ((sy + k : Nat) : Int)] :=
          Blk.set (hb2.set 0 (.slice A (sy + k) cap)) 1 (.int .i64 ((sy : Int) + (k : Int)))
        have hfin := Lib.hid (hstep.out _ hm3 hb3)
        have hmm := hm1.out _ hfin.out
        clear hm3 hb3 hnx hen
        go_roundw
        case rel => exact ⟨_, hfin⟩
        case measure => exact hmm
      · have hste : st = sy := by
          rw [← hstd]
          unfold stayN
          rw [if_neg h0]
        clear hstd
        subst st
        go_wp2_with fail
        refine wp_region_textL [(3, 1)] [g] (by kernel_rfl) (by kernel_rfl) (cellsIn_cons g0 (cellsIn_nil _)) ?_
        simp only [wpUL, tagOf, chk, look, Nat.reduceBEq, if_true, if_false, Nat.reduceEqDiff, List.cons_append, List.nil_append]
        intro K hK
        go_wp2_with fail
        refine OnlyN.normal (hK _ _ (fun _ => ⟨_, _, _, rfl, rfl, by simp⟩) ?_)
        clear hK K
        intro K hK
        go_wp2_with fail
        refine OnlyN.normal (hK _ _ (fun _ => ⟨_, _, _, rfl, rfl, by simp⟩) ?_)
        clear hK K
        go_wp2_with fail
        refine OnlyN.normal ?_
        go_wp2_with fail
        have hm3 : Chg (fun j => j = g) w1 (((w1.setCell ⟨g, 0, none⟩ (.slice A (sy) cap)).setCell ⟨g, 1, none⟩ (.int .i64 (sy : Int))).drew) :=
          (Chg.setCell (S := fun j => j = g) (Chg.setCell (S := fun j => j = g) (Chg.refl _ w1) (p := ⟨g, 0, none⟩) (.inr rfl) _) (p := ⟨g, 1, none⟩) (.inr rfl) _).drew
        have hb3 : Blk (((w1.setCell ⟨g, 0, none⟩ (.slice A (sy) cap)).setCell ⟨g, 1, none⟩ (.int .i64 (sy : Int))).drew) g 77 #[.slice A (sy) cap, .int .i64 ((sy : Nat) : Int)] :=
          Blk.set (hb2.set 0 (.slice A (sy) cap)) 1 (.int .i64 (sy : Int))
        have hfin := Lib.hid (hstep.out _ hm3 hb3)
        have hmm := hm1.out _ hfin.out
        clear hm3 hb3 hnx hen
        go_roundw
        case rel => exact ⟨_, hfin⟩
        case measure => exact hmm
end
end Go.Proofs.YtepncgeaehjhiaaGreat
