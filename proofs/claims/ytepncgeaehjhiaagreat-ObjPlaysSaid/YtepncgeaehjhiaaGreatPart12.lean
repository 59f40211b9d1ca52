/-
  Several texts in one:
  What Append asks of a file that is there; Sync's and Rename's questions and deeds. Conditions: names of one letter.
-/
import Derived.Test.YtepncgeaehjhiaaGreatPart11

namespace Go.Proofs.YtepncgeaehjhiaaGreat
open Go.RowKit

set_option maxHeartbeats 800000 in
theorem app_old {O : Nat → Prop} {w : World} {d m : Nat} {es : Array MapEntry} {clock : Nat} {up armed : Bool} {left keep : Int} {n : Nat} (hD : Dsk O w d m es clock up armed left keep n) (x : ByteArray) (hc : NmOk x)
    {i g : Nat} (h : Instr.findNow .string (.string x) es.toList 0 = some (some (i, .pointer (some ⟨g, 0, none⟩)))) {A0 : Option Addr} {k0 cap0 : Nat} (hg : w.cell? ⟨g, 0, none⟩ = some (.slice A0 k0 cap0)) {p q s : Nat} {A : Option Addr} {k cap : Nat} (hp : w.cell? ⟨p, 0, none⟩ = some (.string x)) (hq : w.cell? ⟨q, 0, none⟩ = some (.pointer (some ⟨d, 0, none⟩)))
    (hs : w.cell? ⟨s, 0, none⟩ = some (.slice A k cap)) (hk : k0 + k ≤ 4194304) :
    Calls Tryz.prog 100 #[.pointer (some ⟨p, 0, none⟩), .pointer (some ⟨q, 0, none⟩), .pointer (some ⟨s, 0, none⟩)] w fun e w' => e = .returned (.int .i64 0) ∧ ∃ k, w' = w.drewN k := by
  have hN := name_ok x hc
  have hl := look_disk hD.hm.drew h
  have c0 := hD.c0
  have e2 : decide ((4194304 : Int) - (k0 : Int) < (k : Int)) = false := decide_eq_false (by omega)
  simp only [lookV] at hl
  clear h hD hc
  go_enter Tryz.func100, Tryz.ntmps100
  go_wp2_with fail
  refine (hN _).mono ?_
  rintro e w1 ⟨rfl, rfl⟩
  go_wp2_with fail
  refine wp_region_textS [] [q, d, p] (by kernel_rfl) (by kernel_rfl) (cellsIn_cons hq (cellsIn_cons c0 (cellsIn_cons hp (cellsIn_nil _)))) ?_
  simp only [wpU, tagOf, chk, List.nil_append, List.cons_append]
  intro K hK
  go_wp2_with fail
  refine OnlyN.normal (hK _ _ (fun _ => ⟨_, _, _, rfl, rfl, by simp⟩) ?_)
  clear hK K
  intro K hK
  go_wp2_with fail
  refine OnlyN.normal (hK _ _ (fun _ => ⟨_, _, _, rfl, rfl, by simp⟩) ?_)
  clear hK K
  intro K hK
  go_wp2_with fail
  refine OnlyN.normal (hK _ _ (fun _ => ⟨_, _, _, rfl, rfl, by simp⟩) ?_)
  clear hK K
  intro K hK
  go_wp2_with fail
  refine OnlyN.normal (hK _ _ (fun _ _ => rfl) ?_)
  clear hK K
  go_wp2_with fail
  refine OnlyN.normal ?_
  go_wp2_with fail
  refine wp_region_textS [(3, 1), (44, 9)] [s, g] (by kernel_rfl) (by kernel_rfl) (cellsIn_cons hs (cellsIn_cons hg (cellsIn_nil _))) ?_
  simp only [wpU, tagOf, chk, look, Nat.reduceBEq, Bool.false_eq_true, if_true, if_false, List.cons_append, List.nil_append, List.getElem?_toArray, List.getElem?_cons_zero, Nat.reduceEqDiff]
  intro K hK
  go_wp2_with fail
  refine OnlyN.normal (hK _ _ (fun _ _ => rfl) ?_)
  clear hK K
  intro K hK
  go_wp2_with fail
  refine OnlyN.normal (hK _ _ (fun hw => by cases (show false = true from hw)) ?_)
  clear hK K
  intro K hK
  go_wp2_with fail
  refine OnlyN.normal (hK _ _ (fun hw => by cases (show false = true from hw)) ?_)
  clear hK K
  intro K hK
  go_wp2_with fail
  refine OnlyN.normal (hK _ _ (fun _ _ => rfl) ?_)
  clear hK K
  intro K hK
  go_wp2_with fail
  refine OnlyN.normal (hK _ _ (fun hw => by cases (show false = true from hw)) ?_)
  clear hK K
  intro K hK
  go_wp2_with fail
  refine OnlyN.normal (hK _ _ (fun _ _ => rfl) ?_)
  clear hK K
  intro K hK
  go_wp2_with fail
  refine OnlyN.normal (hK _ _ (fun _ => ⟨_, _, _, rfl, rfl, by simp⟩) ?_)
  clear hK K
  intro K hK
  go_wp2_with fail
  refine OnlyN.normal (hK _ _ (fun _ => ⟨_, _, _, rfl, rfl, by simp⟩) ?_)
  clear hK K
  go_wp2_with fail
  refine OnlyN.normal ?_
  go_wp2
  go_ret
  exact ⟨by simp, 2, rfl⟩

/-! ### Sync -/
set_option maxHeartbeats 800000 in
theorem sync_ask {O : Nat → Prop} {w : World} {d m : Nat} {es : Array MapEntry} {clock : Nat} {up armed : Bool} {left keep : Int} {n : Nat} (hD : Dsk O w d m es clock up armed left keep n) (x : ByteArray) (hc : NmOk x) {i g : Nat}
    (h : Instr.findNow .string (.string x) es.toList 0 = some (some (i, .pointer (some ⟨g, 0, none⟩)))) {p q : Nat} (hp : w.cell? ⟨p, 0, none⟩ = some (.string x)) (hq : w.cell? ⟨q, 0, none⟩ = some (.pointer (some ⟨d, 0, none⟩))) :
    Calls Tryz.prog 101 #[.pointer (some ⟨q, 0, none⟩), .pointer (some ⟨p, 0, none⟩)] w fun e w' => e = .returned (.int .i64 0) ∧ w = w' := by
  have hT := there_yes hD x hc h
  go_enter Tryz.func101, Tryz.ntmps101
  go_wp2_with fail
  refine hT.mono ?_
  rintro e w1 ⟨rfl, rfl⟩
  go_wp2
  go_ret
  exact ⟨by simp, rfl⟩

set_option maxHeartbeats 800000 in
theorem sync_do {O : Nat → Prop} {w : World} {d m : Nat} {es : Array MapEntry} {clock : Nat} {up armed : Bool} {left keep : Int} {n : Nat} (hD : Dsk O w d m es clock up armed left keep n) (x : ByteArray) {i g : Nat}
    (h : Instr.findNow .string (.string x) es.toList 0 = some (some (i, .pointer (some ⟨g, 0, none⟩)))) {A : Option Addr} {cap sy : Nat} {l : List UInt8} (hF : Fil O w g A cap l sy) {p q : Nat} (hp : w.cell? ⟨p, 0, none⟩ = some (.string x)) (hq : w.cell? ⟨q, 0, none⟩ = some (.pointer (some ⟨d, 0, none⟩))) :
    Calls Tryz.prog 102 #[.pointer (some ⟨q, 0, none⟩), .pointer (some ⟨p, 0, none⟩)] w fun e w' => e = .returned (.tuple #[]) ∧ Dsk O w' d m es clock up armed left keep n ∧ Fil O w' g A cap l l.length ∧ Chg (fun k => k = g) w w' := by
  have hl := look_disk hD.hm.drew h
  simp only [lookV] at hl
  have c0 := hD.c0
  have hb := hF.hg
  have hgs : w.cell? ⟨g, 0, none⟩ = some (.slice A l.length cap) := hb.cell 0
  have hg1 : w.cell? ⟨g, 1, none⟩ = some (.int .i64 (sy : Int)) := hb.cell 1
  have f1 : w.frozen? ⟨g, 1, none⟩ = false := hb.frozen 1
  go_enter Tryz.func102, Tryz.ntmps102
  go_wp2_with fail
  refine wp_region_textS [] [q, d, p] (by kernel_rfl) (by kernel_rfl) (cellsIn_cons hq (cellsIn_cons c0 (cellsIn_cons hp (cellsIn_nil _)))) ?_
  simp only [wpU, tagOf, chk, List.nil_append, List.cons_append]
  intro K hK
  go_wp2_with fail
  refine OnlyN.normal (hK _ _ (fun _ => ⟨_, _, _, rfl, rfl, by simp⟩) ?_)
  clear hK K
  intro K hK
  go_wp2_with fail
  refine OnlyN.normal (hK _ _ (fun _ => ⟨_, _, _, rfl, rfl, by simp⟩) ?_)
  clear hK K
  intro K hK
  go_wp2_with fail
  refine OnlyN.normal (hK _ _ (fun _ => ⟨_, _, _, rfl, rfl, by simp⟩) ?_)
  clear hK K
  intro K hK
  go_wp2_with fail
  refine OnlyN.normal (hK _ _ (fun _ _ => rfl) ?_)
  clear hK K
  go_wp2_with fail
  refine OnlyN.normal ?_
  clear hl
  go_wp2
  go_end0
  have hset : Chg (fun j => j = g) w (w.drew.setCell ⟨g, 1, none⟩ (.int .i64 (l.length : Int))) := Chg.setCell (S := fun j => j = g) (Chg.refl _ w).drew (p := ⟨g, 1, none⟩) (.inr rfl) _
  refine ⟨rfl, hD.chg hset (hD.hd.ne_type hb (by decide)) (hD.hm.ne_blk hb), ⟨?_, ?_, hF.og, hF.oA⟩, hset⟩
  · exact Blk.set (w := w.drew) hb 1 (.int .i64 (l.length : Int))
  · exact Own.chg hF.hA hset (hF.hA.ne_blk hb (by decide))

/-! ### Rename -/
set_option maxHeartbeats 800000 in
theorem ren_ask {O : Nat → Prop} {w : World} {d m : Nat} {es : Array MapEntry} {clock : Nat} {up armed : Bool} {left keep : Int} {n : Nat} (hD : Dsk O w d m es clock up armed left keep n) (x y : ByteArray) (hc : NmOk x) (hc2 : NmOk y) {i g : Nat}
    (h : Instr.findNow .string (.string x) es.toList 0 = some (some (i, .pointer (some ⟨g, 0, none⟩)))) {p q s : Nat} (hp : w.cell? ⟨p, 0, none⟩ = some (.string x)) (hq : w.cell? ⟨q, 0, none⟩ = some (.pointer (some ⟨d, 0, none⟩))) (hs : w.cell? ⟨s, 0, none⟩ = some (.string y)) :
    Calls Tryz.prog 103 #[.pointer (some ⟨s, 0, none⟩), .pointer (some ⟨q, 0, none⟩), .pointer (some ⟨p, 0, none⟩)] w fun e w' => e = .returned (.int .i64 0) ∧ w = w' := by
  have hT := there_yes hD x hc h
  have hN := name_ok y hc2
  go_enter Tryz.func103, Tryz.ntmps103
  go_wp2_with fail
  refine (hN _).mono ?_
  rintro e w1 ⟨rfl, rfl⟩
  go_wp2_with fail
  refine hT.mono ?_
  rintro e w1 ⟨rfl, rfl⟩
  go_wp2
  go_ret
  exact ⟨by simp, rfl⟩

set_option maxHeartbeats 800000 in
theorem ren_do {O : Nat → Prop} {w : World} {d m : Nat} {es : Array MapEntry} {clock : Nat} {up armed : Bool} {left keep : Int} {n : Nat} (hD : Dsk O w d m es clock up armed left keep n) (x y : ByteArray) {i g : Nat}
    (h : Instr.findNow .string (.string x) es.toList 0 = some (some (i, .pointer (some ⟨g, 0, none⟩)))) {p q s : Nat} (hp : w.cell? ⟨p, 0, none⟩ = some (.string x)) (hq : w.cell? ⟨q, 0, none⟩ = some (.pointer (some ⟨d, 0, none⟩))) (hs : w.cell? ⟨s, 0, none⟩ = some (.string y))
    {es2 : Array MapEntry} {clock2 : Nat} (hput : ∀ w', MapB w' m (es.eraseIdxIfInBounds i) clock → (Instr.mapUpdate 44 (.map (some m)) (.string y) (.pointer (some ⟨g, 0, none⟩))).run Tryz.prog w' = .ok () (setB w' m (.map es2 clock2))) :
    Calls Tryz.prog 104 #[.pointer (some ⟨q, 0, none⟩), .pointer (some ⟨p, 0, none⟩), .pointer (some ⟨s, 0, none⟩)] w fun e w' => e = .returned (.tuple #[]) ∧ Dsk O w' d m es2 clock2 up armed left keep n ∧ Chg (fun k => k = m) w w' := by
  have hl := look_disk hD.hm.drew h
  simp only [lookV] at hl
  have c0 := hD.c0
  have hn1 := hD.hm.ne_cell hq
  have hn2 := hD.hm.ne_cell c0
  have hn3 := hD.hm.ne_cell hp
  have hn4 := hD.hm.ne_cell hs
  go_enter Tryz.func104, Tryz.ntmps104
  go_wp2_with fail
  refine wp_region_textS [] [q, d, p] (by kernel_rfl) (by kernel_rfl) (cellsIn_cons hq (cellsIn_cons c0 (cellsIn_cons hp (cellsIn_nil _)))) ?_
  simp only [wpU, tagOf, chk, List.nil_append, List.cons_append]
  intro K hK
  go_wp2_with fail
  refine OnlyN.normal (hK _ _ (fun _ => ⟨_, _, _, rfl, rfl, by simp⟩) ?_)
  clear hK K
  intro K hK
  go_wp2_with fail
  refine OnlyN.normal (hK _ _ (fun _ => ⟨_, _, _, rfl, rfl, by simp⟩) ?_)
  clear hK K
  intro K hK
  go_wp2_with fail
  refine OnlyN.normal (hK _ _ (fun _ => ⟨_, _, _, rfl, rfl, by simp⟩) ?_)
  clear hK K
  intro K hK
  go_wp2_with fail
  refine OnlyN.normal (hK _ _ (fun _ _ => rfl) ?_)
  clear hK K
  go_wp2_with fail
  refine OnlyN.normal ?_
  clear hl
  have hdel : ∀ ty, (Builtin.delete_ #[44, 9] ty #[.map (some m), .string x]).run Tryz.prog w.drew.drew = .ok (.tuple #[]) (setB w.drew.drew m (.map (es.eraseIdxIfInBounds i) clock)) := fun ty => run_strike (P := Tryz.prog) ty Tryz.underlying44 Tryz.underlying9 hD.hm.drew.drew h
  go_wp2_with fail
  refine wp_region_textS [] [q, d, p] (by kernel_rfl) (by kernel_rfl) (cellsIn_cons hq (cellsIn_cons c0 (cellsIn_cons hp (cellsIn_nil _)))) ?_
  simp only [wpU, tagOf, chk, List.nil_append, List.cons_append]
  intro K hK
  go_wp2_with fail
  refine OnlyN.normal (hK _ _ (fun _ => ⟨_, _, _, rfl, rfl, by simp⟩) ?_)
  clear hK K
  intro K hK
  go_wp2_with fail
  refine OnlyN.normal (hK _ _ (fun _ => ⟨_, _, _, rfl, rfl, by simp⟩) ?_)
  clear hK K
  intro K hK
  go_wp2_with fail
  refine OnlyN.normal (hK _ _ (fun _ => ⟨_, _, _, rfl, rfl, by simp⟩) ?_)
  clear hK K
  have hc1 : Chg (fun k => k = m) w (setB w.drew.drew m (.map (es.eraseIdxIfInBounds i) clock)) := Chg.setB (S := fun k => k = m) (Chg.refl _ w).drew.drew (k := m) (.inr rfl) _
  have hc1' : Chg (fun k => k = m) w.drew (setB w.drew.drew m (.map (es.eraseIdxIfInBounds i) clock)) := Chg.setB (S := fun k => k = m) (Chg.refl _ w.drew).drew (k := m) (.inr rfl) _
  have hm1 : MapB (setB w.drew.drew m (.map (es.eraseIdxIfInBounds i) clock)) m (es.eraseIdxIfInBounds i) clock := hD.hm.drew.drew.set _ _
  intro K hK
  go_wp2_with fail
  refine OnlyN.normal (hK _ _ (sameIn_all hc1' (by
    intro k hk
    simp only [List.mem_cons, List.not_mem_nil, or_false] at hk
    rcases hk with rfl | rfl | rfl
    · exact ⟨cell_lt hq, hn1⟩
    · exact ⟨cell_lt c0, hn2⟩
    · exact ⟨cell_lt hp, hn3⟩)) ?_)
  clear hK K hdel
  have hD1 := hD.hd.chg hc1 hn2
  have hq1 := hc1.cell hq hn1
  have hs1 := hc1.cell hs hn4
  have c1 := hc1.cell c0 hn2
  go_wp2_with fail
  refine OnlyN.normal ?_
  generalize setB w.drew.drew m (.map (es.eraseIdxIfInBounds i) clock) = w2 at *
  have hput2 := hput _ hm1.drew
  go_wp2_with fail
  refine wp_region_textS [] [q, d, s] (by kernel_rfl) (by kernel_rfl) (cellsIn_cons hq1 (cellsIn_cons c1 (cellsIn_cons hs1 (cellsIn_nil _)))) ?_
  simp only [wpU, tagOf, chk, List.nil_append, List.cons_append]
  intro K hK
  go_wp2_with fail
  refine OnlyN.normal (hK _ _ (fun _ => ⟨_, _, _, rfl, rfl, by simp⟩) ?_)
  clear hK K
  intro K hK
  go_wp2_with fail
  refine OnlyN.normal (hK _ _ (fun _ => ⟨_, _, _, rfl, rfl, by simp⟩) ?_)
  clear hK K
  intro K hK
  go_wp2_with fail
  refine OnlyN.normal (hK _ _ (fun _ => ⟨_, _, _, rfl, rfl, by simp⟩) ?_)
  clear hK K
  have hc2 : Chg (fun k => k = m) w2 (setB w2.drew m (.map es2 clock2)) := Chg.setB (S := fun k => k = m) (Chg.refl _ w2).drew (k := m) (.inr rfl) _
  intro K hK
  go_wp2_with (at_mapUpdate; refine wpList_put rfl _ _ _ _ rfl m rfl _ rfl _ rfl _ hput2 ?_)
  refine OnlyN.normal (hK _ _ (sameIn_all hc2 (by
    intro k hk
    simp only [List.mem_cons, List.not_mem_nil, or_false] at hk
    rcases hk with rfl | rfl | rfl
    · exact ⟨cell_lt hq1, hn1⟩
    · exact ⟨cell_lt c1, hn2⟩
    · exact ⟨cell_lt hs1, hn4⟩)) ?_)
  clear hK K
  go_wp2_with fail
  refine OnlyN.normal ?_
  go_wp2
  go_end0
  exact ⟨rfl, ⟨hD1.chg hc2 hn2, hm1.drew.set _ _, hD.od, hD.om⟩, hc1.trans hc2⟩
end Go.Proofs.YtepncgeaehjhiaaGreat
