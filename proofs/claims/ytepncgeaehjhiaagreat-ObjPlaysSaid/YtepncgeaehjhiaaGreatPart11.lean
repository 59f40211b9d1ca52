/-
  Several texts in one:
  Whether there is such a file; what Append, Sync and Rename ask ahead. Conditions: names of one letter.
  What Append does: a new file, or bytes behind those of a file. Conditions: names of one letter; lengths within the file's bound.
-/
import Derived.Test.YtepncgeaehjhiaaGreatPart4
import Derived.Test.YtepncgeaehjhiaaGreatPart10

namespace Go.Proofs.YtepncgeaehjhiaaGreat
open Go.RowKit

theorem zeroPF (w : World) : (zeroValue 75).run Tryz.prog w = .ok (.pointer none) w := by kernel_rfl
def lookV (r : Option (Nat × Value)) : Value := match r with | some (_, v) => v | none => .pointer none
theorem look_disk {w : World} {m : Nat} {es : Array MapEntry} {clock : Nat} (hm : MapB w m es clock) {s : ByteArray} {r : Option (Nat × Value)} (h : Instr.findNow .string (.string s) es.toList 0 = some r) :
    (Instr.lookup 44 (.map (some m)) (.string s) false).run Tryz.prog w = .ok (lookV r) w := by
  have := run_look (P := Tryz.prog) Tryz.underlying44 Tryz.underlying9 (zeroPF w) hm h
  cases r <;> exact this

theorem MapB.drew {w : World} {b : Nat} {es : Array MapEntry} {clock : Nat} (h : MapB w b es clock) : MapB w.drew b es clock := h
theorem cellsIn_nil (w : World) : CellsIn [] w := fun k hk => by cases hk
theorem cellsIn_cons {w : World} {k i : Nat} {u : Value} {bs : List Nat} (h : w.cell? ⟨k, i, none⟩ = some u) (hs : CellsIn bs w) : CellsIn (k :: bs) w := fun j hj => by
  rcases List.mem_cons.1 hj with rfl | hj
  · exact cellsIn_cell h j (by simp)
  · exact hs j hj

section
variable {O : Nat → Prop} {w : World} {d m : Nat} {es : Array MapEntry} {clock : Nat} {up armed : Bool} {left keep : Int} {n : Nat}
theorem Dsk.c0 (h : Dsk O w d m es clock up armed left keep n) : w.cell? ⟨d, 0, none⟩ = some (.map (some m)) := h.hd.cell 0
theorem Dsk.c1 (h : Dsk O w d m es clock up armed left keep n) : w.cell? ⟨d, 1, none⟩ = some (.bool up) := h.hd.cell 1
theorem Dsk.c2 (h : Dsk O w d m es clock up armed left keep n) : w.cell? ⟨d, 2, none⟩ = some (.bool armed) := h.hd.cell 2
theorem Dsk.c3 (h : Dsk O w d m es clock up armed left keep n) : w.cell? ⟨d, 3, none⟩ = some (.int .i64 left) := h.hd.cell 3
theorem Dsk.c4 (h : Dsk O w d m es clock up armed left keep n) : w.cell? ⟨d, 4, none⟩ = some (.int .i64 keep) := h.hd.cell 4
theorem Dsk.c5 (h : Dsk O w d m es clock up armed left keep n) : w.cell? ⟨d, 5, none⟩ = some (.int .u64 (n : Int)) := h.hd.cell 5
end

set_option maxHeartbeats 400000 in
theorem there_yes {O : Nat → Prop} {w : World} {d m : Nat} {es : Array MapEntry} {clock : Nat} {up armed : Bool} {left keep : Int} {n : Nat} (hD : Dsk O w d m es clock up armed left keep n) (x : ByteArray) (hc : NmOk x) {i g : Nat}
    (h : Instr.findNow .string (.string x) es.toList 0 = some (some (i, .pointer (some ⟨g, 0, none⟩)))) :
    Calls Tryz.prog 43 #[.pointer (some ⟨d, 0, none⟩), .string x] w fun e w' => e = .returned (.int .i64 0) ∧ w = w' := by
  have hN := name_ok x hc
  have hl := look_disk hD.hm h
  have c0 := hD.c0
  simp only [lookV] at hl
  clear h hD hc
  go_enter Tryz.func43, Tryz.ntmps43
  go_wp2_with fail
  refine (hN _).mono ?_
  rintro e w1 ⟨rfl, rfl⟩
  go_wp2
  go_ret
  exact ⟨by simp, rfl⟩
set_option maxHeartbeats 400000 in
theorem there_no {O : Nat → Prop} {w : World} {d m : Nat} {es : Array MapEntry} {clock : Nat} {up armed : Bool} {left keep : Int} {n : Nat} (hD : Dsk O w d m es clock up armed left keep n) (x : ByteArray) (hc : NmOk x)
    (h : Instr.findNow .string (.string x) es.toList 0 = some none) :
    Calls Tryz.prog 43 #[.pointer (some ⟨d, 0, none⟩), .string x] w fun e w' => e = .returned (.int .i64 62) ∧ w = w' := by
  have hN := name_ok x hc
  have hl := look_disk hD.hm h
  have c0 := hD.c0
  simp only [lookV] at hl
  clear h hD hc
  go_enter Tryz.func43, Tryz.ntmps43
  go_wp2_with fail
  refine (hN _).mono ?_
  rintro e w1 ⟨rfl, rfl⟩
  go_wp2
  go_ret
  exact ⟨by simp, rfl⟩

/-! ### Append's question -/
set_option maxHeartbeats 800000 in
theorem app_new {O : Nat → Prop} {w : World} {d m : Nat} {es : Array MapEntry} {clock : Nat} {up armed : Bool} {left keep : Int} {n : Nat} (hD : Dsk O w d m es clock up armed left keep n) (x : ByteArray) (hc : NmOk x)
    (h : Instr.findNow .string (.string x) es.toList 0 = some none) (hes : es.size < 1048576) {p q s : Nat} {A : Option Addr} {k cap : Nat} (hp : w.cell? ⟨p, 0, none⟩ = some (.string x)) (hq : w.cell? ⟨q, 0, none⟩ = some (.pointer (some ⟨d, 0, none⟩)))
    (hs : w.cell? ⟨s, 0, none⟩ = some (.slice A k cap)) (hk : k ≤ 4194304) :
    Calls Tryz.prog 100 #[.pointer (some ⟨p, 0, none⟩), .pointer (some ⟨q, 0, none⟩), .pointer (some ⟨s, 0, none⟩)] w fun e w' => e = .returned (.int .i64 0) ∧ ∃ k, w' = w.drewN k := by
  have hN := name_ok x hc
  have hl := look_disk hD.hm.drew h
  have c0 := hD.c0
  have hlen : (Builtin.len_ #[44] 3 #[.map (some m)]).run Tryz.prog w.drew.drew = .ok (.int .i64 (es.size : Int)) w.drew.drew := by
    have hb := hD.hm.drew.drew
    unfold MapB at hb
    simp [Builtin.len_, run_underlying Tryz.underlying44, MapKept.run_getObj_map hb, Result.andThen, goInt]
  have e1 : decide ((1048576 : Int) ≤ (es.size : Int)) = false := decide_eq_false (by omega)
  have e2 : decide ((4194304 : Int) < (k : Int)) = false := decide_eq_false (by omega)
  simp only [lookV] at hl
  clear h hD hc
  go_enter Tryz.func100, Tryz.ntmps100
  go_wp2_with fail
  refine (hN _).mono ?_
  rintro e w1 ⟨rfl, rfl⟩
  go_wp2_with fail
  refine wp_region_textS [] [q, d, p] (by kernel_rfl) (by kernel_rfl) (cellsIn_cons hq (cellsIn_cons c0 (cellsIn_cons hp (cellsIn_nil _)))) ?_
  simp only [wpU, tagOf, chk, List.nil_append, List.cons_append]
  intro K hK
  go_wp2_with fail
  refine OnlyN.normal (hK _ _ (fun _ => ⟨_, _, _, rfl, rfl, by simp⟩) ?_)
  clear hK K
  intro K hK
  go_wp2_with fail
  refine OnlyN.normal (hK _ _ (fun _ => ⟨_, _, _, rfl, rfl, by simp⟩) ?_)
  clear hK K
  intro K hK
  go_wp2_with fail
  refine OnlyN.normal (hK _ _ (fun _ => ⟨_, _, _, rfl, rfl, by simp⟩) ?_)
  clear hK K
  intro K hK
  go_wp2_with fail
  refine OnlyN.normal (hK _ _ (fun _ _ => rfl) ?_)
  clear hK K
  go_wp2_with fail
  refine OnlyN.normal ?_
  go_wp2_with fail
  refine wp_region_textS [(3, 1), (44, 9)] [q, d, s] (by kernel_rfl) (by kernel_rfl) (cellsIn_cons hq (cellsIn_cons c0 (cellsIn_cons hs (cellsIn_nil _)))) ?_
  simp only [wpU, tagOf, chk, look, Nat.reduceBEq, Bool.false_eq_true, if_true, if_false, List.cons_append, List.nil_append, List.getElem?_toArray, List.getElem?_cons_zero, Nat.reduceEqDiff]
  intro K hK
  go_wp2_with fail
  refine OnlyN.normal (hK _ _ (fun _ _ => rfl) ?_)
  clear hK K
  intro K hK
  go_wp2_with fail
  refine OnlyN.normal (hK _ _ (fun _ => ⟨_, _, _, rfl, rfl, by simp⟩) ?_)
  clear hK K
  intro K hK
  go_wp2_with fail
  refine OnlyN.normal (hK _ _ (fun _ => ⟨_, _, _, rfl, rfl, by simp⟩) ?_)
  clear hK K
  intro K hK
  go_wp2_with fail
  refine OnlyN.normal (hK _ _ (fun _ _ => rfl) ?_)
  clear hK K
  intro K hK
  go_wp2_with fail
  refine OnlyN.normal (hK _ _ (fun _ => ⟨_, _, _, rfl, rfl, by simp⟩) ?_)
  clear hK K
  intro K hK
  go_wp2_with fail
  refine OnlyN.normal (hK _ _ (fun _ _ => rfl) ?_)
  clear hK K
  intro K hK
  go_wp2_with fail
  refine OnlyN.normal (hK _ _ (fun hw => by cases (show false = true from hw)) ?_)
  clear hK K
  intro K hK
  go_wp2_with fail
  refine OnlyN.normal (hK _ _ (fun hw => by cases (show false = true from hw)) ?_)
  clear hK K
  go_wp2_with fail
  refine OnlyN.normal ?_
  go_wp2
  go_ret
  exact ⟨by simp, 2, rfl⟩
end Go.Proofs.YtepncgeaehjhiaaGreat

namespace Go.Proofs.YtepncgeaehjhiaaGreat
open Go.RowKit

theorem sameIn_all {S : Nat → Prop} {bs : List Nat} {W w : World} (hc : Chg S W w) (h : ∀ k ∈ bs, k < W.heap.size ∧ ¬ S k) : SameIn bs W w := fun k hk => hc.block k (h k hk).1 (h k hk).2
theorem cell_lt {w : World} {k i : Nat} {u : Value} (h : w.cell? ⟨k, i, none⟩ = some u) : k < w.heap.size := World.block_lt_of_cell? w ⟨k, i, none⟩ h
theorem MapB.ne_cell {w : World} {b k i : Nat} {es : Array MapEntry} {clock : Nat} {u : Value} (h : MapB w b es clock) (h' : w.cell? ⟨k, i, none⟩ = some u) : k ≠ b := fun e => by
  subst e
  unfold MapB at h
  simp [World.cell?, h] at h'
theorem setB_cell {w : World} {b k i : Nat} {o : Obj} {u : Value} (h : w.cell? ⟨k, i, none⟩ = some u) (hne : k ≠ b) : (setB w b o).cell? ⟨k, i, none⟩ = some u := by
  rw [← h]
  exact World.cell?_of_block (setB_far w hne o)
theorem Blk.ne_type {w : World} {g g' : Nat} {t t' : TypeId} {cs cs' : Array Value} (h : Blk w g t cs) (h' : Blk w g' t' cs') (hne : t ≠ t') : g ≠ g' := fun e => by
  subst e
  have := Eq.trans (Eq.symm h) h'
  simp at this
  exact hne this.2
theorem RB.ne_map {w : World} {A : Option Addr} {n : Nat} {l : List UInt8} {b clock : Nat} {es : Array MapEntry} (h : RB w A n l) (hb : MapB w b es clock) : ∀ ad, A = some ad → 0 < n → ad.block ≠ b := by
  rintro ad rfl hn
  obtain ⟨ad', x, e, _, hc⟩ := h.at_ hn
  injection e with e
  subst e
  rintro rfl
  have hx : (ad.add 0).block = ad.block := block_add _ _
  unfold MapB at hb
  simp [World.cell?, hx, hb] at hc
theorem Fil.ne_map {O : Nat → Prop} {w : World} {g : Nat} {A : Option Addr} {c : Nat} {l : List UInt8} {sy b clock : Nat} {es : Array MapEntry} (h : Fil O w g A c l sy) (hb : MapB w b es clock) : ∀ ad, A = some ad → ad.block ≠ b := by
  rintro ad rfl
  rcases h.hA.2 with ⟨e, h3⟩ | ⟨g', cap, cur, e', hb', hg, rest⟩
  · cases e
  · injection e' with e1 e2 e3
    injection e1 with e1
    subst e1
    rintro rfl
    have := Eq.trans (Eq.symm hb) hg
    cases this

section
variable {O : Nat → Prop} {w w' : World} {d m : Nat} {es : Array MapEntry} {clock : Nat} {up armed : Bool} {left keep : Int} {n : Nat} {S : Nat → Prop}
theorem Dsk.chg (h : Dsk O w d m es clock up armed left keep n) (hc : Chg S w w') (h1 : ¬ S d) (h2 : ¬ S m) : Dsk O w' d m es clock up armed left keep n := ⟨h.hd.chg hc h1, h.hm.chg hc h2, h.od, h.om⟩
theorem Dsk.grew (h : Dsk O w d m es clock up armed left keep n) (hc : Grew w w') : Dsk O w' d m es clock up armed left keep n := h.chg hc (fun e => e) (fun e => e)
theorem Fil.chg {g : Nat} {A : Option Addr} {c : Nat} {l : List UInt8} {sy : Nat} (h : Fil O w g A c l sy) (hc : Chg S w w') (h1 : ¬ S g) (h2 : ∀ ad, A = some ad → ¬ S ad.block) : Fil O w' g A c l sy := ⟨h.hg.chg hc h1, h.hA.chg hc h2, h.og, h.oA⟩
theorem Fil.grew {g : Nat} {A : Option Addr} {c : Nat} {l : List UInt8} {sy : Nat} (h : Fil O w g A c l sy) (hc : Grew w w') : Fil O w' g A c l sy := h.chg hc (fun e => e) (fun _ _ e => e)
end

/-- a new file -/
def NewF (O : Nat → Prop) (w : World) (d m : Nat) (es : Array MapEntry) (clock : Nat) (up armed : Bool) (left keep : Int) (n : Nat) (x : ByteArray) (l : List UInt8) (e : Ending) (w' : World) : Prop :=
  e = .returned (.tuple #[]) ∧ ∃ g A c, Dsk O w' d m (es.push (entF x g clock)) (clock + 1) up armed left keep n ∧ Fil O w' g A c l 0 ∧ Chg (fun k => k = m) w w' ∧ w.heap.size ≤ g ∧ ∀ ad, A = some ad → w.heap.size ≤ ad.block

set_option maxRecDepth 100000 in
set_option maxHeartbeats 2000000 in
theorem do_new {O : Nat → Prop} {w : World} {d m : Nat} {es : Array MapEntry} {clock : Nat} {up armed : Bool} {left keep : Int} {n : Nat} (hO : ∀ k, w.heap.size ≤ k → O k) (hD : Dsk O w d m es clock up armed left keep n) (x : ByteArray)
    (h : Instr.findNow .string (.string x) es.toList 0 = some none) {p q s : Nat} {A : Option Addr} {k cap : Nat} {l : List UInt8} (hp : w.cell? ⟨p, 0, none⟩ = some (.string x)) (hq : w.cell? ⟨q, 0, none⟩ = some (.pointer (some ⟨d, 0, none⟩)))
    (hs : w.cell? ⟨s, 0, none⟩ = some (.slice A k cap)) (hr : RB w A k l) (hk : k ≤ 4194304) :
    Calls Tryz.prog 99 #[.pointer (some ⟨q, 0, none⟩), .pointer (some ⟨p, 0, none⟩), .pointer (some ⟨s, 0, none⟩)] w (NewF O w d m es clock up armed left keep n x l) := by
  have hl := look_disk hD.hm.drew h
  simp only [lookV] at hl
  have c0 := hD.c0
  go_enter Tryz.func99, Tryz.ntmps99
  go_wp2_with fail
  refine wp_region_textS [] [q, d, p] (by kernel_rfl) (by kernel_rfl) (cellsIn_cons hq (cellsIn_cons c0 (cellsIn_cons hp (cellsIn_nil _)))) ?_
  simp only [wpU, tagOf, chk, List.nil_append, List.cons_append]
  intro K hK
  go_wp2_with fail
  refine OnlyN.normal (hK _ _ (fun _ => ⟨_, _, _, rfl, rfl, by simp⟩) ?_)
  clear hK K
  intro K hK
  go_wp2_with fail
  refine OnlyN.normal (hK _ _ (fun _ => ⟨_, _, _, rfl, rfl, by simp⟩) ?_)
  clear hK K
  intro K hK
  go_wp2_with fail
  refine OnlyN.normal (hK _ _ (fun _ => ⟨_, _, _, rfl, rfl, by simp⟩) ?_)
  clear hK K
  intro K hK
  go_wp2_with fail
  refine OnlyN.normal (hK _ _ (fun _ _ => rfl) ?_)
  clear hK K
  go_wp2_with fail
  refine OnlyN.normal ?_
  clear hl
  go_wp2_with fail
  have hg1 : Grew w ((w.alloc (.cells #[.slice none 0 0, .int .i64 0] 77)).drew) := ((Chg.refl _ w).alloc _).drew
  have hb1 : Blk ((w.alloc (.cells #[.slice none 0 0, .int .i64 0] 77)).drew) w.heap.size 77 #[.slice none 0 0, .int .i64 0] := Blk.new w _ _
  have hz1 : ((w.alloc (.cells #[.slice none 0 0, .int .i64 0] 77)).drew).heap.size = w.heap.size + 1 := by simp
  obtain ⟨g, hgg⟩ : ∃ g, g = w.heap.size := ⟨_, rfl⟩
  rw [← hgg] at hb1 hz1
  have hD1 := hD.grew hg1
  have hp1 := hg1.cell hp (fun e => e)
  have hq1 := hg1.cell hq (fun e => e)
  have hs1 := hg1.cell hs (fun e => e)
  have hr1 := hr.grew hg1
  have c1 := hD1.c0
  generalize (w.alloc (.cells #[.slice none 0 0, .int .i64 0] 77)).drew = w1 at *
  rw [← hgg]
  have Hgg := Lib.hid hgg
  clear hgg
  clear hp hq hs hr c0 hD
  go_wp2_with fail
  refine wp_region_textS [] [q, d, p] (by kernel_rfl) (by kernel_rfl) (cellsIn_cons hq1 (cellsIn_cons c1 (cellsIn_cons hp1 (cellsIn_nil _)))) ?_
  simp only [wpU, tagOf, chk, List.nil_append, List.cons_append]
  intro K hK
  go_wp2_with fail
  refine OnlyN.normal (hK _ _ (fun _ => ⟨_, _, _, rfl, rfl, by simp⟩) ?_)
  clear hK K
  intro K hK
  go_wp2_with fail
  refine OnlyN.normal (hK _ _ (fun _ => ⟨_, _, _, rfl, rfl, by simp⟩) ?_)
  clear hK K
  intro K hK
  go_wp2_with fail
  refine OnlyN.normal (hK _ _ (fun _ => ⟨_, _, _, rfl, rfl, by simp⟩) ?_)
  clear hK K
  have hput := run_put_new (P := Tryz.prog) Tryz.underlying44 Tryz.underlying9 hD1.hm.drew (.pointer (some ⟨g, 0, none⟩)) h
  have hc2 : Chg (fun k => k = m) w1 (setB w1.drew m (.map (es.push ⟨.string x, .pointer (some ⟨g, 0, none⟩), clock⟩) (clock + 1))) := Chg.setB (S := fun k => k = m) (Chg.refl _ w1).drew (k := m) (.inr rfl) _
  have hm2 : MapB (setB w1.drew m (.map (es.push ⟨.string x, .pointer (some ⟨g, 0, none⟩), clock⟩) (clock + 1))) m (es.push (entF x g clock)) (clock + 1) := hD1.hm.drew.set _ _
  have hn1 := hD1.hm.ne_cell hq1
  have hn2 := hD1.hm.ne_cell c1
  have hn3 := hD1.hm.ne_cell hp1
  have hn4 := hD1.hm.ne_cell hs1
  have hn5 : g ≠ m := fun e => hD1.hm.ne_blk hb1 e.symm
  intro K hK
  go_wp2_with (at_mapUpdate; refine wpList_put rfl _ _ _ _ rfl m rfl _ rfl _ rfl _ hput ?_)
  refine OnlyN.normal (hK _ _ (sameIn_all hc2 (by
    intro k hk
    simp only [List.mem_cons, List.not_mem_nil, or_false] at hk
    rcases hk with rfl | rfl | rfl
    · exact ⟨cell_lt hq1, hn1⟩
    · exact ⟨cell_lt c1, hn2⟩
    · exact ⟨cell_lt hp1, hn3⟩)) ?_)
  clear hK K
  go_wp2_with fail
  refine OnlyN.normal ?_
  have hD2 : Dsk O (setB w1.drew m (.map (es.push ⟨.string x, .pointer (some ⟨g, 0, none⟩), clock⟩) (clock + 1))) d m (es.push (entF x g clock)) (clock + 1) up armed left keep n := ⟨hD1.hd.chg hc2 hn2, hm2, hD1.od, hD1.om⟩
  have hb2 := hb1.chg hc2 hn5
  have hs2 := hc2.cell hs1 hn4
  have hr2 := hr1.far hc2 (hr1.ne_map hD1.hm)
  have hz2 : (setB w1.drew m (.map (es.push ⟨.string x, .pointer (some ⟨g, 0, none⟩), clock⟩) (clock + 1))).heap.size = g + 1 := by rw [setB_size]; exact hz1
  clear hput hm2
  generalize setB w1.drew m (.map (es.push ⟨.string x, .pointer (some ⟨g, 0, none⟩), clock⟩) (clock + 1)) = w2 at *
  have g0 : w2.cell? ⟨g, 0, none⟩ = some (.slice none 0 0) := hb2.cell 0
  have hgl := hb2.lt
  go_wp2_with fail
  refine wp_region_textL [] [g, s] (by kernel_rfl) (by kernel_rfl) (cellsIn_cons g0 (cellsIn_cons hs2 (cellsIn_nil _))) ?_
  simp only [wpUL, tagOf, chk, List.cons_append, List.nil_append]
  intro K hK
  go_wp2_with fail
  refine OnlyN.normal (hK _ _ (fun _ => ⟨_, _, _, rfl, rfl, by simp⟩) ?_)
  clear hK K
  intro K hK
  go_wp2_with fail
  refine OnlyN.normal (hK _ _ (fun _ => ⟨_, _, _, rfl, rfl, by simp⟩) ?_)
  clear hK K
  intro K hK
  go_wp2_with (at_builtin; refine wpList_appB rfl _ _ rfl 0 none 0 0 [] rfl (Own.nil _ _ _ _) (Nat.zero_le _) A k cap l rfl (by exact hr2) (by omega) ?_; intro A' c' w3 h3)
  have hg3 : Grew w2 w3 := (Chg.refl _ w2).drew.step h3.chg (fun k _ ⟨ad, e, _⟩ => by cases e)
  refine OnlyN.normal (hK _ _ (sameIn_all hg3 (by
    intro k hk
    simp only [List.mem_cons, List.not_mem_nil, or_false] at hk
    rcases hk with rfl | rfl
    · exact ⟨hgl, fun e => e⟩
    · exact ⟨cell_lt hs2, fun e => e⟩)) ?_)
  clear hK K
  have hb3 := hb2.grew hg3
  have k0 : w3.cell? ⟨g, 0, none⟩ = some (.slice none 0 0) := hb3.cell 0
  have f0 : w3.frozen? ⟨g, 0, none⟩ = false := hb3.frozen 0
  go_wp2_with fail
  refine OnlyN.normal ?_
  go_wp2
  go_end0
  have hkl : l.length = k := hr2.1
  subst hkl
  have hw : g = w.heap.size := Hgg.out
  have hob := h3.ob
  simp only [Nat.zero_add, List.nil_append] at hob
  have hA3 : ∀ ad, A' = some ad → w.heap.size ≤ ad.block := fun ad e => by
    rcases h3.2.2 with ⟨e1, _⟩ | ⟨e1, _⟩
    · rw [e1] at e; cases e
    · rw [e1] at e
      injection e with e
      subst e
      show w.heap.size ≤ w2.heap.size
      omega
  have hD3 := hD2.grew hg3
  have hset : Chg (fun j => j = g) w3 (w3.setCell ⟨g, 0, none⟩ (.slice A' l.length c')) := Chg.one w3 g 0 _
  refine ⟨rfl, g, A', c', hD3.chg hset (hD3.hd.ne_type hb3 (by decide)) (fun e => hn5 e.symm), ⟨?_, ?_, hO _ (by omega), fun ad e => hO _ (hA3 ad e)⟩, ?_, by omega, hA3⟩
  · exact hb3.set 0 (.slice A' l.length c')
  · exact Own.chg hob hset (hob.ne_blk hb3 (by decide))
  · have h5 := ((Chg.of_grew (S := fun k => k = m) hg1).trans hc2).grow hg3
    exact h5.setCell (p := ⟨g, 0, none⟩) (.inl (by show _ ≤ g; omega)) (.slice A' l.length c')

/-- bytes behind those of a file -/
def OldF (O : Nat → Prop) (w : World) (d m : Nat) (es : Array MapEntry) (clock : Nat) (up armed : Bool) (left keep : Int) (n : Nat) (g : Nat) (A : Option Addr) (l : List UInt8) (sy : Nat) (e : Ending) (w' : World) : Prop :=
  e = .returned (.tuple #[]) ∧ ∃ A' c, Dsk O w' d m es clock up armed left keep n ∧ Fil O w' g A' c l sy ∧ Chg (fun k => k = g ∨ ∃ ad, A = some ad ∧ k = ad.block) w w'

set_option maxRecDepth 100000 in
set_option maxHeartbeats 2000000 in
theorem do_old {O : Nat → Prop} {w : World} {d m : Nat} {es : Array MapEntry} {clock : Nat} {up armed : Bool} {left keep : Int} {n : Nat} (hO : ∀ k, w.heap.size ≤ k → O k) (hD : Dsk O w d m es clock up armed left keep n) (x : ByteArray) {i g : Nat}
    (h : Instr.findNow .string (.string x) es.toList 0 = some (some (i, .pointer (some ⟨g, 0, none⟩)))) {A0 : Option Addr} {cap0 sy : Nat} {l0 : List UInt8} (hF : Fil O w g A0 cap0 l0 sy) {p q s : Nat} {A : Option Addr} {k cap : Nat} {l : List UInt8} (hp : w.cell? ⟨p, 0, none⟩ = some (.string x)) (hq : w.cell? ⟨q, 0, none⟩ = some (.pointer (some ⟨d, 0, none⟩)))
    (hs : w.cell? ⟨s, 0, none⟩ = some (.slice A k cap)) (hsn : ∀ ad, A0 = some ad → ad.block ≠ s) (hr : RB w A k l) (hk : l0.length + k ≤ 4194304) :
    Calls Tryz.prog 99 #[.pointer (some ⟨q, 0, none⟩), .pointer (some ⟨p, 0, none⟩), .pointer (some ⟨s, 0, none⟩)] w (OldF O w d m es clock up armed left keep n g A0 (l0 ++ l) sy) := by
  have hl := look_disk hD.hm.drew h
  simp only [lookV] at hl
  have c0 := hD.c0
  have hb := hF.hg
  have hob := hF.hA
  have hgs : w.cell? ⟨g, 0, none⟩ = some (.slice A0 l0.length cap0) := hb.cell 0
  have hgl := hb.lt
  go_enter Tryz.func99, Tryz.ntmps99
  go_wp2_with fail
  refine wp_region_textS [] [q, d, p] (by kernel_rfl) (by kernel_rfl) (cellsIn_cons hq (cellsIn_cons c0 (cellsIn_cons hp (cellsIn_nil _)))) ?_
  simp only [wpU, tagOf, chk, List.nil_append, List.cons_append]
  intro K hK
  go_wp2_with fail
  refine OnlyN.normal (hK _ _ (fun _ => ⟨_, _, _, rfl, rfl, by simp⟩) ?_)
  clear hK K
  intro K hK
  go_wp2_with fail
  refine OnlyN.normal (hK _ _ (fun _ => ⟨_, _, _, rfl, rfl, by simp⟩) ?_)
  clear hK K
  intro K hK
  go_wp2_with fail
  refine OnlyN.normal (hK _ _ (fun _ => ⟨_, _, _, rfl, rfl, by simp⟩) ?_)
  clear hK K
  intro K hK
  go_wp2_with fail
  refine OnlyN.normal (hK _ _ (fun _ _ => rfl) ?_)
  clear hK K
  go_wp2_with fail
  refine OnlyN.normal ?_
  clear hl hp hq c0
  go_wp2_with fail
  refine wp_region_textL [] [g, s] (by kernel_rfl) (by kernel_rfl) (cellsIn_cons hgs (cellsIn_cons hs (cellsIn_nil _))) ?_
  simp only [wpUL, tagOf, chk, List.cons_append, List.nil_append]
  intro K hK
  go_wp2_with fail
  refine OnlyN.normal (hK _ _ (fun _ => ⟨_, _, _, rfl, rfl, by simp⟩) ?_)
  clear hK K
  intro K hK
  go_wp2_with fail
  refine OnlyN.normal (hK _ _ (fun _ => ⟨_, _, _, rfl, rfl, by simp⟩) ?_)
  clear hK K
  intro K hK
  go_wp2_with (at_builtin; refine wpList_appB rfl _ _ rfl 0 A0 l0.length cap0 l0 rfl (by exact hob) (Nat.zero_le _) A k cap l rfl (by exact hr) (by omega) ?_; intro A' c' w3 h3)
  have hne := hob.ne_blk hb (by decide)
  have hc3 : Chg (fun j => ∃ ad, A0 = some ad ∧ j = ad.block) w w3 := Chg.trans ((Chg.refl _ w).drew.drew) h3.chg
  refine OnlyN.normal (hK _ _ (sameIn_all (Chg.trans ((Chg.refl _ w.drew).drew) h3.chg) (by
    intro j hj
    simp only [List.mem_cons, List.not_mem_nil, or_false] at hj
    rcases hj with rfl | rfl
    · exact ⟨hgl, fun ⟨ad, e, he⟩ => hne ad e he.symm⟩
    · exact ⟨cell_lt hs, fun ⟨ad, e, he⟩ => hsn ad e he.symm⟩)) ?_)
  clear hK K
  have hb3 := hb.chg hc3 (fun ⟨ad, e, he⟩ => hne ad e he.symm)
  have k0 : w3.cell? ⟨g, 0, none⟩ = some (.slice A0 l0.length cap0) := hb3.cell 0
  have f0 : w3.frozen? ⟨g, 0, none⟩ = false := hb3.frozen 0
  go_wp2_with fail
  refine OnlyN.normal ?_
  go_wp2
  go_end0
  have hkl : l.length = k := hr.1
  subst hkl
  have hob3 := h3.ob
  have hD3 := hD.chg hc3 (fun ⟨ad, e, he⟩ => hob.ne_blk hD.hd (by decide) ad e he.symm) (fun ⟨ad, e, he⟩ => hF.ne_map hD.hm ad e he.symm)
  have hset : Chg (fun j => j = g) w3 (w3.setCell ⟨g, 0, none⟩ (.slice A' (l0.length + l.length) c')) := Chg.one w3 g 0 _
  refine ⟨rfl, A', c', hD3.chg hset (hD3.hd.ne_type hb3 (by decide)) (hD3.hm.ne_blk hb3), ⟨?_, ?_, hF.og, fun ad e => ?_⟩, ?_⟩
  · rw [List.length_append]
    exact hb3.set 0 (.slice A' (l0.length + l.length) c')
  · rw [List.length_append]
    exact Own.chg hob3 hset (hob3.ne_blk hb3 (by decide))
  · rcases h3.2.2 with ⟨e1, _⟩ | ⟨e1, _⟩
    · rw [e1] at e
      exact hF.oA ad e
    · rw [e1] at e
      injection e with e
      subst e
      exact hO _ (Nat.le_refl _)
  · have h5 : Chg (fun k => k = g ∨ ∃ ad, A0 = some ad ∧ k = ad.block) w w3 := hc3.mono fun j _ h => .inr h
    exact h5.setCell (p := ⟨g, 0, none⟩) (.inr (.inl rfl)) (.slice A' (l0.length + l.length) c')
end Go.Proofs.YtepncgeaehjhiaaGreat
