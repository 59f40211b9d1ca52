/-
  Several texts in one:
  Whether there is such a file; what Append, Sync and Rename ask ahead. Conditions: names of one letter.
  What Append does: a new file, or bytes behind those of a file. Conditions: names of one letter; lengths within the file's bound.
  What Append asks of a file that is there; Sync's and Rename's questions and deeds. Conditions: names of one letter.
  The power goes: what stays of a disk of one file. Conditions: one file, within the file's bound.
  A write of the disk, whatever it asks and does. Conditions: counts that have not come to their ends.
  Append: a new file; bytes behind those of a file; the power off; the power going. Conditions: names of one letter; lengths within the file's bound.
-/
import Derived.Test.YtepncgeaehjhiaaPart1
import Derived.Test.YtepncgeaehjhiaaPart3
import Derived.Shelf.Abstract

namespace Go.Proofs.Ytepncgeaehjhiaa
open Go.RowKit

theorem zeroPF (w : World) : (zeroValue 77).run Try.prog w = .ok (.pointer none) w := by kernel_rfl
def lookV (r : Option (Nat × Value)) : Value := match r with | some (_, v) => v | none => .pointer none
theorem look_disk {w : World} {m : Nat} {es : Array MapEntry} {clock : Nat} (hm : MapB w m es clock) {s : ByteArray} {r : Option (Nat × Value)} (h : Instr.findNow .string (.string s) es.toList 0 = some r) :
    (Instr.lookup 57 (.map (some m)) (.string s) false).run Try.prog w = .ok (lookV r) w := by
  have := run_look (P := Try.prog) Try.underlying57 Try.underlying9 (zeroPF w) hm h
  cases r <;> exact this

theorem MapB.drew {w : World} {b : Nat} {es : Array MapEntry} {clock : Nat} (h : MapB w b es clock) : MapB w.drew b es clock := h
theorem cellsIn_nil (w : World) : CellsIn [] w := fun k hk => by cases hk
theorem cellsIn_cons {w : World} {k i : Nat} {u : Value} {bs : List Nat} (h : w.cell? ⟨k, i, none⟩ = some u) (hs : CellsIn bs w) : CellsIn (k :: bs) w := fun j hj => by
  rcases List.mem_cons.1 hj with rfl | hj
  · exact cellsIn_cell h j (by simp)
  · exact hs j hj

section
variable {O : Nat → Prop} {w : World} {d m : Nat} {es : Array MapEntry} {clock : Nat} {up armed : Bool} {left keep : Int} {n : Nat}
theorem Dsk.c0 (h : Dsk O w d m es clock up armed left keep n) : w.cell? ⟨d, 0, none⟩ = some (.map (some m)) := h.hd.cell 0
theorem Dsk.c1 (h : Dsk O w d m es clock up armed left keep n) : w.cell? ⟨d, 1, none⟩ = some (.bool up) := h.hd.cell 1
theorem Dsk.c2 (h : Dsk O w d m es clock up armed left keep n) : w.cell? ⟨d, 2, none⟩ = some (.bool armed) := h.hd.cell 2
theorem Dsk.c3 (h : Dsk O w d m es clock up armed left keep n) : w.cell? ⟨d, 3, none⟩ = some (.int .i64 left) := h.hd.cell 3
theorem Dsk.c4 (h : Dsk O w d m es clock up armed left keep n) : w.cell? ⟨d, 4, none⟩ = some (.int .i64 keep) := h.hd.cell 4
theorem Dsk.c5 (h : Dsk O w d m es clock up armed left keep n) : w.cell? ⟨d, 5, none⟩ = some (.int .u64 (n : Int)) := h.hd.cell 5
end

set_option maxHeartbeats 400000 in
theorem there_yes {O : Nat → Prop} {w : World} {d m : Nat} {es : Array MapEntry} {clock : Nat} {up armed : Bool} {left keep : Int} {n : Nat} (hD : Dsk O w d m es clock up armed left keep n) (x : ByteArray) (hc : NmOk x) {i g : Nat}
    (h : Instr.findNow .string (.string x) es.toList 0 = some (some (i, .pointer (some ⟨g, 0, none⟩)))) :
    Calls Try.prog 41 #[.pointer (some ⟨d, 0, none⟩), .string x] w fun e w' => e = .returned (.int .i64 0) ∧ w = w' := by
  have hN := name_ok x hc
  have hl := look_disk hD.hm h
  have c0 := hD.c0
  simp only [lookV] at hl
  clear h hD hc
  go_enter Try.func41, Try.ntmps41
  go_wp2_with fail
  refine (hN _).mono ?_
  rintro e w1 ⟨rfl, rfl⟩
  go_wp2
  go_ret
  exact ⟨by simp, rfl⟩
set_option maxHeartbeats 400000 in
theorem there_no {O : Nat → Prop} {w : World} {d m : Nat} {es : Array MapEntry} {clock : Nat} {up armed : Bool} {left keep : Int} {n : Nat} (hD : Dsk O w d m es clock up armed left keep n) (x : ByteArray) (hc : NmOk x)
    (h : Instr.findNow .string (.string x) es.toList 0 = some none) :
    Calls Try.prog 41 #[.pointer (some ⟨d, 0, none⟩), .string x] w fun e w' => e = .returned (.int .i64 62) ∧ w = w' := by
  have hN := name_ok x hc
  have hl := look_disk hD.hm h
  have c0 := hD.c0
  simp only [lookV] at hl
  clear h hD hc
  go_enter Try.func41, Try.ntmps41
  go_wp2_with fail
  refine (hN _).mono ?_
  rintro e w1 ⟨rfl, rfl⟩
  go_wp2
  go_ret
  exact ⟨by simp, rfl⟩

/-! ### Append's question -/
set_option maxHeartbeats 800000 in
theorem app_new {O : Nat → Prop} {w : World} {d m : Nat} {es : Array MapEntry} {clock : Nat} {up armed : Bool} {left keep : Int} {n : Nat} (hD : Dsk O w d m es clock up armed left keep n) (x : ByteArray) (hc : NmOk x)
    (h : Instr.findNow .string (.string x) es.toList 0 = some none) (hes : es.size < 1048576) {p q s : Nat} {A : Option Addr} {k cap : Nat} (hp : w.cell? ⟨p, 0, none⟩ = some (.string x)) (hq : w.cell? ⟨q, 0, none⟩ = some (.pointer (some ⟨d, 0, none⟩)))
    (hs : w.cell? ⟨s, 0, none⟩ = some (.slice A k cap)) (hk : k ≤ 4194304) :
    Calls Try.prog 61 #[.pointer (some ⟨p, 0, none⟩), .pointer (some ⟨q, 0, none⟩), .pointer (some ⟨s, 0, none⟩)] w fun e w' => e = .returned (.int .i64 0) ∧ ∃ k, w' = w.drewN k := by
  have hN := name_ok x hc
  have hl := look_disk hD.hm.drew h
  have c0 := hD.c0
  have hlen : (Builtin.len_ #[57] 3 #[.map (some m)]).run Try.prog w.drew.drew = .ok (.int .i64 (es.size : Int)) w.drew.drew := by
    have hb := hD.hm.drew.drew
    unfold MapB at hb
    simp [Builtin.len_, run_underlying Try.underlying57, MapKept.run_getObj_map hb, Result.andThen, goInt]
  have e1 : decide ((1048576 : Int) ≤ (es.size : Int)) = false := decide_eq_false (by omega)
  have e2 : decide ((4194304 : Int) < (k : Int)) = false := decide_eq_false (by omega)
  simp only [lookV] at hl
  clear h hD hc
  go_enter Try.func61, Try.ntmps61
  go_wp2_with fail
  refine (hN _).mono ?_
  rintro e w1 ⟨rfl, rfl⟩
  go_wp2_with fail
  refine wp_region_textS [] [q, d, p] (by kernel_rfl) (by kernel_rfl) (cellsIn_cons hq (cellsIn_cons c0 (cellsIn_cons hp (cellsIn_nil _)))) ?_
  simp only [wpU, tagOf, chk, List.nil_append, List.cons_append]
  intro K hK
  go_wp2_with fail
  refine OnlyN.normal (hK _ _ (fun _ => ⟨_, _, _, rfl, rfl, by simp⟩) ?_)
  clear hK K
  intro K hK
  go_wp2_with fail
  refine OnlyN.normal (hK _ _ (fun _ => ⟨_, _, _, rfl, rfl, by simp⟩) ?_)
  clear hK K
  intro K hK
  go_wp2_with fail
  refine OnlyN.normal (hK _ _ (fun _ => ⟨_, _, _, rfl, rfl, by simp⟩) ?_)
  clear hK K
  intro K hK
  go_wp2_with fail
  refine OnlyN.normal (hK _ _ (fun _ _ => rfl) ?_)
  clear hK K
  go_wp2_with fail
  refine OnlyN.normal ?_
  go_wp2_with fail
  refine wp_region_textS [(3, 1), (57, 9)] [q, d, s] (by kernel_rfl) (by kernel_rfl) (cellsIn_cons hq (cellsIn_cons c0 (cellsIn_cons hs (cellsIn_nil _)))) ?_
  simp only [wpU, tagOf, chk, look, Nat.reduceBEq, Bool.false_eq_true, if_true, if_false, List.cons_append, List.nil_append, List.getElem?_toArray, List.getElem?_cons_zero, Nat.reduceEqDiff]
  intro K hK
  go_wp2_with fail
  refine OnlyN.normal (hK _ _ (fun _ _ => rfl) ?_)
  clear hK K
  intro K hK
  go_wp2_with fail
  refine OnlyN.normal (hK _ _ (fun _ => ⟨_, _, _, rfl, rfl, by simp⟩) ?_)
  clear hK K
  intro K hK
  go_wp2_with fail
  refine OnlyN.normal (hK _ _ (fun _ => ⟨_, _, _, rfl, rfl, by simp⟩) ?_)
  clear hK K
  intro K hK
  go_wp2_with fail
  refine OnlyN.normal (hK _ _ (fun _ _ => rfl) ?_)
  clear hK K
  intro K hK
  go_wp2_with fail
  refine OnlyN.normal (hK _ _ (fun _ => ⟨_, _, _, rfl, rfl, by simp⟩) ?_)
  clear hK K
  intro K hK
  go_wp2_with fail
  refine OnlyN.normal (hK _ _ (fun _ _ => rfl) ?_)
  clear hK K
  intro K hK
  go_wp2_with fail
  refine OnlyN.normal (hK _ _ (fun hw => by cases (show false = true from hw)) ?_)
  clear hK K
  intro K hK
  go_wp2_with fail
  refine OnlyN.normal (hK _ _ (fun hw => by cases (show false = true from hw)) ?_)
  clear hK K
  go_wp2_with fail
  refine OnlyN.normal ?_
  go_wp2
  go_ret
  exact ⟨by simp, 2, rfl⟩
end Go.Proofs.Ytepncgeaehjhiaa

namespace Go.Proofs.Ytepncgeaehjhiaa
open Go.RowKit

theorem sameIn_all {S : Nat → Prop} {bs : List Nat} {W w : World} (hc : Chg S W w) (h : ∀ k ∈ bs, k < W.heap.size ∧ ¬ S k) : SameIn bs W w := fun k hk => hc.block k (h k hk).1 (h k hk).2
theorem cell_lt {w : World} {k i : Nat} {u : Value} (h : w.cell? ⟨k, i, none⟩ = some u) : k < w.heap.size := World.block_lt_of_cell? w ⟨k, i, none⟩ h
theorem MapB.ne_cell {w : World} {b k i : Nat} {es : Array MapEntry} {clock : Nat} {u : Value} (h : MapB w b es clock) (h' : w.cell? ⟨k, i, none⟩ = some u) : k ≠ b := fun e => by
  subst e
  unfold MapB at h
  simp [World.cell?, h] at h'
theorem setB_cell {w : World} {b k i : Nat} {o : Obj} {u : Value} (h : w.cell? ⟨k, i, none⟩ = some u) (hne : k ≠ b) : (setB w b o).cell? ⟨k, i, none⟩ = some u := by
  rw [← h]
  exact World.cell?_of_block (setB_far w hne o)
theorem Blk.ne_type {w : World} {g g' : Nat} {t t' : TypeId} {cs cs' : Array Value} (h : Blk w g t cs) (h' : Blk w g' t' cs') (hne : t ≠ t') : g ≠ g' := fun e => by
  subst e
  have := Eq.trans (Eq.symm h) h'
  simp at this
  exact hne this.2
theorem RB.ne_map {w : World} {A : Option Addr} {n : Nat} {l : List UInt8} {b clock : Nat} {es : Array MapEntry} (h : RB w A n l) (hb : MapB w b es clock) : ∀ ad, A = some ad → 0 < n → ad.block ≠ b := by
  rintro ad rfl hn
  obtain ⟨ad', x, e, _, hc⟩ := h.at_ hn
  injection e with e
  subst e
  rintro rfl
  have hx : (ad.add 0).block = ad.block := block_add _ _
  unfold MapB at hb
  simp [World.cell?, hx, hb] at hc
theorem Fil.ne_map {O : Nat → Prop} {w : World} {g : Nat} {A : Option Addr} {c : Nat} {l : List UInt8} {sy b clock : Nat} {es : Array MapEntry} (h : Fil O w g A c l sy) (hb : MapB w b es clock) : ∀ ad, A = some ad → ad.block ≠ b := by
  rintro ad rfl
  rcases h.hA.2 with ⟨e, h3⟩ | ⟨g', cap, cur, e', hb', hg, rest⟩
  · cases e
  · injection e' with e1 e2 e3
    injection e1 with e1
    subst e1
    rintro rfl
    have := Eq.trans (Eq.symm hb) hg
    cases this

section
variable {O : Nat → Prop} {w w' : World} {d m : Nat} {es : Array MapEntry} {clock : Nat} {up armed : Bool} {left keep : Int} {n : Nat} {S : Nat → Prop}
theorem Dsk.chg (h : Dsk O w d m es clock up armed left keep n) (hc : Chg S w w') (h1 : ¬ S d) (h2 : ¬ S m) : Dsk O w' d m es clock up armed left keep n := ⟨h.hd.chg hc h1, h.hm.chg hc h2, h.od, h.om⟩
theorem Dsk.grew (h : Dsk O w d m es clock up armed left keep n) (hc : Grew w w') : Dsk O w' d m es clock up armed left keep n := h.chg hc (fun e => e) (fun e => e)
theorem Fil.chg {g : Nat} {A : Option Addr} {c : Nat} {l : List UInt8} {sy : Nat} (h : Fil O w g A c l sy) (hc : Chg S w w') (h1 : ¬ S g) (h2 : ∀ ad, A = some ad → ¬ S ad.block) : Fil O w' g A c l sy := ⟨h.hg.chg hc h1, h.hA.chg hc h2, h.og, h.oA⟩
theorem Fil.grew {g : Nat} {A : Option Addr} {c : Nat} {l : List UInt8} {sy : Nat} (h : Fil O w g A c l sy) (hc : Grew w w') : Fil O w' g A c l sy := h.chg hc (fun e => e) (fun _ _ e => e)
end

/-- a new file -/
def NewF (O : Nat → Prop) (w : World) (d m : Nat) (es : Array MapEntry) (clock : Nat) (up armed : Bool) (left keep : Int) (n : Nat) (x : ByteArray) (l : List UInt8) (e : Ending) (w' : World) : Prop :=
  e = .returned (.tuple #[]) ∧ ∃ g A c, Dsk O w' d m (es.push (entF x g clock)) (clock + 1) up armed left keep n ∧ Fil O w' g A c l 0 ∧ Chg (fun k => k = m) w w' ∧ w.heap.size ≤ g ∧ ∀ ad, A = some ad → w.heap.size ≤ ad.block

set_option maxRecDepth 100000 in
set_option maxHeartbeats 2000000 in
theorem do_new {O : Nat → Prop} {w : World} {d m : Nat} {es : Array MapEntry} {clock : Nat} {up armed : Bool} {left keep : Int} {n : Nat} (hO : ∀ k, w.heap.size ≤ k → O k) (hD : Dsk O w d m es clock up armed left keep n) (x : ByteArray)
    (h : Instr.findNow .string (.string x) es.toList 0 = some none) {p q s : Nat} {A : Option Addr} {k cap : Nat} {l : List UInt8} (hp : w.cell? ⟨p, 0, none⟩ = some (.string x)) (hq : w.cell? ⟨q, 0, none⟩ = some (.pointer (some ⟨d, 0, none⟩)))
    (hs : w.cell? ⟨s, 0, none⟩ = some (.slice A k cap)) (hr : RB w A k l) (hk : k ≤ 4194304) :
    Calls Try.prog 60 #[.pointer (some ⟨q, 0, none⟩), .pointer (some ⟨p, 0, none⟩), .pointer (some ⟨s, 0, none⟩)] w (NewF O w d m es clock up armed left keep n x l) := by
  have hl := look_disk hD.hm.drew h
  simp only [lookV] at hl
  have c0 := hD.c0
  go_enter Try.func60, Try.ntmps60
  go_wp2_with fail
  refine wp_region_textS [] [q, d, p] (by kernel_rfl) (by kernel_rfl) (cellsIn_cons hq (cellsIn_cons c0 (cellsIn_cons hp (cellsIn_nil _)))) ?_
  simp only [wpU, tagOf, chk, List.nil_append, List.cons_append]
  intro K hK
  go_wp2_with fail
  refine OnlyN.normal (hK _ _ (fun _ => ⟨_, _, _, rfl, rfl, by simp⟩) ?_)
  clear hK K
  intro K hK
  go_wp2_with fail
  refine OnlyN.normal (hK _ _ (fun _ => ⟨_, _, _, rfl, rfl, by simp⟩) ?_)
  clear hK K
  intro K hK
  go_wp2_with fail
  refine OnlyN.normal (hK _ _ (fun _ => ⟨_, _, _, rfl, rfl, by simp⟩) ?_)
  clear hK K
  intro K hK
  go_wp2_with fail
  refine OnlyN.normal (hK _ _ (fun _ _ => rfl) ?_)
  clear hK K
  go_wp2_with fail
  refine OnlyN.normal ?_
  clear hl
  go_wp2_with fail
  have hg1 : Grew w ((w.alloc (.cells #[.slice none 0 0, .int .i64 0] 79)).drew) := ((Chg.refl _ w).alloc _).drew
  have hb1 : Blk ((w.alloc (.cells #[.slice none 0 0, .int .i64 0] 79)).drew) w.heap.size 79 #[.slice none 0 0, .int .i64 0] := Blk.new w _ _
  have hz1 : ((w.alloc (.cells #[.slice none 0 0, .int .i64 0] 79)).drew).heap.size = w.heap.size + 1 := by simp
  obtain ⟨g, hgg⟩ : ∃ g, g = w.heap.size := ⟨_, rfl⟩
  rw [← hgg] at hb1 hz1
  have hD1 := hD.grew hg1
  have hp1 := hg1.cell hp (fun e => e)
  have hq1 := hg1.cell hq (fun e => e)
  have hs1 := hg1.cell hs (fun e => e)
  have hr1 := hr.grew hg1
  have c1 := hD1.c0
  generalize (w.alloc (.cells #[.slice none 0 0, .int .i64 0] 79)).drew = w1 at *
  rw [← hgg]
  have Hgg := Lib.hid hgg
  clear hgg
  clear hp hq hs hr c0 hD
  go_wp2_with fail
  refine wp_region_textS [] [q, d, p] (by kernel_rfl) (by kernel_rfl) (cellsIn_cons hq1 (cellsIn_cons c1 (cellsIn_cons hp1 (cellsIn_nil _)))) ?_
  simp only [wpU, tagOf, chk, List.nil_append, List.cons_append]
  intro K hK
  go_wp2_with fail
  refine OnlyN.normal (hK _ _ (fun _ => ⟨_, _, _, rfl, rfl, by simp⟩) ?_)
  clear hK K
  intro K hK
  go_wp2_with fail
  refine OnlyN.normal (hK _ _ (fun _ => ⟨_, _, _, rfl, rfl, by simp⟩) ?_)
  clear hK K
  intro K hK
  go_wp2_with fail
  refine OnlyN.normal (hK _ _ (fun _ => ⟨_, _, _, rfl, rfl, by simp⟩) ?_)
  clear hK K
  have hput := run_put_new (P := Try.prog) Try.underlying57 Try.underlying9 hD1.hm.drew (.pointer (some ⟨g, 0, none⟩)) h
  have hc2 : Chg (fun k => k = m) w1 (setB w1.drew m (.map (es.push ⟨.string x, .pointer (some ⟨g, 0, none⟩), clock⟩) (clock + 1))) := Chg.setB (S := fun k => k = m) (Chg.refl _ w1).drew (k := m) (.inr rfl) _
  have hm2 : MapB (setB w1.drew m (.map (es.push ⟨.string x, .pointer (some ⟨g, 0, none⟩), clock⟩) (clock + 1))) m (es.push (entF x g clock)) (clock + 1) := hD1.hm.drew.set _ _
  have hn1 := hD1.hm.ne_cell hq1
  have hn2 := hD1.hm.ne_cell c1
  have hn3 := hD1.hm.ne_cell hp1
  have hn4 := hD1.hm.ne_cell hs1
  have hn5 : g ≠ m := fun e => hD1.hm.ne_blk hb1 e.symm
  intro K hK
  go_wp2_with (at_mapUpdate; refine wpList_put rfl _ _ _ _ rfl m rfl _ rfl _ rfl _ hput ?_)
  refine OnlyN.normal (hK _ _ (sameIn_all hc2 (by
    intro k hk
    simp only [List.mem_cons, List.not_mem_nil, or_false] at hk
    rcases hk with rfl | rfl | rfl
    · exact ⟨cell_lt hq1, hn1⟩
    · exact ⟨cell_lt c1, hn2⟩
    · exact ⟨cell_lt hp1, hn3⟩)) ?_)
  clear hK K
  go_wp2_with fail
  refine OnlyN.normal ?_
  have hD2 : Dsk O (setB w1.drew m (.map (es.push ⟨.string x, .pointer (some ⟨g, 0, none⟩), clock⟩) (clock + 1))) d m (es.push (entF x g clock)) (clock + 1) up armed left keep n := ⟨hD1.hd.chg hc2 hn2, hm2, hD1.od, hD1.om⟩
  have hb2 := hb1.chg hc2 hn5
  have hs2 := hc2.cell hs1 hn4
  have hr2 := hr1.far hc2 (hr1.ne_map hD1.hm)
  have hz2 : (setB w1.drew m (.map (es.push ⟨.string x, .pointer (some ⟨g, 0, none⟩), clock⟩) (clock + 1))).heap.size = g + 1 := by rw [setB_size]; exact hz1
  clear hput hm2
  generalize setB w1.drew m (.map (es.push ⟨.string x, .pointer (some ⟨g, 0, none⟩), clock⟩) (clock + 1)) = w2 at *
  have g0 : w2.cell? ⟨g, 0, none⟩ = some (.slice none 0 0) := hb2.cell 0
  have hgl := hb2.lt
  go_wp2_with fail
  refine wp_region_textL [] [g, s] (by kernel_rfl) (by kernel_rfl) (cellsIn_cons g0 (cellsIn_cons hs2 (cellsIn_nil _))) ?_
  simp only [wpUL, tagOf, chk, List.cons_append, List.nil_append]
  intro K hK
  go_wp2_with fail
  refine OnlyN.normal (hK _ _ (fun _ => ⟨_, _, _, rfl, rfl, by simp⟩) ?_)
  clear hK K
  intro K hK
  go_wp2_with fail
  refine OnlyN.normal (hK _ _ (fun _ => ⟨_, _, _, rfl, rfl, by simp⟩) ?_)
  clear hK K
  intro K hK
  go_wp2_with (at_builtin; refine wpList_appB rfl _ _ rfl 0 none 0 0 [] rfl (Own.nil _ _ _ _) (Nat.zero_le _) A k cap l rfl (by exact hr2) (by omega) ?_; intro A' c' w3 h3)
  have hg3 : Grew w2 w3 := (Chg.refl _ w2).drew.step h3.chg (fun k _ ⟨ad, e, _⟩ => by cases e)
  refine OnlyN.normal (hK _ _ (sameIn_all hg3 (by
    intro k hk
    simp only [List.mem_cons, List.not_mem_nil, or_false] at hk
    rcases hk with rfl | rfl
    · exact ⟨hgl, fun e => e⟩
    · exact ⟨cell_lt hs2, fun e => e⟩)) ?_)
  clear hK K
  have hb3 := hb2.grew hg3
  have k0 : w3.cell? ⟨g, 0, none⟩ = some (.slice none 0 0) := hb3.cell 0
  have f0 : w3.frozen? ⟨g, 0, none⟩ = false := hb3.frozen 0
  go_wp2_with fail
  refine OnlyN.normal ?_
  go_wp2
  go_end0
  have hkl : l.length = k := hr2.1
  subst hkl
  have hw : g = w.heap.size := Hgg.out
  have hob := h3.ob
  simp only [Nat.zero_add, List.nil_append] at hob
  have hA3 : ∀ ad, A' = some ad → w.heap.size ≤ ad.block := fun ad e => by
    rcases h3.2.2 with ⟨e1, _⟩ | ⟨e1, _⟩
    · rw [e1] at e; cases e
    · rw [e1] at e
      injection e with e
      subst e
      show w.heap.size ≤ w2.heap.size
      omega
  have hD3 := hD2.grew hg3
  have hset : Chg (fun j => j = g) w3 (w3.setCell ⟨g, 0, none⟩ (.slice A' l.length c')) := Chg.one w3 g 0 _
  refine ⟨rfl, g, A', c', hD3.chg hset (hD3.hd.ne_type hb3 (by decide)) (fun e => hn5 e.symm), ⟨?_, ?_, hO _ (by omega), fun ad e => hO _ (hA3 ad e)⟩, ?_, by omega, hA3⟩
  · exact hb3.set 0 (.slice A' l.length c')
  · exact Own.chg hob hset (hob.ne_blk hb3 (by decide))
  · have h5 := ((Chg.of_grew (S := fun k => k = m) hg1).trans hc2).grow hg3
    exact h5.setCell (p := ⟨g, 0, none⟩) (.inl (by show _ ≤ g; omega)) (.slice A' l.length c')

/-- bytes behind those of a file -/
def OldF (O : Nat → Prop) (w : World) (d m : Nat) (es : Array MapEntry) (clock : Nat) (up armed : Bool) (left keep : Int) (n : Nat) (g : Nat) (A : Option Addr) (l : List UInt8) (sy : Nat) (e : Ending) (w' : World) : Prop :=
  e = .returned (.tuple #[]) ∧ ∃ A' c, Dsk O w' d m es clock up armed left keep n ∧ Fil O w' g A' c l sy ∧ Chg (fun k => k = g ∨ ∃ ad, A = some ad ∧ k = ad.block) w w'

set_option maxRecDepth 100000 in
set_option maxHeartbeats 2000000 in
theorem do_old {O : Nat → Prop} {w : World} {d m : Nat} {es : Array MapEntry} {clock : Nat} {up armed : Bool} {left keep : Int} {n : Nat} (hO : ∀ k, w.heap.size ≤ k → O k) (hD : Dsk O w d m es clock up armed left keep n) (x : ByteArray) {i g : Nat}
    (h : Instr.findNow .string (.string x) es.toList 0 = some (some (i, .pointer (some ⟨g, 0, none⟩)))) {A0 : Option Addr} {cap0 sy : Nat} {l0 : List UInt8} (hF : Fil O w g A0 cap0 l0 sy) {p q s : Nat} {A : Option Addr} {k cap : Nat} {l : List UInt8} (hp : w.cell? ⟨p, 0, none⟩ = some (.string x)) (hq : w.cell? ⟨q, 0, none⟩ = some (.pointer (some ⟨d, 0, none⟩)))
    (hs : w.cell? ⟨s, 0, none⟩ = some (.slice A k cap)) (hsn : ∀ ad, A0 = some ad → ad.block ≠ s) (hr : RB w A k l) (hk : l0.length + k ≤ 4194304) :
    Calls Try.prog 60 #[.pointer (some ⟨q, 0, none⟩), .pointer (some ⟨p, 0, none⟩), .pointer (some ⟨s, 0, none⟩)] w (OldF O w d m es clock up armed left keep n g A0 (l0 ++ l) sy) := by
  have hl := look_disk hD.hm.drew h
  simp only [lookV] at hl
  have c0 := hD.c0
  have hb := hF.hg
  have hob := hF.hA
  have hgs : w.cell? ⟨g, 0, none⟩ = some (.slice A0 l0.length cap0) := hb.cell 0
  have hgl := hb.lt
  go_enter Try.func60, Try.ntmps60
  go_wp2_with fail
  refine wp_region_textS [] [q, d, p] (by kernel_rfl) (by kernel_rfl) (cellsIn_cons hq (cellsIn_cons c0 (cellsIn_cons hp (cellsIn_nil _)))) ?_
  simp only [wpU, tagOf, chk, List.nil_append, List.cons_append]
  intro K hK
  go_wp2_with fail
  refine OnlyN.normal (hK _ _ (fun _ => ⟨_, _, _, rfl, rfl, by simp⟩) ?_)
  clear hK K
  intro K hK
  go_wp2_with fail
  refine OnlyN.normal (hK _ _ (fun _ => ⟨_, _, _, rfl, rfl, by simp⟩) ?_)
  clear hK K
  intro K hK
  go_wp2_with fail
  refine OnlyN.normal (hK _ _ (fun _ => ⟨_, _, _, rfl, rfl, by simp⟩) ?_)
  clear hK K
  intro K hK
  go_wp2_with fail
  refine OnlyN.normal (hK _ _ (fun _ _ => rfl) ?_)
  clear hK K
  go_wp2_with fail
  refine OnlyN.normal ?_
  clear hl hp hq c0
  go_wp2_with fail
  refine wp_region_textL [] [g, s] (by kernel_rfl) (by kernel_rfl) (cellsIn_cons hgs (cellsIn_cons hs (cellsIn_nil _))) ?_
  simp only [wpUL, tagOf, chk, List.cons_append, List.nil_append]
  intro K hK
  go_wp2_with fail
  refine OnlyN.normal (hK _ _ (fun _ => ⟨_, _, _, rfl, rfl, by simp⟩) ?_)
  clear hK K
  intro K hK
  go_wp2_with fail
  refine OnlyN.normal (hK _ _ (fun _ => ⟨_, _, _, rfl, rfl, by simp⟩) ?_)
  clear hK K
  intro K hK
  go_wp2_with (at_builtin; refine wpList_appB rfl _ _ rfl 0 A0 l0.length cap0 l0 rfl (by exact hob) (Nat.zero_le _) A k cap l rfl (by exact hr) (by omega) ?_; intro A' c' w3 h3)
  have hne := hob.ne_blk hb (by decide)
  have hc3 : Chg (fun j => ∃ ad, A0 = some ad ∧ j = ad.block) w w3 := Chg.trans ((Chg.refl _ w).drew.drew) h3.chg
  refine OnlyN.normal (hK _ _ (sameIn_all (Chg.trans ((Chg.refl _ w.drew).drew) h3.chg) (by
    intro j hj
    simp only [List.mem_cons, List.not_mem_nil, or_false] at hj
    rcases hj with rfl | rfl
    · exact ⟨hgl, fun ⟨ad, e, he⟩ => hne ad e he.symm⟩
    · exact ⟨cell_lt hs, fun ⟨ad, e, he⟩ => hsn ad e he.symm⟩)) ?_)
  clear hK K
  have hb3 := hb.chg hc3 (fun ⟨ad, e, he⟩ => hne ad e he.symm)
  have k0 : w3.cell? ⟨g, 0, none⟩ = some (.slice A0 l0.length cap0) := hb3.cell 0
  have f0 : w3.frozen? ⟨g, 0, none⟩ = false := hb3.frozen 0
  go_wp2_with fail
  refine OnlyN.normal ?_
  go_wp2
  go_end0
  have hkl : l.length = k := hr.1
  subst hkl
  have hob3 := h3.ob
  have hD3 := hD.chg hc3 (fun ⟨ad, e, he⟩ => hob.ne_blk hD.hd (by decide) ad e he.symm) (fun ⟨ad, e, he⟩ => hF.ne_map hD.hm ad e he.symm)
  have hset : Chg (fun j => j = g) w3 (w3.setCell ⟨g, 0, none⟩ (.slice A' (l0.length + l.length) c')) := Chg.one w3 g 0 _
  refine ⟨rfl, A', c', hD3.chg hset (hD3.hd.ne_type hb3 (by decide)) (hD3.hm.ne_blk hb3), ⟨?_, ?_, hF.og, fun ad e => ?_⟩, ?_⟩
  · rw [List.length_append]
    exact hb3.set 0 (.slice A' (l0.length + l.length) c')
  · rw [List.length_append]
    exact Own.chg hob3 hset (hob3.ne_blk hb3 (by decide))
  · rcases h3.2.2 with ⟨e1, _⟩ | ⟨e1, _⟩
    · rw [e1] at e
      exact hF.oA ad e
    · rw [e1] at e
      injection e with e
      subst e
      exact hO _ (Nat.le_refl _)
  · have h5 : Chg (fun k => k = g ∨ ∃ ad, A0 = some ad ∧ k = ad.block) w w3 := hc3.mono fun j _ h => .inr h
    exact h5.setCell (p := ⟨g, 0, none⟩) (.inr (.inl rfl)) (.slice A' (l0.length + l.length) c')
end Go.Proofs.Ytepncgeaehjhiaa

namespace Go.Proofs.Ytepncgeaehjhiaa
open Go.RowKit

set_option maxHeartbeats 800000 in
theorem app_old {O : Nat → Prop} {w : World} {d m : Nat} {es : Array MapEntry} {clock : Nat} {up armed : Bool} {left keep : Int} {n : Nat} (hD : Dsk O w d m es clock up armed left keep n) (x : ByteArray) (hc : NmOk x)
    {i g : Nat} (h : Instr.findNow .string (.string x) es.toList 0 = some (some (i, .pointer (some ⟨g, 0, none⟩)))) {A0 : Option Addr} {k0 cap0 : Nat} (hg : w.cell? ⟨g, 0, none⟩ = some (.slice A0 k0 cap0)) {p q s : Nat} {A : Option Addr} {k cap : Nat} (hp : w.cell? ⟨p, 0, none⟩ = some (.string x)) (hq : w.cell? ⟨q, 0, none⟩ = some (.pointer (some ⟨d, 0, none⟩)))
    (hs : w.cell? ⟨s, 0, none⟩ = some (.slice A k cap)) (hk : k0 + k ≤ 4194304) :
    Calls Try.prog 61 #[.pointer (some ⟨p, 0, none⟩), .pointer (some ⟨q, 0, none⟩), .pointer (some ⟨s, 0, none⟩)] w fun e w' => e = .returned (.int .i64 0) ∧ ∃ k, w' = w.drewN k := by
  have hN := name_ok x hc
  have hl := look_disk hD.hm.drew h
  have c0 := hD.c0
  have e2 : decide ((4194304 : Int) - (k0 : Int) < (k : Int)) = false := decide_eq_false (by omega)
  simp only [lookV] at hl
  clear h hD hc
  go_enter Try.func61, Try.ntmps61
  go_wp2_with fail
  refine (hN _).mono ?_
  rintro e w1 ⟨rfl, rfl⟩
  go_wp2_with fail
  refine wp_region_textS [] [q, d, p] (by kernel_rfl) (by kernel_rfl) (cellsIn_cons hq (cellsIn_cons c0 (cellsIn_cons hp (cellsIn_nil _)))) ?_
  simp only [wpU, tagOf, chk, List.nil_append, List.cons_append]
  intro K hK
  go_wp2_with fail
  refine OnlyN.normal (hK _ _ (fun _ => ⟨_, _, _, rfl, rfl, by simp⟩) ?_)
  clear hK K
  intro K hK
  go_wp2_with fail
  refine OnlyN.normal (hK _ _ (fun _ => ⟨_, _, _, rfl, rfl, by simp⟩) ?_)
  clear hK K
  intro K hK
  go_wp2_with fail
  refine OnlyN.normal (hK _ _ (fun _ => ⟨_, _, _, rfl, rfl, by simp⟩) ?_)
  clear hK K
  intro K hK
  go_wp2_with fail
  refine OnlyN.normal (hK _ _ (fun _ _ => rfl) ?_)
  clear hK K
  go_wp2_with fail
  refine OnlyN.normal ?_
  go_wp2_with fail
  refine wp_region_textS [(3, 1), (57, 9)] [s, g] (by kernel_rfl) (by kernel_rfl) (cellsIn_cons hs (cellsIn_cons hg (cellsIn_nil _))) ?_
  simp only [wpU, tagOf, chk, look, Nat.reduceBEq, Bool.false_eq_true, if_true, if_false, List.cons_append, List.nil_append, List.getElem?_toArray, List.getElem?_cons_zero, Nat.reduceEqDiff]
  intro K hK
  go_wp2_with fail
  refine OnlyN.normal (hK _ _ (fun _ _ => rfl) ?_)
  clear hK K
  intro K hK
  go_wp2_with fail
  refine OnlyN.normal (hK _ _ (fun hw => by cases (show false = true from hw)) ?_)
  clear hK K
  intro K hK
  go_wp2_with fail
  refine OnlyN.normal (hK _ _ (fun hw => by cases (show false = true from hw)) ?_)
  clear hK K
  intro K hK
  go_wp2_with fail
  refine OnlyN.normal (hK _ _ (fun _ _ => rfl) ?_)
  clear hK K
  intro K hK
  go_wp2_with fail
  refine OnlyN.normal (hK _ _ (fun hw => by cases (show false = true from hw)) ?_)
  clear hK K
  intro K hK
  go_wp2_with fail
  refine OnlyN.normal (hK _ _ (fun _ _ => rfl) ?_)
  clear hK K
  intro K hK
  go_wp2_with fail
  refine OnlyN.normal (hK _ _ (fun _ => ⟨_, _, _, rfl, rfl, by simp⟩) ?_)
  clear hK K
  intro K hK
  go_wp2_with fail
  refine OnlyN.normal (hK _ _ (fun _ => ⟨_, _, _, rfl, rfl, by simp⟩) ?_)
  clear hK K
  go_wp2_with fail
  refine OnlyN.normal ?_
  go_wp2
  go_ret
  exact ⟨by simp, 2, rfl⟩

/-! ### Sync -/
set_option maxHeartbeats 800000 in
theorem sync_ask {O : Nat → Prop} {w : World} {d m : Nat} {es : Array MapEntry} {clock : Nat} {up armed : Bool} {left keep : Int} {n : Nat} (hD : Dsk O w d m es clock up armed left keep n) (x : ByteArray) (hc : NmOk x) {i g : Nat}
    (h : Instr.findNow .string (.string x) es.toList 0 = some (some (i, .pointer (some ⟨g, 0, none⟩)))) {p q : Nat} (hp : w.cell? ⟨p, 0, none⟩ = some (.string x)) (hq : w.cell? ⟨q, 0, none⟩ = some (.pointer (some ⟨d, 0, none⟩))) :
    Calls Try.prog 62 #[.pointer (some ⟨q, 0, none⟩), .pointer (some ⟨p, 0, none⟩)] w fun e w' => e = .returned (.int .i64 0) ∧ w = w' := by
  have hT := there_yes hD x hc h
  go_enter Try.func62, Try.ntmps62
  go_wp2_with fail
  refine hT.mono ?_
  rintro e w1 ⟨rfl, rfl⟩
  go_wp2
  go_ret
  exact ⟨by simp, rfl⟩

set_option maxHeartbeats 800000 in
theorem sync_do {O : Nat → Prop} {w : World} {d m : Nat} {es : Array MapEntry} {clock : Nat} {up armed : Bool} {left keep : Int} {n : Nat} (hD : Dsk O w d m es clock up armed left keep n) (x : ByteArray) {i g : Nat}
    (h : Instr.findNow .string (.string x) es.toList 0 = some (some (i, .pointer (some ⟨g, 0, none⟩)))) {A : Option Addr} {cap sy : Nat} {l : List UInt8} (hF : Fil O w g A cap l sy) {p q : Nat} (hp : w.cell? ⟨p, 0, none⟩ = some (.string x)) (hq : w.cell? ⟨q, 0, none⟩ = some (.pointer (some ⟨d, 0, none⟩))) :
    Calls Try.prog 63 #[.pointer (some ⟨q, 0, none⟩), .pointer (some ⟨p, 0, none⟩)] w fun e w' => e = .returned (.tuple #[]) ∧ Dsk O w' d m es clock up armed left keep n ∧ Fil O w' g A cap l l.length ∧ Chg (fun k => k = g) w w' := by
  have hl := look_disk hD.hm.drew h
  simp only [lookV] at hl
  have c0 := hD.c0
  have hb := hF.hg
  have hgs : w.cell? ⟨g, 0, none⟩ = some (.slice A l.length cap) := hb.cell 0
  have hg1 : w.cell? ⟨g, 1, none⟩ = some (.int .i64 (sy : Int)) := hb.cell 1
  have f1 : w.frozen? ⟨g, 1, none⟩ = false := hb.frozen 1
  go_enter Try.func63, Try.ntmps63
  go_wp2_with fail
  refine wp_region_textS [] [q, d, p] (by kernel_rfl) (by kernel_rfl) (cellsIn_cons hq (cellsIn_cons c0 (cellsIn_cons hp (cellsIn_nil _)))) ?_
  simp only [wpU, tagOf, chk, List.nil_append, List.cons_append]
  intro K hK
  go_wp2_with fail
  refine OnlyN.normal (hK _ _ (fun _ => ⟨_, _, _, rfl, rfl, by simp⟩) ?_)
  clear hK K
  intro K hK
  go_wp2_with fail
  refine OnlyN.normal (hK _ _ (fun _ => ⟨_, _, _, rfl, rfl, by simp⟩) ?_)
  clear hK K
  intro K hK
  go_wp2_with fail
  refine OnlyN.normal (hK _ _ (fun _ => ⟨_, _, _, rfl, rfl, by simp⟩) ?_)
  clear hK K
  intro K hK
  go_wp2_with fail
  refine OnlyN.normal (hK _ _ (fun _ _ => rfl) ?_)
  clear hK K
  go_wp2_with fail
  refine OnlyN.normal ?_
  clear hl
  go_wp2
  go_end0
  have hset : Chg (fun j => j = g) w (w.drew.setCell ⟨g, 1, none⟩ (.int .i64 (l.length : Int))) := Chg.setCell (S := fun j => j = g) (Chg.refl _ w).drew (p := ⟨g, 1, none⟩) (.inr rfl) _
  refine ⟨rfl, hD.chg hset (hD.hd.ne_type hb (by decide)) (hD.hm.ne_blk hb), ⟨?_, ?_, hF.og, hF.oA⟩, hset⟩
  · exact Blk.set (w := w.drew) hb 1 (.int .i64 (l.length : Int))
  · exact Own.chg hF.hA hset (hF.hA.ne_blk hb (by decide))

/-! ### Rename -/
set_option maxHeartbeats 800000 in
theorem ren_ask {O : Nat → Prop} {w : World} {d m : Nat} {es : Array MapEntry} {clock : Nat} {up armed : Bool} {left keep : Int} {n : Nat} (hD : Dsk O w d m es clock up armed left keep n) (x y : ByteArray) (hc : NmOk x) (hc2 : NmOk y) {i g : Nat}
    (h : Instr.findNow .string (.string x) es.toList 0 = some (some (i, .pointer (some ⟨g, 0, none⟩)))) {p q s : Nat} (hp : w.cell? ⟨p, 0, none⟩ = some (.string x)) (hq : w.cell? ⟨q, 0, none⟩ = some (.pointer (some ⟨d, 0, none⟩))) (hs : w.cell? ⟨s, 0, none⟩ = some (.string y)) :
    Calls Try.prog 64 #[.pointer (some ⟨s, 0, none⟩), .pointer (some ⟨q, 0, none⟩), .pointer (some ⟨p, 0, none⟩)] w fun e w' => e = .returned (.int .i64 0) ∧ w = w' := by
  have hT := there_yes hD x hc h
  have hN := name_ok y hc2
  go_enter Try.func64, Try.ntmps64
  go_wp2_with fail
  refine (hN _).mono ?_
  rintro e w1 ⟨rfl, rfl⟩
  go_wp2_with fail
  refine hT.mono ?_
  rintro e w1 ⟨rfl, rfl⟩
  go_wp2
  go_ret
  exact ⟨by simp, rfl⟩

set_option maxHeartbeats 800000 in
theorem ren_do {O : Nat → Prop} {w : World} {d m : Nat} {es : Array MapEntry} {clock : Nat} {up armed : Bool} {left keep : Int} {n : Nat} (hD : Dsk O w d m es clock up armed left keep n) (x y : ByteArray) {i g : Nat}
    (h : Instr.findNow .string (.string x) es.toList 0 = some (some (i, .pointer (some ⟨g, 0, none⟩)))) {p q s : Nat} (hp : w.cell? ⟨p, 0, none⟩ = some (.string x)) (hq : w.cell? ⟨q, 0, none⟩ = some (.pointer (some ⟨d, 0, none⟩))) (hs : w.cell? ⟨s, 0, none⟩ = some (.string y))
    {es2 : Array MapEntry} {clock2 : Nat} (hput : ∀ w', MapB w' m (es.eraseIdxIfInBounds i) clock → (Instr.mapUpdate 57 (.map (some m)) (.string y) (.pointer (some ⟨g, 0, none⟩))).run Try.prog w' = .ok () (setB w' m (.map es2 clock2))) :
    Calls Try.prog 65 #[.pointer (some ⟨q, 0, none⟩), .pointer (some ⟨p, 0, none⟩), .pointer (some ⟨s, 0, none⟩)] w fun e w' => e = .returned (.tuple #[]) ∧ Dsk O w' d m es2 clock2 up armed left keep n ∧ Chg (fun k => k = m) w w' := by
  have hl := look_disk hD.hm.drew h
  simp only [lookV] at hl
  have c0 := hD.c0
  have hn1 := hD.hm.ne_cell hq
  have hn2 := hD.hm.ne_cell c0
  have hn3 := hD.hm.ne_cell hp
  have hn4 := hD.hm.ne_cell hs
  go_enter Try.func65, Try.ntmps65
  go_wp2_with fail
  refine wp_region_textS [] [q, d, p] (by kernel_rfl) (by kernel_rfl) (cellsIn_cons hq (cellsIn_cons c0 (cellsIn_cons hp (cellsIn_nil _)))) ?_
  simp only [wpU, tagOf, chk, List.nil_append, List.cons_append]
  intro K hK
  go_wp2_with fail
  refine OnlyN.normal (hK _ _ (fun _ => ⟨_, _, _, rfl, rfl, by simp⟩) ?_)
  clear hK K
  intro K hK
  go_wp2_with fail
  refine OnlyN.normal (hK _ _ (fun _ => ⟨_, _, _, rfl, rfl, by simp⟩) ?_)
  clear hK K
  intro K hK
  go_wp2_with fail
  refine OnlyN.normal (hK _ _ (fun _ => ⟨_, _, _, rfl, rfl, by simp⟩) ?_)
  clear hK K
  intro K hK
  go_wp2_with fail
  refine OnlyN.normal (hK _ _ (fun _ _ => rfl) ?_)
  clear hK K
  go_wp2_with fail
  refine OnlyN.normal ?_
  clear hl
  have hdel : ∀ ty, (Builtin.delete_ #[57, 9] ty #[.map (some m), .string x]).run Try.prog w.drew.drew = .ok (.tuple #[]) (setB w.drew.drew m (.map (es.eraseIdxIfInBounds i) clock)) := fun ty => run_strike (P := Try.prog) ty Try.underlying57 Try.underlying9 hD.hm.drew.drew h
  go_wp2_with fail
  refine wp_region_textS [] [q, d, p] (by kernel_rfl) (by kernel_rfl) (cellsIn_cons hq (cellsIn_cons c0 (cellsIn_cons hp (cellsIn_nil _)))) ?_
  simp only [wpU, tagOf, chk, List.nil_append, List.cons_append]
  intro K hK
  go_wp2_with fail
  refine OnlyN.normal (hK _ _ (fun _ => ⟨_, _, _, rfl, rfl, by simp⟩) ?_)
  clear hK K
  intro K hK
  go_wp2_with fail
  refine OnlyN.normal (hK _ _ (fun _ => ⟨_, _, _, rfl, rfl, by simp⟩) ?_)
  clear hK K
  intro K hK
  go_wp2_with fail
  refine OnlyN.normal (hK _ _ (fun _ => ⟨_, _, _, rfl, rfl, by simp⟩) ?_)
  clear hK K
  have hc1 : Chg (fun k => k = m) w (setB w.drew.drew m (.map (es.eraseIdxIfInBounds i) clock)) := Chg.setB (S := fun k => k = m) (Chg.refl _ w).drew.drew (k := m) (.inr rfl) _
  have hc1' : Chg (fun k => k = m) w.drew (setB w.drew.drew m (.map (es.eraseIdxIfInBounds i) clock)) := Chg.setB (S := fun k => k = m) (Chg.refl _ w.drew).drew (k := m) (.inr rfl) _
  have hm1 : MapB (setB w.drew.drew m (.map (es.eraseIdxIfInBounds i) clock)) m (es.eraseIdxIfInBounds i) clock := hD.hm.drew.drew.set _ _
  intro K hK
  go_wp2_with fail
  refine OnlyN.normal (hK _ _ (sameIn_all hc1' (by
    intro k hk
    simp only [List.mem_cons, List.not_mem_nil, or_false] at hk
    rcases hk with rfl | rfl | rfl
    · exact ⟨cell_lt hq, hn1⟩
    · exact ⟨cell_lt c0, hn2⟩
    · exact ⟨cell_lt hp, hn3⟩)) ?_)
  clear hK K hdel
  have hD1 := hD.hd.chg hc1 hn2
  have hq1 := hc1.cell hq hn1
  have hs1 := hc1.cell hs hn4
  have c1 := hc1.cell c0 hn2
  go_wp2_with fail
  refine OnlyN.normal ?_
  generalize setB w.drew.drew m (.map (es.eraseIdxIfInBounds i) clock) = w2 at *
  have hput2 := hput _ hm1.drew
  go_wp2_with fail
  refine wp_region_textS [] [q, d, s] (by kernel_rfl) (by kernel_rfl) (cellsIn_cons hq1 (cellsIn_cons c1 (cellsIn_cons hs1 (cellsIn_nil _)))) ?_
  simp only [wpU, tagOf, chk, List.nil_append, List.cons_append]
  intro K hK
  go_wp2_with fail
  refine OnlyN.normal (hK _ _ (fun _ => ⟨_, _, _, rfl, rfl, by simp⟩) ?_)
  clear hK K
  intro K hK
  go_wp2_with fail
  refine OnlyN.normal (hK _ _ (fun _ => ⟨_, _, _, rfl, rfl, by simp⟩) ?_)
  clear hK K
  intro K hK
  go_wp2_with fail
  refine OnlyN.normal (hK _ _ (fun _ => ⟨_, _, _, rfl, rfl, by simp⟩) ?_)
  clear hK K
  have hc2 : Chg (fun k => k = m) w2 (setB w2.drew m (.map es2 clock2)) := Chg.setB (S := fun k => k = m) (Chg.refl _ w2).drew (k := m) (.inr rfl) _
  intro K hK
  go_wp2_with (at_mapUpdate; refine wpList_put rfl _ _ _ _ rfl m rfl _ rfl _ rfl _ hput2 ?_)
  refine OnlyN.normal (hK _ _ (sameIn_all hc2 (by
    intro k hk
    simp only [List.mem_cons, List.not_mem_nil, or_false] at hk
    rcases hk with rfl | rfl | rfl
    · exact ⟨cell_lt hq1, hn1⟩
    · exact ⟨cell_lt c1, hn2⟩
    · exact ⟨cell_lt hs1, hn4⟩)) ?_)
  clear hK K
  go_wp2_with fail
  refine OnlyN.normal ?_
  go_wp2
  go_end0
  exact ⟨rfl, ⟨hD1.chg hc2 hn2, hm1.drew.set _ _, hD.od, hD.om⟩, hc1.trans hc2⟩
end Go.Proofs.Ytepncgeaehjhiaa

namespace Go.Proofs.Ytepncgeaehjhiaa
open Go.RowKit

def stayN (len sy : Nat) (kp : Int) : Nat := if 0 ≤ kp then sy + kp.toNat % (len - sy + 1) else sy
theorem stay_le {len sy : Nat} (h : sy ≤ len) (kp : Int) : stayN len sy kp ≤ len := by
  unfold stayN
  split
  · have := Nat.mod_lt kp.toNat (show 0 < len - sy + 1 by omega)
    omega
  · exact h
theorem IterB.chg {S : Nat → Prop} {w w' : World} {r m since c0 : Nat} {seen : Array Nat} (h : IterB w r m since seen c0) (hc : Chg S w w') (hn : ¬ S r) : IterB w' r m since seen c0 := (hc.block r h.lt hn).trans h
theorem IterB.ne_blk {w : World} {r m since c0 g : Nat} {seen : Array Nat} {t : TypeId} {cs : Array Value} (h : IterB w r m since seen c0) (h' : Blk w g t cs) : r ≠ g := fun e => by
  subst e
  have := Eq.trans (Eq.symm h) h'
  cases this

set_option maxRecDepth 100000 in
set_option maxHeartbeats 2000000 in
theorem cut_one {O : Nat → Prop} {w : World} {d m : Nat} {x : ByteArray} {g born clock : Nat} {up armed : Bool} {left keep : Int} {n : Nat} (hD : Dsk O w d m #[entF x g born] clock up armed left keep n) (hbn : born < clock)
    {A : Option Addr} {cap sy : Nat} {l : List UInt8} (hF : Fil O w g A cap l sy) (hsy : sy ≤ l.length) (hl : l.length ≤ 4194304) (kp : Int) (hkp : kp ≤ 9223372036854775807) :
    Calls Try.prog 36 #[.pointer (some ⟨d, 0, none⟩), .int .i64 kp] w fun e w' => e = .returned (.tuple #[]) ∧ Dsk O w' d m #[entF x g born] clock false false left keep n ∧
      Fil O w' g A cap (l.take (stayN l.length sy kp)) (stayN l.length sy kp) ∧ Chg (fun k => k = g ∨ k = d) w w' := by
  have hst := stay_le hsy kp
  obtain ⟨st, hstd⟩ : ∃ st, st = stayN l.length sy kp := ⟨_, rfl⟩
  rw [← hstd] at hst ⊢
  have hb := hF.hg
  have hcap := hF.hA.cap
  have c0 := hD.c0
  have hg1 : Grew w (w.alloc (.mapIter (some m) clock #[] clock)) := (Chg.refl _ w).alloc _
  have hi1 : IterB (w.alloc (.mapIter (some m) clock #[] clock)) w.heap.size m clock #[] clock := heap_alloc_new w _
  have hrange := run_range_b (P := Try.prog) Try.underlying57 hD.hm
  have hD1 := hD.grew hg1
  have hnext := fun ty => run_next_one (P := Try.prog) ty hi1 hD1.hm hbn
  obtain ⟨r, hr⟩ : ∃ r, r = w.heap.size := ⟨_, rfl⟩
  have hi2 : IterB (setB (w.alloc (.mapIter (some m) clock #[] clock)) w.heap.size (.mapIter (some m) clock #[born] clock)) w.heap.size m clock #[born] clock := setB_here hi1.lt _
  have hg2 : Grew w (setB (w.alloc (.mapIter (some m) clock #[] clock)) w.heap.size (.mapIter (some m) clock #[born] clock)) := Chg.setB hg1 (.inl (Nat.le_refl _)) _
  have hD2 := hD.grew hg2
  have hb2 := hb.grew hg2
  have hentry := run_entry_one (P := Try.prog) (x := entF x g born) hi2 hD2.hm
  simp only [entF] at hnext hentry
  have g0 : (setB (w.alloc (.mapIter (some m) clock #[] clock)) w.heap.size (.mapIter (some m) clock #[born] clock)).cell? ⟨g, 0, none⟩ = some (.slice A l.length cap) := hb2.cell 0
  have g1 : (setB (w.alloc (.mapIter (some m) clock #[] clock)) w.heap.size (.mapIter (some m) clock #[born] clock)).cell? ⟨g, 1, none⟩ = some (.int .i64 (sy : Int)) := hb2.cell 1
  have fr0 : (setB (w.alloc (.mapIter (some m) clock #[] clock)) w.heap.size (.mapIter (some m) clock #[born] clock)).frozen? ⟨g, 0, none⟩ = false := hb2.frozen 0
  have fr1 : (setB (w.alloc (.mapIter (some m) clock #[] clock)) w.heap.size (.mapIter (some m) clock #[born] clock)).frozen? ⟨g, 1, none⟩ = false := hb2.frozen 1
  go_enter Try.func36, Try.ntmps36
  go_wp2
  refine wp_loop_rounds 2 ?_
  rw [rounds_succ]
  by_cases h0 : 0 ≤ kp
  · obtain ⟨kn, rfl⟩ := Int.eq_ofNat_of_zero_le h0
    obtain ⟨k, hk⟩ : ∃ k, k = kn % (l.length - sy + 1) := ⟨_, rfl⟩
    have hkz : (kn : Int) % ((l.length : Int) - (sy : Int) + 1) = (k : Int) := by
      rw [hk, Int.natCast_emod, Int.natCast_add, Int.natCast_sub hsy]
      rfl
    have hste : st = sy + k := by
      rw [hstd]
      unfold stayN
      rw [if_pos h0, hk]
      rfl
    clear hstd hk
    subst hste
    go_wp2_with fail
    generalize setB (w.alloc (.mapIter (some m) clock #[] clock)) w.heap.size (.mapIter (some m) clock #[born] clock) = w2 at *
    refine wp_region_text [(3, 1)] (by kernel_rfl) (by kernel_rfl) ?_
    simp only [instr, chk, look, Nat.reduceBEq, if_true, if_false, Nat.reduceEqDiff, List.cons_append, List.nil_append]
    go_wp2_with fail
    refine OnlyN.normal ?_
    go_wp2_with fail
    refine wp_region_textL [(3, 1)] [g] (by kernel_rfl) (by kernel_rfl) (cellsIn_cons g0 (cellsIn_nil _)) ?_
    simp only [wpUL, tagOf, chk, look, Nat.reduceBEq, if_true, if_false, Nat.reduceEqDiff, List.cons_append, List.nil_append]
    intro K hK
    go_wp2_with fail
    refine OnlyN.normal (hK _ _ (fun _ => ⟨_, _, _, rfl, rfl, by simp⟩) ?_)
    clear hK K
    intro K hK
    go_wp2_with fail
    refine OnlyN.normal (hK _ _ (fun _ => ⟨_, _, _, rfl, rfl, by simp⟩) ?_)
    clear hK K
    go_wp2_with fail
    refine OnlyN.normal ?_
    go_wp2_with fail
    have hm3 : Chg (fun j => j = g) w2 (((w2.setCell ⟨g, 0, none⟩ (.slice A (sy + k) cap)).setCell ⟨g, 1, none⟩ (.int .i64 ((sy : Int) + (k : Int)))).drew.drew) :=
      (Chg.setCell (S := fun j => j = g) (Chg.setCell (S := fun j => j = g) (Chg.refl _ w2) (p := ⟨g, 0, none⟩) (.inr rfl) _) (p := ⟨g, 1, none⟩) (.inr rfl) _).drew.drew
    have hb3 : Blk (((w2.setCell ⟨g, 0, none⟩ (.slice A (sy + k) cap)).setCell ⟨g, 1, none⟩ (.int .i64 ((sy : Int) + (k : Int)))).drew.drew) g 79 #[.slice A (sy + k) cap, .int .i64 ((sy + k : Nat) : Int)] :=
      Blk.set (hb2.set 0 (.slice A (sy + k) cap)) 1 (.int .i64 ((sy : Int) + (k : Int)))
    generalize ((w2.setCell ⟨g, 0, none⟩ (.slice A (sy + k) cap)).setCell ⟨g, 1, none⟩ (.int .i64 ((sy : Int) + (k : Int)))).drew.drew = w3 at *
    have hD3 := hD2.chg hm3 (hD2.hd.ne_type hb2 (by decide)) (hD2.hm.ne_blk hb2)
    have hi3 := hi2.chg hm3 (hi2.ne_blk hb2)
    have hA3 := Own.chg (hF.hA.grew hg2) hm3 ((Own.grew hF.hA hg2).ne_blk hb2 (by decide))
    have hc3 : Chg (fun k => k = g ∨ k = d) w w3 := (Chg.of_grew hg2).trans (hm3.mono fun j _ h => .inl h)
    have hdd := hD3.hd
    have hnx := fun ty => run_next_end (P := Try.prog) ty (x := entF x g born) hi3 hD3.hm hbn
    have hdne := hD3.hd.ne_type hb3 (by decide)
    have hmne := hD3.hm.ne_blk hD3.hd
    have d1 := hD3.c1
    have d2 := hD3.c2
    have fd1 : w3.frozen? ⟨d, 1, none⟩ = false := hD3.hd.frozen 1
    have fd2 : w3.frozen? ⟨d, 2, none⟩ = false := hD3.hd.frozen 2
    clear hnext hentry hi2 hb2 hD2 g0 g1 fr0 fr1 hg2 hm3 hi3
    rw [rounds_succ]
    go_wp2
    go_end0
    refine ⟨rfl, ⟨?_, ?_, hD.od, hD.om⟩, ⟨?_, ?_, hF.og, hF.oA⟩, ?_⟩
    · exact Blk.set (hD3.hd.set 1 (.bool false)) 2 (.bool false)
    · exact MapB.setCell (MapB.setCell hD3.hm (p := ⟨d, 1, none⟩) hmne _) (p := ⟨d, 2, none⟩) hmne _
    · rw [List.length_take, Nat.min_eq_left hst]
      exact Blk.far (Blk.far hb3 (p := ⟨d, 1, none⟩) (fun e => hdne e.symm) _) (p := ⟨d, 2, none⟩) (fun e => hdne e.symm) _
    · have h9 := Own.setFar (Own.setFar hA3 (p := ⟨d, 1, none⟩) (hA3.ne_blk hdd (by decide)) (.bool false)) (p := ⟨d, 2, none⟩) (hA3.ne_blk hdd (by decide)) (.bool false)
      have h8 := Own.shrink h9 hst
      rw [Nat.mul_one, ← List.map_take] at h8
      rw [List.length_take, Nat.min_eq_left hst]
      exact h8
    · exact Chg.setCell (Chg.setCell hc3 (p := ⟨d, 1, none⟩) (.inr (.inr rfl)) _) (p := ⟨d, 2, none⟩) (.inr (.inr rfl)) _
  · have hste : st = sy := by
      rw [hstd]
      unfold stayN
      rw [if_neg h0]
    clear hstd
    subst st
    go_wp2_with fail
    generalize setB (w.alloc (.mapIter (some m) clock #[] clock)) w.heap.size (.mapIter (some m) clock #[born] clock) = w2 at *
    refine wp_region_textL [(3, 1)] [g] (by kernel_rfl) (by kernel_rfl) (cellsIn_cons g0 (cellsIn_nil _)) ?_
    simp only [wpUL, tagOf, chk, look, Nat.reduceBEq, if_true, if_false, Nat.reduceEqDiff, List.cons_append, List.nil_append]
    intro K hK
    go_wp2_with fail
    refine OnlyN.normal (hK _ _ (fun _ => ⟨_, _, _, rfl, rfl, by simp⟩) ?_)
    clear hK K
    intro K hK
    go_wp2_with fail
    refine OnlyN.normal (hK _ _ (fun _ => ⟨_, _, _, rfl, rfl, by simp⟩) ?_)
    clear hK K
    go_wp2_with fail
    refine OnlyN.normal ?_
    go_wp2_with fail
    have hm3 : Chg (fun j => j = g) w2 (((w2.setCell ⟨g, 0, none⟩ (.slice A (sy) cap)).setCell ⟨g, 1, none⟩ (.int .i64 (sy : Int))).drew) :=
      (Chg.setCell (S := fun j => j = g) (Chg.setCell (S := fun j => j = g) (Chg.refl _ w2) (p := ⟨g, 0, none⟩) (.inr rfl) _) (p := ⟨g, 1, none⟩) (.inr rfl) _).drew
    have hb3 : Blk (((w2.setCell ⟨g, 0, none⟩ (.slice A (sy) cap)).setCell ⟨g, 1, none⟩ (.int .i64 (sy : Int))).drew) g 79 #[.slice A (sy) cap, .int .i64 ((sy : Nat) : Int)] :=
      Blk.set (hb2.set 0 (.slice A (sy) cap)) 1 (.int .i64 (sy : Int))
    generalize ((w2.setCell ⟨g, 0, none⟩ (.slice A (sy) cap)).setCell ⟨g, 1, none⟩ (.int .i64 (sy : Int))).drew = w3 at *
    have hD3 := hD2.chg hm3 (hD2.hd.ne_type hb2 (by decide)) (hD2.hm.ne_blk hb2)
    have hi3 := hi2.chg hm3 (hi2.ne_blk hb2)
    have hA3 := Own.chg (hF.hA.grew hg2) hm3 ((Own.grew hF.hA hg2).ne_blk hb2 (by decide))
    have hc3 : Chg (fun k => k = g ∨ k = d) w w3 := (Chg.of_grew hg2).trans (hm3.mono fun j _ h => .inl h)
    have hdd := hD3.hd
    have hnx := fun ty => run_next_end (P := Try.prog) ty (x := entF x g born) hi3 hD3.hm hbn
    have hdne := hD3.hd.ne_type hb3 (by decide)
    have hmne := hD3.hm.ne_blk hD3.hd
    have d1 := hD3.c1
    have d2 := hD3.c2
    have fd1 : w3.frozen? ⟨d, 1, none⟩ = false := hD3.hd.frozen 1
    have fd2 : w3.frozen? ⟨d, 2, none⟩ = false := hD3.hd.frozen 2
    clear hnext hentry hi2 hb2 hD2 g0 g1 fr0 fr1 hg2 hm3 hi3
    rw [rounds_succ]
    go_wp2
    go_end0
    refine ⟨rfl, ⟨?_, ?_, hD.od, hD.om⟩, ⟨?_, ?_, hF.og, hF.oA⟩, ?_⟩
    · exact Blk.set (hD3.hd.set 1 (.bool false)) 2 (.bool false)
    · exact MapB.setCell (MapB.setCell hD3.hm (p := ⟨d, 1, none⟩) hmne _) (p := ⟨d, 2, none⟩) hmne _
    · rw [List.length_take, Nat.min_eq_left hst]
      exact Blk.far (Blk.far hb3 (p := ⟨d, 1, none⟩) (fun e => hdne e.symm) _) (p := ⟨d, 2, none⟩) (fun e => hdne e.symm) _
    · have h9 := Own.setFar (Own.setFar hA3 (p := ⟨d, 1, none⟩) (hA3.ne_blk hdd (by decide)) (.bool false)) (p := ⟨d, 2, none⟩) (hA3.ne_blk hdd (by decide)) (.bool false)
      have h8 := Own.shrink h9 hst
      rw [Nat.mul_one, ← List.map_take] at h8
      rw [List.length_take, Nat.min_eq_left hst]
      exact h8
    · exact Chg.setCell (Chg.setCell hc3 (p := ⟨d, 1, none⟩) (.inr (.inr rfl)) _) (p := ⟨d, 2, none⟩) (.inr (.inr rfl)) _
end Go.Proofs.Ytepncgeaehjhiaa

namespace Go.Proofs.Ytepncgeaehjhiaa
open Go.RowKit

set_option maxHeartbeats 800000 in
theorem write_off {O : Nat → Prop} {w : World} {d m : Nat} {es : Array MapEntry} {clock : Nat} {armed : Bool} {left keep : Int} {n : Nat} (hD : Dsk O w d m es clock false armed left keep n) (v1 v2 v3 : Value) :
    Calls Try.prog 39 #[.pointer (some ⟨d, 0, none⟩), v1, v2, v3] w fun e w' => e = .returned (.int .i64 60) ∧ w = w' := by
  have c1 := hD.c1
  clear hD
  go_enter Try.func39, Try.ntmps39
  go_wp2
  go_ret
  exact ⟨by simp, rfl⟩

set_option maxHeartbeats 800000 in
theorem write_ok {O : Nat → Prop} {w : World} {d m : Nat} {es : Array MapEntry} {clock : Nat} {armed : Bool} {left keep : Int} {n : Nat} (hD : Dsk O w d m es clock true armed left keep n) (hna : armed = true → left ≠ 0) (hle : -4000000000000000000 ≤ left ∧ left ≤ 4000000000000000000) (hn : n ≤ 4000000000000000000)
    (fa fd fh : Nat) (ea : ∀ args w, (callFunc fa args).run Try.prog w = .ok (.enter fa args) w) (ed : ∀ args w, (callFunc fd args).run Try.prog w = .ok (.enter fd args) w) (ca cd ch : Array Value) (hA : Calls Try.prog fa ca w fun e w' => e = .returned (.int .i64 0) ∧ ∃ k, w' = w.drewN k) {R : World → World → Prop}
    (hdo : ∀ w1, Chg (fun k => k = d) w w1 → Dsk O w1 d m es clock true armed (left - 1) keep (n + 1) → Calls Try.prog fd cd w1 fun e w' => e = .returned (.tuple #[]) ∧ R w1 w') :
    Calls Try.prog 39 #[.pointer (some ⟨d, 0, none⟩), .func (.func fa) #[] ca, .func (.func fd) #[] cd, .func (.func fh) #[] ch] w fun e w' => e = .returned (.int .i64 0) ∧ ∃ w1, Chg (fun k => k = d) w w1 ∧ Dsk O w1 d m es clock true armed (left - 1) keep (n + 1) ∧ R w1 w' := by
  have c1 := hD.c1
  have c2 := hD.c2
  have c3 := hD.c3
  have c5 := hD.c5
  have f3 : w.frozen? ⟨d, 3, none⟩ = false := hD.hd.frozen 3
  have f5 : w.frozen? ⟨d, 5, none⟩ = false := hD.hd.frozen 5
  go_enter Try.func39, Try.ntmps39
  go_wp2_with fail
  refine hA.mono ?_
  rintro e w1 ⟨rfl, k, rfl⟩
  have hc : Chg (fun j => j = d) w (((w.drewN k).setCell ⟨d, 5, none⟩ (.int .u64 ((n : Int) + 1))).setCell ⟨d, 3, none⟩ (.int .i64 (left - 1))) :=
    Chg.setCell (S := fun j => j = d) (Chg.setCell (S := fun j => j = d) ((Chg.refl _ w).drewN k) (p := ⟨d, 5, none⟩) (.inr rfl) _) (p := ⟨d, 3, none⟩) (.inr rfl) _
  have hD1 : Dsk O (((w.drewN k).setCell ⟨d, 5, none⟩ (.int .u64 ((n : Int) + 1))).setCell ⟨d, 3, none⟩ (.int .i64 (left - 1))) d m es clock true armed (left - 1) keep (n + 1) :=
    ⟨Blk.set (Blk.set (Blk.drewN hD.hd k) 5 (.int .u64 ((n : Int) + 1))) 3 (.int .i64 (left - 1)), hD.hm.chg hc (hD.hm.ne_blk hD.hd), hD.od, hD.om⟩
  cases armed
  · go_wp2_with fail
    refine (hdo _ hc hD1).mono ?_
    rintro e w2 ⟨rfl, hR⟩
    go_wp2
    go_ret
    exact ⟨by simp, _, hc, hD1, hR⟩
  · have h0 : (left == 0) = false := by simpa using hna rfl
    go_wp2_with fail
    refine (hdo _ hc hD1).mono ?_
    rintro e w2 ⟨rfl, hR⟩
    go_wp2
    go_ret
    exact ⟨by simp, _, hc, hD1, hR⟩

set_option maxHeartbeats 800000 in
theorem write_cut {O : Nat → Prop} {w : World} {d m : Nat} {es : Array MapEntry} {clock : Nat} {keep : Int} {n : Nat} (hD : Dsk O w d m es clock true true 0 keep n) (hn : n ≤ 4000000000000000000)
    (fa fd fh : Nat) (ea : ∀ args w, (callFunc fa args).run Try.prog w = .ok (.enter fa args) w) (eh : ∀ args w, (callFunc fh args).run Try.prog w = .ok (.enter fh args) w) (ca cd ch : Array Value) (hA : Calls Try.prog fa ca w fun e w' => e = .returned (.int .i64 0) ∧ ∃ k, w' = w.drewN k) {R T : World → World → Prop}
    (hh : ∀ w1, Chg (fun k => k = d) w w1 → Dsk O w1 d m es clock true true 0 keep (n + 1) → Calls Try.prog fh ch w1 fun e w' => e = .returned (.tuple #[]) ∧ R w1 w')
    (hk : ∀ w1 w2, R w1 w2 → w2.cell? ⟨d, 4, none⟩ = some (.int .i64 keep)) (hcut : ∀ w1 w2, R w1 w2 → Calls Try.prog 36 #[.pointer (some ⟨d, 0, none⟩), .int .i64 keep] w2 fun e w' => e = .returned (.tuple #[]) ∧ T w2 w') :
    Calls Try.prog 39 #[.pointer (some ⟨d, 0, none⟩), .func (.func fa) #[] ca, .func (.func fd) #[] cd, .func (.func fh) #[] ch] w fun e w' => e = .returned (.int .i64 60) ∧ ∃ w1 w2, Chg (fun k => k = d) w w1 ∧ Dsk O w1 d m es clock true true 0 keep (n + 1) ∧ R w1 w2 ∧ T w2 w' := by
  have c1 := hD.c1
  have c2 := hD.c2
  have c3 := hD.c3
  have c5 := hD.c5
  have f5 : w.frozen? ⟨d, 5, none⟩ = false := hD.hd.frozen 5
  go_enter Try.func39, Try.ntmps39
  go_wp2_with fail
  refine hA.mono ?_
  rintro e w1 ⟨rfl, k, rfl⟩
  have hc : Chg (fun j => j = d) w ((w.drewN k).setCell ⟨d, 5, none⟩ (.int .u64 ((n : Int) + 1))) := Chg.setCell (S := fun j => j = d) ((Chg.refl _ w).drewN k) (p := ⟨d, 5, none⟩) (.inr rfl) _
  have hD1 : Dsk O ((w.drewN k).setCell ⟨d, 5, none⟩ (.int .u64 ((n : Int) + 1))) d m es clock true true 0 keep (n + 1) :=
    ⟨Blk.set (Blk.drewN hD.hd k) 5 (.int .u64 ((n : Int) + 1)), hD.hm.chg hc (hD.hm.ne_blk hD.hd), hD.od, hD.om⟩
  go_wp2_with fail
  refine (hh _ hc hD1).mono ?_
  rintro e w2 ⟨rfl, hR⟩
  have c4 := hk _ _ hR
  go_wp2_with fail
  refine (hcut _ _ hR).mono ?_
  rintro e w3 ⟨rfl, hT⟩
  go_wp2
  go_ret
  exact ⟨by simp, _, _, hc, hD1, hR, hT⟩
end Go.Proofs.Ytepncgeaehjhiaa

namespace Go.Proofs.Ytepncgeaehjhiaa
open Go.RowKit

theorem entA2 : ∀ args w, (callFunc 61 args).run Try.prog w = .ok (.enter 61 args) w := Go.Proofs.enters_of Try.func61 (by kernel_rfl) rfl
theorem entA1 : ∀ args w, (callFunc 60 args).run Try.prog w = .ok (.enter 60 args) w := Go.Proofs.enters_of Try.func60 (by kernel_rfl) rfl
theorem three_boxes (w : World) (v1 v2 v3 : Value) (t1 t2 t3 : TypeId) : ∃ W, W = ((w.alloc (.cells #[v1] t1)).alloc (.cells #[v2] t2)).alloc (.cells #[v3] t3) ∧ Grew w W ∧ Blk W w.heap.size t1 #[v1] ∧ Blk W (w.heap.size + 1) t2 #[v2] ∧ Blk W (w.heap.size + 1 + 1) t3 #[v3] ∧ W.heap.size = w.heap.size + 3 := by
  have h1 := Blk.new w t1 #[v1]
  have h2 := Blk.new (w.alloc (.cells #[v1] t1)) t2 #[v2]
  have h3 := Blk.new ((w.alloc (.cells #[v1] t1)).alloc (.cells #[v2] t2)) t3 #[v3]
  have e1 : (w.alloc (.cells #[v1] t1)).heap.size = w.heap.size + 1 := by simp
  have e2 : ((w.alloc (.cells #[v1] t1)).alloc (.cells #[v2] t2)).heap.size = w.heap.size + 1 + 1 := by simp
  rw [e1] at h2
  rw [e2] at h3
  exact ⟨_, rfl, (((Chg.refl _ w).alloc _).alloc _).alloc _, (h1.alloc _).alloc _, h2.alloc _, h3, by simp⟩
theorem two_boxes (w : World) (v1 v2 : Value) (t1 t2 : TypeId) : ∃ W, W = (w.alloc (.cells #[v1] t1)).alloc (.cells #[v2] t2) ∧ Grew w W ∧ Blk W w.heap.size t1 #[v1] ∧ Blk W (w.heap.size + 1) t2 #[v2] ∧ W.heap.size = w.heap.size + 2 := by
  have h1 := Blk.new w t1 #[v1]
  have h2 := Blk.new (w.alloc (.cells #[v1] t1)) t2 #[v2]
  have e1 : (w.alloc (.cells #[v1] t1)).heap.size = w.heap.size + 1 := by simp
  rw [e1] at h2
  exact ⟨_, rfl, ((Chg.refl _ w).alloc _).alloc _, h1.alloc _, h2, by simp⟩

/-- what Append of a new file leaves -/
def AppNew (O : Nat → Prop) (w : World) (d m : Nat) (es : Array MapEntry) (clock : Nat) (armed : Bool) (left keep : Int) (n : Nat) (x : ByteArray) (l : List UInt8) (w' : World) : Prop :=
  ∃ g A c, Dsk O w' d m (es.push (entF x g clock)) (clock + 1) true armed (left - 1) keep (n + 1) ∧ Fil O w' g A c l 0 ∧ Chg (fun k => k = d ∨ k = m) w w' ∧ w.heap.size ≤ g ∧ ∀ ad, A = some ad → w.heap.size ≤ ad.block

set_option maxHeartbeats 1000000 in
theorem append_new {O : Nat → Prop} {w : World} {d m : Nat} {es : Array MapEntry} {clock : Nat} {armed : Bool} {left keep : Int} {n : Nat} (hO : ∀ k, w.heap.size ≤ k → O k) (hD : Dsk O w d m es clock true armed left keep n) (hna : armed = true → left ≠ 0) (hle : -4000000000000000000 ≤ left ∧ left ≤ 4000000000000000000) (hn : n ≤ 4000000000000000000)
    (x : ByteArray) (hc : NmOk x) (h : Instr.findNow .string (.string x) es.toList 0 = some none) (hes : es.size < 1048576) (A : Option Addr) (k cap : Nat) (l : List UInt8) (hr : RB w A k l) (hk : k ≤ 4194304) (hAd : ∀ ad, A = some ad → 0 < k → ad.block ≠ d) :
    Calls Try.prog 50 #[.pointer (some ⟨d, 0, none⟩), .string x, .slice A k cap] w fun e w' => e = .returned (.int .i64 0) ∧ AppNew O w d m es clock armed left keep n x l w' := by
  have hmf : ∀ (fn : Fn) (first cp : Array Value) (w : World), (Instr.makeFunc fn first cp).run Try.prog w = .ok (.func fn first cp) w := fun _ _ _ _ => rfl
  obtain ⟨W, hW, hgW, b1, b2, b3, hzW⟩ := three_boxes w (.pointer (some ⟨d, 0, none⟩)) (.string x) (.slice A k cap) 28 9 23
  have hdl := hD.hd.lt
  have hml := hD.hm.lt
  go_enter Try.func50, Try.ntmps50
  go_wp2_with fail
  rw [← hW]
  have hDW := hD.grew hgW
  have hrW := hr.grew hgW
  clear hW
  refine (write_ok hDW hna hle hn _ _ _ entA2 entA1 _ _ _ (app_new hDW x hc h hes (b2.cell 0) (b1.cell 0) (b3.cell 0) hk) (R := fun w1 w' => NewF O w1 d m es clock true armed (left - 1) keep (n + 1) x l (.returned (.tuple #[])) w') ?_).mono ?_
  · intro w1 hc1 hD1
    have hO1 : ∀ k, w1.heap.size ≤ k → O k := fun k hk => hO k (by have := hc1.size; omega)
    have ne1 := b1.ne_type hDW.hd (by decide)
    have ne2 := b2.ne_type hDW.hd (by decide)
    have ne3 := b3.ne_type hDW.hd (by decide)
    refine (do_new hO1 hD1 x h ((b2.chg hc1 ne2).cell 0) ((b1.chg hc1 ne1).cell 0) ((b3.chg hc1 ne3).cell 0) (hrW.far hc1 hAd) hk).mono ?_
    intro e w' he
    have := he.1
    subst this
    exact ⟨rfl, he⟩
  rintro e w' ⟨rfl, w1, hc1, hD1, ⟨_, g, A', c', h1, h2, h3, h4, h5⟩⟩
  go_wp2
  go_ret
  have hs1 := hc1.size
  refine ⟨by simp, g, A', c', h1, h2, ?_, by omega, fun ad e => by have := h5 ad e; omega⟩
  exact ((Chg.of_grew hgW).trans (hc1.mono fun j _ e => .inl e)).trans (h3.mono fun j _ e => .inr e)
end Go.Proofs.Ytepncgeaehjhiaa
