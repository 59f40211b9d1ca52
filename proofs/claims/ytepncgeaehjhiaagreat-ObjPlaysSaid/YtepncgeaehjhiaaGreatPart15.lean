/-
  Several texts in one:
  Read. Conditions: names of one letter; lengths within the file's bound.
  Delete. Conditions: counts that have not come to their ends.
  A disk of any number of files: what lies in it, and how its files are found. Conditions: none.
-/
import Derived.Test.YtepncgeaehjhiaaGreatPart14

namespace Go.Proofs.YtepncgeaehjhiaaGreat
open Go.RowKit

set_option maxHeartbeats 1000000 in
theorem read_ok {O : Nat → Prop} {w : World} {d m : Nat} {es : Array MapEntry} {clock : Nat} {armed : Bool} {left keep : Int} {n : Nat} (hD : Dsk O w d m es clock true armed left keep n) (x : ByteArray) (hc : NmOk x) {i g : Nat} (h : Instr.findNow .string (.string x) es.toList 0 = some (some (i, .pointer (some ⟨g, 0, none⟩))))
    {A : Option Addr} {cap sy : Nat} {l : List UInt8} (hF : Fil O w g A cap l sy) (hl : l.length ≤ 4194304) :
    Calls Tryz.prog 70 #[.pointer (some ⟨d, 0, none⟩), .string x] w fun e w' => ∃ A' c', e = .returned (.tuple #[.slice A' l.length c', .int .i64 0]) ∧ OB w' w.heap.size 5 A' l.length c' l ∧ Grew w w' := by
  have hT := there_yes hD x hc h
  have c1 := hD.c1
  have hg1 : Grew w (w.alloc (.cells #[] 5)) := (Chg.refl _ w).alloc _
  have hlk := look_disk (hD.grew hg1).hm h
  simp only [lookV] at hlk
  have c0 := (hD.grew hg1).c0
  have hF1 := hF.grew hg1
  have g0 : (w.alloc (.cells #[] 5)).cell? ⟨g, 0, none⟩ = some (.slice A l.length cap) := hF1.hg.cell 0
  have hown : OB (w.alloc (.cells #[] 5)) w.heap.size 5 (some ⟨w.heap.size, 0, none⟩) 0 0 [] := Own.made w w.heap.size 5 1 (Nat.le_refl _)
  have hr := hF1.hA.rb
  go_enter Tryz.func70, Tryz.ntmps70
  go_wp2_with fail
  refine hT.mono ?_
  rintro e w1 ⟨rfl, rfl⟩
  go_wp2_with (at_builtin; refine wpList_appB rfl _ _ rfl w.heap.size _ 0 0 [] rfl hown (by simp) A l.length cap l rfl hr (by omega) ?_; intro A' c' w' h1)
  go_ret2
  have h2 := h1.ob
  have h3 := h1.grew hg1 (head_ge (Nat.le_refl _))
  simp only [Nat.zero_add, List.nil_append] at h2
  exact ⟨A', c', by simp, h2, h3⟩
set_option maxHeartbeats 1000000 in
theorem read_none {O : Nat → Prop} {w : World} {d m : Nat} {es : Array MapEntry} {clock : Nat} {armed : Bool} {left keep : Int} {n : Nat} (hD : Dsk O w d m es clock true armed left keep n) (x : ByteArray) (hc : NmOk x) (h : Instr.findNow .string (.string x) es.toList 0 = some none) :
    Calls Tryz.prog 70 #[.pointer (some ⟨d, 0, none⟩), .string x] w fun e w' => e = .returned (.tuple #[.slice none 0 0, .int .i64 62]) ∧ w = w' := by
  have hT := there_no hD x hc h
  have c1 := hD.c1
  go_enter Tryz.func70, Tryz.ntmps70
  go_wp2_with fail
  refine hT.mono ?_
  rintro e w1 ⟨rfl, rfl⟩
  go_wp2
  go_ret2
  exact ⟨by simp, rfl⟩
set_option maxHeartbeats 1000000 in
theorem read_off {O : Nat → Prop} {w : World} {d m : Nat} {es : Array MapEntry} {clock : Nat} {armed : Bool} {left keep : Int} {n : Nat} (hD : Dsk O w d m es clock false armed left keep n) (x : ByteArray) :
    Calls Tryz.prog 70 #[.pointer (some ⟨d, 0, none⟩), .string x] w fun e w' => e = .returned (.tuple #[.slice none 0 0, .int .i64 60]) ∧ w = w' := by
  have c1 := hD.c1
  go_enter Tryz.func70, Tryz.ntmps70
  go_wp2
  go_ret2
  exact ⟨by simp, rfl⟩
end Go.Proofs.YtepncgeaehjhiaaGreat

namespace Go.Proofs.YtepncgeaehjhiaaGreat
open Go.RowKit

set_option maxHeartbeats 800000 in
theorem write_no {O : Nat → Prop} {w : World} {d m : Nat} {es : Array MapEntry} {clock : Nat} {armed : Bool} {left keep : Int} {n : Nat} (hD : Dsk O w d m es clock true armed left keep n) (er : Nat) (he : 0 < er)
    (fa : Nat) (ea : ∀ args w, (callFunc fa args).run Tryz.prog w = .ok (.enter fa args) w) (ca : Array Value) (v2 v3 : Value) (hA : Calls Tryz.prog fa ca w fun e w' => e = .returned (.int .i64 (er : Int)) ∧ ∃ k, w' = w.drewN k) :
    Calls Tryz.prog 41 #[.pointer (some ⟨d, 0, none⟩), .func (.func fa) #[] ca, v2, v3] w fun e w' => e = .returned (.int .i64 (er : Int)) ∧ ∃ k, w' = w.drewN k := by
  have c1 := hD.c1
  have h0 : ((er : Int) != 0) = true := by simp; omega
  go_enter Tryz.func41, Tryz.ntmps41
  go_wp2_with fail
  refine hA.mono ?_
  rintro e w1 ⟨rfl, k, rfl⟩
  go_wp2
  go_ret
  exact ⟨by simp, k, rfl⟩

theorem entD1 : ∀ args w, (callFunc 42 args).run Tryz.prog w = .ok (.enter 42 args) w := Go.Proofs.enters_of Tryz.func42 (by kernel_rfl) rfl
theorem entD2 : ∀ args w, (callFunc 44 args).run Tryz.prog w = .ok (.enter 44 args) w := Go.Proofs.enters_of Tryz.func44 (by kernel_rfl) rfl

set_option maxHeartbeats 800000 in
theorem del_ask {O : Nat → Prop} {w : World} {d m : Nat} {es : Array MapEntry} {clock : Nat} {up armed : Bool} {left keep : Int} {n : Nat} (hD : Dsk O w d m es clock up armed left keep n) (x : ByteArray) (hc : NmOk x) {i g : Nat}
    (h : Instr.findNow .string (.string x) es.toList 0 = some (some (i, .pointer (some ⟨g, 0, none⟩)))) {p q : Nat} (hp : w.cell? ⟨p, 0, none⟩ = some (.string x)) (hq : w.cell? ⟨q, 0, none⟩ = some (.pointer (some ⟨d, 0, none⟩))) :
    Calls Tryz.prog 42 #[.pointer (some ⟨q, 0, none⟩), .pointer (some ⟨p, 0, none⟩)] w fun e w' => e = .returned (.int .i64 0) ∧ w = w' := by
  have hT := there_yes hD x hc h
  go_enter Tryz.func42, Tryz.ntmps42
  go_wp2_with fail
  refine hT.mono ?_
  rintro e w1 ⟨rfl, rfl⟩
  go_wp2
  go_ret
  exact ⟨by simp, rfl⟩
set_option maxHeartbeats 800000 in
theorem del_not {O : Nat → Prop} {w : World} {d m : Nat} {es : Array MapEntry} {clock : Nat} {up armed : Bool} {left keep : Int} {n : Nat} (hD : Dsk O w d m es clock up armed left keep n) (x : ByteArray) (hc : NmOk x)
    (h : Instr.findNow .string (.string x) es.toList 0 = some none) {p q : Nat} (hp : w.cell? ⟨p, 0, none⟩ = some (.string x)) (hq : w.cell? ⟨q, 0, none⟩ = some (.pointer (some ⟨d, 0, none⟩))) :
    Calls Tryz.prog 42 #[.pointer (some ⟨q, 0, none⟩), .pointer (some ⟨p, 0, none⟩)] w fun e w' => e = .returned (.int .i64 62) ∧ w = w' := by
  have hT := there_no hD x hc h
  go_enter Tryz.func42, Tryz.ntmps42
  go_wp2_with fail
  refine hT.mono ?_
  rintro e w1 ⟨rfl, rfl⟩
  go_wp2
  go_ret
  exact ⟨by simp, rfl⟩

set_option maxHeartbeats 800000 in
theorem del_do {O : Nat → Prop} {w : World} {d m : Nat} {es : Array MapEntry} {clock : Nat} {up armed : Bool} {left keep : Int} {n : Nat} (hD : Dsk O w d m es clock up armed left keep n) (x : ByteArray) {i g : Nat}
    (h : Instr.findNow .string (.string x) es.toList 0 = some (some (i, .pointer (some ⟨g, 0, none⟩)))) {p q : Nat} (hp : w.cell? ⟨p, 0, none⟩ = some (.string x)) (hq : w.cell? ⟨q, 0, none⟩ = some (.pointer (some ⟨d, 0, none⟩))) :
    Calls Tryz.prog 44 #[.pointer (some ⟨q, 0, none⟩), .pointer (some ⟨p, 0, none⟩)] w fun e w' => e = .returned (.tuple #[]) ∧ Dsk O w' d m (es.eraseIdxIfInBounds i) clock up armed left keep n ∧ Chg (fun k => k = m) w w' := by
  have c0 := hD.c0
  have hn1 := hD.hm.ne_cell hq
  have hn2 := hD.hm.ne_cell c0
  have hn3 := hD.hm.ne_cell hp
  have hdel : ∀ ty, (Builtin.delete_ #[44, 9] ty #[.map (some m), .string x]).run Tryz.prog w.drew = .ok (.tuple #[]) (setB w.drew m (.map (es.eraseIdxIfInBounds i) clock)) := fun ty => run_strike (P := Tryz.prog) ty Tryz.underlying44 Tryz.underlying9 hD.hm.drew h
  have hc1 : Chg (fun k => k = m) w (setB w.drew m (.map (es.eraseIdxIfInBounds i) clock)) := Chg.setB (S := fun k => k = m) (Chg.refl _ w).drew (k := m) (.inr rfl) _
  have hm1 : MapB (setB w.drew m (.map (es.eraseIdxIfInBounds i) clock)) m (es.eraseIdxIfInBounds i) clock := hD.hm.drew.set _ _
  go_enter Tryz.func44, Tryz.ntmps44
  go_wp2_with fail
  refine wp_region_textS [] [q, d, p] (by kernel_rfl) (by kernel_rfl) (cellsIn_cons hq (cellsIn_cons c0 (cellsIn_cons hp (cellsIn_nil _)))) ?_
  simp only [wpU, tagOf, chk, List.nil_append, List.cons_append]
  intro K hK
  go_wp2_with fail
  refine OnlyN.normal (hK _ _ (fun _ => ⟨_, _, _, rfl, rfl, by simp⟩) ?_)
  clear hK K
  intro K hK
  go_wp2_with fail
  refine OnlyN.normal (hK _ _ (fun _ => ⟨_, _, _, rfl, rfl, by simp⟩) ?_)
  clear hK K
  intro K hK
  go_wp2_with fail
  refine OnlyN.normal (hK _ _ (fun _ => ⟨_, _, _, rfl, rfl, by simp⟩) ?_)
  clear hK K
  intro K hK
  go_wp2_with fail
  refine OnlyN.normal (hK _ _ (sameIn_all hc1 (by
    intro k hk
    simp only [List.mem_cons, List.not_mem_nil, or_false] at hk
    rcases hk with rfl | rfl | rfl
    · exact ⟨cell_lt hq, hn1⟩
    · exact ⟨cell_lt c0, hn2⟩
    · exact ⟨cell_lt hp, hn3⟩)) ?_)
  clear hK K hdel
  go_wp2_with fail
  refine OnlyN.normal ?_
  go_wp2
  go_end0
  exact ⟨rfl, ⟨hD.hd.chg hc1 hn2, hm1, hD.od, hD.om⟩, hc1⟩

set_option maxHeartbeats 1000000 in
theorem delete_ok {O : Nat → Prop} {w : World} {d m : Nat} {es : Array MapEntry} {clock : Nat} {armed : Bool} {left keep : Int} {n : Nat} (hD : Dsk O w d m es clock true armed left keep n) (hna : armed = true → left ≠ 0) (hle : -9223372036854775808 ≤ left ∧ left ≤ 9223372036854775807) (hn : n ≤ 4000000000000000000)
    (x : ByteArray) (hc : NmOk x) {i g : Nat} (h : Instr.findNow .string (.string x) es.toList 0 = some (some (i, .pointer (some ⟨g, 0, none⟩)))) :
    Calls Tryz.prog 15 #[.pointer (some ⟨d, 0, none⟩), .string x] w fun e w' => e = .returned (.int .i64 0) ∧ Dsk O w' d m (es.eraseIdxIfInBounds i) clock true armed (dcl left) keep (n + 1) ∧ Chg (fun k => k = d ∨ k = m) w w' := by
  have hmf : ∀ (fn : Fn) (first cp : Array Value) (w : World), (Instr.makeFunc fn first cp).run Tryz.prog w = .ok (.func fn first cp) w := fun _ _ _ _ => rfl
  obtain ⟨W, hW, hgW, b1, b2, hzW⟩ := two_boxes w (.pointer (some ⟨d, 0, none⟩)) (.string x) 23 9
  have hdl := hD.hd.lt
  go_enter Tryz.func15, Tryz.ntmps15
  go_wp2_with fail
  rw [← hW]
  have hDW := hD.grew hgW
  clear hW
  refine (write_ok hDW hna hle hn _ _ _ entD1 entD2 _ _ _ ((del_ask hDW x hc h (b2.cell 0) (b1.cell 0)).mono fun e w' ⟨h1, h2⟩ => ⟨h1, 0, by rw [← h2]; rfl⟩) (R := fun w1 w' => Dsk O w' d m (es.eraseIdxIfInBounds i) clock true armed (dcl left) keep (n + 1) ∧ Chg (fun k => k = m) w1 w') ?_).mono ?_
  · intro w1 hc1 hD1
    have ne1 := b1.ne_type hDW.hd (by decide)
    have ne2 := b2.ne_type hDW.hd (by decide)
    exact del_do hD1 x h ((b2.chg hc1 ne2).cell 0) ((b1.chg hc1 ne1).cell 0)
  rintro e w' ⟨rfl, w1, hc1, hD1, h1, h2⟩
  go_wp2
  go_ret
  exact ⟨by simp, h1, ((Chg.of_grew hgW).trans (hc1.mono fun j _ e => .inl e)).trans (h2.mono fun j _ e => .inr e)⟩
set_option maxHeartbeats 1000000 in
theorem delete_none {O : Nat → Prop} {w : World} {d m : Nat} {es : Array MapEntry} {clock : Nat} {armed : Bool} {left keep : Int} {n : Nat} (hD : Dsk O w d m es clock true armed left keep n) (x : ByteArray) (hc : NmOk x) (h : Instr.findNow .string (.string x) es.toList 0 = some none) :
    Calls Tryz.prog 15 #[.pointer (some ⟨d, 0, none⟩), .string x] w fun e w' => e = .returned (.int .i64 62) ∧ Grew w w' := by
  have hmf : ∀ (fn : Fn) (first cp : Array Value) (w : World), (Instr.makeFunc fn first cp).run Tryz.prog w = .ok (.func fn first cp) w := fun _ _ _ _ => rfl
  obtain ⟨W, hW, hgW, b1, b2, hzW⟩ := two_boxes w (.pointer (some ⟨d, 0, none⟩)) (.string x) 23 9
  have hdl := hD.hd.lt
  go_enter Tryz.func15, Tryz.ntmps15
  go_wp2_with fail
  rw [← hW]
  have hDW := hD.grew hgW
  clear hW
  refine (write_no hDW 62 (by omega) _ entD1 _ _ _ ((del_not hDW x hc h (b2.cell 0) (b1.cell 0)).mono fun e w' ⟨h1, h2⟩ => ⟨h1, 0, by rw [← h2]; rfl⟩)).mono ?_
  rintro e w' ⟨rfl, k, rfl⟩
  go_wp2
  go_ret
  exact ⟨by simp, hgW.drewN k⟩
end Go.Proofs.YtepncgeaehjhiaaGreat

namespace Go.Proofs.YtepncgeaehjhiaaGreat
open Go.RowKit

/-- a file, as the disk's map leads to it -/
structure FEnt where
  nm : ByteArray
  g : Nat
  born : Nat
  A : Option Addr
  cap : Nat
  l : List UInt8
  sy : Nat
def FEnt.ent (e : FEnt) : MapEntry := entF e.nm e.g e.born
structure FEnt.Ok (S : Nat → Prop) (w : World) (clock : Nat) (e : FEnt) : Prop where
  fil : Fil S w e.g e.A e.cap e.l e.sy
  sy : e.sy ≤ e.l.length
  len : e.l.length ≤ 4194304
  born : e.born < clock
def Apart (a b : FEnt) : Prop := a.nm ≠ b.nm ∧ a.g ≠ b.g ∧ a.born ≠ b.born ∧ ∀ ad bd, a.A = some ad → b.A = some bd → ad.block ≠ bd.block
theorem Apart.symm {a b : FEnt} (h : Apart a b) : Apart b a := ⟨fun e => h.1 e.symm, fun e => h.2.1 e.symm, fun e => h.2.2.1 e.symm, fun ad bd e1 e2 e => h.2.2.2 bd ad e2 e1 e.symm⟩
/-- the disk: its blocks all lie in S -/
structure FS (S : Nat → Prop) (w : World) (d m : Nat) (E : List FEnt) (clock : Nat) (up armed : Bool) (left keep : Int) (n : Nat) : Prop where
  dsk : Dsk S w d m (E.map FEnt.ent).toArray clock up armed left keep n
  ok : ∀ e ∈ E, e.Ok S w clock
  ap : E.Pairwise Apart
/-- .. and what is new -/
def Up (S : Nat → Prop) (w : World) : Nat → Prop := fun k => S k ∨ w.heap.size ≤ k
theorem Up.old {S : Nat → Prop} {w : World} {k : Nat} (hk : k < w.heap.size) (h : ¬ S k) : ¬ Up S w k := fun e => e.elim h (by omega)
theorem Up.new {S : Nat → Prop} {w : World} : ∀ k, w.heap.size ≤ k → Up S w k := fun _ h => .inr h

section
variable {S S' T : Nat → Prop} {w w' : World} {d m : Nat} {E : List FEnt} {es : Array MapEntry} {clock clock' : Nat} {up armed : Bool} {left keep : Int} {n : Nat}
theorem Dsk.mono (h : Dsk S w d m es clock up armed left keep n) (hs : ∀ k, S k → S' k) : Dsk S' w d m es clock up armed left keep n := ⟨h.hd, h.hm, hs _ h.od, hs _ h.om⟩
theorem Fil.mono {g : Nat} {A : Option Addr} {c : Nat} {l : List UInt8} {sy : Nat} (h : Fil S w g A c l sy) (hs : ∀ k, S k → S' k) : Fil S' w g A c l sy := ⟨h.hg, h.hA, hs _ h.og, fun ad e => hs _ (h.oA ad e)⟩
theorem FEnt.Ok.mono {e : FEnt} (h : e.Ok S w clock) (hs : ∀ k, S k → S' k) : e.Ok S' w clock := ⟨h.fil.mono hs, h.sy, h.len, h.born⟩
theorem FS.mono (h : FS S w d m E clock up armed left keep n) (hs : ∀ k, S k → S' k) : FS S' w d m E clock up armed left keep n := ⟨h.dsk.mono hs, fun e he => (h.ok e he).mono hs, h.ap⟩
theorem FS.rise (h : FS S w d m E clock up armed left keep n) : FS (Up S w) w d m E clock up armed left keep n := h.mono fun _ e => .inl e
theorem FEnt.Ok.chg {e : FEnt} (h : e.Ok S w clock) (hc : Chg T w w') (h1 : ¬ T e.g) (h2 : ∀ ad, e.A = some ad → ¬ T ad.block) (hk : clock ≤ clock') : e.Ok S w' clock' := ⟨h.fil.chg hc h1 h2, h.sy, h.len, Nat.lt_of_lt_of_le h.born hk⟩
theorem FS.grew (h : FS S w d m E clock up armed left keep n) (hc : Grew w w') : FS S w' d m E clock up armed left keep n := ⟨h.dsk.grew hc, fun e he => (h.ok e he).chg hc (fun e => e) (fun _ _ e => e) (Nat.le_refl _), h.ap⟩
/-- a change outside the disk -/
theorem FS.chg (h : FS S w d m E clock up armed left keep n) (hc : Chg T w w') (hT : ∀ k, S k → ¬ T k) : FS S w' d m E clock up armed left keep n :=
  ⟨h.dsk.chg hc (hT _ h.dsk.od) (hT _ h.dsk.om), fun e he => (h.ok e he).chg hc (hT _ (h.ok e he).fil.og) (fun ad ha => hT _ ((h.ok e he).fil.oA ad ha)) (Nat.le_refl _), h.ap⟩
/-- a file stays where only the disk's own two blocks turn -/
theorem FEnt.Ok.stay {e : FEnt} (h : e.Ok S w clock) (hD : Dsk S w d m es clock up armed left keep n) (hc : Chg (fun k => k = d ∨ k = m) w w') (hk : clock ≤ clock') : e.Ok S w' clock' :=
  h.chg hc (fun e => e.elim (fun e => h.fil.hg.ne_type hD.hd (by decide) e) (fun e => hD.hm.ne_blk h.fil.hg e.symm)) (fun ad e he => he.elim (h.fil.hA.ne_blk hD.hd (by decide) ad e) (h.fil.ne_map hD.hm ad e)) hk
/-- .. and where another file's block turns too -/
theorem FEnt.Ok.stay3 {e f : FEnt} (h : e.Ok S w clock) (hf : f.Ok S w clock) (ha : Apart e f) (hD : Dsk S w d m es clock up armed left keep n) (hc : Chg (fun k => k = d ∨ k = f.g ∨ ∃ ad, f.A = some ad ∧ k = ad.block) w w') (hk : clock ≤ clock') : e.Ok S w' clock' :=
  h.chg hc (fun e1 => by
      rcases e1 with e1 | e1 | ⟨ad, e1, e2⟩
      · exact h.fil.hg.ne_type hD.hd (by decide) e1
      · exact ha.2.1 e1
      · exact hf.fil.hA.ne_blk h.fil.hg (by decide) ad e1 e2.symm) (fun ad e1 e2 => by
      rcases e2 with e2 | e2 | ⟨bd, e2, e3⟩
      · exact h.fil.hA.ne_blk hD.hd (by decide) ad e1 e2
      · exact h.fil.hA.ne_blk hf.fil.hg (by decide) ad e1 e2
      · exact ha.2.2.2 ad bd e1 e2 e3) hk
end

theorem bytes_ne {x y : ByteArray} (h : x ≠ y) : (x == y) = false := by
  cases hb : (x == y) with
  | false => rfl
  | true => exact absurd ((MapKept.bytes_beq x y).1 hb) h
theorem find_no {x : ByteArray} : ∀ (E : List FEnt) (k : Nat), (∀ e ∈ E, e.nm ≠ x) → Instr.findNow .string (.string x) (E.map FEnt.ent) k = some none := by
  intro E
  induction E with
  | nil => intro k _; rfl
  | cons e E ih =>
    intro k h
    have h1 : (x == e.nm) = false := bytes_ne fun he => h e (by simp) he.symm
    have h2 := ih (k + 1) fun f hf => h f (by simp [hf])
    simp [Instr.findNow, Instr.sameNow, FEnt.ent, entF, h1]
    simpa [FEnt.ent, entF] using h2
theorem find_at : ∀ (E : List FEnt) (i k : Nat) (e : FEnt), E[i]? = some e → E.Pairwise Apart → Instr.findNow .string (.string e.nm) (E.map FEnt.ent) k = some (some (k + i, .pointer (some ⟨e.g, 0, none⟩))) := by
  intro E
  induction E with
  | nil => intro i k e h; simp at h
  | cons f E ih =>
    intro i k e h hp
    rw [List.pairwise_cons] at hp
    rcases i with _ | i
    · simp at h
      subst h
      have : (f.nm == f.nm) = true := (MapKept.bytes_beq _ _).2 rfl
      simp [Instr.findNow, Instr.sameNow, FEnt.ent, entF, this]
    · simp at h
      have h1 : (e.nm == f.nm) = false := bytes_ne fun he => (hp.1 e (List.mem_of_getElem? h)).1 he.symm
      have h2 := ih i (k + 1) e h hp.2
      simp [Instr.findNow, Instr.sameNow, FEnt.ent, entF, h1]
      rw [show k + (i + 1) = k + 1 + i by omega]
      simpa [FEnt.ent, entF] using h2
theorem FS.find {S : Nat → Prop} {w : World} {d m : Nat} {E : List FEnt} {clock : Nat} {up armed : Bool} {left keep : Int} {n : Nat} (h : FS S w d m E clock up armed left keep n) {i : Nat} {e : FEnt} (hi : E[i]? = some e) :
    Instr.findNow .string (.string e.nm) (E.map FEnt.ent).toArray.toList 0 = some (some (i, .pointer (some ⟨e.g, 0, none⟩))) := by
  have := find_at E i 0 e hi h.ap
  simpa using this
theorem map_erase {α β : Type} (f : α → β) : ∀ (l : List α) (i : Nat), (l.map f).eraseIdx i = (l.eraseIdx i).map f
  | [], i => by simp
  | a :: l, 0 => by simp
  | a :: l, i + 1 => by simp [map_erase f l i]
theorem ent_erase (E : List FEnt) (i : Nat) : ((E.map FEnt.ent).toArray).eraseIdxIfInBounds i = ((E.eraseIdx i).map FEnt.ent).toArray := by
  unfold Array.eraseIdxIfInBounds
  split
  · simp [map_erase]
  · rename_i h
    simp at h
    rw [List.eraseIdx_of_length_le h]
theorem ent_push (E : List FEnt) (e : FEnt) : ((E.map FEnt.ent).toArray).push e.ent = ((E ++ [e]).map FEnt.ent).toArray := by simp
theorem ent_modify (E : List FEnt) (j : Nat) (f e : FEnt) (hj : E[j]? = some f) (he : e.nm = f.nm) (hb : e.born = f.born) (x : ByteArray) (hx : x = f.nm) :
    ((E.map FEnt.ent).toArray).modify j (fun y => { y with key := .string x, val := .pointer (some ⟨e.g, 0, none⟩) }) = ((E.set j e).map FEnt.ent).toArray := by
  have hjl := (List.getElem?_eq_some_iff.1 hj).1
  have hje := (List.getElem?_eq_some_iff.1 hj).2
  apply Array.ext
  · simp
  · intro i h1 h2
    simp at h1 h2
    simp only [Array.getElem_modify, List.getElem_toArray, List.getElem_map, List.getElem_set]
    by_cases hij : j = i
    · subst hij
      simp [FEnt.ent, entF, hje, he, hb, hx]
    · simp [hij]
end Go.Proofs.YtepncgeaehjhiaaGreat
