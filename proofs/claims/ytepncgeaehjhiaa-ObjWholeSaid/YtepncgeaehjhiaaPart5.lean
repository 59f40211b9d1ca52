/-
  Several texts in one:
  Append behind a file's bytes, with power and without; Sync; Rename. Conditions: names of one letter; lengths within the file's bound.
  Sync, Rename, Read, Arm, Off, On, Up. Conditions: names of one letter; lengths within the file's bound.
  Read. Conditions: names of one letter; lengths within the file's bound.
  Delete. Conditions: counts that have not come to their ends.
  A disk of any number of files: what lies in it, and how its files are found. Conditions: none.
  What each call of the disk leaves of a disk of any number of files. Conditions: names that may be; lengths within the file's bound; counts that have not come to their ends; the power stays.
-/
import Derived.Test.YtepncgeaehjhiaaPart4

namespace Go.Proofs.Ytepncgeaehjhiaa
open Go.RowKit

theorem find_here (x : ByteArray) (g born : Nat) : Instr.findNow .string (.string x) (#[entF x g born] : Array MapEntry).toList 0 = some (some (0, .pointer (some ⟨g, 0, none⟩))) := by
  have : (x == x) = true := (MapKept.bytes_beq x x).2 rfl
  simp [Instr.findNow, Instr.sameNow, entF, this]
def AppOld (O : Nat → Prop) (w : World) (d m : Nat) (es : Array MapEntry) (clock : Nat) (armed : Bool) (left keep : Int) (n : Nat) (g : Nat) (A : Option Addr) (l : List UInt8) (sy : Nat) (w' : World) : Prop :=
  ∃ A' c, Dsk O w' d m es clock true armed (left - 1) keep (n + 1) ∧ Fil O w' g A' c l sy ∧ Chg (fun k => k = d ∨ k = g ∨ ∃ ad, A = some ad ∧ k = ad.block) w w'

set_option maxHeartbeats 1000000 in
theorem append_old {O : Nat → Prop} {w : World} {d m : Nat} {es : Array MapEntry} {clock : Nat} {armed : Bool} {left keep : Int} {n : Nat} (hO : ∀ k, w.heap.size ≤ k → O k) (hD : Dsk O w d m es clock true armed left keep n) (hna : armed = true → left ≠ 0) (hle : -4000000000000000000 ≤ left ∧ left ≤ 4000000000000000000) (hn : n ≤ 4000000000000000000)
    (x : ByteArray) (hc : NmOk x) {i g : Nat} (h : Instr.findNow .string (.string x) es.toList 0 = some (some (i, .pointer (some ⟨g, 0, none⟩)))) {A0 : Option Addr} {cap0 sy : Nat} {l0 : List UInt8} (hF : Fil O w g A0 cap0 l0 sy) (A : Option Addr) (k cap : Nat) (l : List UInt8) (hr : RB w A k l) (hk : l0.length + k ≤ 4194304) (hAd : ∀ ad, A = some ad → 0 < k → ad.block ≠ d) :
    Calls Try.prog 50 #[.pointer (some ⟨d, 0, none⟩), .string x, .slice A k cap] w fun e w' => e = .returned (.int .i64 0) ∧ AppOld O w d m es clock armed left keep n g A0 (l0 ++ l) sy w' := by
  have hmf : ∀ (fn : Fn) (first cp : Array Value) (w : World), (Instr.makeFunc fn first cp).run Try.prog w = .ok (.func fn first cp) w := fun _ _ _ _ => rfl
  obtain ⟨W, hW, hgW, b1, b2, b3, hzW⟩ := three_boxes w (.pointer (some ⟨d, 0, none⟩)) (.string x) (.slice A k cap) 28 9 23
  have hdl := hD.hd.lt
  go_enter Try.func50, Try.ntmps50
  go_wp2_with fail
  rw [← hW]
  have hDW := hD.grew hgW
  have hFW := hF.grew hgW
  have hrW := hr.grew hgW
  clear hW
  refine (write_ok hDW hna hle hn _ _ _ entA2 entA1 _ _ _ (app_old hDW x hc h (hFW.hg.cell 0) (b2.cell 0) (b1.cell 0) (b3.cell 0) hk) (R := fun w1 w' => OldF O w1 d m es clock true armed (left - 1) keep (n + 1) g A0 (l0 ++ l) sy (.returned (.tuple #[])) w') ?_).mono ?_
  · intro w1 hc1 hD1
    have hO1 : ∀ k, w1.heap.size ≤ k → O k := fun k hk => hO k (by have := hc1.size; omega)
    have ne1 := b1.ne_type hDW.hd (by decide)
    have ne2 := b2.ne_type hDW.hd (by decide)
    have ne3 := b3.ne_type hDW.hd (by decide)
    have hF1 := hFW.chg hc1 (hFW.hg.ne_type hDW.hd (by decide)) (hFW.hA.ne_blk hDW.hd (by decide))
    have b31 := b3.chg hc1 ne3
    refine (do_old hO1 hD1 x h hF1 ((b2.chg hc1 ne2).cell 0) ((b1.chg hc1 ne1).cell 0) (b31.cell 0) (hF1.hA.ne_blk b31 (by decide)) (hrW.far hc1 hAd) hk).mono ?_
    intro e w' he
    have := he.1
    subst this
    exact ⟨rfl, he⟩
  rintro e w' ⟨rfl, w1, hc1, hD1, ⟨_, A', c', h1, h2, h3⟩⟩
  go_wp2
  go_ret
  refine ⟨by simp, A', c', h1, h2, ?_⟩
  exact ((Chg.of_grew hgW).trans (hc1.mono fun j _ e => .inl e)).trans (h3.mono fun j _ e => .inr e)

theorem append_off {O : Nat → Prop} {w : World} {d m : Nat} {es : Array MapEntry} {clock : Nat} {armed : Bool} {left keep : Int} {n : Nat} (hD : Dsk O w d m es clock false armed left keep n) (x : ByteArray) (A : Option Addr) (k cap : Nat) :
    Calls Try.prog 50 #[.pointer (some ⟨d, 0, none⟩), .string x, .slice A k cap] w fun e w' => e = .returned (.int .i64 60) ∧ Grew w w' := by
  have hmf : ∀ (fn : Fn) (first cp : Array Value) (w : World), (Instr.makeFunc fn first cp).run Try.prog w = .ok (.func fn first cp) w := fun _ _ _ _ => rfl
  obtain ⟨W, hW, hgW, b1, b2, b3, hzW⟩ := three_boxes w (.pointer (some ⟨d, 0, none⟩)) (.string x) (.slice A k cap) 28 9 23
  have hdl := hD.hd.lt
  go_enter Try.func50, Try.ntmps50
  go_wp2_with fail
  rw [← hW]
  have hDW := hD.grew hgW
  clear hW
  refine (write_off hDW _ _ _).mono ?_
  rintro e w' ⟨rfl, rfl⟩
  go_wp2
  go_ret
  exact ⟨by simp, hgW⟩

/-- what a disk of one file is when the power has gone -/
def Gone (O : Nat → Prop) (w : World) (d m : Nat) (x : ByteArray) (g born clock : Nat) (left keep : Int) (n : Nat) (A : Option Addr) (l : List UInt8) (sy : Nat) (w' : World) : Prop :=
  ∃ A' c, Dsk O w' d m #[entF x g born] clock false false left keep n ∧ Fil O w' g A' c (l.take (stayN l.length sy keep)) (stayN l.length sy keep) ∧ Chg (fun k => k = d ∨ k = g ∨ ∃ ad, A = some ad ∧ k = ad.block) w w'

set_option maxHeartbeats 1000000 in
theorem append_cut {O : Nat → Prop} {w : World} {d m : Nat} {x : ByteArray} {g born clock : Nat} {keep : Int} {n : Nat} (hO : ∀ k, w.heap.size ≤ k → O k) (hD : Dsk O w d m #[entF x g born] clock true true 0 keep n) (hn : n ≤ 4000000000000000000) (hbn : born < clock) (hkp : keep ≤ 9223372036854775807)
    (hc : NmOk x) {A0 : Option Addr} {cap0 sy : Nat} {l0 : List UInt8} (hF : Fil O w g A0 cap0 l0 sy) (hsy : sy ≤ l0.length) (A : Option Addr) (k cap : Nat) (l : List UInt8) (hr : RB w A k l) (hk : l0.length + k ≤ 4194304) (hAd : ∀ ad, A = some ad → 0 < k → ad.block ≠ d) :
    Calls Try.prog 50 #[.pointer (some ⟨d, 0, none⟩), .string x, .slice A k cap] w fun e w' => e = .returned (.int .i64 60) ∧ Gone O w d m x g born clock 0 keep (n + 1) A0 (l0 ++ l) sy w' := by
  have hmf : ∀ (fn : Fn) (first cp : Array Value) (w : World), (Instr.makeFunc fn first cp).run Try.prog w = .ok (.func fn first cp) w := fun _ _ _ _ => rfl
  obtain ⟨W, hW, hgW, b1, b2, b3, hzW⟩ := three_boxes w (.pointer (some ⟨d, 0, none⟩)) (.string x) (.slice A k cap) 28 9 23
  have hdl := hD.hd.lt
  have h := find_here x g born
  go_enter Try.func50, Try.ntmps50
  go_wp2_with fail
  rw [← hW]
  have hDW := hD.grew hgW
  have hFW := hF.grew hgW
  have hrW := hr.grew hgW
  clear hW
  have hll : l.length = k := hr.1
  refine (write_cut hDW hn _ _ _ entA2 entA1 _ _ _ (app_old hDW x hc h (hFW.hg.cell 0) (b2.cell 0) (b1.cell 0) (b3.cell 0) hk) (R := fun w1 w' => OldF O w1 d m #[entF x g born] clock true true 0 keep (n + 1) g A0 (l0 ++ l) sy (.returned (.tuple #[])) w')
    (T := fun w2 w' => ∃ A' c', Dsk O w' d m #[entF x g born] clock false false 0 keep (n + 1) ∧ Fil O w' g A' c' ((l0 ++ l).take (stayN (l0 ++ l).length sy keep)) (stayN (l0 ++ l).length sy keep) ∧ Chg (fun k => k = g ∨ k = d) w2 w') ?_ ?_ ?_).mono ?_
  · intro w1 hc1 hD1
    have hO1 : ∀ k, w1.heap.size ≤ k → O k := fun k hk => hO k (by have := hc1.size; omega)
    have ne1 := b1.ne_type hDW.hd (by decide)
    have ne2 := b2.ne_type hDW.hd (by decide)
    have ne3 := b3.ne_type hDW.hd (by decide)
    have hF1 := hFW.chg hc1 (hFW.hg.ne_type hDW.hd (by decide)) (hFW.hA.ne_blk hDW.hd (by decide))
    have b31 := b3.chg hc1 ne3
    refine (do_old hO1 hD1 x h hF1 ((b2.chg hc1 ne2).cell 0) ((b1.chg hc1 ne1).cell 0) (b31.cell 0) (hF1.hA.ne_blk b31 (by decide)) (hrW.far hc1 hAd) hk).mono ?_
    intro e w' he
    have := he.1
    subst this
    exact ⟨rfl, he⟩
  · rintro w1 w2 ⟨_, A', c', h1, h2, h3⟩
    exact h1.c4
  · rintro w1 w2 ⟨_, A', c', h1, h2, h3⟩
    refine (cut_one h1 hbn h2 (by rw [List.length_append]; omega) (by rw [List.length_append]; omega) keep hkp).mono ?_
    rintro e w' ⟨rfl, k1, k2, k3⟩
    exact ⟨rfl, A', c', k1, k2, k3⟩
  rintro e w' ⟨rfl, w1, w2, hc1, hD1, ⟨_, A', c', h1, h2, h3⟩, B, c2, k1, k2, k3⟩
  go_wp2
  go_ret
  refine ⟨by simp, B, c2, k1, k2, ?_⟩
  exact (((Chg.of_grew hgW).trans (hc1.mono fun j _ e => .inl e)).trans (h3.mono fun j _ e => .inr e)).trans (k3.mono fun j _ e => e.elim (fun e => .inr (.inl e)) .inl)
end Go.Proofs.Ytepncgeaehjhiaa

namespace Go.Proofs.Ytepncgeaehjhiaa
open Go.RowKit

theorem entS1 : ∀ args w, (callFunc 62 args).run Try.prog w = .ok (.enter 62 args) w := Go.Proofs.enters_of Try.func62 (by kernel_rfl) rfl
theorem entS2 : ∀ args w, (callFunc 63 args).run Try.prog w = .ok (.enter 63 args) w := Go.Proofs.enters_of Try.func63 (by kernel_rfl) rfl
theorem entR1 : ∀ args w, (callFunc 64 args).run Try.prog w = .ok (.enter 64 args) w := Go.Proofs.enters_of Try.func64 (by kernel_rfl) rfl
theorem entR2 : ∀ args w, (callFunc 65 args).run Try.prog w = .ok (.enter 65 args) w := Go.Proofs.enters_of Try.func65 (by kernel_rfl) rfl
theorem entNo : ∀ args w, (callFunc 43 args).run Try.prog w = .ok (.enter 43 args) w := Go.Proofs.enters_of Try.func43 (by kernel_rfl) rfl
theorem nothing_any (w : World) : Calls Try.prog 43 #[] w fun e w' => e = .returned (.tuple #[]) ∧ w = w' := by
  go_enter Try.func43, Try.ntmps43
  go_wp2
  go_end0
  exact ⟨rfl, rfl⟩

set_option maxHeartbeats 1000000 in
theorem sync_ok {O : Nat → Prop} {w : World} {d m : Nat} {es : Array MapEntry} {clock : Nat} {armed : Bool} {left keep : Int} {n : Nat} (hD : Dsk O w d m es clock true armed left keep n) (hna : armed = true → left ≠ 0) (hle : -4000000000000000000 ≤ left ∧ left ≤ 4000000000000000000) (hn : n ≤ 4000000000000000000)
    (x : ByteArray) (hc : NmOk x) {i g : Nat} (h : Instr.findNow .string (.string x) es.toList 0 = some (some (i, .pointer (some ⟨g, 0, none⟩)))) {A : Option Addr} {cap sy : Nat} {l : List UInt8} (hF : Fil O w g A cap l sy) :
    Calls Try.prog 51 #[.pointer (some ⟨d, 0, none⟩), .string x] w fun e w' => e = .returned (.int .i64 0) ∧ Dsk O w' d m es clock true armed (left - 1) keep (n + 1) ∧ Fil O w' g A cap l l.length ∧ Chg (fun k => k = d ∨ k = g) w w' := by
  have hmf : ∀ (fn : Fn) (first cp : Array Value) (w : World), (Instr.makeFunc fn first cp).run Try.prog w = .ok (.func fn first cp) w := fun _ _ _ _ => rfl
  obtain ⟨W, hW, hgW, b1, b2, hzW⟩ := two_boxes w (.pointer (some ⟨d, 0, none⟩)) (.string x) 28 9
  have hdl := hD.hd.lt
  go_enter Try.func51, Try.ntmps51
  go_wp2_with fail
  rw [← hW]
  have hDW := hD.grew hgW
  have hFW := hF.grew hgW
  clear hW
  refine (write_ok hDW hna hle hn _ _ _ entS1 entS2 _ _ _ ((sync_ask hDW x hc h (b2.cell 0) (b1.cell 0)).mono fun e w' ⟨h1, h2⟩ => ⟨h1, 0, by rw [← h2]; rfl⟩) (R := fun w1 w' => Dsk O w' d m es clock true armed (left - 1) keep (n + 1) ∧ Fil O w' g A cap l l.length ∧ Chg (fun k => k = g) w1 w') ?_).mono ?_
  · intro w1 hc1 hD1
    have ne1 := b1.ne_type hDW.hd (by decide)
    have ne2 := b2.ne_type hDW.hd (by decide)
    have hF1 := hFW.chg hc1 (hFW.hg.ne_type hDW.hd (by decide)) (hFW.hA.ne_blk hDW.hd (by decide))
    exact sync_do hD1 x h hF1 ((b2.chg hc1 ne2).cell 0) ((b1.chg hc1 ne1).cell 0)
  rintro e w' ⟨rfl, w1, hc1, hD1, h1, h2, h3⟩
  go_wp2
  go_ret
  exact ⟨by simp, h1, h2, ((Chg.of_grew hgW).trans (hc1.mono fun j _ e => .inl e)).trans (h3.mono fun j _ e => .inr e)⟩

set_option maxHeartbeats 1000000 in
theorem sync_cut {O : Nat → Prop} {w : World} {d m : Nat} {x : ByteArray} {g born clock : Nat} {keep : Int} {n : Nat} (hD : Dsk O w d m #[entF x g born] clock true true 0 keep n) (hn : n ≤ 4000000000000000000) (hbn : born < clock) (hkp : keep ≤ 9223372036854775807)
    (hc : NmOk x) {A : Option Addr} {cap sy : Nat} {l : List UInt8} (hF : Fil O w g A cap l sy) (hsy : sy ≤ l.length) (hl : l.length ≤ 4194304) :
    Calls Try.prog 51 #[.pointer (some ⟨d, 0, none⟩), .string x] w fun e w' => e = .returned (.int .i64 60) ∧ Gone O w d m x g born clock 0 keep (n + 1) A l sy w' := by
  have hmf : ∀ (fn : Fn) (first cp : Array Value) (w : World), (Instr.makeFunc fn first cp).run Try.prog w = .ok (.func fn first cp) w := fun _ _ _ _ => rfl
  obtain ⟨W, hW, hgW, b1, b2, hzW⟩ := two_boxes w (.pointer (some ⟨d, 0, none⟩)) (.string x) 28 9
  have hdl := hD.hd.lt
  have h := find_here x g born
  go_enter Try.func51, Try.ntmps51
  go_wp2_with fail
  rw [← hW]
  have hDW := hD.grew hgW
  have hFW := hF.grew hgW
  clear hW
  refine (write_cut hDW hn _ _ _ entS1 entNo _ _ _ ((sync_ask hDW x hc h (b2.cell 0) (b1.cell 0)).mono fun e w' ⟨h1, h2⟩ => ⟨h1, 0, by rw [← h2]; rfl⟩) (R := fun w1 w' => w1 = w' ∧ Dsk O w1 d m #[entF x g born] clock true true 0 keep (n + 1) ∧ Fil O w1 g A cap l sy)
    (T := fun w2 w' => Dsk O w' d m #[entF x g born] clock false false 0 keep (n + 1) ∧ Fil O w' g A cap (l.take (stayN l.length sy keep)) (stayN l.length sy keep) ∧ Chg (fun k => k = g ∨ k = d) w2 w') ?_ ?_ ?_).mono ?_
  · intro w1 hc1 hD1
    have hF1 := hFW.chg hc1 (hFW.hg.ne_type hDW.hd (by decide)) (hFW.hA.ne_blk hDW.hd (by decide))
    exact (nothing_any w1).mono fun e w' ⟨h1, h2⟩ => ⟨h1, h2, hD1, hF1⟩
  · rintro w1 w2 ⟨rfl, h1, h2⟩
    exact h1.c4
  · rintro w1 w2 ⟨rfl, h1, h2⟩
    exact cut_one h1 hbn h2 hsy hl keep hkp
  rintro e w' ⟨rfl, w1, w2, hc1, hD1, ⟨rfl, _, _⟩, k1, k2, k3⟩
  go_wp2
  go_ret
  refine ⟨by simp, A, cap, k1, k2, ?_⟩
  exact ((Chg.of_grew hgW).trans (hc1.mono fun j _ e => .inl e)).trans (k3.mono fun j _ e => e.elim (fun e => .inr (.inl e)) .inl)

set_option maxHeartbeats 1000000 in
theorem rename_ok {O : Nat → Prop} {w : World} {d m : Nat} {es : Array MapEntry} {clock : Nat} {armed : Bool} {left keep : Int} {n : Nat} (hD : Dsk O w d m es clock true armed left keep n) (hna : armed = true → left ≠ 0) (hle : -4000000000000000000 ≤ left ∧ left ≤ 4000000000000000000) (hn : n ≤ 4000000000000000000)
    (x y : ByteArray) (hc : NmOk x) (hc2 : NmOk y) {i g : Nat} (h : Instr.findNow .string (.string x) es.toList 0 = some (some (i, .pointer (some ⟨g, 0, none⟩)))) {es2 : Array MapEntry} {clock2 : Nat}
    (hput : ∀ w', MapB w' m (es.eraseIdxIfInBounds i) clock → (Instr.mapUpdate 57 (.map (some m)) (.string y) (.pointer (some ⟨g, 0, none⟩))).run Try.prog w' = .ok () (setB w' m (.map es2 clock2))) :
    Calls Try.prog 52 #[.pointer (some ⟨d, 0, none⟩), .string x, .string y] w fun e w' => e = .returned (.int .i64 0) ∧ Dsk O w' d m es2 clock2 true armed (left - 1) keep (n + 1) ∧ Chg (fun k => k = d ∨ k = m) w w' := by
  have hmf : ∀ (fn : Fn) (first cp : Array Value) (w : World), (Instr.makeFunc fn first cp).run Try.prog w = .ok (.func fn first cp) w := fun _ _ _ _ => rfl
  obtain ⟨W, hW, hgW, b1, b2, b3, hzW⟩ := three_boxes w (.pointer (some ⟨d, 0, none⟩)) (.string x) (.string y) 28 9 9
  have hdl := hD.hd.lt
  go_enter Try.func52, Try.ntmps52
  go_wp2_with fail
  rw [← hW]
  have hDW := hD.grew hgW
  clear hW
  refine (write_ok hDW hna hle hn _ _ _ entR1 entR2 _ _ _ ((ren_ask hDW x y hc hc2 h (b2.cell 0) (b1.cell 0) (b3.cell 0)).mono fun e w' ⟨h1, h2⟩ => ⟨h1, 0, by rw [← h2]; rfl⟩) (R := fun w1 w' => Dsk O w' d m es2 clock2 true armed (left - 1) keep (n + 1) ∧ Chg (fun k => k = m) w1 w') ?_).mono ?_
  · intro w1 hc1 hD1
    have ne1 := b1.ne_type hDW.hd (by decide)
    have ne2 := b2.ne_type hDW.hd (by decide)
    have ne3 := b3.ne_type hDW.hd (by decide)
    exact ren_do hD1 x y h ((b2.chg hc1 ne2).cell 0) ((b1.chg hc1 ne1).cell 0) ((b3.chg hc1 ne3).cell 0) hput
  rintro e w' ⟨rfl, w1, hc1, hD1, h1, h2⟩
  go_wp2
  go_ret
  exact ⟨by simp, h1, ((Chg.of_grew hgW).trans (hc1.mono fun j _ e => .inl e)).trans (h2.mono fun j _ e => .inr e)⟩

set_option maxHeartbeats 1000000 in
theorem rename_cut {O : Nat → Prop} {w : World} {d m : Nat} {x y : ByteArray} {g born clock : Nat} {keep : Int} {n : Nat} (hD : Dsk O w d m #[entF x g born] clock true true 0 keep n) (hn : n ≤ 4000000000000000000) (hbn : born < clock) (hkp : keep ≤ 9223372036854775807)
    (hc : NmOk x) (hc2 : NmOk y) {A : Option Addr} {cap sy : Nat} {l : List UInt8} (hF : Fil O w g A cap l sy) (hsy : sy ≤ l.length) (hl : l.length ≤ 4194304) :
    Calls Try.prog 52 #[.pointer (some ⟨d, 0, none⟩), .string x, .string y] w fun e w' => e = .returned (.int .i64 60) ∧ Gone O w d m x g born clock 0 keep (n + 1) A l sy w' := by
  have hmf : ∀ (fn : Fn) (first cp : Array Value) (w : World), (Instr.makeFunc fn first cp).run Try.prog w = .ok (.func fn first cp) w := fun _ _ _ _ => rfl
  obtain ⟨W, hW, hgW, b1, b2, b3, hzW⟩ := three_boxes w (.pointer (some ⟨d, 0, none⟩)) (.string x) (.string y) 28 9 9
  have hdl := hD.hd.lt
  have h := find_here x g born
  go_enter Try.func52, Try.ntmps52
  go_wp2_with fail
  rw [← hW]
  have hDW := hD.grew hgW
  have hFW := hF.grew hgW
  clear hW
  refine (write_cut hDW hn _ _ _ entR1 entNo _ _ _ ((ren_ask hDW x y hc hc2 h (b2.cell 0) (b1.cell 0) (b3.cell 0)).mono fun e w' ⟨h1, h2⟩ => ⟨h1, 0, by rw [← h2]; rfl⟩) (R := fun w1 w' => w1 = w' ∧ Dsk O w1 d m #[entF x g born] clock true true 0 keep (n + 1) ∧ Fil O w1 g A cap l sy)
    (T := fun w2 w' => Dsk O w' d m #[entF x g born] clock false false 0 keep (n + 1) ∧ Fil O w' g A cap (l.take (stayN l.length sy keep)) (stayN l.length sy keep) ∧ Chg (fun k => k = g ∨ k = d) w2 w') ?_ ?_ ?_).mono ?_
  · intro w1 hc1 hD1
    have hF1 := hFW.chg hc1 (hFW.hg.ne_type hDW.hd (by decide)) (hFW.hA.ne_blk hDW.hd (by decide))
    exact (nothing_any w1).mono fun e w' ⟨h1, h2⟩ => ⟨h1, h2, hD1, hF1⟩
  · rintro w1 w2 ⟨rfl, h1, h2⟩
    exact h1.c4
  · rintro w1 w2 ⟨rfl, h1, h2⟩
    exact cut_one h1 hbn h2 hsy hl keep hkp
  rintro e w' ⟨rfl, w1, w2, hc1, hD1, ⟨rfl, _, _⟩, k1, k2, k3⟩
  go_wp2
  go_ret
  refine ⟨by simp, A, cap, k1, k2, ?_⟩
  exact ((Chg.of_grew hgW).trans (hc1.mono fun j _ e => .inl e)).trans (k3.mono fun j _ e => e.elim (fun e => .inr (.inl e)) .inl)

set_option maxHeartbeats 1000000 in
theorem off_any {O : Nat → Prop} {w : World} {d m : Nat} {x : ByteArray} {g born clock : Nat} {armed : Bool} {left keep : Int} {n : Nat} (hD : Dsk O w d m #[entF x g born] clock true armed left keep n) (hbn : born < clock)
    {A : Option Addr} {cap sy : Nat} {l : List UInt8} (hF : Fil O w g A cap l sy) (hsy : sy ≤ l.length) (hl : l.length ≤ 4194304) (kp : Int) (hkp : kp ≤ 9223372036854775807) :
    Calls Try.prog 21 #[.pointer (some ⟨d, 0, none⟩), .int .i64 kp] w fun e w' => e = .returned (.tuple #[]) ∧ Dsk O w' d m #[entF x g born] clock false false left keep n ∧
      Fil O w' g A cap (l.take (stayN l.length sy kp)) (stayN l.length sy kp) ∧ Chg (fun k => k = g ∨ k = d) w w' := by
  have hC := cut_one hD hbn hF hsy hl kp hkp
  have c1 := hD.c1
  go_enter Try.func21, Try.ntmps21
  go_wp2_with fail
  refine hC.mono ?_
  rintro e w' ⟨rfl, h⟩
  go_wp2
  go_end0
  exact ⟨rfl, h⟩
set_option maxHeartbeats 1000000 in
theorem on_any {O : Nat → Prop} {w : World} {d m : Nat} {es : Array MapEntry} {clock : Nat} {up armed : Bool} {left keep : Int} {n : Nat} (hD : Dsk O w d m es clock up armed left keep n) :
    Calls Try.prog 22 #[.pointer (some ⟨d, 0, none⟩)] w fun e w' => e = .returned (.tuple #[]) ∧ Dsk O w' d m es clock true armed left keep n ∧ Chg (fun k => k = d) w w' := by
  have c1 := hD.c1
  have f1 : w.frozen? ⟨d, 1, none⟩ = false := hD.hd.frozen 1
  go_enter Try.func22, Try.ntmps22
  go_wp2
  go_end0
  have hc := Chg.one w d 1 (.bool true)
  exact ⟨rfl, ⟨hD.hd.set 1 (.bool true), hD.hm.chg hc (hD.hm.ne_blk hD.hd), hD.od, hD.om⟩, hc⟩
set_option maxHeartbeats 1000000 in
theorem arm_any {O : Nat → Prop} {w : World} {d m : Nat} {es : Array MapEntry} {clock : Nat} {up armed : Bool} {left keep : Int} {n : Nat} (hD : Dsk O w d m es clock up armed left keep n) (k : Nat) (kp : Int) :
    Calls Try.prog 20 #[.pointer (some ⟨d, 0, none⟩), .int .i64 (k : Int), .int .i64 kp] w fun e w' => e = .returned (.tuple #[]) ∧ Dsk O w' d m es clock up true (k : Int) kp n ∧ Chg (fun k => k = d) w w' := by
  have c2 := hD.c2
  have c3 := hD.c3
  have c4 := hD.c4
  have f2 : w.frozen? ⟨d, 2, none⟩ = false := hD.hd.frozen 2
  have f3 : w.frozen? ⟨d, 3, none⟩ = false := hD.hd.frozen 3
  have f4 : w.frozen? ⟨d, 4, none⟩ = false := hD.hd.frozen 4
  have e0 : decide ((0 : Int) ≤ (k : Int)) = true := decide_eq_true (by omega)
  go_enter Try.func20, Try.ntmps20
  go_wp2
  go_end0
  have hc : Chg (fun j => j = d) w (((w.setCell ⟨d, 2, none⟩ (.bool true)).setCell ⟨d, 3, none⟩ (.int .i64 (k : Int))).setCell ⟨d, 4, none⟩ (.int .i64 kp)) :=
    Chg.setCell (S := fun j => j = d) (Chg.setCell (S := fun j => j = d) (Chg.setCell (S := fun j => j = d) (Chg.refl _ w) (p := ⟨d, 2, none⟩) (.inr rfl) _) (p := ⟨d, 3, none⟩) (.inr rfl) _) (p := ⟨d, 4, none⟩) (.inr rfl) _
  exact ⟨rfl, ⟨Blk.set (Blk.set (Blk.set hD.hd 2 (.bool true)) 3 (.int .i64 (k : Int))) 4 (.int .i64 kp), hD.hm.chg hc (hD.hm.ne_blk hD.hd), hD.od, hD.om⟩, hc⟩
theorem up_any {O : Nat → Prop} {w : World} {d m : Nat} {es : Array MapEntry} {clock : Nat} {up armed : Bool} {left keep : Int} {n : Nat} (hD : Dsk O w d m es clock up armed left keep n) :
    Calls Try.prog 25 #[.pointer (some ⟨d, 0, none⟩)] w fun e w' => e = .returned (.bool up) ∧ w = w' := by
  have c1 := hD.c1
  go_enter Try.func25, Try.ntmps25
  go_wp2
  go_ret
  exact ⟨by simp, rfl⟩
end Go.Proofs.Ytepncgeaehjhiaa

namespace Go.Proofs.Ytepncgeaehjhiaa
open Go.RowKit

set_option maxHeartbeats 1000000 in
theorem read_ok {O : Nat → Prop} {w : World} {d m : Nat} {es : Array MapEntry} {clock : Nat} {armed : Bool} {left keep : Int} {n : Nat} (hD : Dsk O w d m es clock true armed left keep n) (x : ByteArray) (hc : NmOk x) {i g : Nat} (h : Instr.findNow .string (.string x) es.toList 0 = some (some (i, .pointer (some ⟨g, 0, none⟩))))
    {A : Option Addr} {cap sy : Nat} {l : List UInt8} (hF : Fil O w g A cap l sy) (hl : l.length ≤ 4194304) :
    Calls Try.prog 44 #[.pointer (some ⟨d, 0, none⟩), .string x] w fun e w' => ∃ A' c', e = .returned (.tuple #[.slice A' l.length c', .int .i64 0]) ∧ OB w' w.heap.size 5 A' l.length c' l ∧ Grew w w' := by
  have hT := there_yes hD x hc h
  have c1 := hD.c1
  have hg1 : Grew w (w.alloc (.cells #[] 5)) := (Chg.refl _ w).alloc _
  have hlk := look_disk (hD.grew hg1).hm h
  simp only [lookV] at hlk
  have c0 := (hD.grew hg1).c0
  have hF1 := hF.grew hg1
  have g0 : (w.alloc (.cells #[] 5)).cell? ⟨g, 0, none⟩ = some (.slice A l.length cap) := hF1.hg.cell 0
  have hown : OB (w.alloc (.cells #[] 5)) w.heap.size 5 (some ⟨w.heap.size, 0, none⟩) 0 0 [] := Own.made w w.heap.size 5 1 (Nat.le_refl _)
  have hr := hF1.hA.rb
  go_enter Try.func44, Try.ntmps44
  go_wp2_with fail
  refine hT.mono ?_
  rintro e w1 ⟨rfl, rfl⟩
  go_wp2_with (at_builtin; refine wpList_appB rfl _ _ rfl w.heap.size _ 0 0 [] rfl hown (by simp) A l.length cap l rfl hr (by omega) ?_; intro A' c' w' h1)
  go_ret2
  have h2 := h1.ob
  have h3 := h1.grew hg1 (head_ge (Nat.le_refl _))
  simp only [Nat.zero_add, List.nil_append] at h2
  exact ⟨A', c', by simp, h2, h3⟩
set_option maxHeartbeats 1000000 in
theorem read_none {O : Nat → Prop} {w : World} {d m : Nat} {es : Array MapEntry} {clock : Nat} {armed : Bool} {left keep : Int} {n : Nat} (hD : Dsk O w d m es clock true armed left keep n) (x : ByteArray) (hc : NmOk x) (h : Instr.findNow .string (.string x) es.toList 0 = some none) :
    Calls Try.prog 44 #[.pointer (some ⟨d, 0, none⟩), .string x] w fun e w' => e = .returned (.tuple #[.slice none 0 0, .int .i64 62]) ∧ w = w' := by
  have hT := there_no hD x hc h
  have c1 := hD.c1
  go_enter Try.func44, Try.ntmps44
  go_wp2_with fail
  refine hT.mono ?_
  rintro e w1 ⟨rfl, rfl⟩
  go_wp2
  go_ret2
  exact ⟨by simp, rfl⟩
set_option maxHeartbeats 1000000 in
theorem read_off {O : Nat → Prop} {w : World} {d m : Nat} {es : Array MapEntry} {clock : Nat} {armed : Bool} {left keep : Int} {n : Nat} (hD : Dsk O w d m es clock false armed left keep n) (x : ByteArray) :
    Calls Try.prog 44 #[.pointer (some ⟨d, 0, none⟩), .string x] w fun e w' => e = .returned (.tuple #[.slice none 0 0, .int .i64 60]) ∧ w = w' := by
  have c1 := hD.c1
  go_enter Try.func44, Try.ntmps44
  go_wp2
  go_ret2
  exact ⟨by simp, rfl⟩
end Go.Proofs.Ytepncgeaehjhiaa

namespace Go.Proofs.Ytepncgeaehjhiaa
open Go.RowKit

set_option maxHeartbeats 800000 in
theorem write_no {O : Nat → Prop} {w : World} {d m : Nat} {es : Array MapEntry} {clock : Nat} {armed : Bool} {left keep : Int} {n : Nat} (hD : Dsk O w d m es clock true armed left keep n) (er : Nat) (he : 0 < er)
    (fa : Nat) (ea : ∀ args w, (callFunc fa args).run Try.prog w = .ok (.enter fa args) w) (ca : Array Value) (v2 v3 : Value) (hA : Calls Try.prog fa ca w fun e w' => e = .returned (.int .i64 (er : Int)) ∧ ∃ k, w' = w.drewN k) :
    Calls Try.prog 39 #[.pointer (some ⟨d, 0, none⟩), .func (.func fa) #[] ca, v2, v3] w fun e w' => e = .returned (.int .i64 (er : Int)) ∧ ∃ k, w' = w.drewN k := by
  have c1 := hD.c1
  have h0 : ((er : Int) != 0) = true := by simp; omega
  go_enter Try.func39, Try.ntmps39
  go_wp2_with fail
  refine hA.mono ?_
  rintro e w1 ⟨rfl, k, rfl⟩
  go_wp2
  go_ret
  exact ⟨by simp, k, rfl⟩

theorem entD1 : ∀ args w, (callFunc 40 args).run Try.prog w = .ok (.enter 40 args) w := Go.Proofs.enters_of Try.func40 (by kernel_rfl) rfl
theorem entD2 : ∀ args w, (callFunc 42 args).run Try.prog w = .ok (.enter 42 args) w := Go.Proofs.enters_of Try.func42 (by kernel_rfl) rfl

set_option maxHeartbeats 800000 in
theorem del_ask {O : Nat → Prop} {w : World} {d m : Nat} {es : Array MapEntry} {clock : Nat} {up armed : Bool} {left keep : Int} {n : Nat} (hD : Dsk O w d m es clock up armed left keep n) (x : ByteArray) (hc : NmOk x) {i g : Nat}
    (h : Instr.findNow .string (.string x) es.toList 0 = some (some (i, .pointer (some ⟨g, 0, none⟩)))) {p q : Nat} (hp : w.cell? ⟨p, 0, none⟩ = some (.string x)) (hq : w.cell? ⟨q, 0, none⟩ = some (.pointer (some ⟨d, 0, none⟩))) :
    Calls Try.prog 40 #[.pointer (some ⟨q, 0, none⟩), .pointer (some ⟨p, 0, none⟩)] w fun e w' => e = .returned (.int .i64 0) ∧ w = w' := by
  have hT := there_yes hD x hc h
  go_enter Try.func40, Try.ntmps40
  go_wp2_with fail
  refine hT.mono ?_
  rintro e w1 ⟨rfl, rfl⟩
  go_wp2
  go_ret
  exact ⟨by simp, rfl⟩
set_option maxHeartbeats 800000 in
theorem del_not {O : Nat → Prop} {w : World} {d m : Nat} {es : Array MapEntry} {clock : Nat} {up armed : Bool} {left keep : Int} {n : Nat} (hD : Dsk O w d m es clock up armed left keep n) (x : ByteArray) (hc : NmOk x)
    (h : Instr.findNow .string (.string x) es.toList 0 = some none) {p q : Nat} (hp : w.cell? ⟨p, 0, none⟩ = some (.string x)) (hq : w.cell? ⟨q, 0, none⟩ = some (.pointer (some ⟨d, 0, none⟩))) :
    Calls Try.prog 40 #[.pointer (some ⟨q, 0, none⟩), .pointer (some ⟨p, 0, none⟩)] w fun e w' => e = .returned (.int .i64 62) ∧ w = w' := by
  have hT := there_no hD x hc h
  go_enter Try.func40, Try.ntmps40
  go_wp2_with fail
  refine hT.mono ?_
  rintro e w1 ⟨rfl, rfl⟩
  go_wp2
  go_ret
  exact ⟨by simp, rfl⟩

set_option maxHeartbeats 800000 in
theorem del_do {O : Nat → Prop} {w : World} {d m : Nat} {es : Array MapEntry} {clock : Nat} {up armed : Bool} {left keep : Int} {n : Nat} (hD : Dsk O w d m es clock up armed left keep n) (x : ByteArray) {i g : Nat}
    (h : Instr.findNow .string (.string x) es.toList 0 = some (some (i, .pointer (some ⟨g, 0, none⟩)))) {p q : Nat} (hp : w.cell? ⟨p, 0, none⟩ = some (.string x)) (hq : w.cell? ⟨q, 0, none⟩ = some (.pointer (some ⟨d, 0, none⟩))) :
    Calls Try.prog 42 #[.pointer (some ⟨q, 0, none⟩), .pointer (some ⟨p, 0, none⟩)] w fun e w' => e = .returned (.tuple #[]) ∧ Dsk O w' d m (es.eraseIdxIfInBounds i) clock up armed left keep n ∧ Chg (fun k => k = m) w w' := by
  have c0 := hD.c0
  have hn1 := hD.hm.ne_cell hq
  have hn2 := hD.hm.ne_cell c0
  have hn3 := hD.hm.ne_cell hp
  have hdel : ∀ ty, (Builtin.delete_ #[57, 9] ty #[.map (some m), .string x]).run Try.prog w.drew = .ok (.tuple #[]) (setB w.drew m (.map (es.eraseIdxIfInBounds i) clock)) := fun ty => run_strike (P := Try.prog) ty Try.underlying57 Try.underlying9 hD.hm.drew h
  have hc1 : Chg (fun k => k = m) w (setB w.drew m (.map (es.eraseIdxIfInBounds i) clock)) := Chg.setB (S := fun k => k = m) (Chg.refl _ w).drew (k := m) (.inr rfl) _
  have hm1 : MapB (setB w.drew m (.map (es.eraseIdxIfInBounds i) clock)) m (es.eraseIdxIfInBounds i) clock := hD.hm.drew.set _ _
  go_enter Try.func42, Try.ntmps42
  go_wp2_with fail
  refine wp_region_textS [] [q, d, p] (by kernel_rfl) (by kernel_rfl) (cellsIn_cons hq (cellsIn_cons c0 (cellsIn_cons hp (cellsIn_nil _)))) ?_
  simp only [wpU, tagOf, chk, List.nil_append, List.cons_append]
  intro K hK
  go_wp2_with fail
  refine OnlyN.normal (hK _ _ (fun _ => ⟨_, _, _, rfl, rfl, by simp⟩) ?_)
  clear hK K
  intro K hK
  go_wp2_with fail
  refine OnlyN.normal (hK _ _ (fun _ => ⟨_, _, _, rfl, rfl, by simp⟩) ?_)
  clear hK K
  intro K hK
  go_wp2_with fail
  refine OnlyN.normal (hK _ _ (fun _ => ⟨_, _, _, rfl, rfl, by simp⟩) ?_)
  clear hK K
  intro K hK
  go_wp2_with fail
  refine OnlyN.normal (hK _ _ (sameIn_all hc1 (by
    intro k hk
    simp only [List.mem_cons, List.not_mem_nil, or_false] at hk
    rcases hk with rfl | rfl | rfl
    · exact ⟨cell_lt hq, hn1⟩
    · exact ⟨cell_lt c0, hn2⟩
    · exact ⟨cell_lt hp, hn3⟩)) ?_)
  clear hK K hdel
  go_wp2_with fail
  refine OnlyN.normal ?_
  go_wp2
  go_end0
  exact ⟨rfl, ⟨hD.hd.chg hc1 hn2, hm1, hD.od, hD.om⟩, hc1⟩

set_option maxHeartbeats 1000000 in
theorem delete_ok {O : Nat → Prop} {w : World} {d m : Nat} {es : Array MapEntry} {clock : Nat} {armed : Bool} {left keep : Int} {n : Nat} (hD : Dsk O w d m es clock true armed left keep n) (hna : armed = true → left ≠ 0) (hle : -4000000000000000000 ≤ left ∧ left ≤ 4000000000000000000) (hn : n ≤ 4000000000000000000)
    (x : ByteArray) (hc : NmOk x) {i g : Nat} (h : Instr.findNow .string (.string x) es.toList 0 = some (some (i, .pointer (some ⟨g, 0, none⟩)))) :
    Calls Try.prog 26 #[.pointer (some ⟨d, 0, none⟩), .string x] w fun e w' => e = .returned (.int .i64 0) ∧ Dsk O w' d m (es.eraseIdxIfInBounds i) clock true armed (left - 1) keep (n + 1) ∧ Chg (fun k => k = d ∨ k = m) w w' := by
  have hmf : ∀ (fn : Fn) (first cp : Array Value) (w : World), (Instr.makeFunc fn first cp).run Try.prog w = .ok (.func fn first cp) w := fun _ _ _ _ => rfl
  obtain ⟨W, hW, hgW, b1, b2, hzW⟩ := two_boxes w (.pointer (some ⟨d, 0, none⟩)) (.string x) 28 9
  have hdl := hD.hd.lt
  go_enter Try.func26, Try.ntmps26
  go_wp2_with fail
  rw [← hW]
  have hDW := hD.grew hgW
  clear hW
  refine (write_ok hDW hna hle hn _ _ _ entD1 entD2 _ _ _ ((del_ask hDW x hc h (b2.cell 0) (b1.cell 0)).mono fun e w' ⟨h1, h2⟩ => ⟨h1, 0, by rw [← h2]; rfl⟩) (R := fun w1 w' => Dsk O w' d m (es.eraseIdxIfInBounds i) clock true armed (left - 1) keep (n + 1) ∧ Chg (fun k => k = m) w1 w') ?_).mono ?_
  · intro w1 hc1 hD1
    have ne1 := b1.ne_type hDW.hd (by decide)
    have ne2 := b2.ne_type hDW.hd (by decide)
    exact del_do hD1 x h ((b2.chg hc1 ne2).cell 0) ((b1.chg hc1 ne1).cell 0)
  rintro e w' ⟨rfl, w1, hc1, hD1, h1, h2⟩
  go_wp2
  go_ret
  exact ⟨by simp, h1, ((Chg.of_grew hgW).trans (hc1.mono fun j _ e => .inl e)).trans (h2.mono fun j _ e => .inr e)⟩
set_option maxHeartbeats 1000000 in
theorem delete_none {O : Nat → Prop} {w : World} {d m : Nat} {es : Array MapEntry} {clock : Nat} {armed : Bool} {left keep : Int} {n : Nat} (hD : Dsk O w d m es clock true armed left keep n) (x : ByteArray) (hc : NmOk x) (h : Instr.findNow .string (.string x) es.toList 0 = some none) :
    Calls Try.prog 26 #[.pointer (some ⟨d, 0, none⟩), .string x] w fun e w' => e = .returned (.int .i64 62) ∧ Grew w w' := by
  have hmf : ∀ (fn : Fn) (first cp : Array Value) (w : World), (Instr.makeFunc fn first cp).run Try.prog w = .ok (.func fn first cp) w := fun _ _ _ _ => rfl
  obtain ⟨W, hW, hgW, b1, b2, hzW⟩ := two_boxes w (.pointer (some ⟨d, 0, none⟩)) (.string x) 28 9
  have hdl := hD.hd.lt
  go_enter Try.func26, Try.ntmps26
  go_wp2_with fail
  rw [← hW]
  have hDW := hD.grew hgW
  clear hW
  refine (write_no hDW 62 (by omega) _ entD1 _ _ _ ((del_not hDW x hc h (b2.cell 0) (b1.cell 0)).mono fun e w' ⟨h1, h2⟩ => ⟨h1, 0, by rw [← h2]; rfl⟩)).mono ?_
  rintro e w' ⟨rfl, k, rfl⟩
  go_wp2
  go_ret
  exact ⟨by simp, hgW.drewN k⟩
end Go.Proofs.Ytepncgeaehjhiaa

namespace Go.Proofs.Ytepncgeaehjhiaa
open Go.RowKit

/-- a file, as the disk's map leads to it -/
structure FEnt where
  nm : ByteArray
  g : Nat
  born : Nat
  A : Option Addr
  cap : Nat
  l : List UInt8
  sy : Nat
def FEnt.ent (e : FEnt) : MapEntry := entF e.nm e.g e.born
structure FEnt.Ok (S : Nat → Prop) (w : World) (clock : Nat) (e : FEnt) : Prop where
  fil : Fil S w e.g e.A e.cap e.l e.sy
  sy : e.sy ≤ e.l.length
  len : e.l.length ≤ 4194304
  born : e.born < clock
def Apart (a b : FEnt) : Prop := a.nm ≠ b.nm ∧ a.g ≠ b.g ∧ a.born ≠ b.born ∧ ∀ ad bd, a.A = some ad → b.A = some bd → ad.block ≠ bd.block
theorem Apart.symm {a b : FEnt} (h : Apart a b) : Apart b a := ⟨fun e => h.1 e.symm, fun e => h.2.1 e.symm, fun e => h.2.2.1 e.symm, fun ad bd e1 e2 e => h.2.2.2 bd ad e2 e1 e.symm⟩
/-- the disk: its blocks all lie in S -/
structure FS (S : Nat → Prop) (w : World) (d m : Nat) (E : List FEnt) (clock : Nat) (up armed : Bool) (left keep : Int) (n : Nat) : Prop where
  dsk : Dsk S w d m (E.map FEnt.ent).toArray clock up armed left keep n
  ok : ∀ e ∈ E, e.Ok S w clock
  ap : E.Pairwise Apart
/-- .. and what is new -/
def Up (S : Nat → Prop) (w : World) : Nat → Prop := fun k => S k ∨ w.heap.size ≤ k
theorem Up.old {S : Nat → Prop} {w : World} {k : Nat} (hk : k < w.heap.size) (h : ¬ S k) : ¬ Up S w k := fun e => e.elim h (by omega)
theorem Up.new {S : Nat → Prop} {w : World} : ∀ k, w.heap.size ≤ k → Up S w k := fun _ h => .inr h

section
variable {S S' T : Nat → Prop} {w w' : World} {d m : Nat} {E : List FEnt} {es : Array MapEntry} {clock clock' : Nat} {up armed : Bool} {left keep : Int} {n : Nat}
theorem Dsk.mono (h : Dsk S w d m es clock up armed left keep n) (hs : ∀ k, S k → S' k) : Dsk S' w d m es clock up armed left keep n := ⟨h.hd, h.hm, hs _ h.od, hs _ h.om⟩
theorem Fil.mono {g : Nat} {A : Option Addr} {c : Nat} {l : List UInt8} {sy : Nat} (h : Fil S w g A c l sy) (hs : ∀ k, S k → S' k) : Fil S' w g A c l sy := ⟨h.hg, h.hA, hs _ h.og, fun ad e => hs _ (h.oA ad e)⟩
theorem FEnt.Ok.mono {e : FEnt} (h : e.Ok S w clock) (hs : ∀ k, S k → S' k) : e.Ok S' w clock := ⟨h.fil.mono hs, h.sy, h.len, h.born⟩
theorem FS.mono (h : FS S w d m E clock up armed left keep n) (hs : ∀ k, S k → S' k) : FS S' w d m E clock up armed left keep n := ⟨h.dsk.mono hs, fun e he => (h.ok e he).mono hs, h.ap⟩
theorem FS.rise (h : FS S w d m E clock up armed left keep n) : FS (Up S w) w d m E clock up armed left keep n := h.mono fun _ e => .inl e
theorem FEnt.Ok.chg {e : FEnt} (h : e.Ok S w clock) (hc : Chg T w w') (h1 : ¬ T e.g) (h2 : ∀ ad, e.A = some ad → ¬ T ad.block) (hk : clock ≤ clock') : e.Ok S w' clock' := ⟨h.fil.chg hc h1 h2, h.sy, h.len, Nat.lt_of_lt_of_le h.born hk⟩
theorem FS.grew (h : FS S w d m E clock up armed left keep n) (hc : Grew w w') : FS S w' d m E clock up armed left keep n := ⟨h.dsk.grew hc, fun e he => (h.ok e he).chg hc (fun e => e) (fun _ _ e => e) (Nat.le_refl _), h.ap⟩
/-- a change outside the disk -/
theorem FS.chg (h : FS S w d m E clock up armed left keep n) (hc : Chg T w w') (hT : ∀ k, S k → ¬ T k) : FS S w' d m E clock up armed left keep n :=
  ⟨h.dsk.chg hc (hT _ h.dsk.od) (hT _ h.dsk.om), fun e he => (h.ok e he).chg hc (hT _ (h.ok e he).fil.og) (fun ad ha => hT _ ((h.ok e he).fil.oA ad ha)) (Nat.le_refl _), h.ap⟩
/-- a file stays where only the disk's own two blocks turn -/
theorem FEnt.Ok.stay {e : FEnt} (h : e.Ok S w clock) (hD : Dsk S w d m es clock up armed left keep n) (hc : Chg (fun k => k = d ∨ k = m) w w') (hk : clock ≤ clock') : e.Ok S w' clock' :=
  h.chg hc (fun e => e.elim (fun e => h.fil.hg.ne_type hD.hd (by decide) e) (fun e => hD.hm.ne_blk h.fil.hg e.symm)) (fun ad e he => he.elim (h.fil.hA.ne_blk hD.hd (by decide) ad e) (h.fil.ne_map hD.hm ad e)) hk
/-- .. and where another file's block turns too -/
theorem FEnt.Ok.stay3 {e f : FEnt} (h : e.Ok S w clock) (hf : f.Ok S w clock) (ha : Apart e f) (hD : Dsk S w d m es clock up armed left keep n) (hc : Chg (fun k => k = d ∨ k = f.g ∨ ∃ ad, f.A = some ad ∧ k = ad.block) w w') (hk : clock ≤ clock') : e.Ok S w' clock' :=
  h.chg hc (fun e1 => by
      rcases e1 with e1 | e1 | ⟨ad, e1, e2⟩
      · exact h.fil.hg.ne_type hD.hd (by decide) e1
      · exact ha.2.1 e1
      · exact hf.fil.hA.ne_blk h.fil.hg (by decide) ad e1 e2.symm) (fun ad e1 e2 => by
      rcases e2 with e2 | e2 | ⟨bd, e2, e3⟩
      · exact h.fil.hA.ne_blk hD.hd (by decide) ad e1 e2
      · exact h.fil.hA.ne_blk hf.fil.hg (by decide) ad e1 e2
      · exact ha.2.2.2 ad bd e1 e2 e3) hk
end

theorem bytes_ne {x y : ByteArray} (h : x ≠ y) : (x == y) = false := by
  cases hb : (x == y) with
  | false => rfl
  | true => exact absurd ((MapKept.bytes_beq x y).1 hb) h
theorem find_no {x : ByteArray} : ∀ (E : List FEnt) (k : Nat), (∀ e ∈ E, e.nm ≠ x) → Instr.findNow .string (.string x) (E.map FEnt.ent) k = some none := by
  intro E
  induction E with
  | nil => intro k _; rfl
  | cons e E ih =>
    intro k h
    have h1 : (x == e.nm) = false := bytes_ne fun he => h e (by simp) he.symm
    have h2 := ih (k + 1) fun f hf => h f (by simp [hf])
    simp [Instr.findNow, Instr.sameNow, FEnt.ent, entF, h1]
    simpa [FEnt.ent, entF] using h2
theorem find_at : ∀ (E : List FEnt) (i k : Nat) (e : FEnt), E[i]? = some e → E.Pairwise Apart → Instr.findNow .string (.string e.nm) (E.map FEnt.ent) k = some (some (k + i, .pointer (some ⟨e.g, 0, none⟩))) := by
  intro E
  induction E with
  | nil => intro i k e h; simp at h
  | cons f E ih =>
    intro i k e h hp
    rw [List.pairwise_cons] at hp
    rcases i with _ | i
    · simp at h
      subst h
      have : (f.nm == f.nm) = true := (MapKept.bytes_beq _ _).2 rfl
      simp [Instr.findNow, Instr.sameNow, FEnt.ent, entF, this]
    · simp at h
      have h1 : (e.nm == f.nm) = false := bytes_ne fun he => (hp.1 e (List.mem_of_getElem? h)).1 he.symm
      have h2 := ih i (k + 1) e h hp.2
      simp [Instr.findNow, Instr.sameNow, FEnt.ent, entF, h1]
      rw [show k + (i + 1) = k + 1 + i by omega]
      simpa [FEnt.ent, entF] using h2
theorem FS.find {S : Nat → Prop} {w : World} {d m : Nat} {E : List FEnt} {clock : Nat} {up armed : Bool} {left keep : Int} {n : Nat} (h : FS S w d m E clock up armed left keep n) {i : Nat} {e : FEnt} (hi : E[i]? = some e) :
    Instr.findNow .string (.string e.nm) (E.map FEnt.ent).toArray.toList 0 = some (some (i, .pointer (some ⟨e.g, 0, none⟩))) := by
  have := find_at E i 0 e hi h.ap
  simpa using this
theorem map_erase {α β : Type} (f : α → β) : ∀ (l : List α) (i : Nat), (l.map f).eraseIdx i = (l.eraseIdx i).map f
  | [], i => by simp
  | a :: l, 0 => by simp
  | a :: l, i + 1 => by simp [map_erase f l i]
theorem ent_erase (E : List FEnt) (i : Nat) : ((E.map FEnt.ent).toArray).eraseIdxIfInBounds i = ((E.eraseIdx i).map FEnt.ent).toArray := by
  unfold Array.eraseIdxIfInBounds
  split
  · simp [map_erase]
  · rename_i h
    simp at h
    rw [List.eraseIdx_of_length_le h]
theorem ent_push (E : List FEnt) (e : FEnt) : ((E.map FEnt.ent).toArray).push e.ent = ((E ++ [e]).map FEnt.ent).toArray := by simp
theorem ent_modify (E : List FEnt) (j : Nat) (f e : FEnt) (hj : E[j]? = some f) (he : e.nm = f.nm) (hb : e.born = f.born) (x : ByteArray) (hx : x = f.nm) :
    ((E.map FEnt.ent).toArray).modify j (fun y => { y with key := .string x, val := .pointer (some ⟨e.g, 0, none⟩) }) = ((E.set j e).map FEnt.ent).toArray := by
  have hjl := (List.getElem?_eq_some_iff.1 hj).1
  have hje := (List.getElem?_eq_some_iff.1 hj).2
  apply Array.ext
  · simp
  · intro i h1 h2
    simp at h1 h2
    simp only [Array.getElem_modify, List.getElem_toArray, List.getElem_map, List.getElem_set]
    by_cases hij : j = i
    · subst hij
      simp [FEnt.ent, entF, hje, he, hb, hx]
    · simp [hij]
end Go.Proofs.Ytepncgeaehjhiaa

namespace Go.Proofs.Ytepncgeaehjhiaa
open Go.RowKit

structure Cnt (armed : Bool) (left : Int) (n : Nat) : Prop where
  na : armed = true → left ≠ 0
  le : -4000000000000000000 ≤ left ∧ left ≤ 4000000000000000000
  n : n ≤ 4000000000000000000

section
variable {S : Nat → Prop} {w : World} {d m : Nat} {E : List FEnt} {clock : Nat} {armed : Bool} {left kp : Int} {n : Nat}

theorem pair_at {i j : Nat} {e f : FEnt} (hp : E.Pairwise Apart) (hi : E[i]? = some e) (hj : E[j]? = some f) (hij : i ≠ j) : Apart f e := by
  obtain ⟨h1, h2⟩ := List.getElem?_eq_some_iff.1 hi
  obtain ⟨h3, h4⟩ := List.getElem?_eq_some_iff.1 hj
  rw [List.pairwise_iff_getElem] at hp
  subst h2; subst h4
  rcases Nat.lt_or_gt_of_ne hij with h | h
  · exact (hp i j h1 h3 h).symm
  · exact hp j i h3 h1 h

/-- a file's entry replaced by another that is apart of all that it was apart of -/
theorem pair_set {E : List FEnt} (hp : E.Pairwise Apart) {i : Nat} {f : FEnt} (hi : E[i]? = some f) (f' : FEnt) (hf : ∀ b ∈ E, Apart b f → Apart b f') : (E.set i f').Pairwise Apart := by
  rw [List.pairwise_iff_getElem] at hp ⊢
  obtain ⟨h1, h2⟩ := List.getElem?_eq_some_iff.1 hi
  intro a b ha hb hab
  simp only [List.length_set] at ha hb
  rw [List.getElem_set, List.getElem_set]
  split
  · rename_i e
    subst e
    rw [if_neg (by omega)]
    exact (hf _ (List.getElem_mem _) (h2 ▸ hp _ _ ha hb hab).symm).symm
  · split
    · rename_i e
      subst e
      exact hf _ (List.getElem_mem _) (h2 ▸ hp _ _ ha hb hab)
    · exact hp _ _ ha hb hab

theorem fs_new (w : World) : Calls Try.prog 8 #[] w fun e w' => ∃ d m, e = .returned (.pointer (some ⟨d, 0, none⟩)) ∧ FS (fun k => w.heap.size ≤ k) w' d m [] 0 true false 0 0 0 ∧ Grew w w' :=
  (new_any w).mono fun e w' ⟨d, m, h1, h2, h3⟩ => ⟨d, m, h1, ⟨h2, fun e he => by simp at he, List.Pairwise.nil⟩, h3⟩

theorem fs_append_new (h : FS S w d m E clock true armed left kp n) (hc : Cnt armed left n) (x : ByteArray) (hx : NmOk x) (hno : ∀ e ∈ E, e.nm ≠ x) (hE : E.length < 1048576) (A : Option Addr) (k cap : Nat) (l : List UInt8) (hr : RB w A k l) (hk : k ≤ 4194304) (hAd : ∀ ad, A = some ad → 0 < k → ad.block ≠ d) :
    Calls Try.prog 50 #[.pointer (some ⟨d, 0, none⟩), .string x, .slice A k cap] w fun e w' => e = .returned (.int .i64 0) ∧ ∃ f : FEnt, f.nm = x ∧ f.l = l ∧ f.sy = 0 ∧ FS (Up S w) w' d m (E ++ [f]) (clock + 1) true armed (left - 1) kp (n + 1) ∧ Chg S w w' := by
  have hR := h.rise
  refine (append_new Up.new hR.dsk hc.na hc.le hc.n x hx (by simpa using find_no E 0 hno) (by simpa using hE) A k cap l hr hk hAd).mono ?_
  rintro e w' ⟨rfl, g, A', c, h1, h2, h3, h4, h5⟩
  refine ⟨rfl, ⟨x, g, clock, A', c, l, 0⟩, rfl, rfl, rfl, ⟨?_, ?_, ?_⟩, ?_⟩
  · have := ent_push E ⟨x, g, clock, A', c, l, 0⟩
    rw [← this]
    exact h1
  · intro e he
    rcases List.mem_append.1 he with he | he
    · exact (hR.ok e he).stay hR.dsk h3 (Nat.le_succ _)
    · obtain rfl : e = _ := by simpa using he
      exact ⟨h2, Nat.zero_le _, by show l.length ≤ _; rw [hr.1]; exact hk, Nat.lt_succ_self _⟩
  · rw [List.pairwise_append]
    refine ⟨h.ap, List.pairwise_singleton _ _, ?_⟩
    intro a ha b hb
    obtain rfl : b = _ := by simpa using hb
    have ho := h.ok a ha
    refine ⟨hno a ha, fun e => ?_, fun e => ?_, fun ad bd e1 e2 e => ?_⟩
    · have := ho.fil.hg.lt
      have e : a.g = g := e
      omega
    · have := ho.born
      have e : a.born = clock := e
      omega
    · have := (Own.blk_lt ho.fil.hA ad e1).2
      have := h5 bd e2
      omega
  · exact h3.mono fun k _ hk => hk.elim (fun e => e ▸ h.dsk.od) (fun e => e ▸ h.dsk.om)

theorem fs_sync (h : FS S w d m E clock true armed left kp n) (hc : Cnt armed left n) {i : Nat} {f : FEnt} (hi : E[i]? = some f) (hx : NmOk f.nm) :
    Calls Try.prog 51 #[.pointer (some ⟨d, 0, none⟩), .string f.nm] w fun e w' => e = .returned (.int .i64 0) ∧ FS S w' d m (E.set i { f with sy := f.l.length }) clock true armed (left - 1) kp (n + 1) ∧ Chg S w w' := by
  have hf := h.ok f (List.mem_of_getElem? hi)
  refine (sync_ok h.dsk hc.na hc.le hc.n f.nm hx (h.find hi) hf.fil).mono ?_
  rintro e w' ⟨rfl, h1, h2, h3⟩
  obtain ⟨hil, hie⟩ := List.getElem?_eq_some_iff.1 hi
  have hent : ((E.set i { f with sy := f.l.length }).map FEnt.ent) = E.map FEnt.ent := by
    apply List.ext_getElem?
    intro j
    simp only [List.getElem?_map, List.getElem?_set]
    by_cases hij : i = j
    · subst hij
      simp [hil, hie, FEnt.ent, entF]
    · simp [hij]
  have hc3 : Chg (fun k => k = d ∨ k = f.g ∨ ∃ ad, f.A = some ad ∧ k = ad.block) w w' := h3.mono fun k _ hk => hk.elim .inl (fun e => .inr (.inl e))
  refine ⟨rfl, ⟨by rw [hent]; exact h1, ?_, ?_⟩, h3.mono fun k _ hk => hk.elim (fun e => e ▸ h.dsk.od) (fun e => e ▸ hf.fil.og)⟩
  · intro e he
    obtain ⟨j, hj⟩ := List.getElem?_of_mem he
    rw [List.getElem?_set] at hj
    by_cases hij : i = j
    · subst hij
      simp [hil] at hj
      subst hj
      exact ⟨h2, Nat.le_refl _, hf.len, hf.born⟩
    · simp [hij] at hj
      exact (h.ok e (List.mem_of_getElem? hj)).stay3 hf (pair_at h.ap hi hj hij) h.dsk hc3 (Nat.le_refl _)
  · exact pair_set h.ap hi ⟨f.nm, f.g, f.born, f.A, f.cap, f.l, f.l.length⟩ fun b _ hb => hb
theorem mem_erase {i : Nat} {f : FEnt} (hp : E.Pairwise Apart) (hi : E[i]? = some f) {e : FEnt} (he : e ∈ E.eraseIdx i) : e ∈ E ∧ Apart e f := by
  obtain ⟨j, hj, hje⟩ := List.mem_eraseIdx_iff_getElem?.1 he
  exact ⟨List.mem_of_getElem? hje, pair_at hp hi hje (fun e => hj e.symm)⟩
theorem pair_erase (hp : E.Pairwise Apart) (i : Nat) : (E.eraseIdx i).Pairwise Apart := hp.sublist (List.eraseIdx_sublist E i)

theorem fs_rename_new (h : FS S w d m E clock true armed left kp n) (hc : Cnt armed left n) {i : Nat} {f : FEnt} (hi : E[i]? = some f) (hx : NmOk f.nm) (y : ByteArray) (hy : NmOk y) (hno : ∀ e ∈ E.eraseIdx i, e.nm ≠ y) :
    Calls Try.prog 52 #[.pointer (some ⟨d, 0, none⟩), .string f.nm, .string y] w fun e w' => e = .returned (.int .i64 0) ∧ FS S w' d m (E.eraseIdx i ++ [{ f with nm := y, born := clock }]) (clock + 1) true armed (left - 1) kp (n + 1) ∧ Chg S w w' := by
  have hf := h.ok f (List.mem_of_getElem? hi)
  refine (rename_ok h.dsk hc.na hc.le hc.n f.nm y hx hy (h.find hi) (es2 := ((E.eraseIdx i ++ [{ f with nm := y, born := clock }]).map FEnt.ent).toArray) (clock2 := clock + 1) ?_).mono ?_
  · intro w' hm
    rw [ent_erase] at hm
    have := run_put_new (P := Try.prog) Try.underlying57 Try.underlying9 hm (.pointer (some ⟨f.g, 0, none⟩)) (by simpa using find_no (E.eraseIdx i) 0 hno)
    rw [this]
    simp [FEnt.ent, entF]
  · rintro e w' ⟨rfl, h1, h3⟩
    refine ⟨rfl, ⟨h1, ?_, ?_⟩, h3.mono fun k _ hk => hk.elim (fun e => e ▸ h.dsk.od) (fun e => e ▸ h.dsk.om)⟩
    · intro e he
      rcases List.mem_append.1 he with he | he
      · exact (h.ok e (mem_erase h.ap hi he).1).stay h.dsk h3 (Nat.le_succ _)
      · obtain rfl : e = _ := by simpa using he
        have hk := hf.stay (clock' := clock + 1) h.dsk h3 (Nat.le_succ _)
        exact ⟨hk.fil, hk.sy, hk.len, Nat.lt_succ_self _⟩
    · rw [List.pairwise_append]
      refine ⟨pair_erase h.ap i, List.pairwise_singleton _ _, ?_⟩
      intro a ha b hb
      obtain rfl : b = _ := by simpa using hb
      have ho := mem_erase h.ap hi ha
      refine ⟨hno a ha, ho.2.2.1, fun e => ?_, ho.2.2.2.2⟩
      have := (h.ok a ho.1).born
      have e : a.born = clock := e
      omega

theorem fs_rename_old (h : FS S w d m E clock true armed left kp n) (hc : Cnt armed left n) {i : Nat} {f : FEnt} (hi : E[i]? = some f) (hx : NmOk f.nm) {j : Nat} {t : FEnt} (hj : (E.eraseIdx i)[j]? = some t) (hy : NmOk t.nm) :
    Calls Try.prog 52 #[.pointer (some ⟨d, 0, none⟩), .string f.nm, .string t.nm] w fun e w' => e = .returned (.int .i64 0) ∧ FS S w' d m ((E.eraseIdx i).set j { f with nm := t.nm, born := t.born }) clock true armed (left - 1) kp (n + 1) ∧ Chg S w w' := by
  have hf := h.ok f (List.mem_of_getElem? hi)
  have ht := mem_erase h.ap hi (List.mem_of_getElem? hj)
  refine (rename_ok h.dsk hc.na hc.le hc.n f.nm t.nm hx hy (h.find hi) (es2 := (((E.eraseIdx i).set j { f with nm := t.nm, born := t.born }).map FEnt.ent).toArray) (clock2 := clock) ?_).mono ?_
  · intro w' hm
    rw [ent_erase] at hm
    have hfd := find_at (E.eraseIdx i) j 0 t hj (pair_erase h.ap i)
    have := run_put_old (P := Try.prog) Try.underlying57 Try.underlying9 hm (.pointer (some ⟨f.g, 0, none⟩)) (i := j) (x := t.ent) (by simpa using hfd) (by simp [hj]) rfl
    rw [this, ent_modify (E.eraseIdx i) j t { f with nm := t.nm, born := t.born } hj rfl rfl t.nm rfl]
  · rintro e w' ⟨rfl, h1, h3⟩
    refine ⟨rfl, ⟨h1, ?_, ?_⟩, h3.mono fun k _ hk => hk.elim (fun e => e ▸ h.dsk.od) (fun e => e ▸ h.dsk.om)⟩
    · intro e he
      rcases List.mem_or_eq_of_mem_set he with he | rfl
      · exact (h.ok e (mem_erase h.ap hi he).1).stay h.dsk h3 (Nat.le_refl _)
      · have hk := hf.stay (clock' := clock) h.dsk h3 (Nat.le_refl _)
        exact ⟨hk.fil, hk.sy, hk.len, (h.ok t ht.1).born⟩
    · refine pair_set (pair_erase h.ap i) hj _ fun b hb hbt => ?_
      have ho := mem_erase h.ap hi hb
      exact ⟨hbt.1, ho.2.2.1, hbt.2.2.1, ho.2.2.2.2⟩

theorem fs_delete (h : FS S w d m E clock true armed left kp n) (hc : Cnt armed left n) {i : Nat} {f : FEnt} (hi : E[i]? = some f) (hx : NmOk f.nm) :
    Calls Try.prog 26 #[.pointer (some ⟨d, 0, none⟩), .string f.nm] w fun e w' => e = .returned (.int .i64 0) ∧ FS S w' d m (E.eraseIdx i) clock true armed (left - 1) kp (n + 1) ∧ Chg S w w' := by
  refine (delete_ok h.dsk hc.na hc.le hc.n f.nm hx (h.find hi)).mono ?_
  rintro e w' ⟨rfl, h1, h3⟩
  rw [ent_erase] at h1
  exact ⟨rfl, ⟨h1, fun e he => (h.ok e (mem_erase h.ap hi he).1).stay h.dsk h3 (Nat.le_refl _), pair_erase h.ap i⟩, h3.mono fun k _ hk => hk.elim (fun e => e ▸ h.dsk.od) (fun e => e ▸ h.dsk.om)⟩
theorem fs_delete_none (h : FS S w d m E clock true armed left kp n) (x : ByteArray) (hx : NmOk x) (hno : ∀ e ∈ E, e.nm ≠ x) :
    Calls Try.prog 26 #[.pointer (some ⟨d, 0, none⟩), .string x] w fun e w' => e = .returned (.int .i64 62) ∧ Grew w w' :=
  delete_none h.dsk x hx (by simpa using find_no E 0 hno)
theorem fs_read (h : FS S w d m E clock true armed left kp n) {i : Nat} {f : FEnt} (hi : E[i]? = some f) (hx : NmOk f.nm) :
    Calls Try.prog 44 #[.pointer (some ⟨d, 0, none⟩), .string f.nm] w fun e w' => ∃ A' c', e = .returned (.tuple #[.slice A' f.l.length c', .int .i64 0]) ∧ OB w' w.heap.size 5 A' f.l.length c' f.l ∧ Grew w w' :=
  read_ok h.dsk f.nm hx (h.find hi) (h.ok f (List.mem_of_getElem? hi)).fil (h.ok f (List.mem_of_getElem? hi)).len
theorem fs_read_none (h : FS S w d m E clock true armed left kp n) (x : ByteArray) (hx : NmOk x) (hno : ∀ e ∈ E, e.nm ≠ x) :
    Calls Try.prog 44 #[.pointer (some ⟨d, 0, none⟩), .string x] w fun e w' => e = .returned (.tuple #[.slice none 0 0, .int .i64 62]) ∧ w = w' :=
  read_none h.dsk x hx (by simpa using find_no E 0 hno)
end
end Go.Proofs.Ytepncgeaehjhiaa
