/-
  Several texts in one:
  Append behind a file's bytes, with power and without; Sync; Rename. Conditions: names of one letter; lengths within the file's bound.
  Sync, Rename, Read, Arm, Off, On, Up. Conditions: names of one letter; lengths within the file's bound.
-/
import Derived.Test.YtepncgeaehjhiaaGreatPart13

namespace Go.Proofs.YtepncgeaehjhiaaGreat
open Go.RowKit

theorem find_here (x : ByteArray) (g born : Nat) : Instr.findNow .string (.string x) (#[entF x g born] : Array MapEntry).toList 0 = some (some (0, .pointer (some ⟨g, 0, none⟩))) := by
  have : (x == x) = true := (MapKept.bytes_beq x x).2 rfl
  simp [Instr.findNow, Instr.sameNow, entF, this]
def AppOld (O : Nat → Prop) (w : World) (d m : Nat) (es : Array MapEntry) (clock : Nat) (armed : Bool) (left keep : Int) (n : Nat) (g : Nat) (A : Option Addr) (l : List UInt8) (sy : Nat) (w' : World) : Prop :=
  ∃ A' c, Dsk O w' d m es clock true armed (dcl left) keep (n + 1) ∧ Fil O w' g A' c l sy ∧ Chg (fun k => k = d ∨ k = g ∨ ∃ ad, A = some ad ∧ k = ad.block) w w'

set_option maxHeartbeats 1000000 in
theorem append_old {O : Nat → Prop} {w : World} {d m : Nat} {es : Array MapEntry} {clock : Nat} {armed : Bool} {left keep : Int} {n : Nat} (hO : ∀ k, w.heap.size ≤ k → O k) (hD : Dsk O w d m es clock true armed left keep n) (hna : armed = true → left ≠ 0) (hle : -9223372036854775808 ≤ left ∧ left ≤ 9223372036854775807) (hn : n ≤ 4000000000000000000)
    (x : ByteArray) (hc : NmOk x) {i g : Nat} (h : Instr.findNow .string (.string x) es.toList 0 = some (some (i, .pointer (some ⟨g, 0, none⟩)))) {A0 : Option Addr} {cap0 sy : Nat} {l0 : List UInt8} (hF : Fil O w g A0 cap0 l0 sy) (A : Option Addr) (k cap : Nat) (l : List UInt8) (hr : RB w A k l) (hk : l0.length + k ≤ 4194304) (hAd : ∀ ad, A = some ad → 0 < k → ad.block ≠ d) :
    Calls Tryz.prog 75 #[.pointer (some ⟨d, 0, none⟩), .string x, .slice A k cap] w fun e w' => e = .returned (.int .i64 0) ∧ AppOld O w d m es clock armed left keep n g A0 (l0 ++ l) sy w' := by
  have hmf : ∀ (fn : Fn) (first cp : Array Value) (w : World), (Instr.makeFunc fn first cp).run Tryz.prog w = .ok (.func fn first cp) w := fun _ _ _ _ => rfl
  obtain ⟨W, hW, hgW, b1, b2, b3, hzW⟩ := three_boxes w (.pointer (some ⟨d, 0, none⟩)) (.string x) (.slice A k cap) 23 9 37
  have hdl := hD.hd.lt
  go_enter Tryz.func75, Tryz.ntmps75
  go_wp2_with fail
  rw [← hW]
  have hDW := hD.grew hgW
  have hFW := hF.grew hgW
  have hrW := hr.grew hgW
  clear hW
  refine (write_ok hDW hna hle hn _ _ _ entA2 entA1 _ _ _ (app_old hDW x hc h (hFW.hg.cell 0) (b2.cell 0) (b1.cell 0) (b3.cell 0) hk) (R := fun w1 w' => OldF O w1 d m es clock true armed (dcl left) keep (n + 1) g A0 (l0 ++ l) sy (.returned (.tuple #[])) w') ?_).mono ?_
  · intro w1 hc1 hD1
    have hO1 : ∀ k, w1.heap.size ≤ k → O k := fun k hk => hO k (by have := hc1.size; omega)
    have ne1 := b1.ne_type hDW.hd (by decide)
    have ne2 := b2.ne_type hDW.hd (by decide)
    have ne3 := b3.ne_type hDW.hd (by decide)
    have hF1 := hFW.chg hc1 (hFW.hg.ne_type hDW.hd (by decide)) (hFW.hA.ne_blk hDW.hd (by decide))
    have b31 := b3.chg hc1 ne3
    refine (do_old hO1 hD1 x h hF1 ((b2.chg hc1 ne2).cell 0) ((b1.chg hc1 ne1).cell 0) (b31.cell 0) (hF1.hA.ne_blk b31 (by decide)) (hrW.far hc1 hAd) hk).mono ?_
    intro e w' he
    have := he.1
    subst this
    exact ⟨rfl, he⟩
  rintro e w' ⟨rfl, w1, hc1, hD1, ⟨_, A', c', h1, h2, h3⟩⟩
  go_wp2
  go_ret
  refine ⟨by simp, A', c', h1, h2, ?_⟩
  exact ((Chg.of_grew hgW).trans (hc1.mono fun j _ e => .inl e)).trans (h3.mono fun j _ e => .inr e)

theorem append_off {O : Nat → Prop} {w : World} {d m : Nat} {es : Array MapEntry} {clock : Nat} {armed : Bool} {left keep : Int} {n : Nat} (hD : Dsk O w d m es clock false armed left keep n) (x : ByteArray) (A : Option Addr) (k cap : Nat) :
    Calls Tryz.prog 75 #[.pointer (some ⟨d, 0, none⟩), .string x, .slice A k cap] w fun e w' => e = .returned (.int .i64 60) ∧ Grew w w' := by
  have hmf : ∀ (fn : Fn) (first cp : Array Value) (w : World), (Instr.makeFunc fn first cp).run Tryz.prog w = .ok (.func fn first cp) w := fun _ _ _ _ => rfl
  obtain ⟨W, hW, hgW, b1, b2, b3, hzW⟩ := three_boxes w (.pointer (some ⟨d, 0, none⟩)) (.string x) (.slice A k cap) 23 9 37
  have hdl := hD.hd.lt
  go_enter Tryz.func75, Tryz.ntmps75
  go_wp2_with fail
  rw [← hW]
  have hDW := hD.grew hgW
  clear hW
  refine (write_off hDW _ _ _).mono ?_
  rintro e w' ⟨rfl, rfl⟩
  go_wp2
  go_ret
  exact ⟨by simp, hgW⟩

/-- what a disk of one file is when the power has gone -/
def Gone (O : Nat → Prop) (w : World) (d m : Nat) (x : ByteArray) (g born clock : Nat) (left keep : Int) (n : Nat) (A : Option Addr) (l : List UInt8) (sy : Nat) (w' : World) : Prop :=
  ∃ A' c, Dsk O w' d m #[entF x g born] clock false false left keep n ∧ Fil O w' g A' c (l.take (stayN l.length sy keep)) (stayN l.length sy keep) ∧ Chg (fun k => k = d ∨ k = g ∨ ∃ ad, A = some ad ∧ k = ad.block) w w'

set_option maxHeartbeats 1000000 in
theorem append_cut {O : Nat → Prop} {w : World} {d m : Nat} {x : ByteArray} {g born clock : Nat} {keep : Int} {n : Nat} (hO : ∀ k, w.heap.size ≤ k → O k) (hD : Dsk O w d m #[entF x g born] clock true true 0 keep n) (hn : n ≤ 4000000000000000000) (hbn : born < clock) (hkp : keep ≤ 9223372036854775807)
    (hc : NmOk x) {A0 : Option Addr} {cap0 sy : Nat} {l0 : List UInt8} (hF : Fil O w g A0 cap0 l0 sy) (hsy : sy ≤ l0.length) (A : Option Addr) (k cap : Nat) (l : List UInt8) (hr : RB w A k l) (hk : l0.length + k ≤ 4194304) (hAd : ∀ ad, A = some ad → 0 < k → ad.block ≠ d) :
    Calls Tryz.prog 75 #[.pointer (some ⟨d, 0, none⟩), .string x, .slice A k cap] w fun e w' => e = .returned (.int .i64 60) ∧ Gone O w d m x g born clock 0 keep (n + 1) A0 (l0 ++ l) sy w' := by
  have hmf : ∀ (fn : Fn) (first cp : Array Value) (w : World), (Instr.makeFunc fn first cp).run Tryz.prog w = .ok (.func fn first cp) w := fun _ _ _ _ => rfl
  obtain ⟨W, hW, hgW, b1, b2, b3, hzW⟩ := three_boxes w (.pointer (some ⟨d, 0, none⟩)) (.string x) (.slice A k cap) 23 9 37
  have hdl := hD.hd.lt
  have h := find_here x g born
  go_enter Tryz.func75, Tryz.ntmps75
  go_wp2_with fail
  rw [← hW]
  have hDW := hD.grew hgW
  have hFW := hF.grew hgW
  have hrW := hr.grew hgW
  clear hW
  have hll : l.length = k := hr.1
  refine (write_cut hDW hn _ _ _ entA2 entA1 _ _ _ (app_old hDW x hc h (hFW.hg.cell 0) (b2.cell 0) (b1.cell 0) (b3.cell 0) hk) (R := fun w1 w' => OldF O w1 d m #[entF x g born] clock true true 0 keep (n + 1) g A0 (l0 ++ l) sy (.returned (.tuple #[])) w')
    (T := fun w2 w' => ∃ A' c', Dsk O w' d m #[entF x g born] clock false false 0 keep (n + 1) ∧ Fil O w' g A' c' ((l0 ++ l).take (stayN (l0 ++ l).length sy keep)) (stayN (l0 ++ l).length sy keep) ∧ Chg (fun k => k = g ∨ k = d) w2 w') ?_ ?_ ?_).mono ?_
  · intro w1 hc1 hD1
    have hO1 : ∀ k, w1.heap.size ≤ k → O k := fun k hk => hO k (by have := hc1.size; omega)
    have ne1 := b1.ne_type hDW.hd (by decide)
    have ne2 := b2.ne_type hDW.hd (by decide)
    have ne3 := b3.ne_type hDW.hd (by decide)
    have hF1 := hFW.chg hc1 (hFW.hg.ne_type hDW.hd (by decide)) (hFW.hA.ne_blk hDW.hd (by decide))
    have b31 := b3.chg hc1 ne3
    refine (do_old hO1 hD1 x h hF1 ((b2.chg hc1 ne2).cell 0) ((b1.chg hc1 ne1).cell 0) (b31.cell 0) (hF1.hA.ne_blk b31 (by decide)) (hrW.far hc1 hAd) hk).mono ?_
    intro e w' he
    have := he.1
    subst this
    exact ⟨rfl, he⟩
  · rintro w1 w2 ⟨_, A', c', h1, h2, h3⟩
    exact h1.c4
  · rintro w1 w2 ⟨_, A', c', h1, h2, h3⟩
    refine (cut_one h1 hbn h2 (by rw [List.length_append]; omega) (by rw [List.length_append]; omega) keep hkp).mono ?_
    rintro e w' ⟨rfl, k1, k2, k3⟩
    exact ⟨rfl, A', c', k1, k2, k3⟩
  rintro e w' ⟨rfl, w1, w2, hc1, hD1, ⟨_, A', c', h1, h2, h3⟩, B, c2, k1, k2, k3⟩
  go_wp2
  go_ret
  refine ⟨by simp, B, c2, k1, k2, ?_⟩
  exact (((Chg.of_grew hgW).trans (hc1.mono fun j _ e => .inl e)).trans (h3.mono fun j _ e => .inr e)).trans (k3.mono fun j _ e => e.elim (fun e => .inr (.inl e)) .inl)
end Go.Proofs.YtepncgeaehjhiaaGreat

namespace Go.Proofs.YtepncgeaehjhiaaGreat
open Go.RowKit

theorem entS1 : ∀ args w, (callFunc 101 args).run Tryz.prog w = .ok (.enter 101 args) w := Go.Proofs.enters_of Tryz.func101 (by kernel_rfl) rfl
theorem entS2 : ∀ args w, (callFunc 102 args).run Tryz.prog w = .ok (.enter 102 args) w := Go.Proofs.enters_of Tryz.func102 (by kernel_rfl) rfl
theorem entR1 : ∀ args w, (callFunc 103 args).run Tryz.prog w = .ok (.enter 103 args) w := Go.Proofs.enters_of Tryz.func103 (by kernel_rfl) rfl
theorem entR2 : ∀ args w, (callFunc 104 args).run Tryz.prog w = .ok (.enter 104 args) w := Go.Proofs.enters_of Tryz.func104 (by kernel_rfl) rfl
theorem entNo : ∀ args w, (callFunc 45 args).run Tryz.prog w = .ok (.enter 45 args) w := Go.Proofs.enters_of Tryz.func45 (by kernel_rfl) rfl
theorem nothing_any (w : World) : Calls Tryz.prog 45 #[] w fun e w' => e = .returned (.tuple #[]) ∧ w = w' := by
  go_enter Tryz.func45, Tryz.ntmps45
  go_wp2
  go_end0
  exact ⟨rfl, rfl⟩

set_option maxHeartbeats 1000000 in
theorem sync_ok {O : Nat → Prop} {w : World} {d m : Nat} {es : Array MapEntry} {clock : Nat} {armed : Bool} {left keep : Int} {n : Nat} (hD : Dsk O w d m es clock true armed left keep n) (hna : armed = true → left ≠ 0) (hle : -9223372036854775808 ≤ left ∧ left ≤ 9223372036854775807) (hn : n ≤ 4000000000000000000)
    (x : ByteArray) (hc : NmOk x) {i g : Nat} (h : Instr.findNow .string (.string x) es.toList 0 = some (some (i, .pointer (some ⟨g, 0, none⟩)))) {A : Option Addr} {cap sy : Nat} {l : List UInt8} (hF : Fil O w g A cap l sy) :
    Calls Tryz.prog 76 #[.pointer (some ⟨d, 0, none⟩), .string x] w fun e w' => e = .returned (.int .i64 0) ∧ Dsk O w' d m es clock true armed (dcl left) keep (n + 1) ∧ Fil O w' g A cap l l.length ∧ Chg (fun k => k = d ∨ k = g) w w' := by
  have hmf : ∀ (fn : Fn) (first cp : Array Value) (w : World), (Instr.makeFunc fn first cp).run Tryz.prog w = .ok (.func fn first cp) w := fun _ _ _ _ => rfl
  obtain ⟨W, hW, hgW, b1, b2, hzW⟩ := two_boxes w (.pointer (some ⟨d, 0, none⟩)) (.string x) 23 9
  have hdl := hD.hd.lt
  go_enter Tryz.func76, Tryz.ntmps76
  go_wp2_with fail
  rw [← hW]
  have hDW := hD.grew hgW
  have hFW := hF.grew hgW
  clear hW
  refine (write_ok hDW hna hle hn _ _ _ entS1 entS2 _ _ _ ((sync_ask hDW x hc h (b2.cell 0) (b1.cell 0)).mono fun e w' ⟨h1, h2⟩ => ⟨h1, 0, by rw [← h2]; rfl⟩) (R := fun w1 w' => Dsk O w' d m es clock true armed (dcl left) keep (n + 1) ∧ Fil O w' g A cap l l.length ∧ Chg (fun k => k = g) w1 w') ?_).mono ?_
  · intro w1 hc1 hD1
    have ne1 := b1.ne_type hDW.hd (by decide)
    have ne2 := b2.ne_type hDW.hd (by decide)
    have hF1 := hFW.chg hc1 (hFW.hg.ne_type hDW.hd (by decide)) (hFW.hA.ne_blk hDW.hd (by decide))
    exact sync_do hD1 x h hF1 ((b2.chg hc1 ne2).cell 0) ((b1.chg hc1 ne1).cell 0)
  rintro e w' ⟨rfl, w1, hc1, hD1, h1, h2, h3⟩
  go_wp2
  go_ret
  exact ⟨by simp, h1, h2, ((Chg.of_grew hgW).trans (hc1.mono fun j _ e => .inl e)).trans (h3.mono fun j _ e => .inr e)⟩

set_option maxHeartbeats 1000000 in
theorem sync_cut {O : Nat → Prop} {w : World} {d m : Nat} {x : ByteArray} {g born clock : Nat} {keep : Int} {n : Nat} (hD : Dsk O w d m #[entF x g born] clock true true 0 keep n) (hn : n ≤ 4000000000000000000) (hbn : born < clock) (hkp : keep ≤ 9223372036854775807)
    (hc : NmOk x) {A : Option Addr} {cap sy : Nat} {l : List UInt8} (hF : Fil O w g A cap l sy) (hsy : sy ≤ l.length) (hl : l.length ≤ 4194304) :
    Calls Tryz.prog 76 #[.pointer (some ⟨d, 0, none⟩), .string x] w fun e w' => e = .returned (.int .i64 60) ∧ Gone O w d m x g born clock 0 keep (n + 1) A l sy w' := by
  have hmf : ∀ (fn : Fn) (first cp : Array Value) (w : World), (Instr.makeFunc fn first cp).run Tryz.prog w = .ok (.func fn first cp) w := fun _ _ _ _ => rfl
  obtain ⟨W, hW, hgW, b1, b2, hzW⟩ := two_boxes w (.pointer (some ⟨d, 0, none⟩)) (.string x) 23 9
  have hdl := hD.hd.lt
  have h := find_here x g born
  go_enter Tryz.func76, Tryz.ntmps76
  go_wp2_with fail
  rw [← hW]
  have hDW := hD.grew hgW
  have hFW := hF.grew hgW
  clear hW
  refine (write_cut hDW hn _ _ _ entS1 entNo _ _ _ ((sync_ask hDW x hc h (b2.cell 0) (b1.cell 0)).mono fun e w' ⟨h1, h2⟩ => ⟨h1, 0, by rw [← h2]; rfl⟩) (R := fun w1 w' => w1 = w' ∧ Dsk O w1 d m #[entF x g born] clock true true 0 keep (n + 1) ∧ Fil O w1 g A cap l sy)
    (T := fun w2 w' => Dsk O w' d m #[entF x g born] clock false false 0 keep (n + 1) ∧ Fil O w' g A cap (l.take (stayN l.length sy keep)) (stayN l.length sy keep) ∧ Chg (fun k => k = g ∨ k = d) w2 w') ?_ ?_ ?_).mono ?_
  · intro w1 hc1 hD1
    have hF1 := hFW.chg hc1 (hFW.hg.ne_type hDW.hd (by decide)) (hFW.hA.ne_blk hDW.hd (by decide))
    exact (nothing_any w1).mono fun e w' ⟨h1, h2⟩ => ⟨h1, h2, hD1, hF1⟩
  · rintro w1 w2 ⟨rfl, h1, h2⟩
    exact h1.c4
  · rintro w1 w2 ⟨rfl, h1, h2⟩
    exact cut_one h1 hbn h2 hsy hl keep hkp
  rintro e w' ⟨rfl, w1, w2, hc1, hD1, ⟨rfl, _, _⟩, k1, k2, k3⟩
  go_wp2
  go_ret
  refine ⟨by simp, A, cap, k1, k2, ?_⟩
  exact ((Chg.of_grew hgW).trans (hc1.mono fun j _ e => .inl e)).trans (k3.mono fun j _ e => e.elim (fun e => .inr (.inl e)) .inl)

set_option maxHeartbeats 1000000 in
theorem rename_ok {O : Nat → Prop} {w : World} {d m : Nat} {es : Array MapEntry} {clock : Nat} {armed : Bool} {left keep : Int} {n : Nat} (hD : Dsk O w d m es clock true armed left keep n) (hna : armed = true → left ≠ 0) (hle : -9223372036854775808 ≤ left ∧ left ≤ 9223372036854775807) (hn : n ≤ 4000000000000000000)
    (x y : ByteArray) (hc : NmOk x) (hc2 : NmOk y) {i g : Nat} (h : Instr.findNow .string (.string x) es.toList 0 = some (some (i, .pointer (some ⟨g, 0, none⟩)))) {es2 : Array MapEntry} {clock2 : Nat}
    (hput : ∀ w', MapB w' m (es.eraseIdxIfInBounds i) clock → (Instr.mapUpdate 44 (.map (some m)) (.string y) (.pointer (some ⟨g, 0, none⟩))).run Tryz.prog w' = .ok () (setB w' m (.map es2 clock2))) :
    Calls Tryz.prog 77 #[.pointer (some ⟨d, 0, none⟩), .string x, .string y] w fun e w' => e = .returned (.int .i64 0) ∧ Dsk O w' d m es2 clock2 true armed (dcl left) keep (n + 1) ∧ Chg (fun k => k = d ∨ k = m) w w' := by
  have hmf : ∀ (fn : Fn) (first cp : Array Value) (w : World), (Instr.makeFunc fn first cp).run Tryz.prog w = .ok (.func fn first cp) w := fun _ _ _ _ => rfl
  obtain ⟨W, hW, hgW, b1, b2, b3, hzW⟩ := three_boxes w (.pointer (some ⟨d, 0, none⟩)) (.string x) (.string y) 23 9 9
  have hdl := hD.hd.lt
  go_enter Tryz.func77, Tryz.ntmps77
  go_wp2_with fail
  rw [← hW]
  have hDW := hD.grew hgW
  clear hW
  refine (write_ok hDW hna hle hn _ _ _ entR1 entR2 _ _ _ ((ren_ask hDW x y hc hc2 h (b2.cell 0) (b1.cell 0) (b3.cell 0)).mono fun e w' ⟨h1, h2⟩ => ⟨h1, 0, by rw [← h2]; rfl⟩) (R := fun w1 w' => Dsk O w' d m es2 clock2 true armed (dcl left) keep (n + 1) ∧ Chg (fun k => k = m) w1 w') ?_).mono ?_
  · intro w1 hc1 hD1
    have ne1 := b1.ne_type hDW.hd (by decide)
    have ne2 := b2.ne_type hDW.hd (by decide)
    have ne3 := b3.ne_type hDW.hd (by decide)
    exact ren_do hD1 x y h ((b2.chg hc1 ne2).cell 0) ((b1.chg hc1 ne1).cell 0) ((b3.chg hc1 ne3).cell 0) hput
  rintro e w' ⟨rfl, w1, hc1, hD1, h1, h2⟩
  go_wp2
  go_ret
  exact ⟨by simp, h1, ((Chg.of_grew hgW).trans (hc1.mono fun j _ e => .inl e)).trans (h2.mono fun j _ e => .inr e)⟩

set_option maxHeartbeats 1000000 in
theorem rename_cut {O : Nat → Prop} {w : World} {d m : Nat} {x y : ByteArray} {g born clock : Nat} {keep : Int} {n : Nat} (hD : Dsk O w d m #[entF x g born] clock true true 0 keep n) (hn : n ≤ 4000000000000000000) (hbn : born < clock) (hkp : keep ≤ 9223372036854775807)
    (hc : NmOk x) (hc2 : NmOk y) {A : Option Addr} {cap sy : Nat} {l : List UInt8} (hF : Fil O w g A cap l sy) (hsy : sy ≤ l.length) (hl : l.length ≤ 4194304) :
    Calls Tryz.prog 77 #[.pointer (some ⟨d, 0, none⟩), .string x, .string y] w fun e w' => e = .returned (.int .i64 60) ∧ Gone O w d m x g born clock 0 keep (n + 1) A l sy w' := by
  have hmf : ∀ (fn : Fn) (first cp : Array Value) (w : World), (Instr.makeFunc fn first cp).run Tryz.prog w = .ok (.func fn first cp) w := fun _ _ _ _ => rfl
  obtain ⟨W, hW, hgW, b1, b2, b3, hzW⟩ := three_boxes w (.pointer (some ⟨d, 0, none⟩)) (.string x) (.string y) 23 9 9
  have hdl := hD.hd.lt
  have h := find_here x g born
  go_enter Tryz.func77, Tryz.ntmps77
  go_wp2_with fail
  rw [← hW]
  have hDW := hD.grew hgW
  have hFW := hF.grew hgW
  clear hW
  refine (write_cut hDW hn _ _ _ entR1 entNo _ _ _ ((ren_ask hDW x y hc hc2 h (b2.cell 0) (b1.cell 0) (b3.cell 0)).mono fun e w' ⟨h1, h2⟩ => ⟨h1, 0, by rw [← h2]; rfl⟩) (R := fun w1 w' => w1 = w' ∧ Dsk O w1 d m #[entF x g born] clock true true 0 keep (n + 1) ∧ Fil O w1 g A cap l sy)
    (T := fun w2 w' => Dsk O w' d m #[entF x g born] clock false false 0 keep (n + 1) ∧ Fil O w' g A cap (l.take (stayN l.length sy keep)) (stayN l.length sy keep) ∧ Chg (fun k => k = g ∨ k = d) w2 w') ?_ ?_ ?_).mono ?_
  · intro w1 hc1 hD1
    have hF1 := hFW.chg hc1 (hFW.hg.ne_type hDW.hd (by decide)) (hFW.hA.ne_blk hDW.hd (by decide))
    exact (nothing_any w1).mono fun e w' ⟨h1, h2⟩ => ⟨h1, h2, hD1, hF1⟩
  · rintro w1 w2 ⟨rfl, h1, h2⟩
    exact h1.c4
  · rintro w1 w2 ⟨rfl, h1, h2⟩
    exact cut_one h1 hbn h2 hsy hl keep hkp
  rintro e w' ⟨rfl, w1, w2, hc1, hD1, ⟨rfl, _, _⟩, k1, k2, k3⟩
  go_wp2
  go_ret
  refine ⟨by simp, A, cap, k1, k2, ?_⟩
  exact ((Chg.of_grew hgW).trans (hc1.mono fun j _ e => .inl e)).trans (k3.mono fun j _ e => e.elim (fun e => .inr (.inl e)) .inl)

set_option maxHeartbeats 1000000 in
theorem off_any {O : Nat → Prop} {w : World} {d m : Nat} {x : ByteArray} {g born clock : Nat} {armed : Bool} {left keep : Int} {n : Nat} (hD : Dsk O w d m #[entF x g born] clock true armed left keep n) (hbn : born < clock)
    {A : Option Addr} {cap sy : Nat} {l : List UInt8} (hF : Fil O w g A cap l sy) (hsy : sy ≤ l.length) (hl : l.length ≤ 4194304) (kp : Int) (hkp : kp ≤ 9223372036854775807) :
    Calls Tryz.prog 8 #[.pointer (some ⟨d, 0, none⟩), .int .i64 kp] w fun e w' => e = .returned (.tuple #[]) ∧ Dsk O w' d m #[entF x g born] clock false false left keep n ∧
      Fil O w' g A cap (l.take (stayN l.length sy kp)) (stayN l.length sy kp) ∧ Chg (fun k => k = g ∨ k = d) w w' := by
  have hC := cut_one hD hbn hF hsy hl kp hkp
  have c1 := hD.c1
  go_enter Tryz.func8, Tryz.ntmps8
  go_wp2_with fail
  refine hC.mono ?_
  rintro e w' ⟨rfl, h⟩
  go_wp2
  go_end0
  exact ⟨rfl, h⟩
set_option maxHeartbeats 1000000 in
theorem on_any {O : Nat → Prop} {w : World} {d m : Nat} {es : Array MapEntry} {clock : Nat} {up armed : Bool} {left keep : Int} {n : Nat} (hD : Dsk O w d m es clock up armed left keep n) :
    Calls Tryz.prog 10 #[.pointer (some ⟨d, 0, none⟩)] w fun e w' => e = .returned (.tuple #[]) ∧ Dsk O w' d m es clock true armed left keep n ∧ Chg (fun k => k = d) w w' := by
  have c1 := hD.c1
  have f1 : w.frozen? ⟨d, 1, none⟩ = false := hD.hd.frozen 1
  go_enter Tryz.func10, Tryz.ntmps10
  go_wp2
  go_end0
  have hc := Chg.one w d 1 (.bool true)
  exact ⟨rfl, ⟨hD.hd.set 1 (.bool true), hD.hm.chg hc (hD.hm.ne_blk hD.hd), hD.od, hD.om⟩, hc⟩
set_option maxHeartbeats 1000000 in
theorem arm_any {O : Nat → Prop} {w : World} {d m : Nat} {es : Array MapEntry} {clock : Nat} {up armed : Bool} {left keep : Int} {n : Nat} (hD : Dsk O w d m es clock up armed left keep n) (k : Nat) (kp : Int) :
    Calls Tryz.prog 31 #[.pointer (some ⟨d, 0, none⟩), .int .i64 (k : Int), .int .i64 kp] w fun e w' => e = .returned (.tuple #[]) ∧ Dsk O w' d m es clock up true (k : Int) kp n ∧ Chg (fun k => k = d) w w' := by
  have c2 := hD.c2
  have c3 := hD.c3
  have c4 := hD.c4
  have f2 : w.frozen? ⟨d, 2, none⟩ = false := hD.hd.frozen 2
  have f3 : w.frozen? ⟨d, 3, none⟩ = false := hD.hd.frozen 3
  have f4 : w.frozen? ⟨d, 4, none⟩ = false := hD.hd.frozen 4
  have e0 : decide ((0 : Int) ≤ (k : Int)) = true := decide_eq_true (by omega)
  go_enter Tryz.func31, Tryz.ntmps31
  go_wp2
  go_end0
  have hc : Chg (fun j => j = d) w (((w.setCell ⟨d, 2, none⟩ (.bool true)).setCell ⟨d, 3, none⟩ (.int .i64 (k : Int))).setCell ⟨d, 4, none⟩ (.int .i64 kp)) :=
    Chg.setCell (S := fun j => j = d) (Chg.setCell (S := fun j => j = d) (Chg.setCell (S := fun j => j = d) (Chg.refl _ w) (p := ⟨d, 2, none⟩) (.inr rfl) _) (p := ⟨d, 3, none⟩) (.inr rfl) _) (p := ⟨d, 4, none⟩) (.inr rfl) _
  exact ⟨rfl, ⟨Blk.set (Blk.set (Blk.set hD.hd 2 (.bool true)) 3 (.int .i64 (k : Int))) 4 (.int .i64 kp), hD.hm.chg hc (hD.hm.ne_blk hD.hd), hD.od, hD.om⟩, hc⟩
theorem up_any {O : Nat → Prop} {w : World} {d m : Nat} {es : Array MapEntry} {clock : Nat} {up armed : Bool} {left keep : Int} {n : Nat} (hD : Dsk O w d m es clock up armed left keep n) :
    Calls Tryz.prog 7 #[.pointer (some ⟨d, 0, none⟩)] w fun e w' => e = .returned (.bool up) ∧ w = w' := by
  have c1 := hD.c1
  go_enter Tryz.func7, Tryz.ntmps7
  go_wp2
  go_ret
  exact ⟨by simp, rfl⟩
end Go.Proofs.YtepncgeaehjhiaaGreat
