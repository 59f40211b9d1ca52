/-
  Sync, Rename, Read, Arm, Off, On, Up, Writes. Conditions: names of one letter; lengths within the file's bound.
-/
import Derived.Test.YtddgkfheoldjkaaDh
namespace Go.Proofs.Ytddgkfheoldjkaa
open Go.RowKit

theorem entS1 : ∀ args w, (callFunc 26 args).run Try.prog w = .ok (.enter 26 args) w := Go.Proofs.enters_of Try.func26 (by kernel_rfl) rfl
theorem entS2 : ∀ args w, (callFunc 28 args).run Try.prog w = .ok (.enter 28 args) w := Go.Proofs.enters_of Try.func28 (by kernel_rfl) rfl
theorem entR1 : ∀ args w, (callFunc 31 args).run Try.prog w = .ok (.enter 31 args) w := Go.Proofs.enters_of Try.func31 (by kernel_rfl) rfl
theorem entR2 : ∀ args w, (callFunc 32 args).run Try.prog w = .ok (.enter 32 args) w := Go.Proofs.enters_of Try.func32 (by kernel_rfl) rfl
theorem entNo : ∀ args w, (callFunc 29 args).run Try.prog w = .ok (.enter 29 args) w := Go.Proofs.enters_of Try.func29 (by kernel_rfl) rfl
theorem nothing_any (w : World) : Calls Try.prog 29 #[] w fun e w' => e = .returned (.tuple #[]) ∧ w = w' := by
  go_enter Try.func29, Try.ntmps29
  go_wp2
  go_end0
  exact ⟨rfl, rfl⟩

set_option maxHeartbeats 1000000 in
theorem sync_ok {O : Nat → Prop} {w : World} {d m : Nat} {es : Array MapEntry} {clock : Nat} {armed : Bool} {left keep : Int} {n : Nat} (hD : Dsk O w d m es clock true armed left keep n) (hna : armed = true → left ≠ 0) (hle : -1000000 ≤ left ∧ left ≤ 1000000) (hn : n ≤ 1000000)
    (c : UInt8) (hc : isNm c) {i g : Nat} (h : Instr.findNow .string (.string ⟨#[c]⟩) es.toList 0 = some (some (i, .pointer (some ⟨g, 0, none⟩)))) {A : Option Addr} {cap sy : Nat} {l : List UInt8} (hF : Fil O w g A cap l sy) :
    Calls Try.prog 10 #[.pointer (some ⟨d, 0, none⟩), .string ⟨#[c]⟩] w fun e w' => e = .returned (.int .i64 0) ∧ Dsk O w' d m es clock true armed (left - 1) keep (n + 1) ∧ Fil O w' g A cap l l.length ∧ Chg (fun k => k = d ∨ k = g) w w' := by
  have hmf : ∀ (fn : Fn) (first cp : Array Value) (w : World), (Instr.makeFunc fn first cp).run Try.prog w = .ok (.func fn first cp) w := fun _ _ _ _ => rfl
  obtain ⟨W, hW, hgW, b1, b2, hzW⟩ := two_boxes w (.pointer (some ⟨d, 0, none⟩)) (.string ⟨#[c]⟩) 23 9
  have hdl := hD.hd.lt
  go_enter Try.func10, Try.ntmps10
  go_wp2_with fail
  rw [← hW]
  have hDW := hD.grew hgW
  have hFW := hF.grew hgW
  clear hW
  refine (write_ok hDW hna hle hn _ _ _ entS1 entS2 _ _ _ ((sync_ask hDW c hc h (b2.cell 0) (b1.cell 0)).mono fun e w' ⟨h1, h2⟩ => ⟨h1, 0, by rw [← h2]; rfl⟩) (R := fun w1 w' => Dsk O w' d m es clock true armed (left - 1) keep (n + 1) ∧ Fil O w' g A cap l l.length ∧ Chg (fun k => k = g) w1 w') ?_).mono ?_
  · intro w1 hc1 hD1
    have ne1 := b1.ne_type hDW.hd (by decide)
    have ne2 := b2.ne_type hDW.hd (by decide)
    have hF1 := hFW.chg hc1 (hFW.hg.ne_type hDW.hd (by decide)) (hFW.hA.ne_blk hDW.hd (by decide))
    exact sync_do hD1 ⟨#[c]⟩ h hF1 ((b2.chg hc1 ne2).cell 0) ((b1.chg hc1 ne1).cell 0)
  rintro e w' ⟨rfl, w1, hc1, hD1, h1, h2, h3⟩
  go_wp2
  go_ret
  exact ⟨by simp, h1, h2, ((Chg.of_grew hgW).trans (hc1.mono fun j _ e => .inl e)).trans (h3.mono fun j _ e => .inr e)⟩

set_option maxHeartbeats 1000000 in
theorem sync_cut {O : Nat → Prop} {w : World} {d m : Nat} {c : UInt8} {g born clock : Nat} {keep : Int} {n : Nat} (hD : Dsk O w d m #[entF ⟨#[c]⟩ g born] clock true true 0 keep n) (hn : n ≤ 1000000) (hbn : born < clock) (hkp : keep ≤ 9223372036854775807)
    (hc : isNm c) {A : Option Addr} {cap sy : Nat} {l : List UInt8} (hF : Fil O w g A cap l sy) (hsy : sy ≤ l.length) (hl : l.length ≤ 4194304) :
    Calls Try.prog 10 #[.pointer (some ⟨d, 0, none⟩), .string ⟨#[c]⟩] w fun e w' => e = .returned (.int .i64 60) ∧ Gone O w d m ⟨#[c]⟩ g born clock 0 keep (n + 1) A l sy w' := by
  have hmf : ∀ (fn : Fn) (first cp : Array Value) (w : World), (Instr.makeFunc fn first cp).run Try.prog w = .ok (.func fn first cp) w := fun _ _ _ _ => rfl
  obtain ⟨W, hW, hgW, b1, b2, hzW⟩ := two_boxes w (.pointer (some ⟨d, 0, none⟩)) (.string ⟨#[c]⟩) 23 9
  have hdl := hD.hd.lt
  have h := find_here ⟨#[c]⟩ g born
  go_enter Try.func10, Try.ntmps10
  go_wp2_with fail
  rw [← hW]
  have hDW := hD.grew hgW
  have hFW := hF.grew hgW
  clear hW
  refine (write_cut hDW hn _ _ _ entS1 entNo _ _ _ ((sync_ask hDW c hc h (b2.cell 0) (b1.cell 0)).mono fun e w' ⟨h1, h2⟩ => ⟨h1, 0, by rw [← h2]; rfl⟩) (R := fun w1 w' => w1 = w' ∧ Dsk O w1 d m #[entF ⟨#[c]⟩ g born] clock true true 0 keep (n + 1) ∧ Fil O w1 g A cap l sy)
    (T := fun w2 w' => Dsk O w' d m #[entF ⟨#[c]⟩ g born] clock false false 0 keep (n + 1) ∧ Fil O w' g A cap (l.take (stayN l.length sy keep)) (stayN l.length sy keep) ∧ Chg (fun k => k = g ∨ k = d) w2 w') ?_ ?_ ?_).mono ?_
  · intro w1 hc1 hD1
    have hF1 := hFW.chg hc1 (hFW.hg.ne_type hDW.hd (by decide)) (hFW.hA.ne_blk hDW.hd (by decide))
    exact (nothing_any w1).mono fun e w' ⟨h1, h2⟩ => ⟨h1, h2, hD1, hF1⟩
  · rintro w1 w2 ⟨rfl, h1, h2⟩
    exact h1.c4
  · rintro w1 w2 ⟨rfl, h1, h2⟩
    exact cut_one h1 hbn h2 hsy hl keep hkp
  rintro e w' ⟨rfl, w1, w2, hc1, hD1, ⟨rfl, _, _⟩, k1, k2, k3⟩
  go_wp2
  go_ret
  refine ⟨by simp, A, cap, k1, k2, ?_⟩
  exact ((Chg.of_grew hgW).trans (hc1.mono fun j _ e => .inl e)).trans (k3.mono fun j _ e => e.elim (fun e => .inr (.inl e)) .inl)

set_option maxHeartbeats 1000000 in
theorem rename_ok {O : Nat → Prop} {w : World} {d m : Nat} {es : Array MapEntry} {clock : Nat} {armed : Bool} {left keep : Int} {n : Nat} (hD : Dsk O w d m es clock true armed left keep n) (hna : armed = true → left ≠ 0) (hle : -1000000 ≤ left ∧ left ≤ 1000000) (hn : n ≤ 1000000)
    (c c2 : UInt8) (hc : isNm c) (hc2 : isNm c2) {i g : Nat} (h : Instr.findNow .string (.string ⟨#[c]⟩) es.toList 0 = some (some (i, .pointer (some ⟨g, 0, none⟩)))) {es2 : Array MapEntry} {clock2 : Nat}
    (hput : ∀ w', MapB w' m (es.eraseIdxIfInBounds i) clock → (Instr.mapUpdate 45 (.map (some m)) (.string ⟨#[c2]⟩) (.pointer (some ⟨g, 0, none⟩))).run Try.prog w' = .ok () (setB w' m (.map es2 clock2))) :
    Calls Try.prog 19 #[.pointer (some ⟨d, 0, none⟩), .string ⟨#[c]⟩, .string ⟨#[c2]⟩] w fun e w' => e = .returned (.int .i64 0) ∧ Dsk O w' d m es2 clock2 true armed (left - 1) keep (n + 1) ∧ Chg (fun k => k = d ∨ k = m) w w' := by
  have hmf : ∀ (fn : Fn) (first cp : Array Value) (w : World), (Instr.makeFunc fn first cp).run Try.prog w = .ok (.func fn first cp) w := fun _ _ _ _ => rfl
  obtain ⟨W, hW, hgW, b1, b2, b3, hzW⟩ := three_boxes w (.pointer (some ⟨d, 0, none⟩)) (.string ⟨#[c]⟩) (.string ⟨#[c2]⟩) 23 9 9
  have hdl := hD.hd.lt
  go_enter Try.func19, Try.ntmps19
  go_wp2_with fail
  rw [← hW]
  have hDW := hD.grew hgW
  clear hW
  refine (write_ok hDW hna hle hn _ _ _ entR1 entR2 _ _ _ ((ren_ask hDW c c2 hc hc2 h (b2.cell 0) (b1.cell 0) (b3.cell 0)).mono fun e w' ⟨h1, h2⟩ => ⟨h1, 0, by rw [← h2]; rfl⟩) (R := fun w1 w' => Dsk O w' d m es2 clock2 true armed (left - 1) keep (n + 1) ∧ Chg (fun k => k = m) w1 w') ?_).mono ?_
  · intro w1 hc1 hD1
    have ne1 := b1.ne_type hDW.hd (by decide)
    have ne2 := b2.ne_type hDW.hd (by decide)
    have ne3 := b3.ne_type hDW.hd (by decide)
    exact ren_do hD1 ⟨#[c]⟩ ⟨#[c2]⟩ h ((b2.chg hc1 ne2).cell 0) ((b1.chg hc1 ne1).cell 0) ((b3.chg hc1 ne3).cell 0) hput
  rintro e w' ⟨rfl, w1, hc1, hD1, h1, h2⟩
  go_wp2
  go_ret
  exact ⟨by simp, h1, ((Chg.of_grew hgW).trans (hc1.mono fun j _ e => .inl e)).trans (h2.mono fun j _ e => .inr e)⟩

set_option maxHeartbeats 1000000 in
theorem rename_cut {O : Nat → Prop} {w : World} {d m : Nat} {c c2 : UInt8} {g born clock : Nat} {keep : Int} {n : Nat} (hD : Dsk O w d m #[entF ⟨#[c]⟩ g born] clock true true 0 keep n) (hn : n ≤ 1000000) (hbn : born < clock) (hkp : keep ≤ 9223372036854775807)
    (hc : isNm c) (hc2 : isNm c2) {A : Option Addr} {cap sy : Nat} {l : List UInt8} (hF : Fil O w g A cap l sy) (hsy : sy ≤ l.length) (hl : l.length ≤ 4194304) :
    Calls Try.prog 19 #[.pointer (some ⟨d, 0, none⟩), .string ⟨#[c]⟩, .string ⟨#[c2]⟩] w fun e w' => e = .returned (.int .i64 60) ∧ Gone O w d m ⟨#[c]⟩ g born clock 0 keep (n + 1) A l sy w' := by
  have hmf : ∀ (fn : Fn) (first cp : Array Value) (w : World), (Instr.makeFunc fn first cp).run Try.prog w = .ok (.func fn first cp) w := fun _ _ _ _ => rfl
  obtain ⟨W, hW, hgW, b1, b2, b3, hzW⟩ := three_boxes w (.pointer (some ⟨d, 0, none⟩)) (.string ⟨#[c]⟩) (.string ⟨#[c2]⟩) 23 9 9
  have hdl := hD.hd.lt
  have h := find_here ⟨#[c]⟩ g born
  go_enter Try.func19, Try.ntmps19
  go_wp2_with fail
  rw [← hW]
  have hDW := hD.grew hgW
  have hFW := hF.grew hgW
  clear hW
  refine (write_cut hDW hn _ _ _ entR1 entNo _ _ _ ((ren_ask hDW c c2 hc hc2 h (b2.cell 0) (b1.cell 0) (b3.cell 0)).mono fun e w' ⟨h1, h2⟩ => ⟨h1, 0, by rw [← h2]; rfl⟩) (R := fun w1 w' => w1 = w' ∧ Dsk O w1 d m #[entF ⟨#[c]⟩ g born] clock true true 0 keep (n + 1) ∧ Fil O w1 g A cap l sy)
    (T := fun w2 w' => Dsk O w' d m #[entF ⟨#[c]⟩ g born] clock false false 0 keep (n + 1) ∧ Fil O w' g A cap (l.take (stayN l.length sy keep)) (stayN l.length sy keep) ∧ Chg (fun k => k = g ∨ k = d) w2 w') ?_ ?_ ?_).mono ?_
  · intro w1 hc1 hD1
    have hF1 := hFW.chg hc1 (hFW.hg.ne_type hDW.hd (by decide)) (hFW.hA.ne_blk hDW.hd (by decide))
    exact (nothing_any w1).mono fun e w' ⟨h1, h2⟩ => ⟨h1, h2, hD1, hF1⟩
  · rintro w1 w2 ⟨rfl, h1, h2⟩
    exact h1.c4
  · rintro w1 w2 ⟨rfl, h1, h2⟩
    exact cut_one h1 hbn h2 hsy hl keep hkp
  rintro e w' ⟨rfl, w1, w2, hc1, hD1, ⟨rfl, _, _⟩, k1, k2, k3⟩
  go_wp2
  go_ret
  refine ⟨by simp, A, cap, k1, k2, ?_⟩
  exact ((Chg.of_grew hgW).trans (hc1.mono fun j _ e => .inl e)).trans (k3.mono fun j _ e => e.elim (fun e => .inr (.inl e)) .inl)

set_option maxHeartbeats 1000000 in
theorem off_any {O : Nat → Prop} {w : World} {d m : Nat} {x : ByteArray} {g born clock : Nat} {armed : Bool} {left keep : Int} {n : Nat} (hD : Dsk O w d m #[entF x g born] clock true armed left keep n) (hbn : born < clock)
    {A : Option Addr} {cap sy : Nat} {l : List UInt8} (hF : Fil O w g A cap l sy) (hsy : sy ≤ l.length) (hl : l.length ≤ 4194304) (kp : Int) (hkp : kp ≤ 9223372036854775807) :
    Calls Try.prog 12 #[.pointer (some ⟨d, 0, none⟩), .int .i64 kp] w fun e w' => e = .returned (.tuple #[]) ∧ Dsk O w' d m #[entF x g born] clock false false left keep n ∧
      Fil O w' g A cap (l.take (stayN l.length sy kp)) (stayN l.length sy kp) ∧ Chg (fun k => k = g ∨ k = d) w w' := by
  have hC := cut_one hD hbn hF hsy hl kp hkp
  have c1 := hD.c1
  go_enter Try.func12, Try.ntmps12
  go_wp2_with fail
  refine hC.mono ?_
  rintro e w' ⟨rfl, h⟩
  go_wp2
  go_end0
  exact ⟨rfl, h⟩
set_option maxHeartbeats 1000000 in
theorem on_any {O : Nat → Prop} {w : World} {d m : Nat} {es : Array MapEntry} {clock : Nat} {up armed : Bool} {left keep : Int} {n : Nat} (hD : Dsk O w d m es clock up armed left keep n) :
    Calls Try.prog 14 #[.pointer (some ⟨d, 0, none⟩)] w fun e w' => e = .returned (.tuple #[]) ∧ Dsk O w' d m es clock true armed left keep n ∧ Chg (fun k => k = d) w w' := by
  have c1 := hD.c1
  have f1 : w.frozen? ⟨d, 1, none⟩ = false := hD.hd.frozen 1
  go_enter Try.func14, Try.ntmps14
  go_wp2
  go_end0
  have hc := Chg.one w d 1 (.bool true)
  exact ⟨rfl, ⟨hD.hd.set 1 (.bool true), hD.hm.chg hc (hD.hm.ne_blk hD.hd), hD.od, hD.om⟩, hc⟩
set_option maxHeartbeats 1000000 in
theorem arm_any {O : Nat → Prop} {w : World} {d m : Nat} {es : Array MapEntry} {clock : Nat} {up armed : Bool} {left keep : Int} {n : Nat} (hD : Dsk O w d m es clock up armed left keep n) (k : Nat) (kp : Int) :
    Calls Try.prog 11 #[.pointer (some ⟨d, 0, none⟩), .int .i64 (k : Int), .int .i64 kp] w fun e w' => e = .returned (.tuple #[]) ∧ Dsk O w' d m es clock up true (k : Int) kp n ∧ Chg (fun k => k = d) w w' := by
  have c2 := hD.c2
  have c3 := hD.c3
  have c4 := hD.c4
  have f2 : w.frozen? ⟨d, 2, none⟩ = false := hD.hd.frozen 2
  have f3 : w.frozen? ⟨d, 3, none⟩ = false := hD.hd.frozen 3
  have f4 : w.frozen? ⟨d, 4, none⟩ = false := hD.hd.frozen 4
  have e0 : decide ((0 : Int) ≤ (k : Int)) = true := decide_eq_true (by omega)
  go_enter Try.func11, Try.ntmps11
  go_wp2
  go_end0
  have hc : Chg (fun j => j = d) w (((w.setCell ⟨d, 2, none⟩ (.bool true)).setCell ⟨d, 3, none⟩ (.int .i64 (k : Int))).setCell ⟨d, 4, none⟩ (.int .i64 kp)) :=
    Chg.setCell (S := fun j => j = d) (Chg.setCell (S := fun j => j = d) (Chg.setCell (S := fun j => j = d) (Chg.refl _ w) (p := ⟨d, 2, none⟩) (.inr rfl) _) (p := ⟨d, 3, none⟩) (.inr rfl) _) (p := ⟨d, 4, none⟩) (.inr rfl) _
  exact ⟨rfl, ⟨Blk.set (Blk.set (Blk.set hD.hd 2 (.bool true)) 3 (.int .i64 (k : Int))) 4 (.int .i64 kp), hD.hm.chg hc (hD.hm.ne_blk hD.hd), hD.od, hD.om⟩, hc⟩
theorem up_any {O : Nat → Prop} {w : World} {d m : Nat} {es : Array MapEntry} {clock : Nat} {up armed : Bool} {left keep : Int} {n : Nat} (hD : Dsk O w d m es clock up armed left keep n) :
    Calls Try.prog 17 #[.pointer (some ⟨d, 0, none⟩)] w fun e w' => e = .returned (.bool up) ∧ w = w' := by
  have c1 := hD.c1
  go_enter Try.func17, Try.ntmps17
  go_wp2
  go_ret
  exact ⟨by simp, rfl⟩
theorem writes_any {O : Nat → Prop} {w : World} {d m : Nat} {es : Array MapEntry} {clock : Nat} {up armed : Bool} {left keep : Int} {n : Nat} (hD : Dsk O w d m es clock up armed left keep n) :
    Calls Try.prog 18 #[.pointer (some ⟨d, 0, none⟩)] w fun e w' => e = .returned (.int .u64 (n : Int)) ∧ w = w' := by
  have c5 := hD.c5
  go_enter Try.func18, Try.ntmps18
  go_wp2
  go_ret
  exact ⟨by simp, rfl⟩
end Go.Proofs.Ytddgkfheoldjkaa
