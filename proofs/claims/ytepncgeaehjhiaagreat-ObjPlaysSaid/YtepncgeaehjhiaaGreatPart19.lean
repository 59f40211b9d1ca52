/-
  Several texts in one:
  A disk of any number of files: armed, off, on; a write at which the power goes. Conditions: counts that have not come to their ends.
  Whether a text may be a file's name, and a key. Conditions: none.
-/
import Derived.Test.YtepncgeaehjhiaaGreatPart18
import Derived.Test.YtepncgeaehjhiaaGreatPart14
import Derived.Test.YtepncgeaehjhiaaGreatPart17

namespace Go.Proofs.YtepncgeaehjhiaaGreat
open Go.RowKit

section
variable {S : Nat → Prop} {w w' : World} {d m : Nat} {E : List FEnt} {clock : Nat} {up armed : Bool} {left kp : Int} {n : Nat}

/-- the disk's own block turns alone -/
theorem FS.redo {up' armed' : Bool} {left' kp' : Int} {n' : Nat} (h : FS S w d m E clock up armed left kp n) (hd : Dsk S w' d m (E.map FEnt.ent).toArray clock up' armed' left' kp' n') (hc : Chg (fun k => k = d) w w') : FS S w' d m E clock up' armed' left' kp' n' :=
  ⟨hd, fun e he => (h.ok e he).chg hc ((h.ok e he).fil.hg.ne_type h.dsk.hd (by decide)) (fun ad e1 => (h.ok e he).fil.hA.ne_blk h.dsk.hd (by decide) ad e1) (Nat.le_refl _), h.ap⟩
theorem chg_d {d : Nat} (h : S d) (hc : Chg (fun k => k = d) w w') : Chg S w w' := hc.mono fun k _ e => by
  have e : k = d := e
  rw [e]
  exact h
theorem fs_arm (h : FS S w d m E clock up armed left kp n) (k : Nat) (keep : Int) :
    Calls Tryz.prog 31 #[.pointer (some ⟨d, 0, none⟩), .int .i64 (k : Int), .int .i64 keep] w fun e w' => e = .returned (.tuple #[]) ∧ FS S w' d m E clock up true (k : Int) keep n ∧ Chg S w w' :=
  (arm_any h.dsk k keep).mono fun _ _ ⟨h1, h2, h3⟩ => ⟨h1, h.redo h2 h3, chg_d h.dsk.od h3⟩
theorem fs_on (h : FS S w d m E clock up armed left kp n) :
    Calls Tryz.prog 10 #[.pointer (some ⟨d, 0, none⟩)] w fun e w' => e = .returned (.tuple #[]) ∧ FS S w' d m E clock true armed left kp n ∧ Chg S w w' :=
  (on_any h.dsk).mono fun _ _ ⟨h1, h2, h3⟩ => ⟨h1, h.redo h2 h3, chg_d h.dsk.od h3⟩
set_option maxHeartbeats 1000000 in
theorem fs_off (h : FS S w d m E clock true armed left kp n) (keep : Int) (hkp : keep ≤ 9223372036854775807) :
    Calls Tryz.prog 8 #[.pointer (some ⟨d, 0, none⟩), .int .i64 keep] w fun e w' => e = .returned (.tuple #[]) ∧ FS S w' d m (E.map (cutE keep)) clock false false left kp n ∧ Chg S w w' := by
  have hC := fs_cut h keep hkp
  have c1 := h.dsk.c1
  clear h
  go_enter Tryz.func8, Tryz.ntmps8
  go_wp2_with fail
  refine hC.mono ?_
  rintro e w' ⟨rfl, h⟩
  go_wp2
  go_end0
  exact ⟨rfl, h⟩
set_option maxHeartbeats 1000000 in
theorem fs_off_down (h : FS S w d m E clock false armed left kp n) (keep : Int) :
    Calls Tryz.prog 8 #[.pointer (some ⟨d, 0, none⟩), .int .i64 keep] w fun e w' => e = .returned (.tuple #[]) ∧ w = w' := by
  have c1 := h.dsk.c1
  clear h
  go_enter Tryz.func8, Tryz.ntmps8
  go_wp2
  go_end0
  exact ⟨rfl, rfl⟩

/-- what holds when the power has gone at a write -/
def GoneF (S : Nat → Prop) (w : World) (d m : Nat) (E : List FEnt) (clock : Nat) (kp : Int) (n : Nat) (w' : World) : Prop := FS S w' d m (E.map (cutE kp)) clock false false 0 kp n ∧ Chg S w w'

set_option maxHeartbeats 1000000 in
theorem fs_sync_cut (h : FS S w d m E clock true true 0 kp n) (hn : n ≤ 4000000000000000000) (hkp : kp ≤ 9223372036854775807) {i : Nat} {f : FEnt} (hi : E[i]? = some f) (hx : NmOk f.nm) :
    Calls Tryz.prog 76 #[.pointer (some ⟨d, 0, none⟩), .string f.nm] w fun e w' => e = .returned (.int .i64 60) ∧ GoneF S w d m E clock kp (n + 1) w' := by
  have hmf : ∀ (fn : Fn) (first cp : Array Value) (w : World), (Instr.makeFunc fn first cp).run Tryz.prog w = .ok (.func fn first cp) w := fun _ _ _ _ => rfl
  obtain ⟨W, hW, hgW, b1, b2, hzW⟩ := two_boxes w (.pointer (some ⟨d, 0, none⟩)) (.string f.nm) 23 9
  have hf := h.find hi
  go_enter Tryz.func76, Tryz.ntmps76
  go_wp2_with fail
  rw [← hW]
  have hF := h.grew hgW
  clear hW
  refine (write_cut hF.dsk hn _ _ _ entS1 entNo _ _ _ ((sync_ask hF.dsk f.nm hx hf (b2.cell 0) (b1.cell 0)).mono fun e w' ⟨h1, h2⟩ => ⟨h1, 0, by rw [← h2]; rfl⟩) (R := fun w1 w' => w1 = w' ∧ FS S w1 d m E clock true true 0 kp (n + 1)) (T := fun w2 w' => FS S w' d m (E.map (cutE kp)) clock false false 0 kp (n + 1) ∧ Chg S w2 w') ?_ ?_ ?_).mono ?_
  · intro w1 hc1 hD1
    exact (nothing_any w1).mono fun e w' ⟨h1, h2⟩ => ⟨h1, h2, hF.redo hD1 hc1⟩
  · rintro w1 w2 ⟨rfl, h1⟩
    exact h1.dsk.c4
  · rintro w1 w2 ⟨rfl, h1⟩
    exact fs_cut h1 kp hkp
  rintro e w' ⟨rfl, w1, w2, hc1, hD1, ⟨rfl, _⟩, k1, k2⟩
  go_wp2
  go_ret
  exact ⟨by simp, k1, ((Chg.of_grew hgW).trans (chg_d h.dsk.od hc1)).trans k2⟩

set_option maxHeartbeats 1000000 in
theorem fs_rename_cut (h : FS S w d m E clock true true 0 kp n) (hn : n ≤ 4000000000000000000) (hkp : kp ≤ 9223372036854775807) {i : Nat} {f : FEnt} (hi : E[i]? = some f) (hx : NmOk f.nm) (y : ByteArray) (hy : NmOk y) :
    Calls Tryz.prog 77 #[.pointer (some ⟨d, 0, none⟩), .string f.nm, .string y] w fun e w' => e = .returned (.int .i64 60) ∧ GoneF S w d m E clock kp (n + 1) w' := by
  have hmf : ∀ (fn : Fn) (first cp : Array Value) (w : World), (Instr.makeFunc fn first cp).run Tryz.prog w = .ok (.func fn first cp) w := fun _ _ _ _ => rfl
  obtain ⟨W, hW, hgW, b1, b2, b3, hzW⟩ := three_boxes w (.pointer (some ⟨d, 0, none⟩)) (.string f.nm) (.string y) 23 9 9
  have hf := h.find hi
  go_enter Tryz.func77, Tryz.ntmps77
  go_wp2_with fail
  rw [← hW]
  have hF := h.grew hgW
  clear hW
  refine (write_cut hF.dsk hn _ _ _ entR1 entNo _ _ _ ((ren_ask hF.dsk f.nm y hx hy hf (b2.cell 0) (b1.cell 0) (b3.cell 0)).mono fun e w' ⟨h1, h2⟩ => ⟨h1, 0, by rw [← h2]; rfl⟩) (R := fun w1 w' => w1 = w' ∧ FS S w1 d m E clock true true 0 kp (n + 1)) (T := fun w2 w' => FS S w' d m (E.map (cutE kp)) clock false false 0 kp (n + 1) ∧ Chg S w2 w') ?_ ?_ ?_).mono ?_
  · intro w1 hc1 hD1
    exact (nothing_any w1).mono fun e w' ⟨h1, h2⟩ => ⟨h1, h2, hF.redo hD1 hc1⟩
  · rintro w1 w2 ⟨rfl, h1⟩
    exact h1.dsk.c4
  · rintro w1 w2 ⟨rfl, h1⟩
    exact fs_cut h1 kp hkp
  rintro e w' ⟨rfl, w1, w2, hc1, hD1, ⟨rfl, _⟩, k1, k2⟩
  go_wp2
  go_ret
  exact ⟨by simp, k1, ((Chg.of_grew hgW).trans (chg_d h.dsk.od hc1)).trans k2⟩

set_option maxHeartbeats 1000000 in
theorem fs_append_cut (h : FS S w d m E clock true true 0 kp n) (hn : n ≤ 4000000000000000000) (hkp : kp ≤ 9223372036854775807) (x : ByteArray) (hx : NmOk x) (hno : ∀ e ∈ E, e.nm ≠ x) (hE : E.length < 1048576) (A : Option Addr) (k cap : Nat) (l : List UInt8) (hr : RB w A k l) (hk : k ≤ 4194304) (hAd : ∀ ad, A = some ad → 0 < k → ad.block ≠ d) :
    Calls Tryz.prog 75 #[.pointer (some ⟨d, 0, none⟩), .string x, .slice A k cap] w fun e w' => e = .returned (.int .i64 60) ∧ ∃ f : FEnt, f.nm = x ∧ FS (Up S w) w' d m ((E ++ [f]).map (cutE kp)) (clock + 1) false false 0 kp (n + 1) ∧ Chg S w w' := by
  have hmf : ∀ (fn : Fn) (first cp : Array Value) (w : World), (Instr.makeFunc fn first cp).run Tryz.prog w = .ok (.func fn first cp) w := fun _ _ _ _ => rfl
  obtain ⟨W, hW, hgW, b1, b2, b3, hzW⟩ := three_boxes w (.pointer (some ⟨d, 0, none⟩)) (.string x) (.slice A k cap) 23 9 37
  have hnf : Instr.findNow .string (.string x) (E.map FEnt.ent).toArray.toList 0 = some none := by simpa using find_no E 0 hno
  have hes : (E.map FEnt.ent).toArray.size < 1048576 := by simpa using hE
  have hdl := h.dsk.hd.lt
  go_enter Tryz.func75, Tryz.ntmps75
  go_wp2_with fail
  rw [← hW]
  have hR0 := h.rise
  have hF := hR0.grew hgW
  have hrW := hr.grew hgW
  clear hW
  refine (write_cut hF.dsk hn _ _ _ entA2 entA1 _ _ _ (app_new hF.dsk x hx hnf hes (b2.cell 0) (b1.cell 0) (b3.cell 0) hk)
    (R := fun w1 w' => ∃ f : FEnt, f.nm = x ∧ FS (Up S w) w' d m (E ++ [f]) (clock + 1) true true 0 kp (n + 1) ∧ Chg (fun j => j = m) w1 w')
    (T := fun w2 w' => ∃ f : FEnt, f.nm = x ∧ FS (Up S w) w' d m ((E ++ [f]).map (cutE kp)) (clock + 1) false false 0 kp (n + 1) ∧ Chg (Up S w) w2 w') ?_ ?_ ?_).mono ?_
  · intro w1 hc1 hD1
    have hO1 : ∀ k, w1.heap.size ≤ k → Up S w k := fun k hk => .inr (by have := hc1.size; have := hgW.size; omega)
    have ne1 := b1.ne_type hF.dsk.hd (by decide)
    have ne2 := b2.ne_type hF.dsk.hd (by decide)
    have ne3 := b3.ne_type hF.dsk.hd (by decide)
    have hF1 := hF.redo hD1 hc1
    refine (do_new hO1 hD1 x hnf ((b2.chg hc1 ne2).cell 0) ((b1.chg hc1 ne1).cell 0) ((b3.chg hc1 ne3).cell 0) (hrW.far hc1 hAd) hk).mono ?_
    rintro e w' ⟨he, g, A', c, h1, h2, h3, h4, h5⟩
    refine ⟨he, ⟨x, g, clock, A', c, l, 0⟩, rfl, ⟨?_, ?_, ?_⟩, h3⟩
    · have := ent_push E ⟨x, g, clock, A', c, l, 0⟩
      rw [← this]
      exact h1
    · intro e he
      rcases List.mem_append.1 he with he | he
      · exact (hF1.ok e he).stay hF1.dsk (h3.mono fun j _ e => .inr e) (Nat.le_succ _)
      · obtain rfl : e = _ := by simpa using he
        exact ⟨h2, Nat.zero_le _, by show l.length ≤ _; rw [hr.1]; exact hk, Nat.lt_succ_self _⟩
    · rw [List.pairwise_append]
      refine ⟨h.ap, List.pairwise_singleton _ _, ?_⟩
      intro a ha b hb
      obtain rfl : b = _ := by simpa using hb
      have ho := hF1.ok a ha
      refine ⟨hno a ha, fun e => ?_, fun e => ?_, fun ad bd e1 e2 e => ?_⟩
      · have := ho.fil.hg.lt
        have e : a.g = g := e
        omega
      · have := ho.born
        have e : a.born = clock := e
        omega
      · have := (Own.blk_lt ho.fil.hA ad e1).2
        have := h5 bd e2
        omega
  · rintro w1 w2 ⟨f, _, h1, _⟩
    exact h1.dsk.c4
  · rintro w1 w2 ⟨f, hfn, h1, _⟩
    refine (fs_cut h1 kp hkp).mono ?_
    rintro e w' ⟨rfl, h2, h3⟩
    exact ⟨rfl, f, hfn, h2, h3⟩
  rintro e w' ⟨rfl, w1, w2, hc1, hD1, ⟨_, _, _, hc2⟩, f, hfn, k1, k2⟩
  go_wp2
  go_ret
  have hc2' : Chg S w1 w2 := hc2.mono fun j _ e => by
    have e : j = m := e
    rw [e]
    exact h.dsk.om
  exact ⟨by simp, f, hfn, k1, (((Chg.of_grew hgW).trans (chg_d h.dsk.od hc1)).trans hc2').step k2 fun j hj e => e.elim id fun e => by omega⟩
end
end Go.Proofs.YtepncgeaehjhiaaGreat

namespace Go.Proofs.YtepncgeaehjhiaaGreat
open Go.RowKit

def okcB (z : Nat) : Bool := decide ((97 ≤ z ∧ z ≤ 122) ∨ (48 ≤ z ∧ z ≤ 57) ∨ z = 47 ∨ z = 46 ∨ z = 45)
def nameB (x : ByteArray) : Bool := decide (0 < x.size) && decide (x.size ≤ 64) && (lst x).all fun c => okcB c.toNat
theorem okcB_iff (z : Nat) : okcB z = true ↔ okc z := by simp [okcB, okc]
theorem lst_get (x : ByteArray) (i : Nat) (h : i < x.size) : (lst x)[i]? = some (x[i]'h) := by
  show x.data.toList[i]? = _
  rw [Array.getElem?_toList]
  exact Array.getElem?_eq_getElem _
theorem nameB_iff (x : ByteArray) : nameB x = true ↔ NmOk x := by
  unfold nameB NmOk
  simp only [Bool.and_eq_true, decide_eq_true_eq, List.all_eq_true, and_assoc]
  refine and_congr_right fun _ => and_congr_right fun _ => ⟨fun h i hi => (okcB_iff _).1 (h _ (List.mem_of_getElem? (lst_get x i hi))), fun h c hc => ?_⟩
  obtain ⟨i, hi⟩ := List.getElem?_of_mem hc
  have hil : i < x.size := by
    have := (List.getElem?_eq_some_iff.1 hi).1
    rwa [lst_length] at this
  rw [lst_get x i hil] at hi
  injection hi with hi
  subst hi
  exact (okcB_iff _).2 (h i hil)
theorem nameB_no {x : ByteArray} {j : Nat} (hj : j < x.size) (h : ¬ okc (x[j]'hj).toNat) : nameB x = false := by
  cases hb : nameB x with
  | false => rfl
  | true => exact absurd (((nameB_iff x).1 hb).2.2 j hj) h

set_option maxHeartbeats 2000000 in
theorem name_any (x : ByteArray) (w : World) : Calls Tryz.prog 68 #[.string x] w fun e w' => e = .returned (.bool (nameB x)) ∧ w = w' := by
  by_cases hx : NmOk x
  · rw [(nameB_iff x).2 hx]
    exact name_ok x hx w
  have hF : nameB x = false := by
    cases hb : nameB x with
    | false => rfl
    | true => exact absurd ((nameB_iff x).1 hb) hx
  rw [hF]
  clear hF
  by_cases h0 : x.size = 0
  · obtain rfl : x = ⟨#[]⟩ := by
      apply lst_inj.1
      have := lst_length x
      rw [h0] at this
      exact List.eq_nil_of_length_eq_zero this
    clear h0 hx
    go_enter Tryz.func68, Tryz.ntmps68
    go_wp2
    go_ret
    exact ⟨by simp, rfl⟩
  have h9 : ¬ x.toList = [] := fun e => by
    have := congrArg List.length e
    rw [ByteArray.toList_eq] at this
    simp at this
    have h8 : x.size = 0 := this ▸ rfl
    omega
  have h0' : x.toList.isEmpty = false := by
    cases h : x.toList with
    | nil => exact absurd h h9
    | cons a b => rfl
  obtain ⟨n, hn⟩ : ∃ n, x.size = n := ⟨_, rfl⟩
  by_cases h64 : 64 < n
  · have e64 : decide ((64 : Int) < (n : Int)) = true := decide_eq_true (by omega)
    clear hx h64
    go_enter Tryz.func68, Tryz.ntmps68
    go_wp2
    go_ret
    exact ⟨by simp, rfl⟩
  have e64 : decide ((64 : Int) < (n : Int)) = false := decide_eq_false (by omega)
  have Hbad : Hid (¬ ∀ (i : Nat) (h : i < x.size), okc (x[i]'h).toNat) := fun h => hx ⟨by omega, by omega, h⟩
  have h64' : n ≤ 64 := by omega
  clear hx h64
  go_enter Tryz.func68, Tryz.ntmps68
  go_wp2
  go_loopw [3] (fun si wr => ∃ j : Nat, si = .int .i64 (j : Int) ∧ j ≤ n ∧ w = wr ∧ Hid (∀ (i : Nat) (h : i < x.size), i < j → okc (x[i]'h).toNat)) (fun si _ => n - (intOf si).toNat)
  case atStart => exact ⟨0, rfl, by omega, rfl, fun i h h' => by omega⟩
  case round =>
    obtain ⟨j, rfl, hj, rfl, Hok⟩ := hrel
    by_cases hlt : j < n
    · obtain ⟨zn, hzn⟩ : ∃ zn : Nat, (x[j]'(by omega)).toNat = zn := ⟨_, rfl⟩
      have hzb : zn ≤ 255 := by
        have := (x[j]'(by omega)).toNat_lt
        omega
      have hz : ∀ h, ((x[j]'h).toNat : Int) = (zn : Int) := fun h => by rw [← hzn]
      by_cases hc : okc zn
      · have Hok' : Hid (∀ (i : Nat) (h : i < x.size), i < j + 1 → okc (x[i]'h).toNat) := fun i h h' => by
          by_cases hij : i = j
          · subst hij
            rw [hzn]
            exact hc
          · exact Hok.out i h (by omega)
        unfold okc at hc
        clear hzn
        rcases hc with ⟨k1, k2⟩ | ⟨k1, k2⟩ | rfl | rfl | rfl
        · have t1 : decide ((zn : Int) < 97) = false := decide_eq_false (by omega)
          have t2 : decide ((122 : Int) < (zn : Int)) = false := decide_eq_false (by omega)
          go_wp2
          go_roundw
          case rel => exact ⟨j + 1, by go_num, by omega, trivial, Hok'⟩
          case measure => simp [intOf]; omega
        · have t1 : decide ((zn : Int) < 97) = true := decide_eq_true (by omega)
          have t2 : decide ((zn : Int) < 48) = false := decide_eq_false (by omega)
          have t3 : decide ((57 : Int) < (zn : Int)) = false := decide_eq_false (by omega)
          go_wp2
          go_roundw
          case rel => exact ⟨j + 1, by go_num, by omega, trivial, Hok'⟩
          case measure => simp [intOf]; omega
        all_goals
          go_wp2
          go_roundw
          case rel => exact ⟨j + 1, by go_num, by omega, trivial, Hok'⟩
          case measure => simp [intOf]; omega
      · unfold okc at hc
        have u1 : ((zn : Int) != 47) = true := by simp; omega
        have u2 : ((zn : Int) != 46) = true := by simp; omega
        have u3 : ((zn : Int) != 45) = true := by simp; omega
        clear hzn
        by_cases k1 : zn < 97
        · have t1 : decide ((zn : Int) < 97) = true := decide_eq_true (by omega)
          by_cases k2 : zn < 48
          · have t2 : decide ((zn : Int) < 48) = true := decide_eq_true (by omega)
            clear hc k1 k2
            go_wp2
            go_ret
            exact ⟨by simp, rfl⟩
          · have t2 : decide ((zn : Int) < 48) = false := decide_eq_false (by omega)
            have t3 : decide ((57 : Int) < (zn : Int)) = true := decide_eq_true (by omega)
            clear hc k1 k2
            go_wp2
            go_ret
            exact ⟨by simp, rfl⟩
        · have t1 : decide ((zn : Int) < 97) = false := decide_eq_false (by omega)
          have t2 : decide ((122 : Int) < (zn : Int)) = true := decide_eq_true (by omega)
          have t3 : decide ((zn : Int) < 48) = false := decide_eq_false (by omega)
          have t4 : decide ((57 : Int) < (zn : Int)) = true := decide_eq_true (by omega)
          clear hc k1
          go_wp2
          go_ret
          exact ⟨by simp, rfl⟩
    · obtain rfl : j = n := by omega
      exact absurd (fun i h => Hok.out i h (by omega)) Hbad.out

def oN : ByteArray := ⟨#[111, 47]⟩
def tN : ByteArray := ⟨#[116, 47]⟩
def keyB (x : ByteArray) : Bool := decide (x.size ≤ 56) && nameB x && !Lib.hasPrefix (lst x) (lst oN) && !Lib.hasPrefix (lst x) (lst tN)

set_option maxHeartbeats 1000000 in
theorem named_any (x : ByteArray) (w : World) : Calls Tryz.prog 64 #[.string x] w fun e w' => e = .returned (.bool (keyB x)) ∧ w = w' := by
  have hN := name_any x
  have hp : ∀ y w, Calls Tryz.prog 39 #[.string x, .string y] w fun e w' => e = .returned (.bool (Lib.hasPrefix (lst x) (lst y))) ∧ w = w' := fun y w => prefix_any x y w
  unfold keyB
  have hp1 := hp oN
  have hp2 := hp tN
  unfold oN at hp1 ⊢
  unfold tN at hp2 ⊢
  obtain ⟨n, hn⟩ : ∃ n, x.size = n := ⟨_, rfl⟩
  rw [hn]
  by_cases h56 : n ≤ 56
  · have e0 : decide ((n : Int) ≤ 56) = true := decide_eq_true (by omega)
    have e0' : decide (n ≤ 56) = true := decide_eq_true h56
    rw [e0']
    clear e0' h56 hp
    generalize nameB x = b1 at *
    generalize Lib.hasPrefix (lst x) (lst ⟨#[111, 47]⟩) = b2 at *
    generalize Lib.hasPrefix (lst x) (lst ⟨#[116, 47]⟩) = b3 at *
    go_enter Tryz.func64, Tryz.ntmps64
    go_wp2_with fail
    refine (hN _).mono ?_
    rintro e w1 ⟨rfl, rfl⟩
    cases b1
    · go_wp2
      go_ret
      exact ⟨by simp, rfl⟩
    go_wp2_with fail
    refine (hp1 _).mono ?_
    rintro e w1 ⟨rfl, rfl⟩
    cases b2
    · go_wp2_with fail
      refine (hp2 _).mono ?_
      rintro e w1 ⟨rfl, rfl⟩
      go_wp2
      go_ret
      exact ⟨by simp, rfl⟩
    · go_wp2
      go_ret
      exact ⟨by simp, rfl⟩
  · have e0 : decide ((n : Int) ≤ 56) = false := decide_eq_false (by omega)
    have e0' : decide (n ≤ 56) = false := decide_eq_false h56
    rw [e0']
    clear e0' h56 hp hN hp1 hp2
    go_enter Tryz.func64, Tryz.ntmps64
    go_wp2
    go_ret
    exact ⟨by simp, rfl⟩
def mayC (x : ByteArray) (n : Nat) : Nat := if keyB x = false then 110 else if 1048576 < n then 113 else 0
set_option maxHeartbeats 1000000 in
theorem may_any (x : ByteArray) (A : Option Addr) (n c : Nat) (w : World) : Calls Tryz.prog 50 #[.string x, .slice A n c] w fun e w' => e = .returned (.int .i64 (mayC x n : Int)) ∧ w = w' := by
  have hN := named_any x
  unfold mayC
  generalize keyB x = b at *
  go_enter Tryz.func50, Tryz.ntmps50
  go_wp2_with fail
  refine (hN _).mono ?_
  rintro e w1 ⟨rfl, rfl⟩
  clear hN
  cases b
  · go_wp2
    go_ret
    exact ⟨by simp, rfl⟩
  by_cases h : 1048576 < n
  · have e0 : decide ((1048576 : Int) < (n : Int)) = true := decide_eq_true (by omega)
    go_wp2
    go_ret
    exact ⟨by simp, rfl⟩
  · have e0 : decide ((1048576 : Int) < (n : Int)) = false := decide_eq_false (by omega)
    go_wp2
    go_ret
    exact ⟨by simp, rfl⟩
end Go.Proofs.YtepncgeaehjhiaaGreat
