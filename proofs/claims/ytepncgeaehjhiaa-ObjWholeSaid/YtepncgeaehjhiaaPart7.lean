/-
  Several texts in one:
  Whether a text may be a file's name, and a key. Conditions: none.
  Keys of one letter that may be: may, named. Conditions: the key's length is one.
  A put's steps: clear, sync, rename. Conditions: names that may be.
  append of a string's bytes onto a row of bytes of the call's own; a string out of bytes. Conditions: none; the two types' numbers are the program's.
  Plain laws of package codec: numbers as bytes, and read back; signed ones; the sum of bytes. Conditions: none; no program in sight.
  Package codec and its reference: numbers and texts laid into bytes, and read: what each call does. Conditions: lengths that memory bears.
  Package codec and its reference: numbers, signed ones and texts read: what each call answers. Conditions: lengths that memory bears.
  Bytes made a text: what the conversion yields. Conditions: none; no program in sight.
  Package codec and its reference: Int and Text: what each call answers. Conditions: lengths that memory bears.
-/
import Derived.Test.YtepncgeaehjhiaaPart6
import Derived.Test.YtepncgeaehjhiaaPart5
import Derived.Test.YtepncgeaehjhiaaPart1
import Derived.Laws.BitsAllLaws
import Derived.Laws.BytesString

namespace Go.Proofs.Ytepncgeaehjhiaa
open Go.RowKit

def okcB (z : Nat) : Bool := decide ((97 ≤ z ∧ z ≤ 122) ∨ (48 ≤ z ∧ z ≤ 57) ∨ z = 47 ∨ z = 46 ∨ z = 45)
def nameB (x : ByteArray) : Bool := decide (0 < x.size) && decide (x.size ≤ 64) && (lst x).all fun c => okcB c.toNat
theorem okcB_iff (z : Nat) : okcB z = true ↔ okc z := by simp [okcB, okc]
theorem lst_get (x : ByteArray) (i : Nat) (h : i < x.size) : (lst x)[i]? = some (x[i]'h) := by
  show x.data.toList[i]? = _
  rw [Array.getElem?_toList]
  exact Array.getElem?_eq_getElem _
theorem nameB_iff (x : ByteArray) : nameB x = true ↔ NmOk x := by
  unfold nameB NmOk
  simp only [Bool.and_eq_true, decide_eq_true_eq, List.all_eq_true, and_assoc]
  refine and_congr_right fun _ => and_congr_right fun _ => ⟨fun h i hi => (okcB_iff _).1 (h _ (List.mem_of_getElem? (lst_get x i hi))), fun h c hc => ?_⟩
  obtain ⟨i, hi⟩ := List.getElem?_of_mem hc
  have hil : i < x.size := by
    have := (List.getElem?_eq_some_iff.1 hi).1
    rwa [lst_length] at this
  rw [lst_get x i hil] at hi
  injection hi with hi
  subst hi
  exact (okcB_iff _).2 (h i hil)
theorem nameB_no {x : ByteArray} {j : Nat} (hj : j < x.size) (h : ¬ okc (x[j]'hj).toNat) : nameB x = false := by
  cases hb : nameB x with
  | false => rfl
  | true => exact absurd (((nameB_iff x).1 hb).2.2 j hj) h

set_option maxHeartbeats 2000000 in
theorem name_any (x : ByteArray) (w : World) : Calls Try.prog 47 #[.string x] w fun e w' => e = .returned (.bool (nameB x)) ∧ w = w' := by
  by_cases hx : NmOk x
  · rw [(nameB_iff x).2 hx]
    exact name_ok x hx w
  have hF : nameB x = false := by
    cases hb : nameB x with
    | false => rfl
    | true => exact absurd ((nameB_iff x).1 hb) hx
  rw [hF]
  clear hF
  by_cases h0 : x.size = 0
  · obtain rfl : x = ⟨#[]⟩ := by
      apply lst_inj.1
      have := lst_length x
      rw [h0] at this
      exact List.eq_nil_of_length_eq_zero this
    clear h0 hx
    go_enter Try.func47, Try.ntmps47
    go_wp2
    go_ret
    exact ⟨by simp, rfl⟩
  have h9 : ¬ x.toList = [] := fun e => by
    have := congrArg List.length e
    rw [ByteArray.toList_eq] at this
    simp at this
    have h8 : x.size = 0 := this ▸ rfl
    omega
  have h0' : x.toList.isEmpty = false := by
    cases h : x.toList with
    | nil => exact absurd h h9
    | cons a b => rfl
  obtain ⟨n, hn⟩ : ∃ n, x.size = n := ⟨_, rfl⟩
  by_cases h64 : 64 < n
  · have e64 : decide ((64 : Int) < (n : Int)) = true := decide_eq_true (by omega)
    clear hx h64
    go_enter Try.func47, Try.ntmps47
    go_wp2
    go_ret
    exact ⟨by simp, rfl⟩
  have e64 : decide ((64 : Int) < (n : Int)) = false := decide_eq_false (by omega)
  have Hbad : Hid (¬ ∀ (i : Nat) (h : i < x.size), okc (x[i]'h).toNat) := fun h => hx ⟨by omega, by omega, h⟩
  have h64' : n ≤ 64 := by omega
  clear hx h64
  go_enter Try.func47, Try.ntmps47
  go_wp2
  go_loopw [3] (fun si wr => ∃ j : Nat, si = .int .i64 (j : Int) ∧ j ≤ n ∧ w = wr ∧ Hid (∀ (i : Nat) (h : i < x.size), i < j → okc (x[i]'h).toNat)) (fun si _ => n - (intOf si).toNat)
  case atStart => exact ⟨0, rfl, by omega, rfl, fun i h h' => by omega⟩
  case round =>
    obtain ⟨j, rfl, hj, rfl, Hok⟩ := hrel
    by_cases hlt : j < n
    · obtain ⟨zn, hzn⟩ : ∃ zn : Nat, (x[j]'(by omega)).toNat = zn := ⟨_, rfl⟩
      have hzb : zn ≤ 255 := by
        have := (x[j]'(by omega)).toNat_lt
        omega
      have hz : ∀ h, ((x[j]'h).toNat : Int) = (zn : Int) := fun h => by rw [← hzn]
      by_cases hc : okc zn
      · have Hok' : Hid (∀ (i : Nat) (h : i < x.size), i < j + 1 → okc (x[i]'h).toNat) := fun i h h' => by
          by_cases hij : i = j
          · subst hij
            rw [hzn]
            exact hc
          · exact Hok.out i h (by omega)
        unfold okc at hc
        clear hzn
        rcases hc with ⟨k1, k2⟩ | ⟨k1, k2⟩ | rfl | rfl | rfl
        · have t1 : decide ((zn : Int) < 97) = false := decide_eq_false (by omega)
          have t2 : decide ((122 : Int) < (zn : Int)) = false := decide_eq_false (by omega)
          go_wp2
          go_roundw
          case rel => exact ⟨j + 1, by go_num, by omega, trivial, Hok'⟩
          case measure => simp [intOf]; omega
        · have t1 : decide ((zn : Int) < 97) = true := decide_eq_true (by omega)
          have t2 : decide ((zn : Int) < 48) = false := decide_eq_false (by omega)
          have t3 : decide ((57 : Int) < (zn : Int)) = false := decide_eq_false (by omega)
          go_wp2
          go_roundw
          case rel => exact ⟨j + 1, by go_num, by omega, trivial, Hok'⟩
          case measure => simp [intOf]; omega
        all_goals
          go_wp2
          go_roundw
          case rel => exact ⟨j + 1, by go_num, by omega, trivial, Hok'⟩
          case measure => simp [intOf]; omega
      · unfold okc at hc
        have u1 : ((zn : Int) != 47) = true := by simp; omega
        have u2 : ((zn : Int) != 46) = true := by simp; omega
        have u3 : ((zn : Int) != 45) = true := by simp; omega
        clear hzn
        by_cases k1 : zn < 97
        · have t1 : decide ((zn : Int) < 97) = true := decide_eq_true (by omega)
          by_cases k2 : zn < 48
          · have t2 : decide ((zn : Int) < 48) = true := decide_eq_true (by omega)
            clear hc k1 k2
            go_wp2
            go_ret
            exact ⟨by simp, rfl⟩
          · have t2 : decide ((zn : Int) < 48) = false := decide_eq_false (by omega)
            have t3 : decide ((57 : Int) < (zn : Int)) = true := decide_eq_true (by omega)
            clear hc k1 k2
            go_wp2
            go_ret
            exact ⟨by simp, rfl⟩
        · have t1 : decide ((zn : Int) < 97) = false := decide_eq_false (by omega)
          have t2 : decide ((122 : Int) < (zn : Int)) = true := decide_eq_true (by omega)
          have t3 : decide ((zn : Int) < 48) = false := decide_eq_false (by omega)
          have t4 : decide ((57 : Int) < (zn : Int)) = true := decide_eq_true (by omega)
          clear hc k1
          go_wp2
          go_ret
          exact ⟨by simp, rfl⟩
    · obtain rfl : j = n := by omega
      exact absurd (fun i h => Hok.out i h (by omega)) Hbad.out

def oN : ByteArray := ⟨#[111, 47]⟩
def tN : ByteArray := ⟨#[116, 47]⟩
def keyB (x : ByteArray) : Bool := decide (x.size ≤ 56) && nameB x && !Lib.hasPrefix (lst x) (lst oN) && !Lib.hasPrefix (lst x) (lst tN)

set_option maxHeartbeats 1000000 in
theorem named_any (x : ByteArray) (w : World) : Calls Try.prog 30 #[.string x] w fun e w' => e = .returned (.bool (keyB x)) ∧ w = w' := by
  have hN := name_any x
  have hp : ∀ y w, Calls Try.prog 37 #[.string x, .string y] w fun e w' => e = .returned (.bool (Lib.hasPrefix (lst x) (lst y))) ∧ w = w' := fun y w => prefix_any x y w
  unfold keyB
  have hp1 := hp oN
  have hp2 := hp tN
  unfold oN at hp1 ⊢
  unfold tN at hp2 ⊢
  obtain ⟨n, hn⟩ : ∃ n, x.size = n := ⟨_, rfl⟩
  rw [hn]
  by_cases h56 : n ≤ 56
  · have e0 : decide ((n : Int) ≤ 56) = true := decide_eq_true (by omega)
    have e0' : decide (n ≤ 56) = true := decide_eq_true h56
    rw [e0']
    clear e0' h56 hp
    generalize nameB x = b1 at *
    generalize Lib.hasPrefix (lst x) (lst ⟨#[111, 47]⟩) = b2 at *
    generalize Lib.hasPrefix (lst x) (lst ⟨#[116, 47]⟩) = b3 at *
    go_enter Try.func30, Try.ntmps30
    go_wp2_with fail
    refine (hN _).mono ?_
    rintro e w1 ⟨rfl, rfl⟩
    cases b1
    · go_wp2
      go_ret
      exact ⟨by simp, rfl⟩
    go_wp2_with fail
    refine (hp1 _).mono ?_
    rintro e w1 ⟨rfl, rfl⟩
    cases b2
    · go_wp2_with fail
      refine (hp2 _).mono ?_
      rintro e w1 ⟨rfl, rfl⟩
      go_wp2
      go_ret
      exact ⟨by simp, rfl⟩
    · go_wp2
      go_ret
      exact ⟨by simp, rfl⟩
  · have e0 : decide ((n : Int) ≤ 56) = false := decide_eq_false (by omega)
    have e0' : decide (n ≤ 56) = false := decide_eq_false h56
    rw [e0']
    clear e0' h56 hp hN hp1 hp2
    go_enter Try.func30, Try.ntmps30
    go_wp2
    go_ret
    exact ⟨by simp, rfl⟩
def mayC (x : ByteArray) (n : Nat) : Nat := if keyB x = false then 110 else if 1048576 < n then 113 else 0
set_option maxHeartbeats 1000000 in
theorem may_any (x : ByteArray) (A : Option Addr) (n c : Nat) (w : World) : Calls Try.prog 28 #[.string x, .slice A n c] w fun e w' => e = .returned (.int .i64 (mayC x n : Int)) ∧ w = w' := by
  have hN := named_any x
  unfold mayC
  generalize keyB x = b at *
  go_enter Try.func28, Try.ntmps28
  go_wp2_with fail
  refine (hN _).mono ?_
  rintro e w1 ⟨rfl, rfl⟩
  clear hN
  cases b
  · go_wp2
    go_ret
    exact ⟨by simp, rfl⟩
  by_cases h : 1048576 < n
  · have e0 : decide ((1048576 : Int) < (n : Int)) = true := decide_eq_true (by omega)
    go_wp2
    go_ret
    exact ⟨by simp, rfl⟩
  · have e0 : decide ((1048576 : Int) < (n : Int)) = false := decide_eq_false (by omega)
    go_wp2
    go_ret
    exact ⟨by simp, rfl⟩
end Go.Proofs.Ytepncgeaehjhiaa

namespace Go.Proofs.Ytepncgeaehjhiaa
open Go.RowKit

set_option maxHeartbeats 1000000 in
theorem prefix_long (x y : ByteArray) (h : x.size < y.size) (w : World) : Calls Try.prog 37 #[.string x, .string y] w fun e w' => e = .returned (.bool false) ∧ w = w' := by
  have hin : Calls Try.prog 53 #[.string x, .string y] w fun e w' => e = .returned (.bool false) ∧ w = w' := by
    obtain ⟨a, ha⟩ : ∃ a, x.size = a := ⟨_, rfl⟩
    obtain ⟨b, hb⟩ : ∃ b, y.size = b := ⟨_, rfl⟩
    have e0 : decide ((b : Int) ≤ (a : Int)) = false := decide_eq_false (by omega)
    go_enter Try.func53, Try.ntmps53
    go_wp2
    go_ret
    exact ⟨by simp, rfl⟩
  go_enter Try.func37, Try.ntmps37
  go_wp2_with fail
  refine hin.mono ?_
  rintro e w1 ⟨rfl, rfl⟩
  go_wp2
  go_ret
  exact ⟨by simp, rfl⟩
set_option maxHeartbeats 1000000 in
theorem named_one (x : ByteArray) (hx : NmOk x) (h1 : x.size = 1) (w : World) : Calls Try.prog 30 #[.string x] w fun e w' => e = .returned (.bool true) ∧ w = w' := by
  have hN := name_ok x hx
  have hp := fun y hy => prefix_long x y hy
  go_enter Try.func30, Try.ntmps30
  go_wp2_with fail
  refine (hN _).mono ?_
  rintro e w1 ⟨rfl, rfl⟩
  go_wp2_with fail
  refine (hp _ (by rw [h1]; show 1 < 2; omega) _).mono ?_
  rintro e w1 ⟨rfl, rfl⟩
  go_wp2_with fail
  refine (hp _ (by rw [h1]; show 1 < 2; omega) _).mono ?_
  rintro e w1 ⟨rfl, rfl⟩
  go_wp2
  go_ret
  exact ⟨by simp, rfl⟩
set_option maxHeartbeats 1000000 in
theorem may_one (x : ByteArray) (hx : NmOk x) (h1 : x.size = 1) (A : Option Addr) (n c : Nat) (hn : n ≤ 1048576) (w : World) : Calls Try.prog 28 #[.string x, .slice A n c] w fun e w' => e = .returned (.int .i64 0) ∧ w = w' := by
  have hN := named_one x hx h1
  have e0 : decide ((1048576 : Int) < (n : Int)) = false := decide_eq_false (by omega)
  go_enter Try.func28, Try.ntmps28
  go_wp2_with fail
  refine (hN _).mono ?_
  rintro e w1 ⟨rfl, rfl⟩
  go_wp2
  go_ret
  exact ⟨by simp, rfl⟩
end Go.Proofs.Ytepncgeaehjhiaa

namespace Go.Proofs.Ytepncgeaehjhiaa
open Go.RowKit

set_option maxHeartbeats 1000000 in
theorem clear_none {O : Nat → Prop} {w : World} {d m : Nat} {es : Array MapEntry} {clock : Nat} {armed : Bool} {left keep : Int} {n : Nat} (hD : Dsk O w d m es clock true armed left keep n) (p s : Nat) (x : ByteArray) (u v : Value) (hP : Blk w p 63 #[.pointer (some ⟨s, 0, none⟩), .string x, u, v]) (hS : Blk w s 56 #[.pointer (some ⟨d, 0, none⟩)])
    (hx : NmOk ((⟨#[116, 47]⟩ : ByteArray) ++ x)) (hxs : x.size ≤ 64) (h : Instr.findNow .string (.string ((⟨#[116, 47]⟩ : ByteArray) ++ x)) es.toList 0 = some none) :
    Calls Try.prog 31 #[.pointer (some ⟨p, 0, none⟩)] w fun e w' => e = .returned (.int .i64 0) ∧ Grew w w' := by
  have p0 : w.cell? ⟨p, 0, none⟩ = some (.pointer (some ⟨s, 0, none⟩)) := hP.cell 0
  have p1 : w.cell? ⟨p, 1, none⟩ = some (.string x) := hP.cell 1
  have s0 : w.cell? ⟨s, 0, none⟩ = some (.pointer (some ⟨d, 0, none⟩)) := hS.cell 0
  have hC := delete_none (hD.grew (Chg.refl _ w).drew) _ hx h
  go_enter Try.func31, Try.ntmps31
  go_wp2_with fail
  refine wp_region_textS [(9, 2)] [p, s] (by kernel_rfl) (by kernel_rfl) (cellsIn_cons p0 (cellsIn_cons s0 (cellsIn_nil _))) ?_
  simp only [wpU, tagOf, chk, look, Nat.reduceBEq, if_true, if_false, Nat.reduceEqDiff, List.nil_append, List.cons_append]
  intro K hK
  go_wp2_with fail
  refine OnlyN.normal (hK _ _ (fun _ => ⟨_, _, _, rfl, rfl, by simp⟩) ?_)
  clear hK K
  intro K hK
  go_wp2_with fail
  refine OnlyN.normal (hK _ _ (fun _ => ⟨_, _, _, rfl, rfl, by simp⟩) ?_)
  clear hK K
  intro K hK
  go_wp2_with fail
  refine OnlyN.normal (hK _ _ (fun _ => ⟨_, _, _, rfl, rfl, by simp⟩) ?_)
  clear hK K
  intro K hK
  go_wp2_with fail
  refine hC.mono ?_
  rintro e w1 ⟨rfl, hg⟩
  have hg0 : Grew w w1 := (Chg.refl _ w).drew.trans hg
  go_wp2_with fail
  refine OnlyN.normal (hK _ _ (sameIn_all hg0 (by
    intro k hk
    simp only [List.mem_cons, List.not_mem_nil, or_false] at hk
    rcases hk with rfl | rfl
    · exact ⟨hP.lt, fun e => e⟩
    · exact ⟨hS.lt, fun e => e⟩)) ?_)
  clear hK K
  go_wp2_with fail
  refine OnlyN.normal ?_
  go_wp2
  go_ret
  exact ⟨by simp, hg0⟩

set_option maxHeartbeats 1000000 in
theorem sync_step {er : Int} {w : World} {d : Nat} (p s : Nat) (x : ByteArray) (u v : Value) (hP : Blk w p 63 #[.pointer (some ⟨s, 0, none⟩), .string x, u, v]) (hS : Blk w s 56 #[.pointer (some ⟨d, 0, none⟩)]) (hxs : x.size ≤ 64) {R : Ending → World → Prop} {S : Nat → Prop} (hp : ¬ S p) (hs : ¬ S s)
    (hC : Calls Try.prog 51 #[.pointer (some ⟨d, 0, none⟩), .string ((⟨#[116, 47]⟩ : ByteArray) ++ x)] w.drew fun e w' => e = .returned (.int .i64 er) ∧ R e w' ∧ Chg S w.drew w') :
    Calls Try.prog 33 #[.pointer (some ⟨p, 0, none⟩)] w fun e w' => e = .returned (.int .i64 er) ∧ R e w' ∧ Chg S w w' := by
  have p0 : w.cell? ⟨p, 0, none⟩ = some (.pointer (some ⟨s, 0, none⟩)) := hP.cell 0
  have p1 : w.cell? ⟨p, 1, none⟩ = some (.string x) := hP.cell 1
  have s0 : w.cell? ⟨s, 0, none⟩ = some (.pointer (some ⟨d, 0, none⟩)) := hS.cell 0
  go_enter Try.func33, Try.ntmps33
  go_wp2_with fail
  refine wp_region_textS [(9, 2)] [p, s] (by kernel_rfl) (by kernel_rfl) (cellsIn_cons p0 (cellsIn_cons s0 (cellsIn_nil _))) ?_
  simp only [wpU, tagOf, chk, look, Nat.reduceBEq, if_true, if_false, Nat.reduceEqDiff, List.nil_append, List.cons_append]
  intro K hK
  go_wp2_with fail
  refine OnlyN.normal (hK _ _ (fun _ => ⟨_, _, _, rfl, rfl, by simp⟩) ?_)
  clear hK K
  intro K hK
  go_wp2_with fail
  refine OnlyN.normal (hK _ _ (fun _ => ⟨_, _, _, rfl, rfl, by simp⟩) ?_)
  clear hK K
  intro K hK
  go_wp2_with fail
  refine OnlyN.normal (hK _ _ (fun _ => ⟨_, _, _, rfl, rfl, by simp⟩) ?_)
  clear hK K
  intro K hK
  go_wp2_with fail
  refine hC.mono ?_
  rintro e w1 ⟨rfl, hR, hg⟩
  have hg0 : Chg S w w1 := (Chg.refl _ w).drew.trans hg
  go_wp2_with fail
  refine OnlyN.normal (hK _ _ (sameIn_all hg0 (by
    intro k hk
    simp only [List.mem_cons, List.not_mem_nil, or_false] at hk
    rcases hk with rfl | rfl
    · exact ⟨hP.lt, hp⟩
    · exact ⟨hS.lt, hs⟩)) ?_)
  clear hK K
  go_wp2_with fail
  refine OnlyN.normal ?_
  go_wp2
  go_ret
  exact ⟨by simp, by simpa using hR, hg0⟩

set_option maxHeartbeats 1000000 in
theorem rename_step {er : Int} {w : World} {d : Nat} (p s : Nat) (x : ByteArray) (u v : Value) (hP : Blk w p 63 #[.pointer (some ⟨s, 0, none⟩), .string x, u, v]) (hS : Blk w s 56 #[.pointer (some ⟨d, 0, none⟩)]) (hxs : x.size ≤ 64) {R : Ending → World → Prop} {S : Nat → Prop} (hp : ¬ S p) (hs : ¬ S s)
    (hC : Calls Try.prog 52 #[.pointer (some ⟨d, 0, none⟩), .string ((⟨#[116, 47]⟩ : ByteArray) ++ x), .string ((⟨#[111, 47]⟩ : ByteArray) ++ x)] w.drew fun e w' => e = .returned (.int .i64 er) ∧ R e w' ∧ Chg S w.drew w') :
    Calls Try.prog 34 #[.pointer (some ⟨p, 0, none⟩)] w fun e w' => e = .returned (.int .i64 er) ∧ R e w' ∧ Chg S w w' := by
  have p0 : w.cell? ⟨p, 0, none⟩ = some (.pointer (some ⟨s, 0, none⟩)) := hP.cell 0
  have p1 : w.cell? ⟨p, 1, none⟩ = some (.string x) := hP.cell 1
  have s0 : w.cell? ⟨s, 0, none⟩ = some (.pointer (some ⟨d, 0, none⟩)) := hS.cell 0
  go_enter Try.func34, Try.ntmps34
  go_wp2_with fail
  refine wp_region_textS [(9, 2)] [p, s] (by kernel_rfl) (by kernel_rfl) (cellsIn_cons p0 (cellsIn_cons s0 (cellsIn_nil _))) ?_
  simp only [wpU, tagOf, chk, look, Nat.reduceBEq, if_true, if_false, Nat.reduceEqDiff, List.nil_append, List.cons_append]
  intro K hK
  go_wp2_with fail
  refine OnlyN.normal (hK _ _ (fun _ => ⟨_, _, _, rfl, rfl, by simp⟩) ?_)
  clear hK K
  intro K hK
  go_wp2_with fail
  refine OnlyN.normal (hK _ _ (fun _ => ⟨_, _, _, rfl, rfl, by simp⟩) ?_)
  clear hK K
  intro K hK
  go_wp2_with fail
  refine OnlyN.normal (hK _ _ (fun _ => ⟨_, _, _, rfl, rfl, by simp⟩) ?_)
  clear hK K
  intro K hK
  go_wp2_with fail
  refine OnlyN.normal (hK _ _ (fun _ => ⟨_, _, _, rfl, rfl, by simp⟩) ?_)
  clear hK K
  intro K hK
  go_wp2_with fail
  refine hC.mono ?_
  rintro e w1 ⟨rfl, hR, hg⟩
  have hg0 : Chg S w w1 := (Chg.refl _ w).drew.trans hg
  go_wp2_with fail
  refine OnlyN.normal (hK _ _ (sameIn_all hg0 (by
    intro k hk
    simp only [List.mem_cons, List.not_mem_nil, or_false] at hk
    rcases hk with rfl | rfl
    · exact ⟨hP.lt, hp⟩
    · exact ⟨hS.lt, hs⟩)) ?_)
  clear hK K
  go_wp2_with fail
  refine OnlyN.normal ?_
  go_wp2
  go_ret
  exact ⟨by simp, by simpa using hR, hg0⟩
end Go.Proofs.Ytepncgeaehjhiaa

namespace Go.Proofs.Ytepncgeaehjhiaa
open Go.RowKit

section
variable {P : Program} (w : World)
theorem firstCells_str (s : ByteArray) : (Builtin.firstCells 1 s.size (.string s)).run P w = .ok ((s.data.toList.map byt).toArray) w := by
  simp only [Builtin.firstCells, Sem.run_pure]
  congr 1
  apply Array.ext'
  simp [byt]

theorem run_appS (t u ty e : TypeId) (i : TypeInfo) (z : Value) (ht : P.underlying t = some (.slice e)) (hu : P.underlying u = some .string) (hi : P.info? e = some i) (hz : i.zero = some z)
    (hsize : i.size = 1) (hby : i.bytes = 1) (hzs : z.cells.size = 1)
    (base : Nat) (A : Option Addr) (n c : Nat) (xs : List Value) (hown : Own w base e 1 A n c xs) (hbase : base ≤ w.heap.size)
    (s : ByteArray) (h63 : n + s.size ≤ maxLen) (hbytes : (n + s.size) * 1 ≤ 140737488355328) :
    ∃ A' c' w', (Builtin.append_ #[t, u] ty #[.slice A n c, .string s]).run P w = .ok (.slice A' (n + s.size) c') w' ∧ Apped w base e 1 A (n + s.size) c (xs ++ s.data.toList.map byt) A' c' w' := by
  have hl : (s.data.toList.map byt).length = s.size * 1 := by simp
  have hlen : (xs ++ s.data.toList.map byt).length = (n + s.size) * 1 := by rw [List.length_append, hown.len, hl, Nat.add_mul]
  have h1 := byt_one s.data.toList
  have hf : ∀ w : World, (Builtin.firstCells 1 s.size (.string s)).run P w = .ok ((s.data.toList.map byt).toArray) w := fun w => firstCells_str w s
  by_cases hroom : n + s.size ≤ c
  · rcases hown.2 with ⟨e', h3⟩ | ⟨g, cap, cur, e', hbg, hg, hnc, hcm, hcs, htake⟩
    · injection e' with e1 e2 e3
      subst e1; subst e3; subst h3
      have hn : s.data.toList.map byt = [] := List.eq_nil_of_length_eq_zero (by rw [hl]; omega)
      rw [hn]
      have h0 : s.size = 0 := by omega
      refine ⟨none, 0, w, ?_, by simpa [h0] using hown, Chg.refl _ _, .inl ⟨rfl, rfl, by omega, rfl⟩⟩
      have hf0 := hf w
      rw [hn, h0] at hf0
      simp [Builtin.append_, run_underlying ht, run_underlying hu, sizeOf, typeInfo, hi, hsize, Builtin.lenOf, hf0, h0]
    · injection e' with e1 e2 e3
      subst e1; subst e3
      have hfit : n * 1 + (s.data.toList.map byt).length ≤ cur.size := by rw [hl, hcs, ← Nat.add_mul]; exact Nat.mul_le_mul_right _ hroom
      have hst := run_storeCells_at P g (n * 1) e (s.data.toList.map byt) 0 cur w hg (by simpa using hfit) h1
      simp only [Nat.add_zero, Nat.mul_one] at hst
      refine ⟨some ⟨g, 0, none⟩, c, w.setRow g (cur.toList.take (n * 1) ++ s.data.toList.map byt ++ cur.toList.drop (n * 1 + (s.data.toList.map byt).length)).toArray, ?_, ⟨hlen, .inr ⟨g, c, _, rfl, hbg, setRow_heap w g cur _ e _ hg, hroom, hcm, ?_, ?_⟩⟩,
        ⟨rfl, rfl, rfl, by simp, fun k _ hk => setRow_other w g k _ (fun e => hk ⟨_, rfl, e⟩)⟩, .inl ⟨rfl, rfl, hroom, by simp⟩⟩
      · simp [Builtin.append_, run_underlying ht, run_underlying hu, sizeOf, typeInfo, hi, hsize, Builtin.lenOf, hroom, hf, Addr.add_lit]
        simp at hst
        rw [hst]
        simp
      · simp only [List.size_toArray, List.length_append, List.length_take, List.length_drop, Array.length_toList]
        omega
      · rw [htake, ← hlen]
        exact List.take_left
  · have hsmall : n + s.size ≤ 9223372036854775807 := by simp only [maxLen] at h63; omega
    have h63' : ¬ (9223372036854775807 < ((n : Int) + (s.size : Int))) := by omega
    have hgf := growslice_fits (old := c) (need := n + s.size) (bytes := 1) (by omega) hbytes
    have h48' : ¬ (281474976710656 < Builtin.nextslicecap (n + s.size) c) := by omega
    have hfo := firstCells_rd (P := P) w.drew 1 n c A xs hown.len hown.rd
    have hge := grownCap_ge w (n + s.size) c e
    have hcm : grownCap w (n + s.size) c e ≤ maxLen := grownCap_le_maxLen w (n + s.size) c e h63
    refine ⟨some ⟨w.heap.size, 0, none⟩, grownCap w (n + s.size) c e, w.drew.alloc (.cells (xs.toArray ++ (s.data.toList.map byt).toArray ++ Builtin.zeroCells z.cells (grownCap w (n + s.size) c e - (n + s.size))) e), ?_, ?_, ?_, .inr ⟨rfl, (Chg.refl _ w).drew.alloc _, by simp⟩⟩
    · have hfd := hf w.drew
      simp [Builtin.append_, run_underlying ht, run_underlying hu, sizeOf, typeInfo, zeroValue, hi, hz, hsize, hby, Builtin.lenOf, hroom, h63', h48', Question.forced, hfd, hfo, newRow, grownCap]
      congr 2
      apply Array.ext'
      simp [List.append_assoc]
    · refine ⟨hlen, .inr ⟨w.heap.size, _, _, rfl, hbase, heap_alloc_new w.drew _, hge, hcm, ?_, ?_⟩⟩
      · simp only [Array.size_append, List.size_toArray, size_zeroCells, hzs, hown.len, hl, ← Nat.add_mul]
        congr 1
        omega
      · simp only [Array.toList_append, List.append_assoc]
        rw [← List.append_assoc, ← hlen]
        exact List.take_left
    · exact (Chg.refl _ w).drew.alloc _
end

/-- append of a string onto a row of bytes of the call's own -/
theorem wpList_appS {ops : Array Oper} {rest : List Oper} {o : Oper} {a : Act} {w : World} {Q : Exit → Act → World → Prop} (hgd : o.guard = none) (s x : Operand)
    (ho : o.op = .call { callee := .builtin .append, args := #[s, x], argTypes := #[23, 9] })
    (base : Nat) (A : Option Addr) (n c : Nat) (l : List UInt8) (hs : a.eval s = .slice A n c) (hown : OB w base 5 A n c l) (hbase : base ≤ w.heap.size)
    (r : ByteArray) (hx : a.eval x = .string r) (hbytes : n + r.size ≤ 140737488355328)
    (h : ∀ A' c' w', ApB w base A (n + r.size) c (l ++ r.data.toList) A' c' w' → wpList Try.prog ops Q rest (a.put o.dst (.slice A' (n + r.size) c')) w') : wpList Try.prog ops Q (o :: rest) a w := by
  obtain ⟨i0, hi, hz0, hz1, hz2⟩ := info_parts infoU8
  obtain ⟨A', c', w', hrun, h2⟩ := run_appS (P := Try.prog) w 23 9 o.type 5 i0 (.int .u8 0) Try.underlying23 Try.underlying9 hi hz0 hz1 hz2 rfl base A n c _ hown hbase r (by unfold maxLen; omega) (by omega)
  refine wpList_plain hgd fun K hK => ?_
  unfold Oper.wp execOp
  simp only [ho, resolve, invoke, builtin, Sem.run_bind, Sem.run_pure, Result.andThen_ok, List.map_toArray, List.map_cons, List.map_nil, hs, hx, hrun]
  exact hK _ _ (h A' c' w' (by unfold ApB; rw [List.map_append]; exact h2))
end Go.Proofs.Ytepncgeaehjhiaa

namespace Go.Proofs.Ytepncgeaehjhiaa

/-- a number's bytes, seven bits each, the lowest first -/
def uv (v : Nat) : List UInt8 := if v < 128 then [UInt8.ofNat v] else UInt8.ofNat (v % 128 + 128) :: uv (v / 128)
termination_by v
decreasing_by omega
theorem uv_small {v : Nat} (h : v < 128) : uv v = [UInt8.ofNat v] := by rw [uv, if_pos h]
theorem uv_big {v : Nat} (h : ¬ v < 128) : uv v = UInt8.ofNat (v % 128 + 128) :: uv (v / 128) := by rw [uv, if_neg h]
theorem uv_ne (v : Nat) : uv v ≠ [] := by
  by_cases h : v < 128
  · rw [uv_small h]; simp
  · rw [uv_big h]; simp
theorem uv_len (n : Nat) : ∀ v, v < 128 ^ (n + 1) → (uv v).length ≤ n + 1 := by
  induction n with
  | zero => intro v h; rw [uv_small (by omega)]; simp
  | succ n ih =>
    intro v h
    by_cases hv : v < 128
    · rw [uv_small hv]; simp
    · rw [uv_big hv]
      have := ih (v / 128) (by rw [Nat.pow_succ] at h; omega)
      simp
      omega
theorem uv_len10 {v : Nat} (h : v < 18446744073709551616) : (uv v).length ≤ 10 := uv_len 9 v (by omega)
theorem uv_len1 (v : Nat) : 1 ≤ (uv v).length := by
  have := uv_ne v
  rcases hl : uv v with _ | ⟨a, r⟩
  · exact absurd hl this
  · simp

/-- the signed numbers as numbers: 0, -1, 1, -2 .. -/
def zz (x : Int) : Nat := if 0 ≤ x then 2 * x.toNat else 2 * (-(x + 1)).toNat + 1
def uz (v : Nat) : Int := if v % 2 = 0 then ((v / 2 : Nat) : Int) else -((v / 2 : Nat) : Int) - 1
theorem uz_zz (x : Int) : uz (zz x) = x := by unfold uz zz; split <;> split <;> omega
theorem zz_uz (v : Nat) : zz (uz v) = v := by unfold uz zz; split <;> split <;> omega
theorem zz_lt {x : Int} (h1 : -9223372036854775808 ≤ x) (h2 : x ≤ 9223372036854775807) : zz x < 18446744073709551616 := by unfold zz; split <;> omega
theorem uz_ge {v : Nat} (h : v < 18446744073709551616) : -9223372036854775808 ≤ uz v ∧ uz v ≤ 9223372036854775807 := by unfold uz; split <;> omega

/-- reading a number: what it is, how many bytes it has, and the error -/
def ur : List UInt8 → Nat → Nat → Nat × Nat × Nat
  | [], _, _ => (0, 0, 20)
  | c :: r, k, a => if (k = 9 ∧ 1 < c.toNat) ∨ (0 < k ∧ c.toNat = 0) then (0, 0, 21) else if c.toNat < 128 then (a + c.toNat * 2 ^ (7 * k), k + 1, 0) else ur r (k + 1) (a + c.toNat % 128 * 2 ^ (7 * k))
/-- the same from a place of some bytes on, with the place behind it -/
def uintR (l : List UInt8) (at_ : Int) : Nat × Nat × Nat :=
  if 0 ≤ at_ ∧ at_ ≤ l.length then (if (ur (l.drop at_.toNat) 0 0).2.2 = 0 then ((ur (l.drop at_.toNat) 0 0).1, at_.toNat + (ur (l.drop at_.toNat) 0 0).2.1, 0) else (0, 0, (ur (l.drop at_.toNat) 0 0).2.2)) else (0, 0, 20)

theorem ofNat_toNat {v : Nat} (h : v < 256) : (UInt8.ofNat v).toNat = v := by rw [UInt8.toNat_ofNat']; exact Nat.mod_eq_of_lt h

theorem ur_uv (r : List UInt8) : ∀ v k a, (k = 0 ∨ 0 < v) → v * 2 ^ (7 * k) < 18446744073709551616 → k ≤ 9 → ur (uv v ++ r) k a = (a + v * 2 ^ (7 * k), k + (uv v).length, 0) := by
  intro v
  induction v using Nat.strongRecOn with
  | _ v ih =>
    intro k a h0 h1 hk
    have h9 : k = 9 → v < 2 := by
      rintro rfl
      rw [show 2 ^ (7 * 9) = 9223372036854775808 from rfl] at h1
      omega
    by_cases hv : v < 128
    · rw [uv_small hv]
      show ur (UInt8.ofNat v :: r) k a = _
      unfold ur
      rw [ofNat_toNat (by omega), if_neg (by omega), if_pos hv]
      rfl
    · rw [uv_big hv]
      show ur (UInt8.ofNat (v % 128 + 128) :: (uv (v / 128) ++ r)) k a = _
      unfold ur
      rw [ofNat_toNat (by omega), if_neg (by omega), if_neg (by omega)]
      have e1 : 2 ^ (7 * (k + 1)) = 2 ^ (7 * k) * 128 := by rw [show 7 * (k + 1) = 7 * k + 7 from by omega, Nat.pow_add]
      have e2 : v / 128 * 2 ^ (7 * (k + 1)) = v / 128 * 128 * 2 ^ (7 * k) := by rw [e1, Nat.mul_comm (2 ^ (7 * k)), Nat.mul_assoc]
      have e3 : v * 2 ^ (7 * k) = (v % 128) * 2 ^ (7 * k) + v / 128 * 128 * 2 ^ (7 * k) := by rw [← Nat.add_mul]; congr 1; omega
      rw [ih (v / 128) (by omega) (k + 1) _ (.inr (by omega)) (by rw [e2]; omega) (by omega)]
      rw [show (v % 128 + 128) % 128 = v % 128 from by omega, e2, e3]
      simp
      omega

theorem ur_err (r : List UInt8) : ∀ k a, (ur r k a).2.2 = 0 ∨ (ur r k a).2.2 = 20 ∨ (ur r k a).2.2 = 21 := by
  induction r with
  | nil => intro k a; right; left; rfl
  | cons c r ih =>
    intro k a
    unfold ur
    split
    · right; right; rfl
    · split
      · left; rfl
      · exact ih _ _
theorem ur_bad (r : List UInt8) : ∀ k a, (ur r k a).2.2 ≠ 0 → (ur r k a).1 = 0 ∧ (ur r k a).2.1 = 0 := by
  induction r with
  | nil => intro k a _; exact ⟨rfl, rfl⟩
  | cons c r ih =>
    intro k a
    unfold ur
    split
    · intro _; exact ⟨rfl, rfl⟩
    · split
      · intro h; exact absurd rfl h
      · exact ih _ _
/-- what is read has just those bytes -/
theorem ur_back (r : List UInt8) : ∀ k a, k ≤ 9 → (ur r k a).2.2 = 0 → ∃ v, (ur r k a).1 = a + v * 2 ^ (7 * k) ∧ (ur r k a).2.1 = k + (uv v).length ∧ r.take (uv v).length = uv v ∧ (uv v).length ≤ r.length ∧ (k = 0 ∨ 0 < v) ∧ v * 2 ^ (7 * k) < 18446744073709551616 := by
  induction r with
  | nil => intro k a _ h; cases h
  | cons c r ih =>
    intro k a hk
    have hc := c.toNat_lt
    unfold ur
    split
    · intro h; cases h
    · rename_i h1
      split
      · rename_i h2
        intro _
        have e0 : UInt8.ofNat c.toNat = c := UInt8.toNat_inj.1 (by rw [ofNat_toNat hc])
        refine ⟨c.toNat, rfl, by rw [uv_small h2]; rfl, by rw [uv_small h2, e0]; rfl, by rw [uv_small h2]; simp, by omega, ?_⟩
        by_cases h9 : k = 9
        · subst h9
          rw [show 2 ^ (7 * 9) = 9223372036854775808 from rfl]
          omega
        · have hp : 2 ^ (7 * k) ≤ 2 ^ 56 := Nat.pow_le_pow_right (by omega) (by omega)
          have : c.toNat * 2 ^ (7 * k) ≤ 127 * 2 ^ 56 := Nat.mul_le_mul (by omega) hp
          omega
      · rename_i h2
        intro h
        have hk9 : k ≠ 9 := by omega
        obtain ⟨v, e1, e2, e3, e4, e5, e6⟩ := ih (k + 1) _ (by omega) h
        have hv0 : 0 < v := by omega
        have hv : ¬ (c.toNat % 128 + v * 128 < 128) := by omega
        have hm : (c.toNat % 128 + v * 128) % 128 = c.toNat % 128 := by omega
        have hd : (c.toNat % 128 + v * 128) / 128 = v := by omega
        have hcc : UInt8.ofNat (c.toNat % 128 + 128) = c := UInt8.toNat_inj.1 (by rw [ofNat_toNat (by omega)]; omega)
        have hu : uv (c.toNat % 128 + v * 128) = c :: uv v := by rw [uv_big hv, hm, hd, hcc]
        have p1 : 2 ^ (7 * (k + 1)) = 2 ^ (7 * k) * 128 := by rw [show 7 * (k + 1) = 7 * k + 7 from by omega, Nat.pow_add]
        have p2 : v * 2 ^ (7 * (k + 1)) = v * 128 * 2 ^ (7 * k) := by rw [p1, Nat.mul_comm (2 ^ (7 * k)), Nat.mul_assoc]
        have p3 : (c.toNat % 128 + v * 128) * 2 ^ (7 * k) = c.toNat % 128 * 2 ^ (7 * k) + v * 128 * 2 ^ (7 * k) := Nat.add_mul _ _ _
        refine ⟨c.toNat % 128 + v * 128, by rw [e1, p2, p3]; omega, by rw [e2, hu]; simp; omega, by rw [hu]; simp [e3], by rw [hu]; simp; omega, .inr (by omega), ?_⟩
        have hq : 0 < 2 ^ (7 * k) := Nat.two_pow_pos _
        have hk8 : k ≤ 8 := by omega
        -- the number below fits, with its lowest digit
        rw [p2] at e6
        rw [p3]
        have hp : 2 ^ (7 * k) ∣ 18446744073709551616 := by
          have : (18446744073709551616 : Nat) = 2 ^ (7 * k) * 2 ^ (64 - 7 * k) := by rw [← Nat.pow_add, show 7 * k + (64 - 7 * k) = 64 from by omega]
          exact ⟨_, this⟩
        obtain ⟨q, hq2⟩ := hp
        rw [hq2, Nat.mul_comm (2 ^ (7 * k)) q] at e6 ⊢
        have h128 : ∃ t, q = 128 * t ∨ k = 9 := by
          by_cases h : k ≤ 8
          · have : (18446744073709551616 : Nat) = 2 ^ (7 * k) * (128 * 2 ^ (57 - 7 * k)) := by
              rw [show (128 : Nat) = 2 ^ 7 from rfl, ← Nat.pow_add, ← Nat.pow_add, show 7 * k + (7 + (57 - 7 * k)) = 64 from by omega]
            rw [this] at hq2
            exact ⟨2 ^ (57 - 7 * k), .inl (Nat.eq_of_mul_eq_mul_left hq hq2).symm⟩
          · exact ⟨0, .inr (by omega)⟩
        obtain ⟨t, rfl | h⟩ := h128
        · have h3 : v * 128 < 128 * t := Nat.lt_of_mul_lt_mul_right e6
          rw [← Nat.add_mul]
          exact Nat.mul_lt_mul_of_pos_right (by omega) hq
        · omega
end Go.Proofs.Ytepncgeaehjhiaa

namespace Go.Proofs.Ytepncgeaehjhiaa
open Go.RowKit

theorem or128 (u : Nat) : bits .or .u8 ((u : Int) % 256) 128 = ((u % 128 + 128 : Nat) : Int) := by
  have e : ((u : Int) % 256) = ((u % 256 : Nat) : Int) := by simp
  have h1 := u8_or_nat (u % 256) 128 (by omega) (by omega)
  rw [show ((128 : Nat) : Int) = 128 from rfl] at h1
  rw [e, h1]
  congr 1
  have h2 : (u % 256) ||| 128 = (u % 128) ||| 128 := by
    apply Nat.eq_of_testBit_eq
    intro i
    rw [Nat.testBit_or, Nat.testBit_or, show (256 : Nat) = 2 ^ 8 from rfl, show (128 : Nat) = 2 ^ 7 from rfl, Nat.testBit_mod_two_pow, Nat.testBit_mod_two_pow, Nat.testBit_two_pow]
    by_cases h7 : i = 7
    · subst h7; simp
    · by_cases h8 : i < 7
      · have : i < 8 := by omega
        simp [h8, this]
      · have : ¬ i < 8 := by omega
        simp [h8, this]
  rw [h2, Nat.or_comm, nat_join 7 128 (u % 128) (by decide) (by omega)]
  omega
theorem or128' (u : Nat) (hu : u < 18446744073709551616) : bits .or .u64 (bits .and .u64 (u : Int) 127) 128 % 256 = ((u % 128 + 128 : Nat) : Int) := by
  have h0 := u64_and_nat u 127 hu (by omega)
  rw [show ((127 : Nat) : Int) = 127 from rfl, nat_mask7] at h0
  have h1 := u64_or_nat (u % 128) 128 (by omega) (by omega)
  rw [show ((128 : Nat) : Int) = 128 from rfl] at h1
  rw [h0, h1, Nat.or_comm, nat_join 7 128 (u % 128) (by decide) (by omega)]
  omega

set_option maxRecDepth 100000 in
set_option maxHeartbeats 1000000 in
theorem putUint_any (A : Option Addr) (m c : Nat) (l : List UInt8) (v : Nat) (vz : Int) (w : World) (h : RB w A m l) (hvz : vz = v) (hm : m ≤ 140737488355300) (hv : v < 18446744073709551616) :
    Calls Try.prog 49 #[.slice A m c, .int .u64 vz] w (NewB w (m + (uv v).length) (l ++ uv v)) := by
  subst hvz
  have hown : OB (w.alloc (.cells #[] 5)) w.heap.size 5 (some ⟨w.heap.size, 0, none⟩) 0 0 [] := Own.made w w.heap.size 5 1 (Nat.le_refl _)
  have hr : RB (w.alloc (.cells #[] 5)) A m l := h.grew ((Chg.refl _ w).alloc _)
  have hl10 := uv_len10 hv
  go_enter Try.func49, Try.ntmps49
  go_wp2_with (at_builtin; refine wpList_appB rfl _ _ rfl w.heap.size _ 0 0 [] rfl hown (by simp) A m c l rfl hr (by omega) ?_; intro A1 c1 w1 h1)
  simp only [Nat.zero_add, List.nil_append] at h1
  have hg1 : Grew w w1 := h1.grew ((Chg.refl _ w).alloc _) (head_ge (Nat.le_refl _))
  have ho1 := h1.ob
  clear h1 hown hr h
  go_loopw [1, 5] (fun sv so wr => ∃ (u M C : Nat) (B : Option Addr) (r : List UInt8), sv = .int .u64 (u : Int) ∧ so = .slice B M C ∧ u < 18446744073709551616 ∧ Hid (r ++ uv u = l ++ uv v) ∧ M + (uv u).length = m + (uv v).length ∧ OB wr w.heap.size 5 B M C r ∧ Grew w wr) (fun sv _ _ => (intOf sv).toNat)
  case atStart => exact ⟨v, m, c1, A1, l, rfl, rfl, hv, rfl, rfl, ho1, hg1⟩
  case round =>
    clear ho1 hg1 w1
    obtain ⟨u, M, C, B, r, rfl, rfl, hu, Hr, hM, ho, hg⟩ := hrel
    have hs := hg.size
    have hu1 := uv_len1 u
    have HM := Lib.hid hM
    have hM2 : M + 1 ≤ 140737488355328 := by omega
    clear hM
    by_cases hlt : u < 128
    · have hn := RB.new wr [UInt8.ofNat u] 1 #[.int .u8 (u : Int)] 5 rfl (by simp [byt, ofNat_toNat (show u < 256 by omega)])
      have ho2 := ho.grew ((Chg.refl _ wr).alloc (.cells #[.int .u8 (u : Int)] 5))
      
      go_wp2_with (at_builtin; refine wpList_appB rfl _ _ rfl w.heap.size B M C r rfl ho2 (by simp; omega) _ 1 1 [UInt8.ofNat u] rfl hn (by omega) ?_; intro A2 c2 w2 h2)
      go_ret
      have hb := h2.ob
      have hr1 := Hr.out
      have hM1 := HM.out
      rw [uv_small hlt] at hr1 hM1
      rw [hr1] at hb
      have hM3 : M + 1 = m + (uv v).length := by simpa using hM1
      rw [hM3] at hb
      refine ⟨A2, c2, ?_, hb.raise ?_, h2.grew (hg.alloc _) fun ad e => (Own.blk_lt ho ad e).1⟩
      · rw [← hM3]; simp
      · exact fun ad e => (Own.blk_lt hb ad e).1
    · have hn := RB.new wr [UInt8.ofNat (u % 128 + 128)] 1 #[.int .u8 ((u % 128 + 128 : Nat) : Int)] 5 rfl (by simp [byt]; omega)
      have ho2 := ho.grew ((Chg.refl _ wr).alloc (.cells #[.int .u8 ((u % 128 + 128 : Nat) : Int)] 5))
      have he := or128 u
      go_wp2_with (at_builtin; refine wpList_appB rfl _ _ rfl w.heap.size B M C r rfl ho2 (by simp; omega) _ 1 1 [UInt8.ofNat (u % 128 + 128)] rfl hn (by omega) ?_; intro A2 c2 w2 h2)
      go_roundw
      case rel =>
        refine ⟨u / 128, M + 1, c2, A2, r ++ [UInt8.ofNat (u % 128 + 128)], by simp, rfl, by omega, ?_, ?_, h2.ob, h2.grew (hg.alloc _) fun ad e => (Own.blk_lt ho ad e).1⟩
        · show _ = _
          have hr1 := Hr.out
          rw [uv_big hlt] at hr1
          rw [List.append_assoc]
          exact hr1
        · have hM1 := HM.out
          rw [uv_big hlt] at hM1
          simp at hM1
          omega
      case measure => simp [intOf]; omega

theorem xor_ones (a : Nat) (h : a < 18446744073709551616) : a ^^^ 18446744073709551615 = 18446744073709551615 - a := by
  have e : 18446744073709551615 - a = 2 ^ 64 - (a + 1) := by omega
  rw [e]
  apply Nat.eq_of_testBit_eq
  intro i
  rw [Nat.testBit_xor, show (18446744073709551615 : Nat) = 2 ^ 64 - 1 from rfl, Nat.testBit_two_pow_sub_one, Nat.testBit_two_pow_sub_succ (by omega)]
  by_cases hi : i < 64
  · simp [hi]
  · have : a.testBit i = false := Nat.testBit_lt_two_pow (Nat.lt_of_lt_of_le h (Nat.pow_le_pow_right (show 2 > 0 by omega) (show 64 ≤ i by omega)))
    simp [hi, this]
theorem zz_walk (x : Int) (h1 : -9223372036854775808 ≤ x) (h2 : x ≤ 9223372036854775807) :
    bits .xor .u64 (IntKind.u64.wrap (IntKind.u64.wrap x * 2)) (IntKind.u64.wrap (x / 9223372036854775808)) = (zz x : Int) := by
  by_cases h0 : 0 ≤ x
  · have e1 : IntKind.u64.wrap (IntKind.u64.wrap x * 2) = ((2 * x.toNat : Nat) : Int) := by simp only [IntKind.wrap_u64]; omega
    have e2 : IntKind.u64.wrap (x / 9223372036854775808) = ((0 : Nat) : Int) := by simp only [IntKind.wrap_u64]; omega
    rw [e1, e2, u64_xor_nat _ _ (by omega) (by omega), Nat.xor_zero]
    unfold zz
    rw [if_pos h0]
  · obtain ⟨n, rfl⟩ : ∃ n : Nat, x = -(n : Int) - 1 := ⟨(-(x + 1)).toNat, by omega⟩
    have hn : n < 9223372036854775808 := by omega
    have e1 : IntKind.u64.wrap (IntKind.u64.wrap (-(n : Int) - 1) * 2) = ((18446744073709551615 - (2 * n + 1) : Nat) : Int) := by simp only [IntKind.wrap_u64]; omega
    have e2 : IntKind.u64.wrap ((-(n : Int) - 1) / 9223372036854775808) = ((18446744073709551615 : Nat) : Int) := by simp only [IntKind.wrap_u64]; omega
    rw [e1, e2, u64_xor_nat _ _ (by omega) (by omega), xor_ones _ (by omega)]
    unfold zz
    rw [if_neg h0]
    omega

end Go.Proofs.Ytepncgeaehjhiaa

namespace Go.Proofs.Ytepncgeaehjhiaa
open Go.RowKit

/-- what a reading of a number ends in -/
def uintEnd (r : Nat × Nat × Nat) : Ending := .returned (.tuple #[.int .u64 (r.1 : Int), .int .i64 (r.2.1 : Int), .int .i64 (r.2.2 : Int)])
def UintPost (w : World) (r : Nat × Nat × Nat) (e : Ending) (w' : World) : Prop := e = uintEnd r ∧ w' = w

theorem or_walk (a x k : Nat) (ha : a < 9223372036854775808) (ha2 : a < 2 ^ (7 * k)) (hk : k ≤ 9) (hx : x < 256) (h9 : k = 9 → x ≤ 1) :
    bits .or .u64 (a : Int) (IntKind.u64.wrap (IntKind.u64.wrap (bits .and .u8 (x : Int) 127) * 2 ^ (7 * k))) = ((a + x % 128 * 2 ^ (7 * k) : Nat) : Int) := by
  have h1 := u8_and_nat x 127 hx (by omega)
  rw [show ((127 : Nat) : Int) = 127 from rfl, nat_mask7] at h1
  have hb : x % 128 * 2 ^ (7 * k) < 18446744073709551616 := by
    by_cases h : k = 9
    · subst h
      have := h9 rfl
      rw [show 2 ^ (7 * 9) = 9223372036854775808 from rfl]
      omega
    · have hp : 2 ^ (7 * k) ≤ 2 ^ 56 := Nat.pow_le_pow_right (by omega) (by omega)
      have : x % 128 * 2 ^ (7 * k) ≤ 127 * 2 ^ 56 := Nat.mul_le_mul (by omega) hp
      omega
  have e1 : IntKind.u64.wrap ((x % 128 : Nat) : Int) = ((x % 128 : Nat) : Int) := by simp only [IntKind.wrap_u64]; omega
  have e2 : (((x % 128 : Nat) : Int) * 2 ^ (7 * k)) = ((x % 128 * 2 ^ (7 * k) : Nat) : Int) := by simp
  have e3 : IntKind.u64.wrap ((x % 128 * 2 ^ (7 * k) : Nat) : Int) = ((x % 128 * 2 ^ (7 * k) : Nat) : Int) := by simp only [IntKind.wrap_u64]; omega
  rw [h1, e1, e2, e3, u64_or_nat _ _ (by omega) hb, Nat.or_comm, nat_join (7 * k) _ _ (Nat.mul_mod_left _ _) ha2]
  congr 1
  omega

set_option maxRecDepth 100000 in
set_option maxHeartbeats 2000000 in
theorem uint_any (A : Option Addr) (m c : Nat) (l : List UInt8) (at_ : Int) (w : World) (h : RB w A m l) (hm : m ≤ 140737488355328) :
    Calls Try.prog 46 #[.slice A m c, .int .i64 at_] w (UintPost w (uintR l at_)) := by
  have hll := h.1
  by_cases h0 : at_ < 0
  · have hd : decide (at_ < 0) = true := by simpa using h0
    have hr : uintR l at_ = (0, 0, 20) := by unfold uintR; rw [if_neg (by omega)]
    rw [hr]
    clear hr
    go_enter Try.func46, Try.ntmps46
    go_wp2
    go_ret3
    exact ⟨by simp [uintEnd], rfl⟩
  · have hd : decide (at_ < 0) = false := by simpa using h0
    obtain ⟨t, rfl⟩ := Int.eq_ofNat_of_zero_le (by omega : 0 ≤ at_)
    by_cases h1 : m < t
    · have hr : uintR l t = (0, 0, 20) := by unfold uintR; rw [if_neg (by omega)]
      rw [hr]
      clear hr
      go_enter Try.func46, Try.ntmps46
      go_wp2
      go_ret3
      exact ⟨by simp [uintEnd], rfl⟩
    · have ht : t ≤ m := by omega
      have hr : uintR l t = (if (ur (l.drop t) 0 0).2.2 = 0 then ((ur (l.drop t) 0 0).1, t + (ur (l.drop t) 0 0).2.1, 0) else (0, 0, (ur (l.drop t) 0 0).2.2)) := by
        unfold uintR
        rw [if_pos (by omega)]
        simp
      have Hr := Lib.hid hr
      clear hr hll
      go_enter Try.func46, Try.ntmps46
      go_wp2
      go_loop [7, 8] (fun sv sk => ∃ (a k : Nat), sv = .int .u64 (a : Int) ∧ sk = .int .i64 (k : Int) ∧ k ≤ 9 ∧ t + k ≤ m ∧ a < 2 ^ (7 * k) ∧ Hid (ur (l.drop t) 0 0 = ur (l.drop (t + k)) k a)) (fun _ sk => m - (intOf sk).toNat)
      case atStart => exact ⟨0, 0, rfl, rfl, by omega, by omega, by simp, rfl⟩
      case round =>
        obtain ⟨a, k, rfl, rfl, hk9, htk, ha, Hu⟩ := hrel
        have ha2 : a < 9223372036854775808 := by
          have : 2 ^ (7 * k) ≤ 2 ^ 63 := Nat.pow_le_pow_right (by omega) (by omega)
          omega
        have Ha := Lib.hid ha
        clear ha
        by_cases hlt : t + k < m
        · obtain ⟨ad, x, rfl, hx, hc⟩ := h.at_ (k := t + k) hlt
          have hx8 := x.toNat_lt
          have hdr : l.drop (t + k) = x :: l.drop (t + k + 1) := by
            have h3 := List.getElem?_eq_some_iff.1 hx
            rw [← h3.2, List.getElem_cons_drop]
          have hur : Hid (ur (l.drop (t + k)) k a = if (k = 9 ∧ 1 < x.toNat) ∨ (0 < k ∧ x.toNat = 0) then (0, 0, 21) else if x.toNat < 128 then (a + x.toNat * 2 ^ (7 * k), k + 1, 0) else ur (l.drop (t + k + 1)) (k + 1) (a + x.toNat % 128 * 2 ^ (7 * k))) := by
            show _ = _
            rw [hdr]
            rfl
          clear hx hdr
          by_cases he : (k = 9 ∧ 1 < x.toNat) ∨ (0 < k ∧ x.toNat = 0)
          · have hres : Hid (uintR l t = (0, 0, 21)) := by
              show _ = _
              rw [Hr.out, Hu.out, hur.out, if_pos he]
              rfl
            clear Hr Hu hur Ha
            rcases he with ⟨h4, h5⟩ | ⟨h5, h6⟩
            · have h7 : ((k : Int) == 9) = true := by simp; omega
              clear h4
              go_wp2
              go_ret3
              rw [hres.out]
              exact ⟨by simp [uintEnd], rfl⟩
            · have h7 : ((x.toNat : Int) == 0) = true := by simpa using h6
              have h8 : (x.toNat : Int) ≤ 1 := by omega
              clear h6
              by_cases hk : k = 9
              · have h9 : ((k : Int) == 9) = true := by simp; omega
                clear hk
                go_wp2
                go_ret3
                rw [hres.out]
                exact ⟨by simp [uintEnd], rfl⟩
              · have hk' : ((k : Int) == 9) = false := by simp; omega
                go_wp2
                go_ret3
                rw [hres.out]
                exact ⟨by simp [uintEnd], rfl⟩
          · have hur2 := hur.out
            rw [if_neg he] at hur2
            have Hur := Lib.hid hur2
            clear hur hur2
            have hwalk := or_walk a x.toNat k ha2 Ha.out hk9 hx8 (by omega)
            have hg1 : k = 9 → x.toNat = 1 := by omega
            have hg2 : 0 < k → x.toNat ≠ 0 := by omega
            clear he
            by_cases hb : x.toNat < 128
            · have hres : Hid (uintR l t = (a + x.toNat * 2 ^ (7 * k), t + (k + 1), 0)) := by
                show _ = _
                rw [Hr.out, Hu.out, Hur.out, if_pos hb]
                rfl
              rw [Nat.mod_eq_of_lt hb] at hwalk
              have Hw := Lib.hid hwalk
              clear Hr Hu Hur Ha hwalk
              have hfin : ∀ q : Int, q = (t : Int) + k + 1 → Ending.returned (.tuple #[.int .u64 (bits .or .u64 (a : Int) (IntKind.u64.wrap (IntKind.u64.wrap (bits .and .u8 (x.toNat : Int) 127) * 2 ^ (7 * k)))), .int .i64 q, .int .i64 0]) = uintEnd (uintR l t) := by
                rintro q rfl
                rw [Hw.out, hres.out]
                unfold uintEnd
                simp
                omega
              have Hfin := Lib.hid hfin
              clear hfin hres Hw
              by_cases hk : k = 9
              · have hx1 := hg1 hk
                have h9 : ((k : Int) == 9) = true := by simp; omega
                have hk0 : 0 < k := by omega
                clear hk
                have hx2 : (x.toNat : Int) ≤ 1 := by omega
                have hx3 : ((x.toNat : Int) == 0) = false := by simp; omega
                clear hg1 hg2 hx1
                go_wp2
                go_ret3
                exact ⟨Hfin.out _ (by omega), rfl⟩
              · have hk' : ((k : Int) == 9) = false := by simp; omega
                by_cases hk0 : k = 0
                · have hk1 : ¬ 0 < k := by omega
                  clear hg1 hg2 hk hk0
                  go_wp2
                  go_ret3
                  exact ⟨Hfin.out _ (by omega), rfl⟩
                · have hx4 := hg2 (by omega)
                  have hx3 : ((x.toNat : Int) == 0) = false := by simp; omega
                  have hk1 : 0 < k := by omega
                  clear hg1 hg2 hx4 hk hk0
                  go_wp2
                  go_ret3
                  exact ⟨Hfin.out _ (by omega), rfl⟩
            · have hk : k ≠ 9 := by rintro rfl; have := hg1 rfl; omega
              have hk' : ((k : Int) == 9) = false := by simp; omega
              have hx3 : ((x.toNat : Int) == 0) = false := by simp; omega
              have hk8 : k ≤ 8 := by omega
              have Hw := Lib.hid hwalk
              have hu2 : Hid (ur (l.drop t) 0 0 = ur (l.drop (t + (k + 1))) (k + 1) (a + x.toNat % 128 * 2 ^ (7 * k))) := by
                show _ = _
                rw [Hu.out, Hur.out, if_neg hb]
                rfl
              have hnew : Hid (a + x.toNat % 128 * 2 ^ (7 * k) < 2 ^ (7 * (k + 1))) := by
                show _ < _
                have := Ha.out
                have e1 : 2 ^ (7 * (k + 1)) = 128 * 2 ^ (7 * k) := by rw [show 7 * (k + 1) = 7 + 7 * k from by omega, Nat.pow_add]
                have e2 : x.toNat % 128 * 2 ^ (7 * k) ≤ 127 * 2 ^ (7 * k) := Nat.mul_le_mul_right _ (by omega)
                rw [e1]
                omega
              clear hg1 hg2 hwalk Hu Hur Hr Ha hk
              have hfin : ∃ a' k' : Nat, Value.int IntKind.u64 (bits .or .u64 (a : Int) (IntKind.u64.wrap (IntKind.u64.wrap (bits .and .u8 (x.toNat : Int) 127) * 2 ^ (7 * k)))) = .int .u64 (a' : Int) ∧ Value.int .i64 ((k : Int) + 1) = .int .i64 (k' : Int) ∧ k' ≤ 9 ∧ t + k' ≤ m ∧ a' < 2 ^ (7 * k') ∧ Hid (ur (l.drop t) 0 0 = ur (l.drop (t + k')) k' a') :=
                ⟨_, k + 1, by rw [Hw.out], by simp, by omega, by omega, hnew.out, hu2⟩
              have Hfin := Lib.hid hfin
              clear hfin Hw hnew hu2
              go_wp2
              all_goals exact ⟨Hfin.out, by simp [intOf]; omega⟩
        · have hkm : t + k = m := by omega
          have hres : Hid (uintR l t = (0, 0, 20)) := by
            show _ = _
            rw [Hr.out, Hu.out, List.drop_of_length_le (by have := h.1; omega)]
            rfl
          clear Hr Hu Ha hkm
          go_wp2
          go_ret3
          rw [hres.out]
          exact ⟨by simp [uintEnd], rfl⟩

end Go.Proofs.Ytepncgeaehjhiaa

namespace Go.Proofs.Ytepncgeaehjhiaa
open Go.RowKit

theorem byte_back {v : Nat} (h : v < 256) : (UInt8.ofNat v).toNat = v := by rw [UInt8.toNat_ofNat']; exact Nat.mod_eq_of_lt h
theorem foldl_push (l : List UInt8) : ∀ s : ByteArray, (l.map fun c => (c.toNat : Int)).foldl (fun r n => r.push (UInt8.ofNat n.toNat)) s = ⟨s.data ++ l.toArray⟩ := by
  induction l with
  | nil => intro s; simp
  | cons c l ih =>
    intro s
    rw [List.map_cons, List.foldl_cons, ih]
    congr 1
    have : UInt8.ofNat ((c.toNat : Int)).toNat = c := UInt8.toNat_inj.1 (by rw [Int.toNat_natCast, byte_back c.toNat_lt])
    rw [this]
    simp [ByteArray.push]
theorem run_conv_RB {P : Program} {w : World} {src dst e : TypeId} (hs : P.underlying src = some (.slice e)) (he : P.underlying e = some (.int .u8)) (hd : P.underlying dst = some .string)
    {A : Option Addr} {n c : Nat} {l : List UInt8} (h : RB w A n l) : (convert src dst (.slice A n c)).run P w = .ok (.string ⟨l.toArray⟩) w := by
  rw [run_convert_bytes_string w src dst e A n c hs he hd]
  have hf := firstCells_rd (P := P) w 1 n c A (l.map byt) (by simpa using h.1) h.2
  rcases A with _ | ad
  · have hl : l = [] := by
      rcases l with _ | ⟨x, r⟩
      · rfl
      · obtain ⟨ad, e, _⟩ := h.2 0 (byt x) rfl
        cases e
    subst hl
    rfl
  · simp only [Builtin.firstCells, Nat.mul_one] at hf
    have := run_bytesToString (P := P) w ad n c (l.map fun c => (c.toNat : Int)) (by rw [hf]; simp [byt])
    rw [this, foldl_push]
    simp

end Go.Proofs.Ytepncgeaehjhiaa

namespace Go.Proofs.Ytepncgeaehjhiaa
open Go.RowKit

theorem uintR_bad (l : List UInt8) (at_ : Int) (h : (uintR l at_).2.2 ≠ 0) : (uintR l at_).1 = 0 ∧ (uintR l at_).2.1 = 0 := by
  unfold uintR at *
  split at h <;> rename_i h1
  · rw [if_pos h1]
    split at h <;> rename_i h2
    · exact absurd rfl h
    · rw [if_neg h2]
      exact ⟨rfl, rfl⟩
  · rw [if_neg h1]
    exact ⟨rfl, rfl⟩
theorem uintR_err (l : List UInt8) (at_ : Int) : (uintR l at_).2.2 = 0 ∨ (uintR l at_).2.2 = 20 ∨ (uintR l at_).2.2 = 21 := by
  unfold uintR
  split
  · split
    · exact .inl rfl
    · exact ur_err _ _ _
  · exact .inr (.inl rfl)
theorem uintR_ok (l : List UInt8) (at_ : Int) (h : (uintR l at_).2.2 = 0) : ∃ t : Nat, at_ = t ∧ t ≤ l.length ∧ (uintR l at_).1 < 18446744073709551616 ∧ (uintR l at_).2.1 = t + (uv (uintR l at_).1).length ∧
    (l.drop t).take (uv (uintR l at_).1).length = uv (uintR l at_).1 ∧ t + (uv (uintR l at_).1).length ≤ l.length := by
  unfold uintR at *
  split at h <;> rename_i h1
  · rw [if_pos h1]
    split at h <;> rename_i h2
    · rw [if_pos h2]
      obtain ⟨v, e1, e2, e3, e4, _, e6⟩ := ur_back (l.drop at_.toNat) 0 0 (by omega) h2
      simp only [Nat.mul_zero, Nat.pow_zero, Nat.mul_one, Nat.zero_add] at e1 e2 e6
      rw [e1, e2]
      rw [List.length_drop] at e4
      exact ⟨at_.toNat, by omega, by omega, e6, rfl, e3, by omega⟩
    · exact absurd h h2
  · cases h
theorem uintR_lt (l : List UInt8) (at_ : Int) : (uintR l at_).1 < 18446744073709551616 := by
  by_cases h : (uintR l at_).2.2 = 0
  · exact (uintR_ok l at_ h).choose_spec.2.2.1
  · rw [(uintR_bad l at_ h).1]; omega
theorem uintR_to (l : List UInt8) (at_ : Int) : (uintR l at_).2.1 ≤ l.length := by
  by_cases h : (uintR l at_).2.2 = 0
  · obtain ⟨t, _, _, _, e, _, h2⟩ := uintR_ok l at_ h
    omega
  · rw [(uintR_bad l at_ h).2]; omega

theorem xor_neg (n : Nat) (h : n < 9223372036854775808) : bits .xor .i64 (n : Int) (-1) = -(n : Int) - 1 := by
  show IntKind.i64.wrap ((BitVec.ofInt 64 (n : Int) ^^^ BitVec.ofInt 64 (-1)).toNat : Int) = _
  have h1 : (BitVec.ofInt 64 (-1)).toNat = 18446744073709551615 := by decide
  have h2 : (BitVec.ofInt 64 (n : Int)).toNat = n := by rw [BitVec.ofInt_natCast, BitVec.toNat_ofNat]; exact Nat.mod_eq_of_lt (by omega)
  rw [BitVec.toNat_xor, h1, h2, xor_ones _ (by omega), IntKind.wrap_i64]
  omega
theorem xor_none (n : Nat) (h : n < 9223372036854775808) : bits .xor .i64 (n : Int) 0 = (n : Int) := by
  show IntKind.i64.wrap ((BitVec.ofInt 64 (n : Int) ^^^ BitVec.ofInt 64 0).toNat : Int) = _
  have h2 : (BitVec.ofInt 64 (n : Int)).toNat = n := by rw [BitVec.ofInt_natCast, BitVec.toNat_ofNat]; exact Nat.mod_eq_of_lt (by omega)
  rw [BitVec.toNat_xor, h2, show (BitVec.ofInt 64 0).toNat = 0 from rfl, Nat.xor_zero, IntKind.wrap_i64]
  omega
theorem and1 (v : Nat) (h : v < 18446744073709551616) : bits .and .u64 (v : Int) 1 = ((v % 2 : Nat) : Int) := by
  have := u64_and_nat v 1 h (by omega)
  rw [show ((1 : Nat) : Int) = 1 from rfl] at this
  rw [this, nat_mask1]
theorem uz_walk (v : Nat) (h : v < 18446744073709551616) : bits .xor .i64 ((v : Int) / 2) (wrap64 (-wrap64 (bits .and .u64 (v : Int) 1))) = uz v := by
  rw [and1 v h]
  have e : (v : Int) / 2 = ((v / 2 : Nat) : Int) := by simp
  rw [e]
  rcases Nat.mod_two_eq_zero_or_one v with h2 | h2
  · rw [h2, show wrap64 (-wrap64 ((0 : Nat) : Int)) = 0 from by unfold wrap64; decide, xor_none _ (by omega)]
    unfold uz
    rw [if_pos h2]
  · rw [h2, show wrap64 (-wrap64 ((1 : Nat) : Int)) = -1 from by unfold wrap64; decide, xor_neg _ (by omega)]
    unfold uz
    rw [if_neg (by omega)]

/-- what a reading of a signed number ends in -/
def IntPost (w : World) (r : Nat × Nat × Nat) (e : Ending) (w' : World) : Prop := e = .returned (.tuple #[.int .i64 (uz r.1), .int .i64 (r.2.1 : Int), .int .i64 (r.2.2 : Int)]) ∧ w' = w

theorem RB.dropO {w : World} {A : Option Addr} {n : Nat} {l : List UInt8} (h : RB w A n l) (i : Nat) : RB w (A.map fun x => x.add i) (n - i) (l.drop i) := by
  refine ⟨by rw [List.length_drop, h.1], ?_⟩
  rw [List.map_drop]
  exact h.2.drop i

/-- a text that is read: its bytes, the place behind it, the error -/
def textOf (l : List UInt8) (r : Nat × Nat × Nat) : List UInt8 × Nat × Nat := if r.2.2 ≠ 0 then ([], 0, r.2.2) else if l.length - r.2.1 < r.1 then ([], 0, 20) else ((l.drop r.2.1).take r.1, r.2.1 + r.1, 0)
def textR (l : List UInt8) (at_ : Int) : List UInt8 × Nat × Nat := textOf l (uintR l at_)
def textEnd (r : List UInt8 × Nat × Nat) : Ending := .returned (.tuple #[.string ⟨r.1.toArray⟩, .int .i64 (r.2.1 : Int), .int .i64 (r.2.2 : Int)])
def TextPost (w : World) (r : List UInt8 × Nat × Nat) (e : Ending) (w' : World) : Prop := e = textEnd r ∧ w' = w

end Go.Proofs.Ytepncgeaehjhiaa
