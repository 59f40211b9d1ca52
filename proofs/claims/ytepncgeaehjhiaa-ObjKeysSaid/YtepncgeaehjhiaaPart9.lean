/-
  Several texts in one:
  PutIf, Get, Slice, Delete of a store; what they answer. Conditions: the power stays; counts that have not come to their ends.
  Slice and Delete of a store; Open of a disk without unfinished objects. Conditions: the power stays; counts that have not come to their ends.
  Lists of texts compared; the list of a store's keys. Conditions: the power stays.
  A store in use, of a disk that stays on: its calls, without the disk's own counts. Conditions: counts that have not come to their ends.
  awake: what every program answers. Conditions: none.
  The law DiskSynced, walked. Conditions: none but what memory bears.
  Arguments that came in, opened: bytes, with the form's own reach. Conditions: none; no program in sight.
  The bound of the second form, opened: bytes that came in are no longer than their bulk. Conditions: none; no program in sight.
  Arguments that came in, opened: slices whose elements take some cells each. Conditions: none.
  Arguments that came in, opened: rows of whole numbers, of numbers without a sign, of texts. Conditions: none.
  What every store answers, call by call (awake); the law ObjIfs, walked. Conditions: none but what memory bears.
-/
import Derived.Test.YtepncgeaehjhiaaPart8
import Derived.Lib.IndexBytes
import Derived.Test.YtepncgeaehjhiaaPart5
import Derived.OpenShut
import Derived.Test.YtepncgeaehjhiaaPart1
import Derived.ProofKit
import Derived.ShutString
import Derived.ChangeOld
import Derived.SizedLaws
import Derived.Deep.Slices
import Derived.Deep.Fields
import Derived.Test.YtepncgeaehjhiaaRows
import Derived.Test.YtepncgeaehjhiaaPart6
import Derived.Deep.SlicePairs

namespace Go.Proofs.Ytepncgeaehjhiaa
open Go.RowKit

section
variable {S : Nat → Prop} {w w' : World} {s d m : Nat} {Ob : List OEnt} {E : List FEnt} {clock : Nat} {armed : Bool} {left kp : Int} {n : Nat}

/-- what a read gives, whether there is such an object or not -/
def ReadTo (w : World) (r : Option OEnt) (e : Ending) (w' : World) : Prop :=
  match r with
  | some o => GotO w o e w'
  | none => e = .returned (.tuple #[.slice none 0 0, .int .u64 0, .int .i64 111]) ∧ w = w'
theorem oread_any (h : Stor S w s d m Ob E clock armed left kp n) (x : ByteArray) (hx : keyB x = true) :
    Calls Try.prog 29 #[.pointer (some ⟨s, 0, none⟩), .string x] w (ReadTo w (lookO Ob x)) := by
  unfold ReadTo
  cases hl : lookO Ob x with
  | none => exact oread_none h x hx (look_not hl)
  | some o =>
    obtain ⟨hok, i, hoi⟩ := look_here hl
    subst hok
    exact oread_ok h hoi

set_option maxHeartbeats 2000000 in
theorem get_any (h : Stor S w s d m Ob E clock armed left kp n) (x : ByteArray) (hx : keyB x = true) :
    Calls Try.prog 12 #[.pointer (some ⟨s, 0, none⟩), .string x] w (ReadTo w (lookO Ob x)) := by
  have hR := oread_any h x hx
  have hN : ∀ w, Calls Try.prog 30 #[.string x] w fun e w' => e = .returned (.bool true) ∧ w = w' := fun w => by
    have := named_any x w
    rwa [hx] at this
  clear h hx
  unfold ReadTo at hR ⊢
  cases hl : lookO Ob x with
  | none =>
    rw [hl] at hR
    simp only at hR ⊢
    go_enter Try.func12, Try.ntmps12
    go_wp2_with fail
    refine (hN _).mono ?_
    rintro e w1 ⟨rfl, rfl⟩
    go_wp2_with fail
    refine hR.mono ?_
    rintro e w1 ⟨rfl, rfl⟩
    go_wp2
    go_ret3
    exact ⟨by simp, rfl⟩
  | some o =>
    rw [hl] at hR
    simp only at hR ⊢
    go_enter Try.func12, Try.ntmps12
    go_wp2_with fail
    refine (hN _).mono ?_
    rintro e w1 ⟨rfl, rfl⟩
    go_wp2_with fail
    refine hR.mono ?_
    rintro e w1 ⟨A, c, rfl, hr, hcap, hbk, hG⟩
    have hr := Lib.hid hr
    have hcap := Lib.hid hcap
    go_wp2
    go_ret3
    exact ⟨A, c, by simp, hr.out, hcap.out, hbk, hG⟩
set_option maxHeartbeats 2000000 in
theorem get_no (x : ByteArray) (hx : keyB x = false) (v : Value) (w : World) :
    Calls Try.prog 12 #[v, .string x] w fun e w' => e = .returned (.tuple #[.slice none 0 0, .int .u64 0, .int .i64 110]) ∧ w = w' := by
  have hN : ∀ w, Calls Try.prog 30 #[.string x] w fun e w' => e = .returned (.bool false) ∧ w = w' := fun w => by
    have := named_any x w
    rwa [hx] at this
  go_enter Try.func12, Try.ntmps12
  go_wp2_with fail
  refine (hN _).mono ?_
  rintro e w1 ⟨rfl, rfl⟩
  go_wp2
  go_ret3
  exact ⟨by simp, rfl⟩

set_option maxHeartbeats 2000000 in
theorem put_no (x : ByteArray) (A : Option Addr) (k c : Nat) (hm : 0 < mayC x k) (v : Value) (w : World) :
    Calls Try.prog 13 #[v, .string x, .slice A k c] w fun e w' => e = .returned (.tuple #[.int .u64 0, .int .i64 (mayC x k : Int)]) ∧ w = w' := by
  have hM := may_any x A k c
  have h0 : ((mayC x k : Int) != 0) = true := by simp; omega
  generalize mayC x k = z at *
  go_enter Try.func13, Try.ntmps13
  go_wp2_with fail
  refine (hM _).mono ?_
  rintro e w1 ⟨rfl, rfl⟩
  go_wp2
  go_ret2
  exact ⟨by simp, rfl⟩

/-! ### PutIf -/
theorem may_ok {x : ByteArray} (hx : keyB x = true) (A : Option Addr) {k : Nat} (c : Nat) (hk : k ≤ 1048576) (w : World) : Calls Try.prog 28 #[.string x, .slice A k c] w fun e w' => e = .returned (.int .i64 0) ∧ w = w' := by
  have := may_any x A k c w
  unfold mayC at this
  rwa [hx, if_neg (by simp), if_neg (by omega)] at this
theorem gen_read (h : Stor S w s d m Ob E clock armed left kp n) (x : ByteArray) (hx : keyB x = true) :
    ∃ er : Nat, (er = 0 ∨ er = 111) ∧ Calls Try.prog 29 #[.pointer (some ⟨s, 0, none⟩), .string x] w fun e w' => (∃ v, e = .returned (.tuple #[v, .int .u64 (genO Ob x : Int), .int .i64 (er : Int)])) ∧ Grew w w' := by
  unfold genO
  cases hl : lookO Ob x with
  | none => exact ⟨111, .inr rfl, (oread_none h x hx (look_not hl)).mono fun e w' ⟨h1, h2⟩ => ⟨⟨_, h1⟩, h2 ▸ Chg.refl _ _⟩⟩
  | some o =>
    obtain ⟨hok, i, hoi⟩ := look_here hl
    subst hok
    exact ⟨0, .inl rfl, (oread_ok h hoi).mono fun e w' ⟨A, c, h1, _, _, _, h2⟩ => ⟨⟨_, h1⟩, h2⟩⟩
set_option maxHeartbeats 2000000 in
theorem putIf_no (h : Stor S w s d m Ob E clock armed left kp n) (x : ByteArray) (hx : keyB x = true) (A : Option Addr) (k c : Nat) (hk : k ≤ 1048576) (g : Nat) (hg : genO Ob x ≠ g) :
    Calls Try.prog 10 #[.pointer (some ⟨s, 0, none⟩), .string x, .slice A k c, .int .u64 (g : Int)] w fun e w' => e = .returned (.tuple #[.int .u64 (genO Ob x : Int), .int .i64 112]) ∧ Grew w w' := by
  have hM := may_ok hx A c hk
  obtain ⟨er, her, hR⟩ := gen_read h x hx
  have hne : ((genO Ob x : Int) != (g : Int)) = true := by simp; omega
  generalize genO Ob x = g0 at *
  clear h
  go_enter Try.func10, Try.ntmps10
  go_wp2_with fail
  refine (hM _).mono ?_
  rintro e w1 ⟨rfl, rfl⟩
  go_wp2_with fail
  refine hR.mono ?_
  rintro e w1 ⟨⟨v, rfl⟩, hG1⟩
  rcases her with rfl | rfl
  all_goals
    go_wp2
    go_ret2
    exact ⟨by simp, hG1⟩
set_option maxHeartbeats 2000000 in
theorem putIf_ok (h : Stor S w s d m Ob E clock armed left kp n) (hc : ∀ j : Nat, j ≤ 2 → Cnt armed (left - j) (n + j)) (hE : Ob.length < 1048576) (x : ByteArray) (hx : keyB x = true) (hg : genO Ob x + 1 < 18446744073709551616) (A : Option Addr) (k c : Nat) (data : List UInt8) (hr : RB w A k data) (hk : k ≤ 1048576) :
    Calls Try.prog 10 #[.pointer (some ⟨s, 0, none⟩), .string x, .slice A k c, .int .u64 (genO Ob x : Int)] w fun e w' => e = .returned (.tuple #[.int .u64 ((genO Ob x + 1 : Nat) : Int), .int .i64 0]) ∧ PutTo S w s d m (setO Ob ⟨x, data, genO Ob x + 1⟩) armed (left - 3) kp (n + 3) w' := by
  have hM := may_ok hx A c hk
  obtain ⟨er, her, hR⟩ := gen_read h x hx
  have hP : Hid (∀ w1, Grew w w1 → Calls Try.prog 13 #[.pointer (some ⟨s, 0, none⟩), .string x, .slice A k c] w1 fun e w' => e = .returned (.tuple #[.int .u64 ((genO Ob x + 1 : Nat) : Int), .int .i64 0]) ∧ PutTo S w s d m (setO Ob ⟨x, data, genO Ob x + 1⟩) armed (left - 3) kp (n + 3) w') := by
    intro w1 hg1
    refine (put_ok (h.tight.grew hg1) hc hE x hx hg A k c data (hr.grew hg1) hk).mono ?_
    rintro e w' ⟨rfl, ⟨E', clock', h1⟩, h2⟩
    have hz := hg1.size
    refine ⟨rfl, ⟨E', clock', h1.st, Up.old h.st.lt h.sn, h1.fs.mono ?_, h1.vw, h1.ok⟩, ?_⟩
    · intro j hj
      exact hj.elim (fun e => .inl e.1) fun e => .inr (by omega)
    · exact (Chg.of_grew hg1).step h2 fun j hj e => e.1
  generalize genO Ob x = g0 at *
  have he : ((g0 : Int) != (g0 : Int)) = false := by simp
  clear h
  go_enter Try.func10, Try.ntmps10
  go_wp2_with fail
  refine (hM _).mono ?_
  rintro e w1 ⟨rfl, rfl⟩
  go_wp2_with fail
  refine hR.mono ?_
  rintro e w1 ⟨⟨v, rfl⟩, hG1⟩
  rcases her with rfl | rfl
  all_goals
    go_wp2_with fail
    refine (hP.out _ hG1).mono ?_
    rintro e w2 ⟨rfl, hQ⟩
    have hQ := Lib.hid hQ
    go_wp2
    go_ret2
    exact ⟨by simp, hQ.out⟩
end
end Go.Proofs.Ytepncgeaehjhiaa

namespace Go.Proofs.Ytepncgeaehjhiaa
open Go.RowKit

section
variable {S : Nat → Prop} {w w' : World} {s d m : Nat} {Ob : List OEnt} {E : List FEnt} {clock : Nat} {armed : Bool} {left kp : Int} {n : Nat}

set_option maxHeartbeats 2000000 in
theorem slice_ok (h : Stor S w s d m Ob E clock armed left kp n) (x : ByteArray) (hx : keyB x = true) {o : OEnt} (hl : lookO Ob x = some o) (a b : Nat) (hab : a ≤ b) (hb : b ≤ o.data.length) :
    Calls Try.prog 19 #[.pointer (some ⟨s, 0, none⟩), .string x, .int .i64 (a : Int), .int .i64 (b : Int)] w fun e w' => ∃ A c, e = .returned (.tuple #[.slice A (b - a) c, .int .i64 0]) ∧ OB w' w.heap.size 5 A (b - a) c ((o.data.drop a).take (b - a)) ∧ Grew w w' := by
  have hR := get_any h x hx
  rw [hl] at hR
  unfold ReadTo at hR
  simp only at hR
  have hdl := (h.ok o (List.mem_of_find?_eq_some hl)).data
  have e1 : decide ((a : Int) < 0) = false := decide_eq_false (by omega)
  have e2 : decide ((b : Int) < (a : Int)) = false := decide_eq_false (by omega)
  have e3 : decide ((o.data.length : Int) < (b : Int)) = false := decide_eq_false (by omega)
  obtain ⟨nn, hnn⟩ : ∃ nn, b - a = nn := ⟨_, rfl⟩
  have hba : (b : Int) - (a : Int) = (nn : Int) := by omega
  have hnl : nn ≤ 1048576 := by omega
  rw [hnn]
  clear h hx
  go_enter Try.func19, Try.ntmps19
  go_wp2_with fail
  refine hR.mono ?_
  rintro e w1 ⟨A, c, rfl, hr, hcap, hbk, hG⟩
  have hown : OB (w1.alloc (.cells #[] 5)) w.heap.size 5 (some ⟨w1.heap.size, 0, none⟩) 0 0 [] := Own.made w1 w.heap.size 5 1 hG.size
  have hr1 : RB (w1.alloc (.cells #[] 5)) A o.data.length o.data := hr.grew ((Chg.refl _ w1).alloc _)
  have hrd := ((hr1.dropO a).take (i := b - a) (by omega))
  have hrd := Lib.hid hrd
  have hs1 := hG.size
  rw [hnn] at hrd
  by_cases hca : c = a
  · obtain rfl : nn = 0 := by omega
    have hz : RB (w1.alloc (.cells #[] 5)) A 0 [] := ⟨rfl, Rd.nil _ _⟩
    go_wp2_with (at_builtin; refine wpList_appB rfl _ _ rfl w.heap.size _ 0 0 [] rfl hown (by simp; omega) A 0 _ [] rfl hz (by omega) ?_; intro A3 c3 w3 h3)
    go_ret2
    have ho3 := h3.ob
    exact ⟨A3, c3, by simp, by simpa using ho3, hG.trans (h3.grew ((Chg.refl _ w1).alloc _) (head_ge (Nat.le_refl _)))⟩
  · have hca' : decide (c = a) = false := decide_eq_false hca
    go_wp2_with (at_builtin; refine wpList_appB rfl _ _ rfl w.heap.size _ 0 0 [] rfl hown (by simp; omega) (A.map fun x => x.add a) nn _ _ rfl hrd.out (by omega) ?_; intro A3 c3 w3 h3)
    go_ret2
    have ho3 := h3.ob
    exact ⟨A3, c3, by simp, by simpa using ho3, hG.trans (h3.grew ((Chg.refl _ w1).alloc _) (head_ge (Nat.le_refl _)))⟩
set_option maxHeartbeats 2000000 in
theorem slice_bad (h : Stor S w s d m Ob E clock armed left kp n) (x : ByteArray) (hx : keyB x = true) {o : OEnt} (hl : lookO Ob x = some o) (b : Nat) (hb : o.data.length < b) :
    Calls Try.prog 19 #[.pointer (some ⟨s, 0, none⟩), .string x, .int .i64 0, .int .i64 (b : Int)] w fun e w' => e = .returned (.tuple #[.slice none 0 0, .int .i64 113]) ∧ Grew w w' := by
  have hR := get_any h x hx
  rw [hl] at hR
  unfold ReadTo at hR
  simp only at hR
  have e2 : decide ((b : Int) < 0) = false := decide_eq_false (by omega)
  have e3 : decide ((o.data.length : Int) < (b : Int)) = true := decide_eq_true (by omega)
  clear h hx
  go_enter Try.func19, Try.ntmps19
  go_wp2_with fail
  refine hR.mono ?_
  rintro e w1 ⟨A, c, rfl, hr, hcap, hbk, hG⟩
  have hr := Lib.hid hr
  have hcap := Lib.hid hcap
  go_wp2
  go_ret2
  exact ⟨by simp, hG⟩
set_option maxHeartbeats 2000000 in
theorem odelete_ok (h : Stor S w s d m Ob E clock armed left kp n) (hc : Cnt armed left n) {i : Nat} {o : OEnt} (hi : Ob[i]? = some o) :
    Calls Try.prog 27 #[.pointer (some ⟨s, 0, none⟩), .string o.key] w fun e w' => e = .returned (.int .i64 0) ∧ Stor S w' s d m (Ob.eraseIdx i) (E.eraseIdx i) clock armed (left - 1) kp (n + 1) ∧ Chg S w w' := by
  have ho := h.ok o (List.mem_of_getElem? hi)
  have hsz := keyB_size ho.key
  have hl : lookO Ob o.key = some o := by
    cases hl : lookO Ob o.key with
    | none => exact absurd rfl (look_not hl o (List.mem_of_getElem? hi))
    | some p =>
      obtain ⟨hk, j, hj⟩ := look_here hl
      have hnd := h.nd
      rw [List.Nodup, List.pairwise_iff_getElem] at hnd
      obtain ⟨a1, a2⟩ := List.getElem?_eq_some_iff.1 hi
      obtain ⟨b1, b2⟩ := List.getElem?_eq_some_iff.1 hj
      have hij : i = j := by
        rcases Nat.lt_trichotomy i j with hlt | rfl | hlt
        · exact absurd (by rw [List.getElem_map, List.getElem_map, a2, b2, hk]) (hnd i j (by simpa using a1) (by simpa using b1) hlt)
        · rfl
        · exact absurd (by rw [List.getElem_map, List.getElem_map, a2, b2, hk]) (hnd j i (by simpa using b1) (by simpa using a1) hlt)
      subst hij
      rw [hi] at hj
      exact hj.symm
  have hR := get_any h o.key ho.key
  rw [hl] at hR
  unfold ReadTo at hR
  simp only at hR
  obtain ⟨f, hf, hnm, _, _⟩ := h.ent hi
  have hD : Hid (∀ w1, Grew w w1 → Calls Try.prog 26 #[.pointer (some ⟨d, 0, none⟩), .string ((⟨#[111, 47]⟩ : ByteArray) ++ o.key)] w1 fun e w' => e = .returned (.int .i64 0) ∧ Stor S w' s d m (Ob.eraseIdx i) (E.eraseIdx i) clock armed (left - 1) kp (n + 1) ∧ Chg S w w') := by
    intro w1 hg1
    have := fs_delete (h.fs.grew hg1) hc hf (hnm ▸ nm_o ho.key)
    rw [hnm] at this
    refine this.mono ?_
    rintro e w' ⟨rfl, h1, h2⟩
    refine ⟨rfl, ⟨(h.st.grew hg1).chg h2 h.sn, h.sn, h1, ?_, fun p hp => h.ok p (List.mem_of_mem_eraseIdx hp)⟩, (Chg.of_grew hg1).trans h2⟩
    rw [← map_erase, ← map_erase, h.vw]
  have hst := h.st
  clear h hf hnm hc hi
  go_enter Try.func27, Try.ntmps27
  go_wp2_with fail
  refine hR.mono ?_
  rintro e w1 ⟨A, c, rfl, hr, hcap, hbk, hG⟩
  have s0 := (hst.grew hG).cell 0
  have hr := Lib.hid hr
  have hcap := Lib.hid hcap
  clear hR
  go_wp2_with fail
  refine (hD.out w1 hG).mono ?_
  rintro e w2 ⟨rfl, h1, h2⟩
  have h1 := Lib.hid h1
  go_wp2
  go_ret
  exact ⟨by simp, h1.out, h2⟩
set_option maxHeartbeats 2000000 in
theorem odelete_none (h : Stor S w s d m Ob E clock armed left kp n) (x : ByteArray) (hx : keyB x = true) (hno : ∀ o ∈ Ob, o.key ≠ x) :
    Calls Try.prog 27 #[.pointer (some ⟨s, 0, none⟩), .string x] w fun e w' => e = .returned (.int .i64 111) ∧ w = w' := by
  have hl : lookO Ob x = none := by
    unfold lookO
    rw [List.find?_eq_none]
    intro o ho
    simpa using hno o ho
  have hR := get_any h x hx
  rw [hl] at hR
  unfold ReadTo at hR
  simp only at hR
  clear h hx
  go_enter Try.func27, Try.ntmps27
  go_wp2_with fail
  refine hR.mono ?_
  rintro e w1 ⟨rfl, rfl⟩
  go_wp2
  go_ret
  exact ⟨by simp, rfl⟩
set_option maxHeartbeats 2000000 in
theorem open_clean (h : FS S w d m E clock true armed left kp n) (hE : E.length ≤ 1048576) (hno : begun E tN = []) :
    Calls Try.prog 7 #[.pointer (some ⟨d, 0, none⟩)] w fun e w' => ∃ s, e = .returned (.tuple #[.pointer (some ⟨s, 0, none⟩), .int .i64 0]) ∧ Blk w' s 56 #[.pointer (some ⟨d, 0, none⟩)] ∧ w.heap.size ≤ s ∧ Grew w w' := by
  have hL := fs_list h hE tN
  have hU := up_any h.dsk
  rw [hno] at hL
  unfold tN at hL
  simp only [sortT, List.map_nil, List.mergeSort_nil, List.length_nil] at hL
  clear h hno
  go_enter Try.func7, Try.ntmps7
  go_wp2_with fail
  refine hU.mono ?_
  rintro e w1 ⟨rfl, rfl⟩
  go_wp2_with fail
  refine hL.mono ?_
  rintro e w1 ⟨A, c, rfl, hO, hG⟩
  go_wp2
  refine wp_loop_rounds 1 ?_
  rw [rounds_succ]
  go_wp2
  go_ret2
  exact ⟨w1.heap.size, by simp, Blk.new w1 _ _, hG.size, hG.trans ((Chg.refl _ w1).alloc _)⟩
end
end Go.Proofs.Ytepncgeaehjhiaa

namespace Go.Proofs.Ytepncgeaehjhiaa
open Go.RowKit

set_option maxHeartbeats 1000000 in
theorem sameTexts_any (A B : Option Addr) (n m c d : Nat) (l r : List ByteArray) (w : World) (ha : RE elNm w A n l) (hb : RE elNm w B m r) (hn : n ≤ 9223372036854775807) (hm : m ≤ 9223372036854775807) :
    Calls Try.prog 23 #[.slice A n c, .slice B m d] w fun e w' => e = .returned (.bool (decide (l = r))) ∧ ∃ k, w' = w.drewN k := by
  by_cases hnm : n = m
  · subst hnm
    go_enter Try.func23, Try.ntmps23
    go_wp2
    go_loopw [5] (fun i wr => ∃ k : Nat, k ≤ n ∧ i = .int .i64 k ∧ l.take k = r.take k ∧ ∃ j, wr = w.drewN j) (fun i _ => n - (intOf i).toNat)
    case atStart => exact ⟨0, Nat.zero_le _, rfl, rfl, 0, rfl⟩
    case round =>
      obtain ⟨k, hk, rfl, ht, j, rfl⟩ := hrel
      by_cases hlt : k < n
      · obtain ⟨ad, x, rfl, hx, hcx⟩ := ha.at_ hlt (by decide)
        obtain ⟨bd, y, rfl, hy, hcy⟩ := hb.at_ hlt (by decide)
        have hcx := hcx 0 _ rfl
        have hcy := hcy 0 _ rfl
        simp only [elNm, Nat.mul_one, Nat.add_zero] at hcx hcy
        go_wp2
        go_quiet (fail)
        go_wp2
        · have hne : (!(x.toList == y.toList)) = true := by assumption
          go_ret
          refine ⟨?_, j + nq, by simp⟩
          have : decide (l = r) = false := by
            refine decide_eq_false ?_
            rintro rfl
            rw [hx] at hy
            injection hy with hy
            subst hy
            simp at hne
          simp [this]
        · have he : (!(x.toList == y.toList)) = false := by assumption
          go_roundw
          case rel =>
            refine ⟨k + 1, by omega, by go_num, ?_, _, rfl⟩
            have hxy : x = y := by
              simp only [Bool.not_eq_false', beq_iff_eq, ByteArray.toList_eq] at he
              exact lst_inj.1 he
            rw [List.take_add_one, List.take_add_one, ht, hx, hy, hxy]
          case measure => simp [intOf]; omega
      · have hkn : k = n := by omega
        subst hkn
        go_wp2
        go_ret
        refine ⟨?_, _, rfl⟩
        have h1 : l.take k = l := List.take_of_length_le (by rw [ha.1]; omega)
        have h2 : r.take k = r := List.take_of_length_le (by rw [hb.1]; omega)
        rw [h1, h2] at ht
        simp [ht]
  · go_enter Try.func23, Try.ntmps23
    have hne : ((n : Int) != (m : Int)) = true := by simp; omega
    go_wp2
    go_ret
    refine ⟨?_, 0, rfl⟩
    have : decide (l = r) = false := decide_eq_false (by
      rintro rfl
      exact hnm (ha.1.symm.trans hb.1))
    simp [this]

/-! ### Keys listed -/
def cut2 (x : ByteArray) : ByteArray := x.extract 2 x.size
theorem lst_cut2 (x : ByteArray) : lst (cut2 x) = (lst x).drop 2 := Lib.extract_to_end x 2
theorem cut2_o (x : ByteArray) : cut2 (oN ++ x) = x := by
  apply lst_inj.1
  rw [lst_cut2, lst_append]
  rfl
def hasP (x p : ByteArray) : Bool := Lib.hasPrefix (lst x) (lst p)
def keysO (Ob : List OEnt) (p : ByteArray) : List ByteArray := sortT ((Ob.filter fun o => hasP o.key p).map OEnt.key)
theorem hasP_o (x p : ByteArray) : hasP (oN ++ x) (oN ++ p) = hasP x p := by
  unfold hasP Lib.hasPrefix
  rw [lst_append, lst_append]
  show List.isPrefixOf (111 :: 47 :: lst p) (111 :: 47 :: lst x) = _
  simp [List.isPrefixOf]
theorem sortT_pre (l : List ByteArray) : sortT (l.map fun k => oN ++ k) = (sortT l).map fun k => oN ++ k := by
  unfold sortT
  rw [List.map_map, List.map_map]
  have h1 : (l.map (lst ∘ fun k => oN ++ k)) = (l.map lst).map fun k => 111 :: 47 :: k := by
    rw [List.map_map]
    apply List.map_congr_left
    intro a _
    show lst (oN ++ a) = _
    rw [lst_append]
    rfl
  have h2 : ((l.map lst).mergeSort fun x y => decide (x ≤ y)).map (fun k => (111 : UInt8) :: 47 :: k) = ((l.map lst).map fun k => 111 :: 47 :: k).mergeSort fun x y => decide (x ≤ y) := by
    apply List.map_mergeSort
    intro a _ b _
    simp [List.cons_le_cons_iff]
  rw [h1, ← h2, List.map_map]
  apply List.map_congr_left
  intro a _
  apply lst_inj.1
  show lst (txt (111 :: 47 :: a)) = lst (oN ++ txt a)
  rw [lst_append, lst_txt, lst_txt]
  rfl

section
variable {S : Nat → Prop} {w w' : World} {s d m : Nat} {Ob : List OEnt} {E : List FEnt} {clock : Nat} {armed : Bool} {left kp : Int} {n : Nat}
theorem begun_keys (h : Stor S w s d m Ob E clock armed left kp n) (p : ByteArray) : begun E (oN ++ p) = ((Ob.filter fun o => hasP o.key p).map OEnt.key).map fun k => oN ++ k := by
  have h1 : (E.map FEnt.nm) = Ob.map fun o => oN ++ o.key := by
    have := congrArg (List.map Prod.fst) h.vw
    rw [List.map_map, List.map_map] at this
    exact this
  have h2 : begun E (oN ++ p) = (E.map FEnt.nm).filter fun x => hasP x (oN ++ p) := by
    unfold begun hasP
    rw [List.filter_map]
    rfl
  rw [h2, h1, List.filter_map, List.map_map]
  congr 1
theorem list_keys (h : Stor S w s d m Ob E clock armed left kp n) (p : ByteArray) : sortT (begun E (oN ++ p)) = (keysO Ob p).map fun k => oN ++ k := by
  rw [begun_keys h, sortT_pre]
  unfold keysO
  rfl
theorem keysO_len (Ob : List OEnt) (p : ByteArray) : (keysO Ob p).length ≤ Ob.length := by
  unfold keysO
  rw [sortT_length, List.length_map]
  exact List.length_filter_le _ _
set_option maxHeartbeats 2000000 in
theorem olist_any (h : Stor S w s d m Ob E clock armed left kp n) (hE : E.length ≤ 1048576) (p : ByteArray) (hp : p.size ≤ 140737488355328) :
    Calls Try.prog 16 #[.pointer (some ⟨s, 0, none⟩), .string p] w fun e w' => ∃ A c, e = .returned (.slice A (keysO Ob p).length c) ∧ OE elNm w' w.heap.size 9 A (keysO Ob p).length c (keysO Ob p) ∧ Grew w w' := by
  have hL := fs_list h.fs hE (oN ++ p)
  rw [list_keys h p] at hL
  have hkl := keysO_len Ob p
  rw [← h.len] at hkl
  have s0 : w.cell? ⟨s, 0, none⟩ = some (.pointer (some ⟨d, 0, none⟩)) := h.st.cell 0
  generalize keysO Ob p = K at *
  rw [List.length_map] at hL
  unfold oN at hL
  obtain ⟨kn, hkn⟩ : ∃ kn, K.length = kn := ⟨_, rfl⟩
  rw [hkn] at hL hkl ⊢
  clear h
  go_enter Try.func16, Try.ntmps16
  go_wp2_with fail
  refine (hL).mono ?_
  rintro e w1 ⟨A, c, rfl, hO, hG⟩
  have hOr := hO.re (by decide)
  have hsz := hG.size
  clear hL
  go_wp2
  go_loopw [5, 16] (fun v i wr => ∃ k : Nat, k ≤ kn ∧ i = .int .i64 k ∧ ∃ B cb, v = .slice B k cb ∧ OE elNm wr w1.heap.size 9 B k cb (K.take k) ∧ Grew w1 wr) (fun _ i _ => kn - (intOf i).toNat)
  case atStart => exact ⟨0, by omega, rfl, none, 0, rfl, OE.nil _ _ _, Chg.refl _ _⟩
  case round =>
    obtain ⟨k, hk, rfl, B, cb, rfl, hB, hg⟩ := hrel
    by_cases hlt : k < kn
    · have hcl := hg.size
      obtain ⟨ad, x, rfl, hx, hcx⟩ := (hOr.grew hg).at_ hlt (by decide)
      have hcx := hcx 0 _ rfl
      rw [List.getElem?_map] at hx
      cases hK : K[k]? with
      | none => rw [hK] at hx; cases hx
      | some y =>
      rw [hK] at hx
      injection hx with hx
      subst hx
      have hcx : wr.cell? (ad.add k) = some (.string ((⟨#[111, 47]⟩ : ByteArray) ++ y)) := by simpa [elNm] using hcx
      have hys : 2 ≤ ((⟨#[111, 47]⟩ : ByteArray) ++ y).size := by rw [ByteArray.size_append]; exact Nat.le_add_right _ _
      have hcut : ((⟨#[111, 47]⟩ : ByteArray) ++ y).extract 2 ((⟨#[111, 47]⟩ : ByteArray) ++ y).size = y := cut2_o y
      have hKt : K.take (k + 1) = K.take k ++ [y] := by rw [List.take_add_one, hK]; rfl
      have hKt := Lib.hid hKt
      generalize ((⟨#[111, 47]⟩ : ByteArray) ++ y) = z at *
      have hsrc : RE elNm (wr.alloc (.cells #[.string y] 9)) (some ⟨wr.heap.size, 0, none⟩) 1 [y] := RE.newAt rfl rfl rfl
      have hown : OE elNm (wr.alloc (.cells #[.string y] 9)) w1.heap.size 9 B k cb (K.take k) := hB.grew ((Chg.refl _ wr).alloc _)
      go_wp2_with (at_builtin; refine wpList_appE rfl _ _ 38 9 infoNm rfl Try.underlying38 rfl w1.heap.size B k cb (K.take k) rfl hown (by simp; omega) _ 1 1 [y] rfl hsrc (by unfold maxLen; omega) (by omega) ?_; intro A3 c3 w3 h3)
      have hc3 : Grew w1 w3 := h3.grew (hg.alloc _) fun ad e => (Own.blk_lt hB ad e).1
      have ho3 := h3.oe
      rw [← hKt.out] at ho3
      clear h3 hsrc hown hcx
      go_roundw
      case rel => exact ⟨k + 1, by omega, by go_num, A3, c3, by simp, by simpa using ho3, hc3⟩
      case measure => simp [intOf]; omega
    · obtain rfl : k = kn := by omega
      rw [List.take_of_length_le (by omega)] at hB
      go_wp2
      go_ret
      exact ⟨B, cb, by simp, hB.mono hsz, hG.trans hg⟩
end
end Go.Proofs.Ytepncgeaehjhiaa

namespace Go.Proofs.Ytepncgeaehjhiaa
open Go.RowKit

/-- the store s: its blocks (all but its own) lie in S; at most j writes were done -/
structure Liv (S : Nat → Prop) (w : World) (s : Nat) (Ob : List OEnt) (j : Nat) : Prop where
  body : ∃ d m E clock left kp n, Stor S w s d m Ob E clock false left kp n ∧ n ≤ j ∧ -(j : Int) ≤ left ∧ left ≤ j
  lt : ∀ k, S k → k < w.heap.size
def Ext (S S' : Nat → Prop) (w : World) : Prop := ∀ k, S' k → S k ∨ w.heap.size ≤ k
theorem Ext.refl (S : Nat → Prop) (w : World) : Ext S S w := fun _ h => .inl h

theorem setO_len : ∀ (Ob : List OEnt) (o : OEnt), (setO Ob o).length ≤ Ob.length + 1
  | [], o => by simp [setO]
  | p :: r, o => by
    unfold setO
    split
    · simp
    · have := setO_len r o
      simp only [List.length_cons]
      omega
theorem look_set : ∀ (Ob : List OEnt) (o : OEnt) (x : ByteArray), lookO (setO Ob o) x = if o.key = x then some o else lookO Ob x
  | [], o, x => by
    unfold setO lookO
    by_cases h : o.key = x <;> simp [List.find?, h]
  | p :: r, o, x => by
    have ih := look_set r o x
    unfold lookO at ih ⊢
    unfold setO
    by_cases hp : p.key = o.key
    · rw [if_pos hp, List.find?_cons, List.find?_cons]
      by_cases h : o.key = x
      · simp [h]
      · simp [h, hp]
    · rw [if_neg hp, List.find?_cons, List.find?_cons, ih]
      by_cases h : o.key = x
      · have : p.key ≠ x := fun e => hp (e.trans h.symm)
        simp [h, this]
      · by_cases h2 : p.key = x <;> simp [h, h2]
theorem gen_set (Ob : List OEnt) (o : OEnt) : genO (setO Ob o) o.key = o.gen := by
  unfold genO
  rw [look_set, if_pos rfl]

section
variable {S : Nat → Prop} {w w' : World} {s j : Nat} {Ob : List OEnt}
theorem Liv.s_lt (h : Liv S w s Ob j) : s < w.heap.size := by
  obtain ⟨d, m, E, clock, left, kp, n, h1, _⟩ := h.body
  exact h1.st.lt
theorem Liv.sn (h : Liv S w s Ob j) : ¬ S s := by
  obtain ⟨d, m, E, clock, left, kp, n, h1, _⟩ := h.body
  exact h1.sn
theorem Liv.grew (h : Liv S w s Ob j) (hc : Grew w w') : Liv S w' s Ob j := by
  obtain ⟨d, m, E, clock, left, kp, n, h1, h2, h3, h4⟩ := h.body
  exact ⟨⟨d, m, E, clock, left, kp, n, h1.grew hc, h2, h3, h4⟩, fun k e => Nat.lt_of_lt_of_le (h.lt k e) hc.size⟩
theorem Liv.chg {T : Nat → Prop} (h : Liv S w s Ob j) (hc : Chg T w w') (hs : ¬ T s) (hT : ∀ k, S k → ¬ T k) : Liv S w' s Ob j := by
  obtain ⟨d, m, E, clock, left, kp, n, h1, h2, h3, h4⟩ := h.body
  exact ⟨⟨d, m, E, clock, left, kp, n, h1.chg hc hs hT, h2, h3, h4⟩, fun k e => Nat.lt_of_lt_of_le (h.lt k e) hc.size⟩
theorem Liv.ok (h : Liv S w s Ob j) : ∀ o ∈ Ob, o.Ok := by
  obtain ⟨d, m, E, clock, left, kp, n, h1, _⟩ := h.body
  exact h1.ok
theorem Liv.nd (h : Liv S w s Ob j) : (Ob.map OEnt.key).Nodup := by
  obtain ⟨d, m, E, clock, left, kp, n, h1, _⟩ := h.body
  exact h1.nd
/-- a disk just made, a store just opened -/
theorem Liv.start {w0 w1 w2 : World} {d m : Nat} (h : FS (fun k => w0.heap.size ≤ k) w1 d m [] 0 true false 0 0 0) (hb : Blk w2 s 56 #[.pointer (some ⟨d, 0, none⟩)]) (hs : w1.heap.size ≤ s) (hg : Grew w1 w2) :
    Liv (fun k => w0.heap.size ≤ k ∧ k < w1.heap.size) w2 s [] 0 :=
  ⟨⟨d, m, [], 0, 0, 0, 0, ⟨hb, fun e => by omega, h.tight.grew hg, rfl, fun o ho => by simp at ho⟩, by omega, by omega, by omega⟩, fun k e => by have := hg.size; omega⟩

theorem liv_put (h : Liv S w s Ob j) (hj : j ≤ 1000000000000000000) (hE : Ob.length < 1048576) (x : ByteArray) (hx : keyB x = true) (hg : genO Ob x + 1 < 18446744073709551616) (A : Option Addr) (k c : Nat) (data : List UInt8) (hr : RB w A k data) (hk : k ≤ 1048576) :
    Calls Try.prog 13 #[.pointer (some ⟨s, 0, none⟩), .string x, .slice A k c] w fun e w' => e = .returned (.tuple #[.int .u64 ((genO Ob x + 1 : Nat) : Int), .int .i64 0]) ∧ (∃ S', Liv S' w' s (setO Ob ⟨x, data, genO Ob x + 1⟩) (j + 3) ∧ Ext S S' w) ∧ Chg S w w' := by
  obtain ⟨d, m, E, clock, left, kp, n, h1, h2, h3, h4⟩ := h.body
  refine (put_ok h1 (fun i hi => ⟨by simp, by omega, by omega⟩) hE x hx hg A k c data hr hk).mono ?_
  rintro e w' ⟨rfl, ⟨E', clock', h5⟩, h6⟩
  exact ⟨rfl, ⟨_, ⟨⟨d, m, E', clock', left - 3, kp, n + 3, h5.tight, by omega, by omega, by omega⟩, fun k e => e.2⟩, fun k e => e.1⟩, h6⟩
theorem liv_putIf (h : Liv S w s Ob j) (hj : j ≤ 1000000000000000000) (hE : Ob.length < 1048576) (x : ByteArray) (hx : keyB x = true) (hg : genO Ob x + 1 < 18446744073709551616) (A : Option Addr) (k c : Nat) (data : List UInt8) (hr : RB w A k data) (hk : k ≤ 1048576) :
    Calls Try.prog 10 #[.pointer (some ⟨s, 0, none⟩), .string x, .slice A k c, .int .u64 (genO Ob x : Int)] w fun e w' => e = .returned (.tuple #[.int .u64 ((genO Ob x + 1 : Nat) : Int), .int .i64 0]) ∧ (∃ S', Liv S' w' s (setO Ob ⟨x, data, genO Ob x + 1⟩) (j + 3) ∧ Ext S S' w) ∧ Chg S w w' := by
  obtain ⟨d, m, E, clock, left, kp, n, h1, h2, h3, h4⟩ := h.body
  refine (putIf_ok h1 (fun i hi => ⟨by simp, by omega, by omega⟩) hE x hx hg A k c data hr hk).mono ?_
  rintro e w' ⟨rfl, ⟨E', clock', h5⟩, h6⟩
  exact ⟨rfl, ⟨_, ⟨⟨d, m, E', clock', left - 3, kp, n + 3, h5.tight, by omega, by omega, by omega⟩, fun k e => e.2⟩, fun k e => e.1⟩, h6⟩
theorem liv_putIf_no (h : Liv S w s Ob j) (x : ByteArray) (hx : keyB x = true) (A : Option Addr) (k c : Nat) (hk : k ≤ 1048576) (g : Nat) (hg : genO Ob x ≠ g) :
    Calls Try.prog 10 #[.pointer (some ⟨s, 0, none⟩), .string x, .slice A k c, .int .u64 (g : Int)] w fun e w' => e = .returned (.tuple #[.int .u64 (genO Ob x : Int), .int .i64 112]) ∧ Grew w w' := by
  obtain ⟨d, m, E, clock, left, kp, n, h1, h2, h3, h4⟩ := h.body
  exact putIf_no h1 x hx A k c hk g hg
theorem liv_get (h : Liv S w s Ob j) (x : ByteArray) (hx : keyB x = true) :
    Calls Try.prog 12 #[.pointer (some ⟨s, 0, none⟩), .string x] w (ReadTo w (lookO Ob x)) := by
  obtain ⟨d, m, E, clock, left, kp, n, h1, h2, h3, h4⟩ := h.body
  exact get_any h1 x hx
theorem liv_gen (h : Liv S w s Ob j) (x : ByteArray) (hx : keyB x = true) :
    Calls Try.prog 12 #[.pointer (some ⟨s, 0, none⟩), .string x] w fun e w' => (∃ v u, e = .returned (.tuple #[v, .int .u64 (genO Ob x : Int), u])) ∧ Grew w w' := by
  refine (liv_get h x hx).mono ?_
  intro e w' hr
  unfold ReadTo at hr
  unfold genO
  cases hl : lookO Ob x with
  | none =>
    rw [hl] at hr
    exact ⟨⟨_, _, hr.1⟩, hr.2 ▸ Chg.refl _ _⟩
  | some o =>
    rw [hl] at hr
    obtain ⟨A, c, h1, _, _, _, h2⟩ := hr
    exact ⟨⟨_, _, h1⟩, h2⟩
theorem liv_slice (h : Liv S w s Ob j) (x : ByteArray) (hx : keyB x = true) {o : OEnt} (hl : lookO Ob x = some o) (a b : Nat) (hab : a ≤ b) (hb : b ≤ o.data.length) :
    Calls Try.prog 19 #[.pointer (some ⟨s, 0, none⟩), .string x, .int .i64 (a : Int), .int .i64 (b : Int)] w fun e w' => ∃ A c, e = .returned (.tuple #[.slice A (b - a) c, .int .i64 0]) ∧ OB w' w.heap.size 5 A (b - a) c ((o.data.drop a).take (b - a)) ∧ Grew w w' := by
  obtain ⟨d, m, E, clock, left, kp, n, h1, h2, h3, h4⟩ := h.body
  exact slice_ok h1 x hx hl a b hab hb
theorem liv_slice_bad (h : Liv S w s Ob j) (x : ByteArray) (hx : keyB x = true) {o : OEnt} (hl : lookO Ob x = some o) (b : Nat) (hb : o.data.length < b) :
    Calls Try.prog 19 #[.pointer (some ⟨s, 0, none⟩), .string x, .int .i64 0, .int .i64 (b : Int)] w fun e w' => e = .returned (.tuple #[.slice none 0 0, .int .i64 113]) ∧ Grew w w' := by
  obtain ⟨d, m, E, clock, left, kp, n, h1, h2, h3, h4⟩ := h.body
  exact slice_bad h1 x hx hl b hb
theorem liv_delete (h : Liv S w s Ob j) (hj : j ≤ 1000000000000000000) {i : Nat} {o : OEnt} (hi : Ob[i]? = some o) :
    Calls Try.prog 27 #[.pointer (some ⟨s, 0, none⟩), .string o.key] w fun e w' => e = .returned (.int .i64 0) ∧ Liv S w' s (Ob.eraseIdx i) (j + 1) ∧ Chg S w w' := by
  obtain ⟨d, m, E, clock, left, kp, n, h1, h2, h3, h4⟩ := h.body
  refine (odelete_ok h1 ⟨by simp, by omega, by omega⟩ hi).mono ?_
  rintro e w' ⟨rfl, h5, h6⟩
  exact ⟨rfl, ⟨⟨d, m, _, clock, left - 1, kp, n + 1, h5, by omega, by omega, by omega⟩, fun k e => Nat.lt_of_lt_of_le (h.lt k e) h6.size⟩, h6⟩
theorem liv_delete_none (h : Liv S w s Ob j) (x : ByteArray) (hx : keyB x = true) (hno : ∀ o ∈ Ob, o.key ≠ x) :
    Calls Try.prog 27 #[.pointer (some ⟨s, 0, none⟩), .string x] w fun e w' => e = .returned (.int .i64 111) ∧ w = w' := by
  obtain ⟨d, m, E, clock, left, kp, n, h1, h2, h3, h4⟩ := h.body
  exact odelete_none h1 x hx hno
end
end Go.Proofs.Ytepncgeaehjhiaa

namespace Go.Proofs.Ytepncgeaehjhiaa
open Go.RowKit

theorem list_off {O : Nat → Prop} {w : World} {d m : Nat} {es : Array MapEntry} {clock : Nat} {armed : Bool} {left keep : Int} {n : Nat} (hD : Dsk O w d m es clock false armed left keep n) (x : ByteArray) :
    Calls Try.prog 24 #[.pointer (some ⟨d, 0, none⟩), .string x] w fun e w' => e = .returned (.slice none 0 0) ∧ w = w' := by
  have c1 := hD.c1
  go_enter Try.func24, Try.ntmps24
  go_wp2
  go_ret
  exact ⟨by simp, rfl⟩

section
variable {O : Nat → Prop} {w w' : World} {g : Nat} {A : Option Addr} {c : Nat} {l : List UInt8} {sy : Nat}
theorem Fil.al (h : Fil O w g A c l sy) : ∀ ad, A = some ad → ad.block < w.heap.size := fun ad e => (Own.blk_lt h.hA ad e).2
end

theorem grow_of {S : Nat → Prop} {w w1 w2 : World} (hg : Grew w w1) (hc : Chg S w1 w2) (hS : ∀ k, S k → w.heap.size ≤ k) : Grew w w2 := hg.step hc fun k hk h => absurd (hS k h) (by omega)
theorem grow1 {a : Nat} {w w1 w2 : World} (hg : Grew w w1) (hc : Chg (fun k => k = a) w1 w2) (h : w.heap.size ≤ a) : Grew w w2 := grow_of hg hc fun k e => by
  have e : k = a := e
  omega
theorem grow2 {a b : Nat} {w w1 w2 : World} (hg : Grew w w1) (hc : Chg (fun k => k = a ∨ k = b) w1 w2) (h : w.heap.size ≤ a) (h' : w.heap.size ≤ b) : Grew w w2 := grow_of hg hc fun k e => by
  have e : k = a ∨ k = b := e
  omega
theorem grow3 {a b : Nat} {A : Option Addr} {w w1 w2 : World} (hg : Grew w w1) (hc : Chg (fun k => k = a ∨ k = b ∨ ∃ ad, A = some ad ∧ k = ad.block) w1 w2) (h : w.heap.size ≤ a) (h' : w.heap.size ≤ b) (h'' : ∀ ad, A = some ad → w.heap.size ≤ ad.block) : Grew w w2 := grow_of hg hc fun k e => by
  rcases e with e | e | ⟨ad, e, e2⟩
  · omega
  · omega
  · have := h'' ad e
    omega
theorem find_none (x : ByteArray) : Instr.findNow .string (.string x) (#[] : Array MapEntry).toList 0 = some none := rfl

end Go.Proofs.Ytepncgeaehjhiaa

namespace Go.Proofs.Ytepncgeaehjhiaa
open Go.RowKit

/-- append onto a row of bytes of the call's own, where the operation has a guard that holds -/
theorem wpList_appBw {ops : Array Oper} {rest : List Oper} {o : Oper} {a : Act} {w : World} {Q : Exit → Act → World → Prop} (hw : Region.wanted o (yielded ops a.tmps) = true) (s x : Operand)
    (ho : o.op = .call { callee := .builtin .append, args := #[s, x], argTypes := #[23, 23] })
    (base : Nat) (A : Option Addr) (n c : Nat) (l : List UInt8) (hs : a.eval s = .slice A n c) (hown : OB w base 5 A n c l) (hbase : base ≤ w.heap.size)
    (B : Option Addr) (m d : Nat) (r : List UInt8) (hx : a.eval x = .slice B m d) (hr : RB w B m r) (hbytes : n + m ≤ 140737488355328)
    (h : ∀ A' c' w', ApB w base A (n + m) c (l ++ r) A' c' w' → wpList Try.prog ops Q rest (a.put o.dst (.slice A' (n + m) c')) w') : wpList Try.prog ops Q (o :: rest) a w := by
  obtain ⟨i0, hi, hz0, hz1, hz2⟩ := info_parts infoU8
  refine wpList_step fun K hK => ?_
  rw [if_pos hw]
  refine wp_app w s x 23 5 ho i0 (.int .u8 0) 1 1 Try.underlying23 hi hz0 hz1 hz2 rfl base A n c _ hs hown hbase B m d _ hx (by simpa using hr.1) hr.2 (byt_one r) (by unfold maxLen; omega) (by omega) ?_
  intro A' c' w' h1
  exact hK _ _ (h A' c' w' (by unfold ApB; rw [List.map_append]; exact h1))

theorem stay_none {a b : Nat} {kp : Int} (h : ¬ 0 < kp) : stayN (a + b) a kp = a := by
  unfold stayN
  split
  · have : kp = 0 := by omega
    subst this
    simp
  · rfl
theorem stay_some {a b k : Nat} : stayN (a + b) a (k : Int) = a + k % (b + 1) := by
  unfold stayN
  rw [if_pos (by omega)]
  have : a + b - a + 1 = b + 1 := by omega
  rw [this]
  rfl
theorem take_both {α : Type} (a b : List α) (k : Nat) : (a ++ b).take (a.length + k) = a ++ b.take k := by
  rw [List.take_append, List.take_of_length_le (by omega), Nat.add_sub_cancel_left]

end Go.Proofs.Ytepncgeaehjhiaa

namespace Go.Proofs.Ytepncgeaehjhiaa
open Go.ChangeShapes Go.WideShapes Go.ChangeAt Go.RowKit

theorem u8_of_wf {z : Int} (h : (Lit.int .u8 z).wf = true) : ((UInt8.ofNat z.toNat).toNat : Int) = z := by
  have := Go.bounds_u8 h
  rw [UInt8.toNat_ofNat']
  omega

theorem open_bytes {H : Type} {enc : TypeId × Value → H} {P : Program} {W : World} {base : Nat} {spare : Nat → Bool} {held : Bool} {t e : TypeId} (ht : P.underlying t = some (.slice e)) (he : P.underlying e = some (.int .u8)) (hC : P.cellsOf e = 1) (hB : P.bytesOf e = 1)
    {ts : List TypeId} {ds : List (DataW H)} {j : Nat} {d : DataW H} (hsz : (DataW.weightsEach P ts ds).all (· ≤ reachBytes) = true) (htj : ts[j]? = some t) (hdj : ds[j]? = some d)
    {A : Option Addr} {n c : Nat} {p : List MemPlace} (h : DataW.Trod enc P W base spare held t (.slice A n c) d p) : ∃ l : List UInt8, RB W A n l ∧ n ≤ 140737488351232 := by
  obtain ⟨fuel, hf⟩ := h
  rcases open_ints ht he hC hf with ⟨hcs, _⟩ | ⟨x, l, c', zs, hcs, _, hl, hm, hz, hx, hcell, hwz⟩
  · simp [Value.cells] at hcs
    obtain ⟨rfl, rfl, rfl⟩ := hcs
    exact ⟨[], ⟨rfl, Rd.nil _ _⟩, by omega⟩
  · simp [Value.cells] at hcs
    obtain ⟨rfl, rfl, rfl⟩ := hcs
    simp only [Prod.mk.injEq] at hx
    obtain ⟨rfl, _⟩ := hx
    have hlen : n ≤ zs.length := by rw [hz]; split <;> omega
    refine ⟨(zs.take n).map fun z => UInt8.ofNat z.toNat, ⟨by simp; omega, ?_⟩, ?_⟩
    · intro k u hu
      refine ⟨x, rfl, ?_⟩
      simp only [List.map_map, List.getElem?_map, List.getElem?_take] at hu
      split at hu
      · rename_i hk
        rw [hcell k (by omega)]
        rw [List.getElem?_eq_getElem (by omega)] at hu
        simp only [Option.map_some, Option.some.injEq, Function.comp, byt] at hu
        rw [← hu, u8_of_wf (hwz _ (List.getElem_mem _)), List.getD_eq_getElem?_getD, List.getElem?_eq_getElem (by omega)]
        rfl
      · simp at hu
    · have := sized_slice hsz htj hdj ht
      rw [hB] at this
      simp only [lits, List.length_map, List.length_take, List.length_drop, reachBytes] at this
      omega

theorem open_bytes2 {H : Type} {enc : TypeId × Value → H} {P : Program} {W : World} {base : Nat} {spare : Nat → Bool} {held : Bool} {t e : TypeId} (ht : P.underlying t = some (.slice e)) (he : P.underlying e = some (.int .u8)) (hC : P.cellsOf e = 1) (hB : P.bytesOf e = 1)
    {ts : List TypeId} {ds : List (DataW H)} {j : Nat} {d : DataW H} (hsz : (DataW.weightsEach P ts ds).all (· ≤ reachBytes) = true) (htj : ts[j]? = some t) (hdj : ds[j]? = some d)
    {A : Option Addr} {n c : Nat} {p : List MemPlace} (h : DataW.Trod enc P W base spare held t (.slice A n c) d p) : ∃ l : List UInt8, RB W A n l ∧ n ≤ 140737488351232 ∧ (n ≤ c ∧ c ≤ 9223372036854775807) := by
  have hc : n ≤ c ∧ c ≤ 9223372036854775807 := by
    obtain ⟨fuel, hf⟩ := h
    rcases open_ints ht he hC hf with ⟨hcs, _⟩ | ⟨x, l, c', zs, hcs, _, hl, hm, hz, hx, hcell, hwz⟩
    · simp [Value.cells] at hcs
      obtain ⟨rfl, rfl, rfl⟩ := hcs
      omega
    · simp [Value.cells] at hcs
      obtain ⟨rfl, rfl, rfl⟩ := hcs
      unfold maxLen at hm
      omega
  obtain ⟨l, h1, h2⟩ := open_bytes ht he hC hB hsz htj hdj h
  exact ⟨l, h1, h2, hc⟩
end Go.Proofs.Ytepncgeaehjhiaa

namespace Go.Proofs.Ytepncgeaehjhiaa
open Go.ChangeShapes Go.WideShapes Go.ChangeAt Go.RowKit

theorem bulk_one {H : Type} (d : DataW H) : 1 ≤ Rows.uptoBulk d := by
  cases d with
  | lit l => cases l <;> simp [Rows.uptoBulk]
  | _ => simp [Rows.uptoBulk]
theorem bulk_len {H : Type} (l : List (DataW H)) : l.length ≤ Rows.uptoBulkAll l := by
  induction l with
  | nil => simp [Rows.uptoBulkAll]
  | cons x r ih => have := bulk_one x; simp only [Rows.uptoBulkAll, List.length_cons]; omega

theorem open_bulk {H : Type} {enc : TypeId × Value → H} {P : Program} {W : World} {base : Nat} {spare : Nat → Bool} {held : Bool} {t e : TypeId} (ht : P.underlying t = some (.slice e)) (he : P.underlying e = some (.int .u8)) (hC : P.cellsOf e = 1)
    {d : DataW H} {A : Option Addr} {n c : Nat} {p : List MemPlace} (h : DataW.Trod enc P W base spare held t (.slice A n c) d p) : n ≤ Rows.uptoBulk d := by
  obtain ⟨fuel, hf⟩ := h
  rcases open_ints ht he hC hf with ⟨hcs, _⟩ | ⟨x, l, c', zs, hcs, _, hl, hm, hz, hx, hcell, hwz⟩
  · simp [Value.cells] at hcs
    obtain ⟨rfl, rfl, rfl⟩ := hcs
    exact Nat.zero_le _
  · simp [Value.cells] at hcs
    obtain ⟨rfl, rfl, rfl⟩ := hcs
    simp only [Prod.mk.injEq] at hx
    obtain ⟨rfl, _⟩ := hx
    have hlen : n ≤ zs.length := by rw [hz]; split <;> omega
    have := bulk_len (H := H) (lits .u8 (zs.take n))
    simp only [lits, List.length_map, List.length_take] at this
    simp only [Rows.uptoBulk, lits]
    omega
end Go.Proofs.Ytepncgeaehjhiaa

namespace Go.Proofs.Ytepncgeaehjhiaa
open Go.ChangeShapes Go.WideShapes Go.ChangeAt Go.RowKit Go.Deep

theorem list_of {α : Type} (n : Nat) (p : Nat → α → Prop) (h : ∀ i, i < n → ∃ x, p i x) : ∃ l : List α, l.length = n ∧ ∀ i x, l[i]? = some x → p i x := by
  induction n with
  | zero => exact ⟨[], rfl, fun i x hx => by simp at hx⟩
  | succ n ih =>
    obtain ⟨l, hl, hp⟩ := ih fun i hi => h i (by omega)
    obtain ⟨x, hx⟩ := h n (by omega)
    refine ⟨l ++ [x], by simp [hl], fun i y hy => ?_⟩
    rcases Nat.lt_or_ge i l.length with hi | hi
    · rw [List.getElem?_append_left hi] at hy
      exact hp i y hy
    · rw [List.getElem?_append_right hi] at hy
      have : i - l.length = 0 := by
        rcases Nat.eq_zero_or_pos (i - l.length) with e | e
        · exact e
        · rw [List.getElem?_eq_none (by simp; omega)] at hy; cases hy
      rw [this] at hy
      obtain rfl := Option.some.inj hy
      rw [show i = n by omega]
      exact hx
theorem bulk_all_mem {H : Type} {d : DataW H} : ∀ {l : List (DataW H)}, d ∈ l → Rows.uptoBulk d ≤ Rows.uptoBulkAll l
  | x :: r, h => by
    simp only [Rows.uptoBulkAll]
    rcases List.mem_cons.1 h with rfl | h
    · omega
    · have := bulk_all_mem h; omega

section
variable {H : Type} {enc : TypeId × Value → H} {P : Program} {W : World} {base : Nat} {spare : Nat → Bool} {held : Bool}
theorem open_elems {α : Type} (E : El α) (Q : α → DataW H → Prop) {t e : TypeId} (ht : P.underlying t = some (.slice e)) (ce : P.cellsOf e = E.sz)
    (dec : ∀ n cs x, DataW.trod enc P W base spare held n e cs = some x → cs.length = P.cellsOf e → ∃ y, cs = E.cells y ∧ Q y x.1)
    {A : Option Addr} {n c : Nat} {d : DataW H} {p : List MemPlace} (h : DataW.Trod enc P W base spare held t (.slice A n c) d p) :
    ∃ l : List α, RE E W A n l ∧ n ≤ Rows.uptoBulk d ∧ (n ≤ c ∧ c ≤ 9223372036854775807) ∧ ∀ y ∈ l, ∃ dd, Q y dd ∧ Rows.uptoBulk dd ≤ Rows.uptoBulk d := by
  obtain ⟨fuel, hf⟩ := h
  rcases open_slice ht hf with ⟨hcs, _⟩ | ⟨a, len, cap, m, n', D, Pl, hcs, hb, hl, hm, hmm, hx, hel⟩
  · simp [Value.cells] at hcs
    obtain ⟨rfl, rfl, rfl⟩ := hcs
    exact ⟨[], RE.nil _ _, Nat.zero_le _, by omega, fun y hy => by cases hy⟩
  · simp [Value.cells] at hcs
    obtain ⟨rfl, rfl, rfl⟩ := hcs
    simp only [Prod.mk.injEq] at hx
    obtain ⟨rfl, _⟩ := hx
    have hlm : n ≤ m := by rw [hmm]; split <;> omega
    have key : ∀ i, i < n → ∃ y, (∀ j u, (E.cells y)[j]? = some u → W.cell? (a.add (i * E.sz + j)) = some u) ∧ Q y (D i) := fun i hi => by
      obtain ⟨cs', h1, h2⟩ := hel i (by omega)
      obtain ⟨_, hlen, hcell⟩ := World.cells?_some h1
      obtain ⟨y, rfl, hq⟩ := dec _ _ _ h2 hlen
      refine ⟨y, fun j u hu => ?_, hq⟩
      have hj : j < (E.cells y).length := (List.getElem?_eq_some_iff.1 hu).1
      have h3 := hcell j (by rw [← hlen]; exact hj)
      rw [add_add, ce] at h3
      rw [h3]
      exact hu
    obtain ⟨l, hll, hlp⟩ := list_of n _ key
    refine ⟨l, ⟨hll, fun k u hu => ⟨a, rfl, ?_⟩⟩, ?_, by unfold maxLen at hm; omega, fun y hy => ?_⟩
    · have hk := (List.getElem?_eq_some_iff.1 hu).1
      rw [El.flat_length, hll] at hk
      have hs : 0 < E.sz := by
        rcases Nat.eq_zero_or_pos E.sz with e0 | e0
        · rw [e0] at hk; omega
        · exact e0
      obtain ⟨i, j, rfl, hj⟩ : ∃ i j, k = i * E.sz + j ∧ j < E.sz := ⟨k / E.sz, k % E.sz, by rw [Nat.mul_comm]; exact (Nat.div_add_mod k E.sz).symm, Nat.mod_lt _ hs⟩
      have hi : i < n := by
        rcases Nat.lt_or_ge i n with h1 | h1
        · exact h1
        · have := Nat.mul_le_mul_right E.sz h1; omega
      have hx : l[i]? = some l[i] := List.getElem?_eq_getElem (by omega)
      rw [E.flat_get l hx hj] at hu
      exact (hlp i _ hx).1 j u hu
    · have := bulk_len (H := H) ((List.range n).map D)
      simp only [List.length_map, List.length_range] at this
      simp only [Rows.uptoBulk]
      omega
    · obtain ⟨i, hi⟩ := List.mem_iff_getElem?.1 hy
      have hin : i < n := by have := (List.getElem?_eq_some_iff.1 hi).1; omega
      refine ⟨D i, (hlp i y hi).2, ?_⟩
      have : D i ∈ (List.range n).map D := List.mem_map.2 ⟨i, List.mem_range.2 hin, rfl⟩
      have := bulk_all_mem this
      simp only [Rows.uptoBulk]
      omega
end
end Go.Proofs.Ytepncgeaehjhiaa

namespace Go.Proofs.Ytepncgeaehjhiaa
open Go.ChangeShapes Go.WideShapes Go.ChangeAt Go.RowKit Go.Deep

def elI : El Int := ⟨fun z => [.int .i64 z], 1, fun _ => rfl, by
  intro x u hu
  simp at hu
  subst hu
  rfl⟩
def elU : El Nat := ⟨fun z => [.int .u64 (z : Int)], 1, fun _ => rfl, by
  intro x u hu
  simp at hu
  subst hu
  rfl⟩

section
variable {H : Type} {enc : TypeId × Value → H} {W : World} {base : Nat} {spare : Nat → Bool} {held : Bool}
theorem cells_str : Try.prog.cellsOf 9 = 1 := by kernel_rfl
theorem cells_int : Try.prog.cellsOf 3 = 1 := by kernel_rfl
theorem cells_u64 : Try.prog.cellsOf 31 = 1 := by kernel_rfl
theorem one_cell {cs : List Value} (h : cs.length = 1) : ∃ v, cs = [v] := by
  match cs, h with
  | [v], _ => exact ⟨v, rfl⟩

theorem open_ints0 {A : Option Addr} {n c : Nat} {d : DataW H} {p : List MemPlace} (h : DataW.Trod enc Try.prog W base spare held 45 (.slice A n c) d p) :
    ∃ l : List Int, RE elI W A n l ∧ (n ≤ c ∧ c ≤ 9223372036854775807) ∧ ∀ x ∈ l, (Lit.int .i64 x).wf = true := by
  obtain ⟨l, h1, h2, h3, h4⟩ := open_elems elI (fun y _ => (Lit.int .i64 y).wf = true) Try.underlying45 (by kernel_rfl) (fun n cs x hx hl => by
    obtain ⟨v, rfl⟩ := one_cell (hl.trans cells_int)
    obtain ⟨z, e0, d0, hz⟩ := DataW.trod_int Try.underlying3 hx
    obtain rfl := (List.cons.inj e0).1
    exact ⟨z, rfl, hz⟩) h
  exact ⟨l, h1, h3, fun x hx => by obtain ⟨dd, h5, _⟩ := h4 x hx; exact h5⟩
theorem open_u64s0 {A : Option Addr} {n c : Nat} {d : DataW H} {p : List MemPlace} (h : DataW.Trod enc Try.prog W base spare held 22 (.slice A n c) d p) :
    ∃ l : List Nat, RE elU W A n l ∧ (n ≤ c ∧ c ≤ 9223372036854775807) ∧ ∀ x ∈ l, x < 18446744073709551616 := by
  obtain ⟨l, h1, h2, h3, h4⟩ := open_elems elU (fun y _ => y < 18446744073709551616) Try.underlying22 (by kernel_rfl) (fun n cs x hx hl => by
    obtain ⟨v, rfl⟩ := one_cell (hl.trans cells_u64)
    obtain ⟨z, e0, d0, hz⟩ := DataW.trod_int Try.underlying31 hx
    obtain rfl := (List.cons.inj e0).1
    have hb := Go.bounds_u64 hz
    exact ⟨z.toNat, by simp [elU]; omega, by omega⟩) h
  exact ⟨l, h1, h3, fun x hx => by obtain ⟨dd, h5, _⟩ := h4 x hx; exact h5⟩
theorem open_texts0 {A : Option Addr} {n c : Nat} {d : DataW H} {p : List MemPlace} (h : DataW.Trod enc Try.prog W base spare held 38 (.slice A n c) d p) :
    ∃ l : List ByteArray, RE elNm W A n l ∧ (n ≤ c ∧ c ≤ 9223372036854775807) := by
  obtain ⟨l, h1, h2, h3, h4⟩ := open_elems elNm (fun _ _ => True) Try.underlying38 (by kernel_rfl) (fun n cs x hx hl => by
    obtain ⟨v, rfl⟩ := one_cell (hl.trans cells_str)
    obtain ⟨s0, e0, d0, _⟩ := DataW.trod_string Try.underlying9 hx
    obtain rfl := (List.cons.inj e0).1
    exact ⟨s0, rfl, trivial⟩) h
  exact ⟨l, h1, h3⟩
end
end Go.Proofs.Ytepncgeaehjhiaa

namespace Go.Proofs.Ytepncgeaehjhiaa
open Go.RowKit

theorem liv_list {S : Nat → Prop} {w : World} {s j : Nat} {Ob : List OEnt} (h : Liv S w s Ob j) (hE : Ob.length ≤ 1048576) (p : ByteArray) (hp : p.size ≤ 140737488355328) :
    Calls Try.prog 16 #[.pointer (some ⟨s, 0, none⟩), .string p] w fun e w' => ∃ A c, e = .returned (.slice A (keysO Ob p).length c) ∧ OE elNm w' w.heap.size 9 A (keysO Ob p).length c (keysO Ob p) ∧ Grew w w' := by
  obtain ⟨d, m, E, clock, left, kp, n, h1, h2, h3, h4⟩ := h.body
  exact olist_any h1 (by rw [h1.len]; exact hE) p hp
theorem start_ex {w0 w1 w2 : World} {d m s : Nat} (h : FS (fun k => w0.heap.size ≤ k) w1 d m [] 0 true false 0 0 0) (hb : Blk w2 s 56 #[.pointer (some ⟨d, 0, none⟩)]) (hs : w1.heap.size ≤ s) (hg : Grew w1 w2) :
    ∃ S, Hid (Liv S w2 s [] 0) ∧ Hid (∀ k, S k → w0.heap.size ≤ k) := ⟨_, Liv.start h hb hs hg, fun _ e => e.1⟩
theorem look_one (o : OEnt) : lookO [o] o.key = some o := by simp [lookO, List.find?]
theorem gen_one (o : OEnt) : genO [o] o.key = o.gen := by rw [genO, look_one]
theorem set_one (o p : OEnt) (h : o.key = p.key) : setO [o] p = [p] := by rw [setO, if_pos h]
theorem keys_one (o : OEnt) : keysO [o] ⟨#[]⟩ = [o.key] := by
  have : hasP o.key ⟨#[]⟩ = true := by unfold hasP Lib.hasPrefix; rfl
  simp [keysO, sortT, this]
def kA : ByteArray := ⟨#[97]⟩
def kK : ByteArray := ⟨#[107]⟩
theorem key_a : keyB ⟨#[97]⟩ = true := by decide
theorem key_k : keyB ⟨#[107]⟩ = true := by decide
/-- what a change of the store's own blocks leaves of what was there at first -/
theorem liv_grow {S : Nat → Prop} {w w1 w2 : World} (hg : Grew w w1) (hc : Chg S w1 w2) (hS : ∀ k, S k → w.heap.size ≤ k) : Grew w w2 := hg.step hc fun k hk h => absurd (hS k h) (by omega)
theorem ext_ge {S S' : Nat → Prop} {b : Nat} {w1 : World} (h : Ext S S' w1) (hS : ∀ k, S k → b ≤ k) (hb : b ≤ w1.heap.size) : ∀ k, S' k → b ≤ k := fun k e => (h k e).elim (hS k) fun e => Nat.le_trans hb e

set_option maxRecDepth 100000 in
set_option maxHeartbeats 4000000 in
theorem awake_any (w : World) : Calls Try.prog 9 #[] w fun e w' => e = .returned (.bool true) ∧ Grew w w' := by
  go_enter Try.func9, Try.ntmps9
  go_wp2_with fail
  refine (fs_new w).mono ?_
  rintro e w1 ⟨d, m, rfl, hF, hg1⟩
  go_wp2_with fail
  refine (open_clean hF (by simp) rfl).mono ?_
  rintro e w2 ⟨s, rfl, hb, hs, hg2⟩
  obtain ⟨S2, L2, hS2⟩ := start_ex hF hb hs hg2
  have G2 := hg1.trans hg2
  clear hF hb hg1 hg2
  go_wp2_with fail
  refine (liv_put (L2.out.grew ((Chg.refl _ w2).alloc (.cells #[.int .u8 1, .int .u8 2] 5))) (by omega) (by simp) ⟨#[97]⟩ key_a (by decide) _ 2 2 [1, 2] (RB.newAt rfl rfl rfl) (by omega)).mono ?_
  rintro e w3 ⟨rfl, ⟨S3, L3, x3⟩, hc3⟩
  have G3 : Grew w w3 := liv_grow (G2.alloc (.cells #[.int .u8 1, .int .u8 2] 5)) hc3 hS2.out
  have hS3 : Hid (∀ k, S3 k → w.heap.size ≤ k) := ext_ge x3 hS2.out (G2.alloc (.cells #[.int .u8 1, .int .u8 2] 5)).size
  have L3 : Hid (Liv S3 w3 s [⟨⟨#[97]⟩, [1, 2], 1⟩] 3) := L3
  clear x3 hc3 L2 hS2 G2
  have hP := liv_putIf (L3.out.grew ((Chg.refl _ w3).alloc (.cells #[.int .u8 3, .int .u8 4] 5))) (by omega) (by simp) ⟨#[97]⟩ key_a (by decide) (some ⟨w3.heap.size, 0, none⟩) 2 2 [3, 4] (RB.newAt rfl rfl rfl) (by omega)
  rw [show genO [(⟨⟨#[97]⟩, [1, 2], 1⟩ : OEnt)] ⟨#[97]⟩ = 1 from gen_one _] at hP
  go_wp2_with fail
  refine hP.mono ?_
  rintro e w4 ⟨rfl, ⟨S4, L4, x4⟩, hc4⟩
  have G4 : Grew w w4 := liv_grow (G3.alloc (.cells #[.int .u8 3, .int .u8 4] 5)) hc4 hS3.out
  have hS4 : Hid (∀ k, S4 k → w.heap.size ≤ k) := ext_ge x4 hS3.out (G3.alloc (.cells #[.int .u8 3, .int .u8 4] 5)).size
  have L4 : Hid (Liv S4 w4 s [⟨⟨#[97]⟩, [3, 4], 2⟩] 6) := by
    have e : setO [(⟨⟨#[97]⟩, [1, 2], 1⟩ : OEnt)] ⟨⟨#[97]⟩, [3, 4], 1 + 1⟩ = [⟨⟨#[97]⟩, [3, 4], 2⟩] := set_one _ _ rfl
    rw [e] at L4
    exact L4
  clear x4 hc4 L3 hS3 G3 hP
  have hN := liv_putIf_no L4.out ⟨#[97]⟩ key_a none 0 0 (by omega) 1 (by rw [show genO [(⟨⟨#[97]⟩, [3, 4], 2⟩ : OEnt)] ⟨#[97]⟩ = 2 from gen_one _]; decide)
  rw [show genO [(⟨⟨#[97]⟩, [3, 4], 2⟩ : OEnt)] ⟨#[97]⟩ = 2 from gen_one _] at hN
  go_wp2_with fail
  refine hN.mono ?_
  rintro e w5 ⟨rfl, g5⟩
  have L5 := Lib.hid (L4.out.grew g5)
  have G5 := G4.trans g5
  clear hN L4 G4 g5
  have hG := liv_get L5.out ⟨#[97]⟩ key_a
  rw [show lookO [(⟨⟨#[97]⟩, [3, 4], 2⟩ : OEnt)] ⟨#[97]⟩ = some ⟨⟨#[97]⟩, [3, 4], 2⟩ from look_one _] at hG
  go_wp2_with fail
  refine hG.mono ?_
  rintro e w6 ⟨X, cx, rfl, hX, _, hXb, g6⟩
  have hX : RB w6 X 2 [3, 4] := hX
  have L6 := Lib.hid (L5.out.grew g6)
  have G6 := G5.trans g6
  have hSl := liv_slice L6.out ⟨#[97]⟩ key_a (show lookO [(⟨⟨#[97]⟩, [3, 4], 2⟩ : OEnt)] ⟨#[97]⟩ = some ⟨⟨#[97]⟩, [3, 4], 2⟩ from look_one _) 1 2 (by omega) (by decide)
  clear hG L5
  go_wp2_with fail
  refine hSl.mono ?_
  rintro e w7 ⟨Y, cy, rfl, hY, g7⟩
  have hY : RB w7 Y 1 [4] := hY.rb
  have hX := hX.grew g7
  have L7 := Lib.hid (L6.out.grew g7)
  have G7 := G6.trans g7
  have hLi := liv_list L7.out (by simp) ⟨#[]⟩ (by decide)
  rw [show keysO [(⟨⟨#[97]⟩, [3, 4], 2⟩ : OEnt)] ⟨#[]⟩ = [⟨#[97]⟩] from keys_one _] at hLi
  clear hSl L6
  go_wp2_with fail
  refine hLi.mono ?_
  rintro e w8 ⟨Z, cz, rfl, hZ, g8⟩
  have hZ : RE elNm w8 Z 1 [⟨#[97]⟩] := hZ.re (by decide)
  have hX := hX.grew g8
  have hY := hY.grew g8
  have L8 := Lib.hid (L7.out.grew g8)
  have G8 := G7.trans g8
  clear hLi L7
  go_wp2_with fail
  refine (sameBytes_yes X _ 2 2 cx 2 [3, 4] _ (by exact hX.grew ((Chg.refl _ w8).alloc _)) (by exact RB.newAt rfl rfl rfl) (by omega) (by omega)).mono ?_
  rintro e w9 ⟨rfl, k, rfl⟩
  have g9 : Grew w8 ((w8.alloc (.cells #[.int .u8 3, .int .u8 4] 5)).drewN k) := ((Chg.refl _ w8).alloc _).drewN k
  generalize ((w8.alloc (.cells #[.int .u8 3, .int .u8 4] 5)).drewN k) = w9 at *
  go_wp2_with fail
  refine (sameBytes_yes Y _ 1 1 cy 1 [4] _ (by exact (hY.grew g9).grew ((Chg.refl _ w9).alloc _)) (by exact RB.newAt rfl rfl rfl) (by omega) (by omega)).mono ?_
  rintro e w10 ⟨rfl, k2, rfl⟩
  have g10 : Grew w8 ((w9.alloc (.cells #[.int .u8 4] 5)).drewN k2) := (g9.alloc _).drewN k2
  generalize ((w9.alloc (.cells #[.int .u8 4] 5)).drewN k2) = w10 at *
  go_wp2_with fail
  refine (sameTexts_any Z _ 1 1 cz 1 [⟨#[97]⟩] [⟨#[97]⟩] _ (by exact (hZ.grew g10).grew ((Chg.refl _ w10).alloc _)) (by exact RE.newAt rfl rfl rfl) (by omega) (by omega)).mono ?_
  rintro e w11 ⟨rfl, k3, rfl⟩
  have g11 : Grew w8 ((w10.alloc (.cells #[.string ⟨#[97]⟩] 9)).drewN k3) := (g10.alloc _).drewN k3
  generalize ((w10.alloc (.cells #[.string ⟨#[97]⟩] 9)).drewN k3) = w11 at *
  have L11 := L8.out.grew g11
  have hD := liv_delete L11 (by omega) (i := 0) (o := ⟨⟨#[97]⟩, [3, 4], 2⟩) rfl
  have L11 := Lib.hid L11
  simp only [decide_true]
  go_wp2_with fail
  refine hD.mono ?_
  rintro e w12 ⟨rfl, L12, hc12⟩
  have G12 : Grew w w12 := liv_grow (G8.trans g11) hc12 hS4.out
  have hE := liv_delete_none L12 ⟨#[97]⟩ key_a (by simp)
  clear hD
  have L12 := Lib.hid L12
  go_wp2_with fail
  refine hE.mono ?_
  rintro e w13 ⟨rfl, rfl⟩
  go_wp2
  go_ret
  exact ⟨by simp, G12⟩
end Go.Proofs.Ytepncgeaehjhiaa
