/-
  Several texts in one:
  Names of labels; points that rise. Conditions: none.
  The form of a list of labels; points that rise. Conditions: none.
-/
import Derived.Test.YtjgbdkokcgcpjaaDoorPart11
import Derived.Test.YtjgbdkokcgcpjaaDoorPart13
import Derived.Test.YtjgbdkokcgcpjaaDoorPart12

namespace Go.Proofs.YtjgbdkokcgcpjaaDoor
open Go.RowKit

def nmc (z : Nat) : Prop := z = 95 ∨ (48 ≤ z ∧ z ≤ 57) ∨ (65 ≤ z ∧ z ≤ 90) ∨ (97 ≤ z ∧ z ≤ 122)
instance (z : Nat) : Decidable (nmc z) := by unfold nmc; infer_instance
def nameL (x : ByteArray) : Bool := decide (0 < x.size) && decide (x.size ≤ 64) && (match x.data.toList with | c :: _ => decide ¬(48 ≤ c.toNat ∧ c.toNat ≤ 57) | [] => false) && x.data.toList.all fun c => decide (nmc c.toNat)

theorem data_len (x : ByteArray) : x.data.toList.length = x.size := by rw [Array.length_toList]; rfl
theorem data_get (x : ByteArray) (i : Nat) (h : i < x.size) : x.data.toList[i]? = some (x[i]'h) := by
  rw [Array.getElem?_toList]
  exact Array.getElem?_eq_getElem _

set_option maxHeartbeats 4000000 in
theorem lname_any (x : ByteArray) (w : World) : Calls Tryd.prog 58 #[.string x] w fun e w' => e = .returned (.bool (nameL x)) ∧ w = w' := by
  obtain ⟨n, hn⟩ : ∃ n, x.size = n := ⟨_, rfl⟩
  by_cases h0 : n = 0
  · obtain rfl : x = ⟨#[]⟩ := data_inj (List.eq_nil_of_length_eq_zero (by rw [data_len]; omega))
    clear h0
    go_enter Tryd.func58, Tryd.ntmps58
    go_wp2
    go_ret
    exact ⟨by simp [nameL], rfl⟩
  have hne : (x.toList == ([] : List UInt8)) = false := by
    rw [beq_eq_false_iff_ne, ByteArray.toList_eq]
    intro e
    have := data_len x
    rw [e] at this
    simp at this
    omega
  have hnil : ¬ x.toList = [] := by simpa using hne
  have hem : x.toList.isEmpty = false := by
    cases h : x.toList with
    | nil => exact absurd h hnil
    | cons a b => rfl
  by_cases h64 : 64 < n
  · have hF : nameL x = false := by
      unfold nameL
      rw [hn, decide_eq_false (p := n ≤ 64) (by omega)]
      simp
    rw [hF]
    have e64 : decide ((64 : Int) < (n : Int)) = true := decide_eq_true (by omega)
    clear hF h0 h64
    go_enter Tryd.func58, Tryd.ntmps58
    go_wp2
    go_ret
    exact ⟨by simp, rfl⟩
  have e64 : decide ((64 : Int) < (n : Int)) = false := decide_eq_false (by omega)
  obtain ⟨fn, hfn⟩ : ∃ fn : Nat, (x[0]'(by omega)).toNat = fn := ⟨_, rfl⟩
  have hf0 : ∀ h, ((x[0]'h).toNat : Int) = (fn : Int) := fun h => by rw [← hfn]
  have hfb : fn ≤ 255 := by
    have := (x[0]'(by omega)).toNat_lt
    omega
  have h64' : n ≤ 64 := by omega
  have hn0 : 0 < n := by omega
  have hB : Hid (nameL x = true ↔ ¬(48 ≤ fn ∧ fn ≤ 57) ∧ ∀ (i : Nat) (h : i < x.size), nmc (x[i]'h).toNat) := by
    have hhead : (match x.data.toList with | c :: _ => decide ¬(48 ≤ c.toNat ∧ c.toNat ≤ 57) | [] => false) = decide ¬(48 ≤ fn ∧ fn ≤ 57) := by
      have h9 := data_get x 0 (by omega)
      cases hd : x.data.toList with
      | nil => rw [hd] at h9; cases h9
      | cons c r =>
        rw [hd] at h9
        injection h9 with h9
        simp only
        rw [h9, hfn]
    show _ ↔ _
    unfold nameL
    have p1 : decide (0 < x.size) = true := decide_eq_true (by omega)
    have p2 : decide (x.size ≤ 64) = true := decide_eq_true (by omega)
    rw [hhead, p1, p2]
    simp only [Bool.true_and, Bool.and_eq_true, decide_eq_true_eq, List.all_eq_true]
    refine and_congr_right fun _ => ⟨fun h i hi => h _ (List.mem_of_getElem? (data_get x i hi)), fun h c hc => ?_⟩
    obtain ⟨i, hi⟩ := List.getElem?_of_mem hc
    have hil : i < x.size := by
      have := (List.getElem?_eq_some_iff.1 hi).1
      rwa [data_len] at this
    rw [data_get x i hil] at hi
    injection hi with hi
    subst hi
    exact h i hil
  obtain ⟨b, hb⟩ : ∃ b, nameL x = b := ⟨_, rfl⟩
  rw [hb] at hB ⊢
  clear h0 h64 hb hfn
  by_cases hdig : 48 ≤ fn ∧ fn ≤ 57
  · have d1 : decide ((48 : Int) ≤ (fn : Int)) = true := decide_eq_true (by omega)
    have d2 : decide ((fn : Int) ≤ 57) = true := decide_eq_true (by omega)
    have hbf : b = false := by
      cases b with
      | false => rfl
      | true => exact absurd hdig (hB.out.1 rfl).1
    subst hbf
    clear hdig
    go_enter Tryd.func58, Tryd.ntmps58
    go_wp2
    go_ret
    exact ⟨by simp, rfl⟩
  have hnd : Hid (¬(48 ≤ fn ∧ fn ≤ 57)) := hdig
  have hdd : decide ((48 : Int) ≤ (fn : Int)) = false ∨ (decide ((48 : Int) ≤ (fn : Int)) = true ∧ decide ((fn : Int) ≤ 57) = false) := by
    by_cases h1 : 48 ≤ fn
    · exact .inr ⟨decide_eq_true (by omega), decide_eq_false (by omega)⟩
    · exact .inl (decide_eq_false (by omega))
  clear hdig
  go_enter Tryd.func58, Tryd.ntmps58
  rcases hdd with d1 | ⟨d1, d2⟩
  all_goals
    go_wp2
    go_loopw [3] (fun si wr => ∃ j : Nat, si = .int .i64 (j : Int) ∧ j ≤ n ∧ w = wr ∧ Hid (∀ (i : Nat) (h : i < x.size), i < j → nmc (x[i]'h).toNat)) (fun si _ => n - (intOf si).toNat)
    case atStart => exact ⟨0, rfl, by omega, rfl, fun i h h' => by omega⟩
    case round =>
      obtain ⟨j, rfl, hj, rfl, Hok⟩ := hrel
      by_cases hlt : j < n
      · obtain ⟨zn, hzn⟩ : ∃ zn : Nat, (x[j]'(by omega)).toNat = zn := ⟨_, rfl⟩
        have hzb : zn ≤ 255 := by
          have := (x[j]'(by omega)).toNat_lt
          omega
        have hz : ∀ h, ((x[j]'h).toNat : Int) = (zn : Int) := fun h => by rw [← hzn]
        clear hf0 d1
        by_cases hc : nmc zn
        · have Hok' : Hid (∀ (i : Nat) (h : i < x.size), i < j + 1 → nmc (x[i]'h).toNat) := fun i h h' => by
            by_cases hij : i = j
            · subst hij
              rw [hzn]
              exact hc
            · exact Hok.out i h (by omega)
          unfold nmc at hc
          clear hzn
          rcases hc with rfl | ⟨k1, k2⟩ | ⟨k1, k2⟩ | ⟨k1, k2⟩
          · go_wp2
            go_roundw
            case rel => exact ⟨j + 1, by go_num, by omega, trivial, Hok'⟩
            case measure => simp [intOf]; omega
          · have t0 : ((zn : Int) != 95) = true := by simp; omega
            have t1 : decide ((zn : Int) < 48) = false := decide_eq_false (by omega)
            have t2 : decide ((57 : Int) < (zn : Int)) = false := decide_eq_false (by omega)
            go_wp2
            go_roundw
            case rel => exact ⟨j + 1, by go_num, by omega, trivial, Hok'⟩
            case measure => simp [intOf]; omega
          · have t0 : ((zn : Int) != 95) = true := by simp; omega
            have t1 : decide ((zn : Int) < 48) = false := decide_eq_false (by omega)
            have t2 : decide ((57 : Int) < (zn : Int)) = true := decide_eq_true (by omega)
            have t3 : decide ((zn : Int) < 65) = false := decide_eq_false (by omega)
            have t4 : decide ((90 : Int) < (zn : Int)) = false := decide_eq_false (by omega)
            go_wp2
            go_roundw
            case rel => exact ⟨j + 1, by go_num, by omega, trivial, Hok'⟩
            case measure => simp [intOf]; omega
          · have t0 : ((zn : Int) != 95) = true := by simp; omega
            have t1 : decide ((zn : Int) < 48) = false := decide_eq_false (by omega)
            have t2 : decide ((57 : Int) < (zn : Int)) = true := decide_eq_true (by omega)
            have t3 : decide ((zn : Int) < 65) = false := decide_eq_false (by omega)
            have t4 : decide ((90 : Int) < (zn : Int)) = true := decide_eq_true (by omega)
            have t5 : decide ((zn : Int) < 97) = false := decide_eq_false (by omega)
            have t6 : decide ((122 : Int) < (zn : Int)) = false := decide_eq_false (by omega)
            go_wp2
            go_roundw
            case rel => exact ⟨j + 1, by go_num, by omega, trivial, Hok'⟩
            case measure => simp [intOf]; omega
        · have hbf : b = false := by
            cases b with
            | false => rfl
            | true => exact absurd (hzn ▸ (hB.out.1 rfl).2 j (by omega)) hc
          subst hbf
          unfold nmc at hc
          have t0 : ((zn : Int) != 95) = true := by simp; omega
          clear hzn
          have hcase : zn < 48 ∨ (57 < zn ∧ zn < 65) ∨ (90 < zn ∧ zn < 97) ∨ 122 < zn := by omega
          rcases hcase with h1 | h1 | h1 | h1
          · have t1 : decide ((zn : Int) < 48) = true := decide_eq_true (by omega)
            have t3 : decide ((zn : Int) < 65) = true := decide_eq_true (by omega)
            have t5 : decide ((zn : Int) < 97) = true := decide_eq_true (by omega)
            clear hc h1
            go_wp2
            go_ret
            exact ⟨by simp, rfl⟩
          · have t1 : decide ((zn : Int) < 48) = false := decide_eq_false (by omega)
            have t2 : decide ((57 : Int) < (zn : Int)) = true := decide_eq_true (by omega)
            have t3 : decide ((zn : Int) < 65) = true := decide_eq_true (by omega)
            have t5 : decide ((zn : Int) < 97) = true := decide_eq_true (by omega)
            clear hc h1
            go_wp2
            go_ret
            exact ⟨by simp, rfl⟩
          · have t1 : decide ((zn : Int) < 48) = false := decide_eq_false (by omega)
            have t2 : decide ((57 : Int) < (zn : Int)) = true := decide_eq_true (by omega)
            have t3 : decide ((zn : Int) < 65) = false := decide_eq_false (by omega)
            have t4 : decide ((90 : Int) < (zn : Int)) = true := decide_eq_true (by omega)
            have t5 : decide ((zn : Int) < 97) = true := decide_eq_true (by omega)
            clear hc h1
            go_wp2
            go_ret
            exact ⟨by simp, rfl⟩
          · have t1 : decide ((zn : Int) < 48) = false := decide_eq_false (by omega)
            have t2 : decide ((57 : Int) < (zn : Int)) = true := decide_eq_true (by omega)
            have t3 : decide ((zn : Int) < 65) = false := decide_eq_false (by omega)
            have t4 : decide ((90 : Int) < (zn : Int)) = true := decide_eq_true (by omega)
            have t5 : decide ((zn : Int) < 97) = false := decide_eq_false (by omega)
            have t6 : decide ((122 : Int) < (zn : Int)) = true := decide_eq_true (by omega)
            clear hc h1
            go_wp2
            go_ret
            exact ⟨by simp, rfl⟩
      · obtain rfl : j = n := by omega
        have hbt : b = true := hB.out.2 ⟨hnd.out, fun i h => Hok.out i h (by omega)⟩
        subst hbt
        go_wp2
        go_ret
        exact ⟨by simp, rfl⟩
end Go.Proofs.YtjgbdkokcgcpjaaDoor

namespace Go.Proofs.YtjgbdkokcgcpjaaDoor
open Go.RowKit

def txtB (v : ByteArray) : Bool := decide (0 < v.size) && decide (v.size ≤ 256) && vld 0 128 191 v.data.toList
def upB (l : ByteArray) : Option ByteArray → Bool
  | some p => decide (l.data.toList ≤ p.data.toList)
  | none => false
def chkG : Option ByteArray → List Lab → Nat
  | _, [] => 0
  | prev, l :: r => if nameL l.1 = false then 31 else if txtB l.2 = false then 32 else if upB l.1 prev = true then 33 else chkG (some l.1) r
theorem chkG_cons (prev : Option ByteArray) (l : Lab) (r : List Lab) : chkG prev (l :: r) = if nameL l.1 = false then 31 else if txtB l.2 = false then 32 else if upB l.1 prev = true then 33 else chkG (some l.1) r := rfl
def chkL (ls : List Lab) : Nat := if 16 < ls.length then 30 else chkG none ls
def prevL (ls : List Lab) (k : Nat) : Option ByteArray := if k = 0 then none else (ls[k - 1]?).map Prod.fst

theorem less_eq : ∀ (x y : List UInt8), Op.bytesLess x y = decide (x < y)
  | [], [] => by simp [Op.bytesLess]
  | _ :: _, [] => by simp [Op.bytesLess]
  | [], _ :: _ => by simp [Op.bytesLess]
  | a :: x, b :: y => by
    rw [Op.bytesLess, less_eq x y]
    by_cases h : a = b
    · subst h
      simp
    · simp [List.cons_lt_cons_iff, h]
theorem leqT (a b : ByteArray) : (Op.bytesLess a.toList b.toList || a.toList == b.toList) = decide (a.data.toList ≤ b.data.toList) := by
  rw [ByteArray.toList_eq, ByteArray.toList_eq, less_eq, Bool.eq_iff_iff]
  simp only [Bool.or_eq_true, decide_eq_true_eq, beq_iff_eq]
  constructor
  · rintro (h | h)
    · exact List.le_of_lt h
    · rw [h]
      exact List.le_refl _
  · intro h
    by_cases he : a.data.toList = b.data.toList
    · exact .inr he
    · refine .inl ?_
      by_cases hl : a.data.toList < b.data.toList
      · exact hl
      · exact absurd (List.le_antisymm h (List.not_lt.1 hl)) he

set_option maxRecDepth 100000 in
set_option maxHeartbeats 4000000 in
theorem chk_any (A : Option Addr) (n c : Nat) (ls : List Lab) (w : World) (h : RE elLb w A n ls) (hn : n ≤ 9223372036854775807) :
    Calls Tryd.prog 34 #[.slice A n c] w fun e w' => e = .returned (.int .i64 (chkL ls : Int)) ∧ Grew w w' := by
  have hln := h.1
  unfold chkL
  rw [hln]
  by_cases h16 : 16 < n
  · rw [if_pos h16]
    have e0 : decide ((16 : Int) < (n : Int)) = true := decide_eq_true (by omega)
    clear h16
    go_enter Tryd.func34, Tryd.ntmps34
    go_wp2
    go_ret
    exact ⟨by simp, Chg.refl _ _⟩
  rw [if_neg h16]
  have e0 : decide ((16 : Int) < (n : Int)) = false := decide_eq_false (by omega)
  have hn16 : n ≤ 16 := by omega
  obtain ⟨z, hz⟩ : ∃ z, chkG none ls = z := ⟨_, rfl⟩
  rw [hz]
  have hz0 : Hid (z = chkG (prevL ls 0) (ls.drop 0)) := hz.symm
  clear h16 hz
  go_enter Tryd.func34, Tryd.ntmps34
  go_wp2
  go_loopw [10] (fun i wr => ∃ k : Nat, k ≤ n ∧ i = .int .i64 (k : Int) ∧ Hid (z = chkG (prevL ls k) (ls.drop k)) ∧ Grew w wr) (fun i _ => n - (intOf i).toNat)
  case atStart => exact ⟨0, by omega, rfl, hz0, Chg.refl _ _⟩
  case round =>
    obtain ⟨k, hk, rfl, hc, hg⟩ := hrel
    by_cases hlt : k < n
    · obtain ⟨ad, x, rfl, hx, x0, x1⟩ := (h.grew hg).lb hlt
      have hxd : ls.drop k = x :: ls.drop (k + 1) := by
        obtain ⟨h1, h2⟩ := List.getElem?_eq_some_iff.1 hx
        rw [List.drop_eq_getElem_cons h1, h2]
      have hv := hc.out
      rw [hxd, chkG_cons] at hv
      have hpn : prevL ls (k + 1) = some x.1 := by
        unfold prevL
        rw [if_neg (by omega), Nat.add_sub_cancel, hx]
        rfl
      rw [← hpn] at hv
      have hgW : Grew w (wr.alloc (.cells #[.string x.1, .string x.2] 67)) := hg.alloc _
      have hN := fun w => lname_any x.1 w
      have hV := fun w (hs : x.2.size ≤ 256) => valid_any x.2 w hs
      obtain ⟨vn, hvn⟩ : ∃ vn, x.2.size = vn := ⟨_, rfl⟩
      clear hc hxd hpn
      go_wp2_with fail
      refine (hN _).mono ?_
      rintro e w1 ⟨rfl, rfl⟩
      cases hnm : nameL x.1
      · rw [hnm, if_pos rfl] at hv
        have hv := Lib.hid hv
        clear hN hV
        go_wp2
        go_ret
        exact ⟨by rw [hv.out]; simp, hgW⟩
      rw [hnm, if_neg (by simp)] at hv
      unfold txtB at hv
      rw [hvn] at hv
      by_cases hv0 : vn = 0
      · rw [decide_eq_false (p := 0 < vn) (by omega)] at hv
        simp only [Bool.false_and, if_true] at hv
        have hv := Lib.hid hv
        have hem : (x.2.toList == ([] : List UInt8)) = true := by
          rw [beq_iff_eq, ByteArray.toList_eq]
          exact List.eq_nil_of_length_eq_zero (by rw [data_len]; omega)
        have hem2 : x.2.toList = [] := by simpa using hem
        have hem3 : x.2.toList.isEmpty = true := by rw [hem2]; rfl
        clear hN hV
        go_wp2
        go_ret
        exact ⟨by rw [hv.out]; simp, hgW⟩
      have hem : x.2.toList.isEmpty = false := by
        cases hq : x.2.toList with
        | nil =>
          have := data_len x.2
          rw [← ByteArray.toList_eq, hq] at this
          simp at this
          omega
        | cons p q => rfl
      have hem2 : ¬ x.2.toList = [] := fun e => by rw [e] at hem; cases hem
      rw [decide_eq_true (p := 0 < vn) (by omega), Bool.true_and] at hv
      by_cases hv256 : 256 < vn
      · rw [decide_eq_false (p := vn ≤ 256) (by omega), Bool.false_and, if_pos rfl] at hv
        have hv := Lib.hid hv
        have e2 : decide ((256 : Int) < (vn : Int)) = true := decide_eq_true (by omega)
        clear hN hV
        go_wp2
        go_ret
        exact ⟨by rw [hv.out]; simp, hgW⟩
      rw [decide_eq_true (p := vn ≤ 256) (by omega), Bool.true_and] at hv
      have e2 : decide ((256 : Int) < (vn : Int)) = false := decide_eq_false (by omega)
      go_wp2_with fail
      refine (hV _ (by omega)).mono ?_
      rintro e w1 ⟨rfl, rfl⟩
      clear hN hV
      cases hvl : vld 0 128 191 x.2.data.toList
      · rw [hvl, if_pos rfl] at hv
        have hv := Lib.hid hv
        go_wp2
        go_ret
        exact ⟨by rw [hv.out]; simp, hgW⟩
      rw [hvl, if_neg (by simp)] at hv
      clear hvl hnm
      rcases k with _ | k
      · rw [show upB x.1 (prevL ls 0) = false from rfl, if_neg (by simp)] at hv
        have hv := Lib.hid hv
        clear hx
        go_wp2_with fail
        refine wp_region_text [(9, 2), (3, 1)] (by kernel_rfl) (by kernel_rfl) ?_
        simp only [instr, chk, look, Nat.reduceBEq, if_true, if_false, Nat.reduceEqDiff, List.cons_append, List.nil_append]
        go_wp2_with fail
        refine OnlyN.normal ?_
        go_wp2
        go_roundw
        case rel => exact ⟨1, by omega, by go_num, hv, hgW.drew⟩
        case measure => simp [intOf]; omega
      · obtain ⟨pd, y, hpe, hy, y0, y1⟩ := (h.grew hgW).lb (show k < n by omega)
        injection hpe with hpe
        subst hpe
        have hpl : prevL ls (k + 1) = some y.1 := by
          unfold prevL
          rw [if_neg (by omega), Nat.add_sub_cancel, hy]
          rfl
        rw [hpl] at hv
        have hleq := leqT x.1 y.1
        rw [show upB x.1 (some y.1) = decide (x.1.data.toList ≤ y.1.data.toList) from rfl] at hv
        generalize decide (x.1.data.toList ≤ y.1.data.toList) = b at *
        clear hx hy hpl
        cases b
        · rw [if_neg (by simp)] at hv
          have hv := Lib.hid hv
          go_wp2_with fail
          refine wp_region_text [(9, 2), (3, 1)] (by kernel_rfl) (by kernel_rfl) ?_
          simp only [instr, chk, look, Nat.reduceBEq, if_true, if_false, Nat.reduceEqDiff, List.cons_append, List.nil_append]
          go_wp2_with fail
          refine OnlyN.normal ?_
          go_wp2
          go_roundw
          case rel => exact ⟨k + 1 + 1, by omega, by go_num, hv, hgW.drew⟩
          case measure => simp [intOf]; omega
        · rw [if_pos rfl] at hv
          have hv := Lib.hid hv
          go_wp2_with fail
          refine wp_region_text [(9, 2), (3, 1)] (by kernel_rfl) (by kernel_rfl) ?_
          simp only [instr, chk, look, Nat.reduceBEq, if_true, if_false, Nat.reduceEqDiff, List.cons_append, List.nil_append]
          go_wp2_with fail
          refine OnlyN.normal ?_
          go_wp2
          go_ret
          exact ⟨by rw [hv.out]; simp, hgW.drew⟩
    · obtain rfl : k = n := by omega
      have hv := hc.out
      rw [List.drop_of_length_le (by omega), chkG] at hv
      have hv := Lib.hid hv
      clear hc
      go_wp2
      go_ret
      exact ⟨by rw [hv.out]; simp, hg⟩
end Go.Proofs.YtjgbdkokcgcpjaaDoor
