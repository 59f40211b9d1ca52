/-
  Several texts in one:
  Lists of points: CopyPoints, SamePoints, LendPoints, KeptPoints, SpoilPoints: what each call does. Conditions: lengths that memory bears.
  Names of labels; points that rise. Conditions: none.
  The form of a list of labels; points that rise. Conditions: none.
  Series in memory; points that rise. Conditions: none.
  The form of a list of series. Conditions: none.
  Package bits: what each call does, told by lists of bits. Conditions: lengths that memory bears.
-/
import Derived.Test.YtlcaaacbookopaaGreatDoorPart3
import Derived.Test.YtlcaaacbookopaaGreatDoorPart6
import Derived.Test.YtlcaaacbookopaaGreatDoorPart8
import Derived.Test.YtlcaaacbookopaaGreatDoorPart14
import Derived.Test.YtlcaaacbookopaaGreatDoorPart15
import Derived.Test.YtlcaaacbookopaaGreatDoorPart7
import Derived.Test.YtlcaaacbookopaaGreatDoorPart2

namespace Go.Proofs.YtlcaaacbookopaaGreatDoor
open Go.RowKit

/-- a point in cells -/
def elPt : El (Int × Nat) := ⟨fun p => [.int .i64 p.1, .int .u64 (p.2 : Int)], 2, fun _ => rfl, by
  intro x u hu
  simp only [List.mem_cons, List.not_mem_nil, or_false] at hu
  rcases hu with rfl | rfl <;> rfl⟩

theorem infoPt : (Tryz.prog.info? 82).map (fun i => (i.zero, i.size, i.bytes)) = some (some (.agg #[.int .i64 0, .int .u64 0]), 2, 16) := by kernel_rfl

theorem RE.pt {w : World} {A : Option Addr} {n : Nat} {l : List (Int × Nat)} (h : RE elPt w A n l) {k : Nat} (hk : k < n) :
    ∃ ad p, A = some ad ∧ l[k]? = some p ∧ w.cell? (ad.add (k * 2)) = some (.int .i64 p.1) ∧ w.cell? ⟨(ad.add (k * 2)).block, (ad.add (k * 2)).off + 1, none⟩ = some (.int .u64 (p.2 : Int)) := by
  obtain ⟨ad, p, e, hp, hc⟩ := h.at_ hk (by decide)
  exact ⟨ad, p, e, hp, hc 0 _ rfl, cell_off (by decide) (hc 1 _ rfl)⟩

theorem RE.pt0 {w : World} {A : Option Addr} {n : Nat} {l : List (Int × Nat)} (h : RE elPt w A n l) (hn : 0 < n) :
    ∃ ad p, A = some ad ∧ l[0]? = some p ∧ w.cell? ad = some (.int .i64 p.1) ∧ w.cell? ⟨ad.block, ad.off + 1, none⟩ = some (.int .u64 (p.2 : Int)) := by
  obtain ⟨ad, p, e, hp, h1, h2⟩ := h.pt hn
  have e0 : ad.add (0 * 2) = ad := rfl
  rw [e0] at h1 h2
  exact ⟨ad, p, e, hp, h1, h2⟩

set_option maxHeartbeats 400000 in
theorem samePoints_any (A B : Option Addr) (n m c d : Nat) (l r : List (Int × Nat)) (w : World) (ha : RE elPt w A n l) (hb : RE elPt w B m r) (hn : n ≤ 9223372036854775807) (hm : m ≤ 9223372036854775807) :
    Calls Tryz.prog 57 #[.slice A n c, .slice B m d] w fun e w' => e = .returned (.bool (decide (l = r))) ∧ ∃ k, w' = w.drewN k := by
  by_cases hnm : n = m
  · subst hnm
    go_enter Tryz.func57, Tryz.ntmps57
    go_wp2
    go_loopw [5] (fun i wr => ∃ k : Nat, k ≤ n ∧ i = .int .i64 k ∧ l.take k = r.take k ∧ ∃ j, wr = w.drewN j) (fun i _ => n - (intOf i).toNat)
    case atStart => exact ⟨0, Nat.zero_le _, rfl, rfl, 0, rfl⟩
    case round =>
      obtain ⟨k, hk, rfl, ht, j, rfl⟩ := hrel
      by_cases hlt : k < n
      · obtain ⟨ad, x, rfl, hx, hcx1, hcx2⟩ := ha.pt hlt
        obtain ⟨bd, y, rfl, hy, hcy1, hcy2⟩ := hb.pt hlt
        by_cases hxy : x = y
        · subst hxy
          have hst := Lib.hid (take_step ht hx hy)
          clear ht hx hy
          go_wp2
          refine wp_region_text [(3, 1)] (by kernel_rfl) (by kernel_rfl) ?_
          simp only [instr, chk, look, Nat.reduceBEq, Bool.false_eq_true, if_true, if_false, Nat.reduceEqDiff, List.nil_append]
          go_wp2
          refine OnlyN.normal ?_
          go_wp2
          go_roundw
          case rel => exact ⟨k + 1, by omega, by go_num, hst.out, _, rfl⟩
          case measure => simp [intOf]; omega
        · have hne := Lib.hid (ne_at hx hy hxy)
          have hd : ¬ x.1 = y.1 ∨ (x.1 = y.1 ∧ ¬ ((x.2 : Int) = (y.2 : Int))) := by
            by_cases h1 : x.1 = y.1
            · exact .inr ⟨h1, fun h2 => hxy (Prod.ext h1 (by omega))⟩
            · exact .inl h1
          clear ht hx hy hxy
          rcases hd with h1 | ⟨h1, h2⟩
          all_goals
            go_wp2
            refine wp_region_text [(3, 1)] (by kernel_rfl) (by kernel_rfl) ?_
            simp only [instr, chk, look, Nat.reduceBEq, Bool.false_eq_true, if_true, if_false, Nat.reduceEqDiff, List.nil_append]
            go_wp2
            refine OnlyN.normal ?_
            go_wp2
            go_ret
            exact ⟨by simp [hne.out], _, rfl⟩
      · have hkn : k = n := by omega
        subst hkn
        have h1 : l.take k = l := List.take_of_length_le (by rw [ha.1]; omega)
        have h2 : r.take k = r := List.take_of_length_le (by rw [hb.1]; omega)
        rw [h1, h2] at ht
        have ht := Lib.hid ht
        go_wp2
        go_ret
        exact ⟨by simp [ht.out], _, rfl⟩
  · have hlr : Hid (l ≠ r) := by
      show l ≠ r
      have h1 := ha.1
      have h2 := hb.1
      rintro rfl
      omega
    go_enter Tryz.func57, Tryz.ntmps57
    go_wp2
    go_ret
    exact ⟨by simp [hlr.out], 0, rfl⟩

/-- new memory that holds these points; nothing that was there has turned -/
def NewPt (w : World) (n : Nat) (l : List (Int × Nat)) (e : Ending) (w' : World) : Prop := ∃ A c, e = .returned (.slice A n c) ∧ OE elPt w' w.heap.size 82 A n c l ∧ Grew w w'

set_option maxHeartbeats 400000 in
theorem copyPoints_any (A : Option Addr) (n c : Nat) (l : List (Int × Nat)) (w : World) (h : RE elPt w A n l) (hn : n ≤ 8796093022208) :
    Calls Tryz.prog 53 #[.slice A n c] w (NewPt w n l) := by
  have hown : OE elPt (w.alloc (.cells #[] 82)) w.heap.size 82 (some ⟨w.heap.size, 0, none⟩) 0 0 [] := OE.made w w.heap.size 82 (Nat.le_refl _)
  have hr : RE elPt (w.alloc (.cells #[] 82)) A n l := h.grew ((Chg.refl _ w).alloc _)
  go_enter Tryz.func53, Tryz.ntmps53
  go_wp2_with (at_builtin; refine wpList_appE rfl _ _ 83 82 infoPt rfl Tryz.underlying83 rfl w.heap.size _ 0 0 [] rfl hown (by simp) A n c l rfl hr (by unfold maxLen; omega) (by omega) ?_; intro A' c' w' h1)
  go_ret
  simp only [Nat.zero_add, List.nil_append] at h1
  exact ⟨A', c', by simp, h1.oe, h1.grew ((Chg.refl _ w).alloc _) (head_ge (Nat.le_refl _))⟩

end Go.Proofs.YtlcaaacbookopaaGreatDoor

namespace Go.Proofs.YtlcaaacbookopaaGreatDoor
open Go.RowKit

def nmc (z : Nat) : Prop := z = 95 ∨ (48 ≤ z ∧ z ≤ 57) ∨ (65 ≤ z ∧ z ≤ 90) ∨ (97 ≤ z ∧ z ≤ 122)
instance (z : Nat) : Decidable (nmc z) := by unfold nmc; infer_instance
def nameL (x : ByteArray) : Bool := decide (0 < x.size) && decide (x.size ≤ 64) && (match x.data.toList with | c :: _ => decide ¬(48 ≤ c.toNat ∧ c.toNat ≤ 57) | [] => false) && x.data.toList.all fun c => decide (nmc c.toNat)

theorem data_len (x : ByteArray) : x.data.toList.length = x.size := by rw [Array.length_toList]; rfl
theorem data_get (x : ByteArray) (i : Nat) (h : i < x.size) : x.data.toList[i]? = some (x[i]'h) := by
  rw [Array.getElem?_toList]
  exact Array.getElem?_eq_getElem _

set_option maxHeartbeats 4000000 in
theorem lname_any (x : ByteArray) (w : World) : Calls Tryz.prog 87 #[.string x] w fun e w' => e = .returned (.bool (nameL x)) ∧ w = w' := by
  obtain ⟨n, hn⟩ : ∃ n, x.size = n := ⟨_, rfl⟩
  by_cases h0 : n = 0
  · obtain rfl : x = ⟨#[]⟩ := data_inj (List.eq_nil_of_length_eq_zero (by rw [data_len]; omega))
    clear h0
    go_enter Tryz.func87, Tryz.ntmps87
    go_wp2
    go_ret
    exact ⟨by simp [nameL], rfl⟩
  have hne : (x.toList == ([] : List UInt8)) = false := by
    rw [beq_eq_false_iff_ne, ByteArray.toList_eq]
    intro e
    have := data_len x
    rw [e] at this
    simp at this
    omega
  have hnil : ¬ x.toList = [] := by simpa using hne
  have hem : x.toList.isEmpty = false := by
    cases h : x.toList with
    | nil => exact absurd h hnil
    | cons a b => rfl
  by_cases h64 : 64 < n
  · have hF : nameL x = false := by
      unfold nameL
      rw [hn, decide_eq_false (p := n ≤ 64) (by omega)]
      simp
    rw [hF]
    have e64 : decide ((64 : Int) < (n : Int)) = true := decide_eq_true (by omega)
    clear hF h0 h64
    go_enter Tryz.func87, Tryz.ntmps87
    go_wp2
    go_ret
    exact ⟨by simp, rfl⟩
  have e64 : decide ((64 : Int) < (n : Int)) = false := decide_eq_false (by omega)
  obtain ⟨fn, hfn⟩ : ∃ fn : Nat, (x[0]'(by omega)).toNat = fn := ⟨_, rfl⟩
  have hf0 : ∀ h, ((x[0]'h).toNat : Int) = (fn : Int) := fun h => by rw [← hfn]
  have hfb : fn ≤ 255 := by
    have := (x[0]'(by omega)).toNat_lt
    omega
  have h64' : n ≤ 64 := by omega
  have hn0 : 0 < n := by omega
  have hB : Hid (nameL x = true ↔ ¬(48 ≤ fn ∧ fn ≤ 57) ∧ ∀ (i : Nat) (h : i < x.size), nmc (x[i]'h).toNat) := by
    have hhead : (match x.data.toList with | c :: _ => decide ¬(48 ≤ c.toNat ∧ c.toNat ≤ 57) | [] => false) = decide ¬(48 ≤ fn ∧ fn ≤ 57) := by
      have h9 := data_get x 0 (by omega)
      cases hd : x.data.toList with
      | nil => rw [hd] at h9; cases h9
      | cons c r =>
        rw [hd] at h9
        injection h9 with h9
        simp only
        rw [h9, hfn]
    show _ ↔ _
    unfold nameL
    have p1 : decide (0 < x.size) = true := decide_eq_true (by omega)
    have p2 : decide (x.size ≤ 64) = true := decide_eq_true (by omega)
    rw [hhead, p1, p2]
    simp only [Bool.true_and, Bool.and_eq_true, decide_eq_true_eq, List.all_eq_true]
    refine and_congr_right fun _ => ⟨fun h i hi => h _ (List.mem_of_getElem? (data_get x i hi)), fun h c hc => ?_⟩
    obtain ⟨i, hi⟩ := List.getElem?_of_mem hc
    have hil : i < x.size := by
      have := (List.getElem?_eq_some_iff.1 hi).1
      rwa [data_len] at this
    rw [data_get x i hil] at hi
    injection hi with hi
    subst hi
    exact h i hil
  obtain ⟨b, hb⟩ : ∃ b, nameL x = b := ⟨_, rfl⟩
  rw [hb] at hB ⊢
  clear h0 h64 hb hfn
  by_cases hdig : 48 ≤ fn ∧ fn ≤ 57
  · have d1 : decide ((48 : Int) ≤ (fn : Int)) = true := decide_eq_true (by omega)
    have d2 : decide ((fn : Int) ≤ 57) = true := decide_eq_true (by omega)
    have hbf : b = false := by
      cases b with
      | false => rfl
      | true => exact absurd hdig (hB.out.1 rfl).1
    subst hbf
    clear hdig
    go_enter Tryz.func87, Tryz.ntmps87
    go_wp2
    go_ret
    exact ⟨by simp, rfl⟩
  have hnd : Hid (¬(48 ≤ fn ∧ fn ≤ 57)) := hdig
  have hdd : decide ((48 : Int) ≤ (fn : Int)) = false ∨ (decide ((48 : Int) ≤ (fn : Int)) = true ∧ decide ((fn : Int) ≤ 57) = false) := by
    by_cases h1 : 48 ≤ fn
    · exact .inr ⟨decide_eq_true (by omega), decide_eq_false (by omega)⟩
    · exact .inl (decide_eq_false (by omega))
  clear hdig
  go_enter Tryz.func87, Tryz.ntmps87
  rcases hdd with d1 | ⟨d1, d2⟩
  all_goals
    go_wp2
    go_loopw [3] (fun si wr => ∃ j : Nat, si = .int .i64 (j : Int) ∧ j ≤ n ∧ w = wr ∧ Hid (∀ (i : Nat) (h : i < x.size), i < j → nmc (x[i]'h).toNat)) (fun si _ => n - (intOf si).toNat)
    case atStart => exact ⟨0, rfl, by omega, rfl, fun i h h' => by omega⟩
    case round =>
      obtain ⟨j, rfl, hj, rfl, Hok⟩ := hrel
      by_cases hlt : j < n
      · obtain ⟨zn, hzn⟩ : ∃ zn : Nat, (x[j]'(by omega)).toNat = zn := ⟨_, rfl⟩
        have hzb : zn ≤ 255 := by
          have := (x[j]'(by omega)).toNat_lt
          omega
        have hz : ∀ h, ((x[j]'h).toNat : Int) = (zn : Int) := fun h => by rw [← hzn]
        clear hf0 d1
        by_cases hc : nmc zn
        · have Hok' : Hid (∀ (i : Nat) (h : i < x.size), i < j + 1 → nmc (x[i]'h).toNat) := fun i h h' => by
            by_cases hij : i = j
            · subst hij
              rw [hzn]
              exact hc
            · exact Hok.out i h (by omega)
          unfold nmc at hc
          clear hzn
          rcases hc with rfl | ⟨k1, k2⟩ | ⟨k1, k2⟩ | ⟨k1, k2⟩
          · go_wp2
            go_roundw
            case rel => exact ⟨j + 1, by go_num, by omega, trivial, Hok'⟩
            case measure => simp [intOf]; omega
          · have t0 : ((zn : Int) != 95) = true := by simp; omega
            have t1 : decide ((zn : Int) < 48) = false := decide_eq_false (by omega)
            have t2 : decide ((57 : Int) < (zn : Int)) = false := decide_eq_false (by omega)
            go_wp2
            go_roundw
            case rel => exact ⟨j + 1, by go_num, by omega, trivial, Hok'⟩
            case measure => simp [intOf]; omega
          · have t0 : ((zn : Int) != 95) = true := by simp; omega
            have t1 : decide ((zn : Int) < 48) = false := decide_eq_false (by omega)
            have t2 : decide ((57 : Int) < (zn : Int)) = true := decide_eq_true (by omega)
            have t3 : decide ((zn : Int) < 65) = false := decide_eq_false (by omega)
            have t4 : decide ((90 : Int) < (zn : Int)) = false := decide_eq_false (by omega)
            go_wp2
            go_roundw
            case rel => exact ⟨j + 1, by go_num, by omega, trivial, Hok'⟩
            case measure => simp [intOf]; omega
          · have t0 : ((zn : Int) != 95) = true := by simp; omega
            have t1 : decide ((zn : Int) < 48) = false := decide_eq_false (by omega)
            have t2 : decide ((57 : Int) < (zn : Int)) = true := decide_eq_true (by omega)
            have t3 : decide ((zn : Int) < 65) = false := decide_eq_false (by omega)
            have t4 : decide ((90 : Int) < (zn : Int)) = true := decide_eq_true (by omega)
            have t5 : decide ((zn : Int) < 97) = false := decide_eq_false (by omega)
            have t6 : decide ((122 : Int) < (zn : Int)) = false := decide_eq_false (by omega)
            go_wp2
            go_roundw
            case rel => exact ⟨j + 1, by go_num, by omega, trivial, Hok'⟩
            case measure => simp [intOf]; omega
        · have hbf : b = false := by
            cases b with
            | false => rfl
            | true => exact absurd (hzn ▸ (hB.out.1 rfl).2 j (by omega)) hc
          subst hbf
          unfold nmc at hc
          have t0 : ((zn : Int) != 95) = true := by simp; omega
          clear hzn
          have hcase : zn < 48 ∨ (57 < zn ∧ zn < 65) ∨ (90 < zn ∧ zn < 97) ∨ 122 < zn := by omega
          rcases hcase with h1 | h1 | h1 | h1
          · have t1 : decide ((zn : Int) < 48) = true := decide_eq_true (by omega)
            have t3 : decide ((zn : Int) < 65) = true := decide_eq_true (by omega)
            have t5 : decide ((zn : Int) < 97) = true := decide_eq_true (by omega)
            clear hc h1
            go_wp2
            go_ret
            exact ⟨by simp, rfl⟩
          · have t1 : decide ((zn : Int) < 48) = false := decide_eq_false (by omega)
            have t2 : decide ((57 : Int) < (zn : Int)) = true := decide_eq_true (by omega)
            have t3 : decide ((zn : Int) < 65) = true := decide_eq_true (by omega)
            have t5 : decide ((zn : Int) < 97) = true := decide_eq_true (by omega)
            clear hc h1
            go_wp2
            go_ret
            exact ⟨by simp, rfl⟩
          · have t1 : decide ((zn : Int) < 48) = false := decide_eq_false (by omega)
            have t2 : decide ((57 : Int) < (zn : Int)) = true := decide_eq_true (by omega)
            have t3 : decide ((zn : Int) < 65) = false := decide_eq_false (by omega)
            have t4 : decide ((90 : Int) < (zn : Int)) = true := decide_eq_true (by omega)
            have t5 : decide ((zn : Int) < 97) = true := decide_eq_true (by omega)
            clear hc h1
            go_wp2
            go_ret
            exact ⟨by simp, rfl⟩
          · have t1 : decide ((zn : Int) < 48) = false := decide_eq_false (by omega)
            have t2 : decide ((57 : Int) < (zn : Int)) = true := decide_eq_true (by omega)
            have t3 : decide ((zn : Int) < 65) = false := decide_eq_false (by omega)
            have t4 : decide ((90 : Int) < (zn : Int)) = true := decide_eq_true (by omega)
            have t5 : decide ((zn : Int) < 97) = false := decide_eq_false (by omega)
            have t6 : decide ((122 : Int) < (zn : Int)) = true := decide_eq_true (by omega)
            clear hc h1
            go_wp2
            go_ret
            exact ⟨by simp, rfl⟩
      · obtain rfl : j = n := by omega
        have hbt : b = true := hB.out.2 ⟨hnd.out, fun i h => Hok.out i h (by omega)⟩
        subst hbt
        go_wp2
        go_ret
        exact ⟨by simp, rfl⟩
end Go.Proofs.YtlcaaacbookopaaGreatDoor

namespace Go.Proofs.YtlcaaacbookopaaGreatDoor
open Go.RowKit

def txtB (v : ByteArray) : Bool := decide (0 < v.size) && decide (v.size ≤ 256) && vld 0 128 191 v.data.toList
def upB (l : ByteArray) : Option ByteArray → Bool
  | some p => decide (l.data.toList ≤ p.data.toList)
  | none => false
def chkG : Option ByteArray → List Lab → Nat
  | _, [] => 0
  | prev, l :: r => if nameL l.1 = false then 31 else if txtB l.2 = false then 32 else if upB l.1 prev = true then 33 else chkG (some l.1) r
theorem chkG_cons (prev : Option ByteArray) (l : Lab) (r : List Lab) : chkG prev (l :: r) = if nameL l.1 = false then 31 else if txtB l.2 = false then 32 else if upB l.1 prev = true then 33 else chkG (some l.1) r := rfl
def chkL (ls : List Lab) : Nat := if 16 < ls.length then 30 else chkG none ls
def prevL (ls : List Lab) (k : Nat) : Option ByteArray := if k = 0 then none else (ls[k - 1]?).map Prod.fst

theorem less_eq : ∀ (x y : List UInt8), Op.bytesLess x y = decide (x < y)
  | [], [] => by simp [Op.bytesLess]
  | _ :: _, [] => by simp [Op.bytesLess]
  | [], _ :: _ => by simp [Op.bytesLess]
  | a :: x, b :: y => by
    rw [Op.bytesLess, less_eq x y]
    by_cases h : a = b
    · subst h
      simp
    · simp [List.cons_lt_cons_iff, h]
theorem leqT (a b : ByteArray) : (Op.bytesLess a.toList b.toList || a.toList == b.toList) = decide (a.data.toList ≤ b.data.toList) := by
  rw [ByteArray.toList_eq, ByteArray.toList_eq, less_eq, Bool.eq_iff_iff]
  simp only [Bool.or_eq_true, decide_eq_true_eq, beq_iff_eq]
  constructor
  · rintro (h | h)
    · exact List.le_of_lt h
    · rw [h]
      exact List.le_refl _
  · intro h
    by_cases he : a.data.toList = b.data.toList
    · exact .inr he
    · refine .inl ?_
      by_cases hl : a.data.toList < b.data.toList
      · exact hl
      · exact absurd (List.le_antisymm h (List.not_lt.1 hl)) he

set_option maxRecDepth 100000 in
set_option maxHeartbeats 4000000 in
theorem chk_any (A : Option Addr) (n c : Nat) (ls : List Lab) (w : World) (h : RE elLb w A n ls) (hn : n ≤ 9223372036854775807) :
    Calls Tryz.prog 58 #[.slice A n c] w fun e w' => e = .returned (.int .i64 (chkL ls : Int)) ∧ Grew w w' := by
  have hln := h.1
  unfold chkL
  rw [hln]
  by_cases h16 : 16 < n
  · rw [if_pos h16]
    have e0 : decide ((16 : Int) < (n : Int)) = true := decide_eq_true (by omega)
    clear h16
    go_enter Tryz.func58, Tryz.ntmps58
    go_wp2
    go_ret
    exact ⟨by simp, Chg.refl _ _⟩
  rw [if_neg h16]
  have e0 : decide ((16 : Int) < (n : Int)) = false := decide_eq_false (by omega)
  have hn16 : n ≤ 16 := by omega
  obtain ⟨z, hz⟩ : ∃ z, chkG none ls = z := ⟨_, rfl⟩
  rw [hz]
  have hz0 : Hid (z = chkG (prevL ls 0) (ls.drop 0)) := hz.symm
  clear h16 hz
  go_enter Tryz.func58, Tryz.ntmps58
  go_wp2
  go_loopw [10] (fun i wr => ∃ k : Nat, k ≤ n ∧ i = .int .i64 (k : Int) ∧ Hid (z = chkG (prevL ls k) (ls.drop k)) ∧ Grew w wr) (fun i _ => n - (intOf i).toNat)
  case atStart => exact ⟨0, by omega, rfl, hz0, Chg.refl _ _⟩
  case round =>
    obtain ⟨k, hk, rfl, hc, hg⟩ := hrel
    by_cases hlt : k < n
    · obtain ⟨ad, x, rfl, hx, x0, x1⟩ := (h.grew hg).lb hlt
      have hxd : ls.drop k = x :: ls.drop (k + 1) := by
        obtain ⟨h1, h2⟩ := List.getElem?_eq_some_iff.1 hx
        rw [List.drop_eq_getElem_cons h1, h2]
      have hv := hc.out
      rw [hxd, chkG_cons] at hv
      have hpn : prevL ls (k + 1) = some x.1 := by
        unfold prevL
        rw [if_neg (by omega), Nat.add_sub_cancel, hx]
        rfl
      rw [← hpn] at hv
      have hgW : Grew w (wr.alloc (.cells #[.string x.1, .string x.2] 79)) := hg.alloc _
      have hN := fun w => lname_any x.1 w
      have hV := fun w (hs : x.2.size ≤ 256) => valid_any x.2 w hs
      obtain ⟨vn, hvn⟩ : ∃ vn, x.2.size = vn := ⟨_, rfl⟩
      clear hc hxd hpn
      go_wp2_with fail
      refine (hN _).mono ?_
      rintro e w1 ⟨rfl, rfl⟩
      cases hnm : nameL x.1
      · rw [hnm, if_pos rfl] at hv
        have hv := Lib.hid hv
        clear hN hV
        go_wp2
        go_ret
        exact ⟨by rw [hv.out]; simp, hgW⟩
      rw [hnm, if_neg (by simp)] at hv
      unfold txtB at hv
      rw [hvn] at hv
      by_cases hv0 : vn = 0
      · rw [decide_eq_false (p := 0 < vn) (by omega)] at hv
        simp only [Bool.false_and, if_true] at hv
        have hv := Lib.hid hv
        have hem : (x.2.toList == ([] : List UInt8)) = true := by
          rw [beq_iff_eq, ByteArray.toList_eq]
          exact List.eq_nil_of_length_eq_zero (by rw [data_len]; omega)
        have hem2 : x.2.toList = [] := by simpa using hem
        have hem3 : x.2.toList.isEmpty = true := by rw [hem2]; rfl
        clear hN hV
        go_wp2
        go_ret
        exact ⟨by rw [hv.out]; simp, hgW⟩
      have hem : x.2.toList.isEmpty = false := by
        cases hq : x.2.toList with
        | nil =>
          have := data_len x.2
          rw [← ByteArray.toList_eq, hq] at this
          simp at this
          omega
        | cons p q => rfl
      have hem2 : ¬ x.2.toList = [] := fun e => by rw [e] at hem; cases hem
      rw [decide_eq_true (p := 0 < vn) (by omega), Bool.true_and] at hv
      by_cases hv256 : 256 < vn
      · rw [decide_eq_false (p := vn ≤ 256) (by omega), Bool.false_and, if_pos rfl] at hv
        have hv := Lib.hid hv
        have e2 : decide ((256 : Int) < (vn : Int)) = true := decide_eq_true (by omega)
        clear hN hV
        go_wp2
        go_ret
        exact ⟨by rw [hv.out]; simp, hgW⟩
      rw [decide_eq_true (p := vn ≤ 256) (by omega), Bool.true_and] at hv
      have e2 : decide ((256 : Int) < (vn : Int)) = false := decide_eq_false (by omega)
      go_wp2_with fail
      refine (hV _ (by omega)).mono ?_
      rintro e w1 ⟨rfl, rfl⟩
      clear hN hV
      cases hvl : vld 0 128 191 x.2.data.toList
      · rw [hvl, if_pos rfl] at hv
        have hv := Lib.hid hv
        go_wp2
        go_ret
        exact ⟨by rw [hv.out]; simp, hgW⟩
      rw [hvl, if_neg (by simp)] at hv
      clear hvl hnm
      rcases k with _ | k
      · rw [show upB x.1 (prevL ls 0) = false from rfl, if_neg (by simp)] at hv
        have hv := Lib.hid hv
        clear hx
        go_wp2_with fail
        refine wp_region_text [(9, 2), (3, 1)] (by kernel_rfl) (by kernel_rfl) ?_
        simp only [instr, chk, look, Nat.reduceBEq, if_true, if_false, Nat.reduceEqDiff, List.cons_append, List.nil_append]
        go_wp2_with fail
        refine OnlyN.normal ?_
        go_wp2
        go_roundw
        case rel => exact ⟨1, by omega, by go_num, hv, hgW.drew⟩
        case measure => simp [intOf]; omega
      · obtain ⟨pd, y, hpe, hy, y0, y1⟩ := (h.grew hgW).lb (show k < n by omega)
        injection hpe with hpe
        subst hpe
        have hpl : prevL ls (k + 1) = some y.1 := by
          unfold prevL
          rw [if_neg (by omega), Nat.add_sub_cancel, hy]
          rfl
        rw [hpl] at hv
        have hleq := leqT x.1 y.1
        rw [show upB x.1 (some y.1) = decide (x.1.data.toList ≤ y.1.data.toList) from rfl] at hv
        generalize decide (x.1.data.toList ≤ y.1.data.toList) = b at *
        clear hx hy hpl
        cases b
        · rw [if_neg (by simp)] at hv
          have hv := Lib.hid hv
          go_wp2_with fail
          refine wp_region_text [(9, 2), (3, 1)] (by kernel_rfl) (by kernel_rfl) ?_
          simp only [instr, chk, look, Nat.reduceBEq, if_true, if_false, Nat.reduceEqDiff, List.cons_append, List.nil_append]
          go_wp2_with fail
          refine OnlyN.normal ?_
          go_wp2
          go_roundw
          case rel => exact ⟨k + 1 + 1, by omega, by go_num, hv, hgW.drew⟩
          case measure => simp [intOf]; omega
        · rw [if_pos rfl] at hv
          have hv := Lib.hid hv
          go_wp2_with fail
          refine wp_region_text [(9, 2), (3, 1)] (by kernel_rfl) (by kernel_rfl) ?_
          simp only [instr, chk, look, Nat.reduceBEq, if_true, if_false, Nat.reduceEqDiff, List.cons_append, List.nil_append]
          go_wp2_with fail
          refine OnlyN.normal ?_
          go_wp2
          go_ret
          exact ⟨by rw [hv.out]; simp, hgW.drew⟩
    · obtain rfl : k = n := by omega
      have hv := hc.out
      rw [List.drop_of_length_le (by omega), chkG] at hv
      have hv := Lib.hid hv
      clear hc
      go_wp2
      go_ret
      exact ⟨by rw [hv.out]; simp, hg⟩
end Go.Proofs.YtlcaaacbookopaaGreatDoor

namespace Go.Proofs.YtlcaaacbookopaaGreatDoor
open Go.RowKit

/-- a series as it lies in cells: two slices -/
structure SerM where
  la : Option Addr
  ln : Nat
  lc : Nat
  pa : Option Addr
  pn : Nat
  pc : Nat
def elSr : El SerM := ⟨fun s => [.slice s.la s.ln s.lc, .slice s.pa s.pn s.pc], 2, fun _ => rfl, by
  intro x u hu
  simp only [List.mem_cons, List.not_mem_nil, or_false] at hu
  rcases hu with rfl | rfl <;> rfl⟩
theorem infoSr : (Tryz.prog.info? 85).map (fun i => (i.zero, i.size, i.bytes)) = some (some (.agg #[.slice none 0 0, .slice none 0 0]), 2, 48) := by kernel_rfl
structure SrIs (w : World) (m : SerM) (s : Ser) : Prop where
  lb : RE elLb w m.la m.ln s.lbs
  pt : RE elPt w m.pa m.pn s.pts
  lc : m.ln ≤ m.lc ∧ m.lc ≤ 9223372036854775807
  pc : m.pn ≤ m.pc ∧ m.pc ≤ 9223372036854775807
theorem SrIs.grew {w w' : World} {m : SerM} {s : Ser} (h : SrIs w m s) (hc : Grew w w') : SrIs w' m s := ⟨h.lb.grew hc, h.pt.grew hc, h.lc, h.pc⟩
/-- a slice's cells are these series -/
def RS (w : World) (A : Option Addr) (n : Nat) (ss : List Ser) : Prop := ∃ ms : List SerM, RE elSr w A n ms ∧ ms.length = ss.length ∧ ∀ (i : Nat) (m : SerM) (s : Ser), ms[i]? = some m → ss[i]? = some s → SrIs w m s
theorem RS.grew {w w' : World} {A : Option Addr} {n : Nat} {ss : List Ser} (h : RS w A n ss) (hc : Grew w w') : RS w' A n ss := by
  obtain ⟨ms, h1, h2, h3⟩ := h
  exact ⟨ms, h1.grew hc, h2, fun i m s hm hs => (h3 i m s hm hs).grew hc⟩
theorem RS.len {w : World} {A : Option Addr} {n : Nat} {ss : List Ser} (h : RS w A n ss) : ss.length = n := by
  obtain ⟨ms, h1, h2, _⟩ := h
  rw [← h2, h1.1]
theorem RS.nil (w : World) (A : Option Addr) : RS w A 0 [] := ⟨[], RE.nil _ _, rfl, fun i m s hm => by simp at hm⟩
theorem RS.at_ {w : World} {A : Option Addr} {n : Nat} {ss : List Ser} (h : RS w A n ss) {k : Nat} (hk : k < n) :
    ∃ ad m s, A = some ad ∧ ss[k]? = some s ∧ SrIs w m s ∧ w.cell? (ad.add (k * 2)) = some (.slice m.la m.ln m.lc) ∧ w.cell? ⟨(ad.add (k * 2)).block, (ad.add (k * 2)).off + 1, none⟩ = some (.slice m.pa m.pn m.pc) := by
  obtain ⟨ms, h1, h2, h3⟩ := h
  obtain ⟨ad, m, e, hm, hc⟩ := h1.at_ hk (by decide)
  have hs : ss[k]? = some (ss[k]'(by have := h1.1; omega)) := List.getElem?_eq_getElem _
  exact ⟨ad, m, _, e, hs, h3 k m _ hm hs, hc 0 _ rfl, cell_off (by decide) (hc 1 _ rfl)⟩
theorem RS.drop {w : World} {ad : Addr} {n : Nat} {ss : List Ser} (h : RS w (some ad) n ss) (i : Nat) : RS w (some (ad.add (i * 2))) (n - i) (ss.drop i) := by
  obtain ⟨ms, h1, h2, h3⟩ := h
  refine ⟨ms.drop i, h1.drop i, by rw [List.length_drop, List.length_drop, h2], fun j m s hm hs => ?_⟩
  rw [List.getElem?_drop] at hm hs
  exact h3 _ m s hm hs

end Go.Proofs.YtlcaaacbookopaaGreatDoor

namespace Go.Proofs.YtlcaaacbookopaaGreatDoor
open Go.RowKit

def onB (L : List Lab) : Option (List Lab) → Bool
  | some p => decide (cmpLs p L < 0)
  | none => true
def prevS (ss : List Ser) (k : Nat) : Option (List Lab) := if k = 0 then none else (ss[k - 1]?).map Ser.lbs
theorem sameIn_refl {bs : List Nat} {W w : World} (h : w.heap = W.heap) : SameIn bs W w := fun k _ => by rw [h]

end Go.Proofs.YtlcaaacbookopaaGreatDoor

namespace Go.Proofs.YtlcaaacbookopaaGreatDoor
open Go.RowKit

/-- what a Put leaves: the row with the bits behind it -/
def PutPost (w : World) (base g : Nat) (A : Option Addr) (n : Nat) (bs : List Bool) (e : Ending) (w' : World) : Prop :=
  ∃ B M C, e = .returned (.tuple #[]) ∧ Blk w' g 121 #[.slice B M C, .int .i64 (n : Int)] ∧ OB w' base 5 B M C (pack bs) ∧
    Chg (fun x => x = g ∨ ∃ ad, A = some ad ∧ x = ad.block) w w' ∧ (∀ ad, B = some ad → (∃ bd, A = some bd ∧ ad.block = bd.block) ∨ w.heap.size ≤ ad.block)

set_option maxRecDepth 100000 in
set_option maxHeartbeats 2000000 in
theorem put_any (g : Nat) (A : Option Addr) (m c : Nat) (bs : List Bool) (v k : Nat) (base : Nat) (w : World) (hb : Blk w g 121 #[.slice A m c, .int .i64 (bs.length : Int)])
    (ho : OB w base 5 A m c (pack bs)) (hbase : base ≤ w.heap.size) (hv : v < 18446744073709551616) (hk : k ≤ 64) (hN : bs.length ≤ 140737488355200 * 8) :
    Calls Tryz.prog 79 #[.pointer (some ⟨g, 0, none⟩), .int .u64 (v : Int), .int .i64 (k : Int)] w (PutPost w base g A (bs.length + k) (bs ++ toBits v k)) := by
  go_enter Tryz.func79, Tryz.ntmps79
  refine wp_scope_label 0 (fun a' wr => ∃ (j n M C : Nat) (B : Option Addr) (bs' : List Bool), j ≤ k ∧ n + j = bs.length + k ∧ bs'.length = n ∧ bs' ++ toBits v j = bs ++ toBits v k ∧ Blk wr g 121 #[.slice B M C, .int .i64 (n : Int)] ∧
     OB wr base 5 B M C (pack bs') ∧ Chg (fun x => x = g ∨ ∃ ad, A = some ad ∧ x = ad.block) w wr ∧ (∀ ad, B = some ad → (∃ bd, A = some bd ∧ ad.block = bd.block) ∨ w.heap.size ≤ ad.block) ∧
     ∃ u3 u4 u5 u6 u7 u8 u9 u10 u11 u12 u13 u14 u15 u16 u17 u18 u19 u20 u21 u22 u23 u24 u25 u26 u27 u28 u29 u30 u31 u32 u33 u34 u35 u36 u37 u38 u39 u40 u41 u42 u43 u44 u45 u46 u47 u48 u49 u50 u51 u52 u53 u54 u55 u56 : Value, a' = { tmps := #[.pointer (some ⟨g, 0, none⟩), .int .u64 (v : Int), .int .i64 (j : Int), u3, u4, u5, u6, u7, u8, u9, u10, u11, u12, u13, u14, u15, u16, u17, u18, u19, u20, u21, u22, u23, u24, u25, u26, u27, u28, u29, u30, u31, u32, u33, u34, u35, u36, u37, u38, u39, u40, u41, u42, u43, u44, u45, u46, u47, u48, u49, u50, u51, u52, u53, u54, u55, u56], defers := [] }) (fun a' _ => (intOf (a'.tmps.getD 2 undef)).toNat) rfl ?_ ?_
  · rintro a' wr ⟨j, n, M, C, B, bs', hj, hnj, hlen, hbs, hb, ho, hchg, hB, u3, u4, u5, u6, u7, u8, u9, u10, u11, u12, u13, u14, u15, u16, u17, u18, u19, u20, u21, u22, u23, u24, u25, u26, u27, u28, u29, u30, u31, u32, u33, u34, u35, u36, u37, u38, u39, u40, u41, u42, u43, u44, u45, u46, u47, u48, u49, u50, u51, u52, u53, u54, u55, u56, rfl⟩
    have hM := ho.len
    rw [length_pack, hlen] at hM
    have hM1 : n ≤ 8 * M := by omega
    have hM2 : 8 * M ≤ n + 7 := by omega
    have hn' : n ≤ 140737488355200 * 8 + 64 := by omega
    have Hlen := Lib.hid hlen
    have Hbs := Lib.hid hbs
    have Hnj := Lib.hid hnj
    clear hlen hbs hM hnj
    have hsz := hchg.size
    have hc0 : wr.cell? ⟨g, 0, none⟩ = some (.slice B M C) := by rw [hb.cell]; rfl
    have hc1 : wr.cell? ⟨g, 1, none⟩ = some (.int .i64 (n : Int)) := by rw [hb.cell]; rfl
    have hf0 := hb.frozen 0
    have hf1 := hb.frozen 1
    have hr := RB.new wr [0] 1 #[.int .u8 0] 5 rfl rfl
    have ho1 := OB.grew ho ((Chg.refl _ wr).alloc (.cells #[.int .u8 0] 5))
    by_cases hj0 : j = 0
    · subst hj0
      go_wp2
      simp only [Exit.jump]
      refine bodyPost_ret (results_none rfl _ _ _) rfl ?_
      have h1 := Hbs.out
      have h2 := Hnj.out
      rw [show bs.length + k = n from by omega, ← h1]
      exact ⟨B, M, C, rfl, hb, by simpa [toBits] using ho, hchg, hB⟩
    · obtain ⟨i, rfl⟩ : ∃ i, j = i + 1 := ⟨j - 1, by omega⟩
      have hj1 : ((i : Int) + 1 == 0) = false := by simp; omega
      go_upto_if 15 with (fail)
      go_cut [] (fun wx => ∃ (M C : Nat) (B : Option Addr) (l : List UInt8), Hid (l = if n % 8 = 0 then pack bs' ++ [0] else pack bs') ∧ Blk wx g 121 #[.slice B M C, .int .i64 (n : Int)] ∧ OB wx base 5 B M C l ∧ n < 8 * M ∧ 8 * M ≤ n + 8 ∧
        Chg (fun x => x = g ∨ ∃ ad, A = some ad ∧ x = ad.block) w wx ∧ (∀ ad, B = some ad → (∃ bd, A = some bd ∧ ad.block = bd.block) ∨ w.heap.size ≤ ad.block))
      case first =>
        by_cases hn8 : n % 8 = 0
        · have hn9 : ((n : Int) % 8 == 0) = true := by simp; omega
          go_wp2_with (at_builtin; refine wpList_appB rfl _ _ rfl base B M C (pack bs') rfl ho1 (by simp; omega) _ 1 1 [0] rfl hr (by omega) ?_; intro A2 c2 w2 h2; have hc2 := h2.ob.cap; have hb2 := (hb.alloc (.cells #[.int .u8 0] 5)).chg h2.chg (by rintro ⟨ad, e1, e2⟩; exact Own.ne_blk ho hb (by decide) ad e1 e2.symm); have hc02 : w2.cell? ⟨g, 0, none⟩ = some (.slice B M C) := by {rw [hb2.cell]; rfl}; have hf02 := hb2.frozen 0)
          go_meet
          refine ⟨M + 1, c2, A2, pack bs' ++ [0], ?_, ?_, ?_, by omega, by omega, ?_, ?_⟩
          · show _ = _
            rw [if_pos hn8]
          · exact hb2.set 0 _
          · exact Own.setFar h2.ob (fun ad e => Own.ne_blk h2.ob hb2 (by decide) ad e) _
          · refine Chg.setCell ?_ (p := ⟨g, 0, none⟩) (.inr (.inl rfl)) _
            refine (hchg.alloc _).step h2.chg ?_
            rintro x hx ⟨ad, e1, e2⟩
            rcases hB ad e1 with ⟨bd, e3, e4⟩ | h3
            · exact .inr ⟨bd, e3, by omega⟩
            · omega
          · rintro ad e
            rcases h2.2.2 with ⟨e1, _⟩ | ⟨e1, _⟩
            · exact hB ad (e1 ▸ e)
            · rw [e1] at e
              injection e with e
              subst e
              right
              simp
              omega
        · have hn9 : ((n : Int) % 8 == 0) = false := by simp; omega
          go_wp2
          go_meet
          refine ⟨M, C, B, pack bs', ?_, hb, ho, by omega, by omega, hchg, hB⟩
          show _ = _
          rw [if_neg hn8]
      case rest =>
        clear hM1 hM2 hc0 hc1 hf0 hf1 hr ho1 hb ho hchg hB hsz
        obtain ⟨M, C, B, l, Hl, hb, ho, hM, hM2, hchg, hB⟩ := hcut
        have hM3 : n / 8 < M := by omega
        obtain ⟨g2, rfl, hbg, hg2, hcs, hfs, hca, hcb⟩ := Own.at_ ho (by omega)
        have hc0 : wc.cell? ⟨g, 0, none⟩ = some (.slice (some ⟨g2, 0, none⟩) M C) := by rw [hb.cell]; rfl
        have hc1 : wc.cell? ⟨g, 1, none⟩ = some (.int .i64 (n : Int)) := by rw [hb.cell]; rfl
        have hc2 : wc.cell? ⟨g2, n / 8, none⟩ = some (.int .u8 (l.getD (n / 8) 0).toNat) := by
          rw [hcs _ (by omega)]
          have := ho.len
          simp [byt, List.getD, show n / 8 < l.length by omega]
        have hf2 := hfs (n / 8)
        have hf1 := hb.frozen 1
        have hne : g2 ≠ g := Own.ne_blk ho hb (by decide) _ rfl
        clear hcs hfs
        go_wp2
        go_region
        go_wp2
        go_step3
        have hov := orb_walk (l[n / 8]?.getD 0) v i (7 - n % 8) hv (by omega)
        rw [hov]
        refine ⟨rfl, ⟨i, n + 1, M, C, some ⟨g2, 0, none⟩, bs' ++ [v.testBit i], by omega, ?_, ?_, ?_, ?_, ?_, ?_, hB, _, _, _, _, _, _, _, _, _, _, _, _, _, _, _, _, _, _, _, _, _, _, _, _, _, _, _, _, _, _, _, _, _, _, _, _, _, _, _, _, _, _, _, _, _, _, _, _, _, _, _, _, _, _, rfl⟩, ?_⟩
        · have := Hnj.out; omega
        · have := Hlen.out; simp; omega
        · rw [← Hbs.out, List.append_assoc]
          rfl
        · have := (hb.far (p := ⟨g2, n / 8, none⟩) (Ne.symm hne) (byt (orb (l[n / 8]?.getD 0) (v.testBit i) (7 - n % 8)))).set 1 (.int .i64 ((n : Int) + 1))
          rw [show ((n + 1 : Nat) : Int) = (n : Int) + 1 from by simp]
          exact this
        · rw [pack_snoc bs' (v.testBit i) l (by rw [Hlen.out]; exact Hl.out), Hlen.out, List.getD_eq_getElem?_getD]
          have h3 := Own.set ho (n / 8) (byt (orb (l[n / 8]?.getD 0) (v.testBit i) (7 - n % 8)))
          rw [← List.map_set] at h3
          exact Own.setFar h3 (p := ⟨g, 1, none⟩) (fun ad e => by injection e with e; subst e; exact hne) (.int .i64 ((n : Int) + 1))
        · refine Chg.drew (Chg.setCell (Chg.setCell hchg (p := ⟨g2, n / 8, none⟩) ?_ _) (p := ⟨g, 1, none⟩) (.inr (.inl rfl)) _)
          rcases hB _ rfl with ⟨bd, e1, e2⟩ | h3
          · exact .inr (.inr ⟨bd, e1, e2⟩)
          · exact .inl h3
        · simp [intOf]
  · intro hp
    go_wp2
    go_step3
    go_step
    go_step
    exact hp _ _ ⟨k, bs.length, m, c, A, bs, Nat.le_refl _, rfl, rfl, rfl, by simpa using hb, ho, Chg.refl _ _, fun ad e => .inl ⟨ad, e, rfl⟩, _, _, _, _, _, _, _, _, _, _, _, _, _, _, _, _, _, _, _, _, _, _, _, _, _, _, _, _, _, _, _, _, _, _, _, _, _, _, _, _, _, _, _, _, _, _, _, _, _, _, _, _, _, _, rfl⟩
end Go.Proofs.YtlcaaacbookopaaGreatDoor
