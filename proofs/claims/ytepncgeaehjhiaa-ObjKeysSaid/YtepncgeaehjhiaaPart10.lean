/-
  Several texts in one:
  The reference's word on keys; whether a text is in a list. Conditions: none.
  Plain facts for the law ObjKeys: what lies in a store after some puts; sorted lists of keys. Conditions: none.
  The law ObjIfs, walked. Conditions: none but what memory bears.
  A region whose order is drawn and in which some operations that act may change places: walked once for each order of those that act. Conditions: a check of the region that the kernel runs; no program in sight.
-/
import Derived.Test.YtepncgeaehjhiaaPart9
import Derived.Test.YtepncgeaehjhiaaPart3

namespace Go.Proofs.Ytepncgeaehjhiaa
open Go.RowKit

set_option maxHeartbeats 4000000 in
theorem rName_any (x : ByteArray) (w : World) : Calls Try.prog 35 #[.string x] w fun e w' => e = .returned (.bool (nameB x)) ∧ w = w' := by
  obtain ⟨n, hn⟩ : ∃ n, x.size = n := ⟨_, rfl⟩
  by_cases h0 : n < 1
  · have hF : nameB x = false := by
      unfold nameB
      rw [hn, decide_eq_false (by omega)]
      rfl
    rw [hF]
    have e0 : decide ((n : Int) < 1) = true := decide_eq_true (by omega)
    clear hF h0
    go_enter Try.func35, Try.ntmps35
    go_wp2
    go_ret
    exact ⟨by simp, rfl⟩
  have e0 : decide ((n : Int) < 1) = false := decide_eq_false (by omega)
  by_cases h64 : 64 < n
  · have hF : nameB x = false := by
      unfold nameB
      rw [hn, decide_eq_false (p := n ≤ 64) (by omega)]
      simp
    rw [hF]
    have e64 : decide ((64 : Int) < (n : Int)) = true := decide_eq_true (by omega)
    clear hF h0 h64
    go_enter Try.func35, Try.ntmps35
    go_wp2
    go_ret
    exact ⟨by simp, rfl⟩
  have e64 : decide ((64 : Int) < (n : Int)) = false := decide_eq_false (by omega)
  have h64' : n ≤ 64 := by omega
  have hB : Hid (nameB x = true ↔ ∀ (i : Nat) (h : i < x.size), okc (x[i]'h).toNat) := by
    constructor
    · intro h
      exact ((nameB_iff x).1 h).2.2
    · intro h
      exact (nameB_iff x).2 ⟨by omega, by omega, h⟩
  obtain ⟨b, hb⟩ : ∃ b, nameB x = b := ⟨_, rfl⟩
  rw [hb] at hB ⊢
  clear h0 h64 hb
  go_enter Try.func35, Try.ntmps35
  go_wp2
  go_loopw [3] (fun si wr => ∃ j : Nat, si = .int .i64 (j : Int) ∧ j ≤ n ∧ w = wr ∧ Hid (∀ (i : Nat) (h : i < x.size), i < j → okc (x[i]'h).toNat)) (fun si _ => n - (intOf si).toNat)
  case atStart => exact ⟨0, rfl, by omega, rfl, fun i h h' => by omega⟩
  case round =>
    obtain ⟨j, rfl, hj, rfl, Hok⟩ := hrel
    by_cases hlt : j < n
    · obtain ⟨zn, hzn⟩ : ∃ zn : Nat, (x[j]'(by omega)).toNat = zn := ⟨_, rfl⟩
      have hzb : zn ≤ 255 := by
        have := (x[j]'(by omega)).toNat_lt
        omega
      have hz : ∀ h, ((x[j]'h).toNat : Int) = (zn : Int) := fun h => by rw [← hzn]
      by_cases hc : okc zn
      · have Hok' : Hid (∀ (i : Nat) (h : i < x.size), i < j + 1 → okc (x[i]'h).toNat) := fun i h h' => by
          by_cases hij : i = j
          · subst hij
            rw [hzn]
            exact hc
          · exact Hok.out i h (by omega)
        unfold okc at hc
        clear hzn
        rcases hc with ⟨k1, k2⟩ | ⟨k1, k2⟩ | rfl | rfl | rfl
        · have t1 : decide ((97 : Int) ≤ (zn : Int)) = true := decide_eq_true (by omega)
          have t2 : decide ((zn : Int) ≤ 122) = true := decide_eq_true (by omega)
          go_wp2
          go_roundw
          case rel => exact ⟨j + 1, by go_num, by omega, trivial, Hok'⟩
          case measure => simp [intOf]; omega
        · have t1 : decide ((97 : Int) ≤ (zn : Int)) = false := decide_eq_false (by omega)
          have t2 : decide ((48 : Int) ≤ (zn : Int)) = true := decide_eq_true (by omega)
          have t3 : decide ((zn : Int) ≤ 57) = true := decide_eq_true (by omega)
          go_wp2
          go_roundw
          case rel => exact ⟨j + 1, by go_num, by omega, trivial, Hok'⟩
          case measure => simp [intOf]; omega
        all_goals
          go_wp2
          go_roundw
          case rel => exact ⟨j + 1, by go_num, by omega, trivial, Hok'⟩
          case measure => simp [intOf]; omega
      · have hbf : b = false := by
          cases b with
          | false => rfl
          | true => exact absurd (hzn ▸ hB.out.1 rfl j (by omega)) hc
        subst hbf
        unfold okc at hc
        have u1 : ((zn : Int) == 47) = false := by simp; omega
        have u2 : ((zn : Int) == 46) = false := by simp; omega
        have u3 : ((zn : Int) == 45) = false := by simp; omega
        clear hzn
        by_cases k1 : zn < 97
        · have t1 : decide ((97 : Int) ≤ (zn : Int)) = false := decide_eq_false (by omega)
          by_cases k2 : zn < 48
          · have t2 : decide ((48 : Int) ≤ (zn : Int)) = false := decide_eq_false (by omega)
            clear hc k1 k2
            go_wp2
            go_ret
            exact ⟨by simp, rfl⟩
          · have t2 : decide ((48 : Int) ≤ (zn : Int)) = true := decide_eq_true (by omega)
            have t3 : decide ((zn : Int) ≤ 57) = false := decide_eq_false (by omega)
            clear hc k1 k2
            go_wp2
            go_ret
            exact ⟨by simp, rfl⟩
        · have t1 : decide ((97 : Int) ≤ (zn : Int)) = true := decide_eq_true (by omega)
          have t2 : decide ((zn : Int) ≤ 122) = false := decide_eq_false (by omega)
          have t3 : decide ((48 : Int) ≤ (zn : Int)) = true := decide_eq_true (by omega)
          have t4 : decide ((zn : Int) ≤ 57) = false := decide_eq_false (by omega)
          clear hc k1
          go_wp2
          go_ret
          exact ⟨by simp, rfl⟩
    · obtain rfl : j = n := by omega
      have hbt : b = true := hB.out.2 fun i h => Hok.out i h (by omega)
      subst hbt
      go_wp2
      go_ret
      exact ⟨by simp, rfl⟩

theorem pre2 (x p : ByteArray) (hp : p.size = 2) (h : 2 ≤ x.size) : Lib.hasPrefix (lst x) (lst p) = decide (x.extract 0 2 = p) := by
  have h1 : lst (x.extract 0 2) = (lst x).take 2 := by
    show (x.extract 0 2).data.toList = _
    rw [Lib.extract_data]
    rfl
  have h2 : x.extract 0 2 = p ↔ (lst x).take 2 = lst p := by rw [← lst_inj, h1]
  have hl := lst_length p
  have hx := lst_length x
  unfold Lib.hasPrefix
  rw [Bool.eq_iff_iff, List.isPrefixOf_iff_prefix, decide_eq_true_iff, h2, List.prefix_iff_eq_take, hl, hp]
  exact eq_comm
theorem pre_short (x p : ByteArray) (hp : p.size = 2) (h : x.size < 2) : Lib.hasPrefix (lst x) (lst p) = false := by
  cases hb : Lib.hasPrefix (lst x) (lst p) with
  | false => rfl
  | true =>
    unfold Lib.hasPrefix at hb
    have := (List.isPrefixOf_iff_prefix.1 hb).length_le
    rw [lst_length, lst_length] at this
    omega

set_option maxHeartbeats 2000000 in
theorem rKey_any (x : ByteArray) (w : World) : Calls Try.prog 14 #[.string x] w fun e w' => e = .returned (.bool (keyB x)) ∧ w = w' := by
  have hN := rName_any x
  obtain ⟨n, hn⟩ : ∃ n, x.size = n := ⟨_, rfl⟩
  unfold keyB
  rw [hn]
  by_cases h56 : 56 < n
  · have e0 : decide ((56 : Int) < (n : Int)) = true := decide_eq_true (by omega)
    rw [decide_eq_false (p := n ≤ 56) (by omega)]
    clear h56 hN
    go_enter Try.func14, Try.ntmps14
    go_wp2
    go_ret
    exact ⟨by simp, rfl⟩
  have e0 : decide ((56 : Int) < (n : Int)) = false := decide_eq_false (by omega)
  rw [decide_eq_true (p := n ≤ 56) (by omega)]
  generalize nameB x = b at *
  by_cases h2 : n < 2
  · have e2 : decide ((n : Int) < 2) = true := decide_eq_true (by omega)
    rw [pre_short x oN rfl (by omega), pre_short x tN rfl (by omega)]
    clear h56
    go_enter Try.func14, Try.ntmps14
    go_wp2_with fail
    refine (hN _).mono ?_
    rintro e w1 ⟨rfl, rfl⟩
    cases b
    · go_wp2
      go_ret
      exact ⟨by simp, rfl⟩
    · go_wp2
      go_ret
      exact ⟨by simp, rfl⟩
  · have e2 : decide ((n : Int) < 2) = false := decide_eq_false (by omega)
    have hn2 : 2 ≤ n := by omega
    rw [pre2 x oN rfl (by omega), pre2 x tN rfl (by omega)]
    clear h56 h2
    unfold oN tN
    by_cases p1 : x.extract 0 2 = ⟨#[111, 47]⟩
    · rw [decide_eq_true p1]
      go_enter Try.func14, Try.ntmps14
      go_wp2_with fail
      refine (hN _).mono ?_
      rintro e w1 ⟨rfl, rfl⟩
      clear hN
      cases b
      · go_wp2
        go_ret
        exact ⟨by simp, rfl⟩
      · go_wp2
        go_ret
        exact ⟨by simp, rfl⟩
    · rw [decide_eq_false p1]
      have q1 : ((x.extract 0 2).toList == [111, 47]) = false := by
        rw [beq_eq_false_iff_ne]
        intro h
        exact p1 (lst_inj.1 (by rw [ByteArray.toList_eq] at h; exact h))
      have q2 : ((x.extract 0 2).toList == [116, 47]) = decide (x.extract 0 2 = ⟨#[116, 47]⟩) := by
        rw [Bool.eq_iff_iff, beq_iff_eq, decide_eq_true_iff, ByteArray.toList_eq]
        exact lst_inj (b := ⟨#[116, 47]⟩)
      generalize decide (x.extract 0 2 = ⟨#[116, 47]⟩) = b2 at *
      clear p1
      go_enter Try.func14, Try.ntmps14
      go_wp2_with fail
      refine (hN _).mono ?_
      rintro e w1 ⟨rfl, rfl⟩
      clear hN
      cases b
      · go_wp2
        go_ret
        exact ⟨by simp, rfl⟩
      · cases b2
        · go_wp2
          go_ret
          exact ⟨by simp, rfl⟩
        · go_wp2
          go_ret
          exact ⟨by simp, rfl⟩

set_option maxHeartbeats 1000000 in
theorem in_any (A : Option Addr) (n c : Nat) (l : List ByteArray) (x : ByteArray) (w : World) (ha : RE elNm w A n l) (hn : n ≤ 9223372036854775807) :
    Calls Try.prog 15 #[.slice A n c, .string x] w fun e w' => (∃ b, e = .returned (.bool b) ∧ (b = true ↔ x ∈ l)) ∧ w = w' := by
  have hl := ha.1
  go_enter Try.func15, Try.ntmps15
  go_wp2
  go_loopw [5] (fun i wr => ∃ k : Nat, k ≤ n ∧ i = .int .i64 (k : Int) ∧ w = wr ∧ Hid (x ∉ l.take k)) (fun i _ => n - (intOf i).toNat)
  case atStart => exact ⟨0, by omega, rfl, rfl, fun h => by simp at h⟩
  case round =>
    obtain ⟨k, hk, rfl, rfl, hno⟩ := hrel
    by_cases hlt : k < n
    · obtain ⟨ad, y, rfl, hy, hcy⟩ := ha.at_ hlt (by decide)
      have hcy : w.cell? (ad.add k) = some (.string y) := by simpa [elNm] using hcy 0 _ rfl
      have hxy : (y.toList == x.toList) = decide (y = x) := by
        rw [Bool.eq_iff_iff, beq_iff_eq, decide_eq_true_iff, ByteArray.toList_eq, ByteArray.toList_eq]
        exact lst_inj
      by_cases he : y = x
      · subst he
        have hin := List.mem_of_getElem? hy
        clear hno hxy
        have hin := Lib.hid hin
        go_wp2
        go_ret
        exact ⟨⟨true, by simp, by simp [hin.out]⟩, rfl⟩
      · rw [decide_eq_false he] at hxy
        have hno' : Hid (x ∉ l.take (k + 1)) := by
          rw [List.take_add_one, hy]
          intro hm
          rcases List.mem_append.1 hm with hm | hm
          · exact hno.out hm
          · exact he (by simpa [eq_comm] using hm)
        go_wp2
        go_roundw
        case rel => exact ⟨k + 1, by omega, by go_num, trivial, hno'⟩
        case measure => simp [intOf]; omega
    · obtain rfl : k = n := by omega
      have hin : Hid (x ∉ l) := by
        have := hno.out
        rwa [List.take_of_length_le (by omega)] at this
      go_wp2
      go_ret
      exact ⟨⟨false, by simp, by simp [hin.out]⟩, rfl⟩
end Go.Proofs.Ytepncgeaehjhiaa

namespace Go.Proofs.Ytepncgeaehjhiaa
open Go.RowKit

theorem mem_look {Ob : List OEnt} (hn : (Ob.map OEnt.key).Nodup) {o : OEnt} (h : o ∈ Ob) : lookO Ob o.key = some o := by
  induction Ob with
  | nil => simp at h
  | cons p r ih =>
    simp only [List.map_cons, List.nodup_cons] at hn
    unfold lookO at ih ⊢
    rw [List.find?_cons]
    by_cases hk : p.key = o.key
    · rw [decide_eq_true hk]
      rcases List.mem_cons.1 h with h | h
      · rw [h]
      · exact absurd (hk ▸ List.mem_map_of_mem (f := OEnt.key) h) hn.1
    · rw [decide_eq_false hk]
      rcases List.mem_cons.1 h with h | h
      · exact absurd (congrArg OEnt.key h.symm) hk
      · exact ih hn.2 h
theorem setO_keys : ∀ (Ob : List OEnt) (o : OEnt), o.key ∈ Ob.map OEnt.key → (setO Ob o).map OEnt.key = Ob.map OEnt.key
  | [], o, h => by simp at h
  | p :: r, o, h => by
    unfold setO
    by_cases hk : p.key = o.key
    · rw [if_pos hk]
      simp [hk]
    · rw [if_neg hk]
      have : o.key ∈ r.map OEnt.key := by
        simp only [List.map_cons, List.mem_cons] at h
        exact h.elim (fun e => absurd e.symm hk) id
      rw [List.map_cons, List.map_cons, setO_keys r o this]
theorem setO_keys_new (Ob : List OEnt) (o : OEnt) (h : o.key ∉ Ob.map OEnt.key) : (setO Ob o).map OEnt.key = Ob.map OEnt.key ++ [o.key] := by
  rw [setO_none fun p hp e => h (e ▸ List.mem_map_of_mem hp)]
  simp

/-- after k puts -/
def Keyed (lb : List UInt8) (ks : List ByteArray) (k : Nat) (Ob : List OEnt) : Prop :=
  ∀ o ∈ Ob, ∃ j, j < k ∧ ks[j]? = some o.key ∧ o.data = lb ++ [UInt8.ofNat j] ∧ (∀ j', j < j' → j' < k → ks[j']? ≠ some o.key) ∧ o.gen ≤ k
theorem keyed_gen {lb : List UInt8} {ks : List ByteArray} {k : Nat} {Ob : List OEnt} (h : Keyed lb ks k Ob) (x : ByteArray) : genO Ob x ≤ k := by
  unfold genO
  cases hl : lookO Ob x with
  | none => exact Nat.zero_le _
  | some o =>
    obtain ⟨_, i, hi⟩ := look_here hl
    obtain ⟨j, _, _, _, _, hg⟩ := h o (List.mem_of_getElem? hi)
    exact hg
theorem keyed_put {lb : List UInt8} {ks : List ByteArray} {k : Nat} {Ob : List OEnt} (h : Keyed lb ks k Ob) {x : ByteArray} (hx : ks[k]? = some x) (hn : ((setO Ob ⟨x, lb ++ [UInt8.ofNat k], genO Ob x + 1⟩).map OEnt.key).Nodup) :
    Keyed lb ks (k + 1) (setO Ob ⟨x, lb ++ [UInt8.ofNat k], genO Ob x + 1⟩) := by
  intro o ho
  have hl := mem_look hn ho
  rw [look_set] at hl
  by_cases hk : x = o.key
  · rw [if_pos hk] at hl
    injection hl with hl
    have hg := keyed_gen h x
    refine ⟨k, by omega, by rw [hx, hk], by rw [← hl], fun j' h1 h2 => by omega, ?_⟩
    rw [← hl]
    show genO Ob x + 1 ≤ k + 1
    omega
  · rw [if_neg hk] at hl
    obtain ⟨_, i, hi⟩ := look_here hl
    obtain ⟨j, h1, h2, h3, h4, h5⟩ := h o (List.mem_of_getElem? hi)
    refine ⟨j, by omega, h2, h3, fun j' h6 h7 => ?_, by omega⟩
    by_cases he : j' = k
    · subst he
      rw [hx]
      intro e
      injection e with e
      exact hk e
    · exact h4 j' h6 (by omega)
theorem keyed_skip {lb : List UInt8} {ks : List ByteArray} {k : Nat} {Ob : List OEnt} (h : Keyed lb ks k Ob) {x : ByteArray} (hx : ks[k]? = some x) (hno : ∀ o ∈ Ob, o.key ≠ x) : Keyed lb ks (k + 1) Ob := by
  intro o ho
  obtain ⟨j, h1, h2, h3, h4, h5⟩ := h o ho
  refine ⟨j, by omega, h2, h3, fun j' h6 h7 => ?_, by omega⟩
  by_cases he : j' = k
  · subst he
    rw [hx]
    intro e
    injection e with e
    exact hno o ho e.symm
  · exact h4 j' h6 (by omega)

/-- how many of the first k keys begin so -/
def cntP (Ob : List OEnt) (p : ByteArray) (k : Nat) : Nat := ((Ob.take k).filter fun o => hasP o.key p).length
theorem cntP_step {Ob : List OEnt} {p : ByteArray} {k : Nat} {o : OEnt} (h : Ob[k]? = some o) : cntP Ob p (k + 1) = cntP Ob p k + if hasP o.key p then 1 else 0 := by
  unfold cntP
  rw [List.take_add_one, h, List.filter_append, List.length_append]
  cases hb : hasP o.key p <;> simp [hb]
theorem cntP_all (Ob : List OEnt) (p : ByteArray) {k : Nat} (h : Ob.length ≤ k) : cntP Ob p k = (keysO Ob p).length := by
  unfold cntP keysO
  rw [List.take_of_length_le h, sortT_length, List.length_map]
theorem keys_mem {Ob : List OEnt} {p : ByteArray} {o : OEnt} (h : o ∈ Ob) (hp : hasP o.key p = true) : o.key ∈ keysO Ob p := by
  unfold keysO
  rw [(sortT_perm _).mem_iff]
  exact List.mem_map_of_mem (List.mem_filter.2 ⟨h, hp⟩)
theorem keys_up {Ob : List OEnt} (hn : (Ob.map OEnt.key).Nodup) (p : ByteArray) {k : Nat} {x y : ByteArray} (hx : (keysO Ob p)[k]? = some x) (hy : (keysO Ob p)[k + 1]? = some y) : ¬ lst y ≤ lst x := by
  have hle : (keysO Ob p).Pairwise fun a b => lst a ≤ lst b := by
    unfold keysO sortT
    rw [List.pairwise_map]
    have tr : ∀ a b c : List UInt8, decide (a ≤ b) = true → decide (b ≤ c) = true → decide (a ≤ c) = true := fun a b c h1 h2 => by simp only [decide_eq_true_eq] at *; exact List.le_trans h1 h2
    have tot : ∀ a b : List UInt8, (decide (a ≤ b) || decide (b ≤ a)) = true := fun a b => by simp only [Bool.or_eq_true, decide_eq_true_eq]; exact List.le_total a b
    refine (List.pairwise_mergeSort tr tot _).imp fun {a b} h => ?_
    rw [lst_txt, lst_txt]
    simpa using h
  have hnd : (keysO Ob p).Nodup := by
    unfold keysO
    rw [(sortT_perm _).nodup_iff]
    exact hn.sublist ((List.filter_sublist).map _)
  intro h
  obtain ⟨h1, h2⟩ := List.getElem?_eq_some_iff.1 hx
  obtain ⟨h3, h4⟩ := List.getElem?_eq_some_iff.1 hy
  have h5 := List.pairwise_iff_getElem.1 hle k (k + 1) h1 h3 (Nat.lt_succ_self k)
  have h6 := List.pairwise_iff_getElem.1 hnd k (k + 1) h1 h3 (Nat.lt_succ_self k)
  rw [h2, h4] at h5 h6
  exact h6 (lst_inj.1 (List.le_antisymm h5 h))

theorem bless_eq : ∀ (x y : List UInt8), Op.bytesLess x y = decide (x < y)
  | [], [] => by simp [Op.bytesLess]
  | _ :: _, [] => by simp [Op.bytesLess]
  | [], _ :: _ => by simp [Op.bytesLess]
  | a :: x, b :: y => by
    rw [Op.bytesLess, bless_eq x y]
    by_cases h : a = b
    · subst h
      simp [List.cons_lt_cons_iff]
    · simp [List.cons_lt_cons_iff, h]
theorem leq_no {x y : ByteArray} (h : ¬ lst y ≤ lst x) : (Op.bytesLess y.toList x.toList || y.toList == x.toList) = false := by
  rw [ByteArray.toList_eq, ByteArray.toList_eq, bless_eq]
  have h1 : ¬ lst y < lst x := fun e => h (List.le_of_lt e)
  have h2 : ¬ lst y = lst x := fun e => h (by rw [e]; exact List.le_refl _)
  simp only [Bool.or_eq_false_iff, decide_eq_false_iff_not, beq_eq_false_iff_ne]
  exact ⟨h1, h2⟩
/-- the walk's words for: begins so -/
theorem hasP_yes {y p : ByteArray} (h : hasP y p = true) : p.size ≤ y.size ∧ ((y.extract 0 p.size).toList == p.toList) = true := by
  unfold hasP Lib.hasPrefix at h
  have h1 := List.isPrefixOf_iff_prefix.1 h
  have h2 := h1.length_le
  rw [lst_length, lst_length] at h2
  refine ⟨h2, ?_⟩
  rw [ByteArray.toList_eq, ByteArray.toList_eq, Lib.extract_data, beq_iff_eq]
  have := List.prefix_iff_eq_take.1 h1
  rw [lst_length] at this
  simpa using this.symm
theorem hasP_no {y p : ByteArray} (h : hasP y p = false) (hs : p.size ≤ y.size) : ((y.extract 0 p.size).toList == p.toList) = false := by
  rw [beq_eq_false_iff_ne, ByteArray.toList_eq, ByteArray.toList_eq, Lib.extract_data]
  intro e
  have : hasP y p = true := by
    unfold hasP Lib.hasPrefix
    refine List.isPrefixOf_iff_prefix.2 (List.prefix_iff_eq_take.2 ?_)
    rw [lst_length]
    have e : ((y.data.toList.drop 0).take (p.size - 0)) = p.data.toList := e
    simpa using e.symm
  rw [this] at h
  cases h
end Go.Proofs.Ytepncgeaehjhiaa

namespace Go.Proofs.Ytepncgeaehjhiaa
open Go.RowKit

theorem byt_of (k : Nat) : byt (UInt8.ofNat k) = .int .u8 ((k : Int) % 256) := by
  unfold byt
  rw [UInt8.toNat_ofNat']
  simp
theorem rb_byte (w : World) (k : Nat) : RB (w.alloc (.cells #[.int .u8 ((k : Int) % 256)] 5)) (some ⟨w.heap.size, 0, none⟩) 1 [UInt8.ofNat k] := RB.newAt rfl rfl (by rw [List.map_cons, List.map_nil, byt_of])

set_option maxRecDepth 100000 in
set_option maxHeartbeats 4000000 in
theorem walk_objIfs (A : Option Addr) (n ca : Nat) (gs : List Nat) (B : Option Addr) (m cb : Nat) (lb : List UInt8) (w : World) (ha : RE elU w A n gs) (hca : n ≤ ca ∧ ca ≤ 9223372036854775807) (hz : ∀ x ∈ gs, x < 18446744073709551616) (hb : RB w B m lb) (hm : m ≤ 140737488351232) :
    Calls Try.prog 3 #[.slice A n ca, .slice B m cb] w fun e w' => e = .returned (.bool true) ∧ Grew w w' := by
  go_enter Try.func3, Try.ntmps3
  go_wp2_with fail
  refine (fs_new w).mono ?_
  rintro e w1 ⟨d, mm, rfl, hF, hg1⟩
  go_wp2_with fail
  refine (open_clean hF (by simp) rfl).mono ?_
  rintro e w2 ⟨s, rfl, hbk, hs, hg2⟩
  obtain ⟨S2, L2, hS2⟩ := start_ex hF hbk hs hg2
  have G2 := hg1.trans hg2
  clear hF hbk hg1 hg2
  by_cases hbig : 1000 < m
  · have e1 : decide ((1000 : Int) < (m : Int)) = true := decide_eq_true (by omega)
    clear hbig
    go_wp2_with fail
    refine (awake_any _).mono ?_
    rintro e w3 ⟨rfl, hg3⟩
    go_wp2
    go_ret
    exact ⟨by simp, G2.trans hg3⟩
  have e1 : decide ((1000 : Int) < (m : Int)) = false := decide_eq_false (by omega)
  go_wp2
  go_loopw [7, 8] (fun nw i wr => ∃ k t : Nat, k ≤ n ∧ t ≤ 8 ∧ nw = .int .u64 (t : Int) ∧ i = .int .i64 (k : Int) ∧ ∃ S Ob, Hid (Liv S wr s Ob (3 * t)) ∧ Hid (∀ k, S k → w.heap.size ≤ k) ∧ Hid (genO Ob kK = t) ∧ Hid (Ob.length ≤ t) ∧ Grew w wr) (fun _ i _ => n - (intOf i).toNat)
  case atStart => exact ⟨0, 0, by omega, by omega, rfl, rfl, S2, [], L2, hS2, rfl, Nat.le_refl 0, G2⟩
  case round =>
    obtain ⟨k, t, hk, ht, rfl, rfl, S, Ob, hL, hS, hgen, hlen, hG⟩ := hrel
    by_cases hlt : k < n
    · obtain ⟨ad, x, rfl, hx, hcx⟩ := (ha.grew hG).at_ hlt (by decide)
      have hcx : wr.cell? (ad.add k) = some (.int .u64 (x : Int)) := by simpa [elU] using hcx 0 _ rfl
      have hxb := hz x (List.mem_of_getElem? hx)
      obtain ⟨g, hg⟩ : ∃ g : Nat, x % 8 = g := ⟨_, rfl⟩
      have hg8 : g < 8 := by omega
      go_wp2_with fail
      refine (copyBytes_any B m cb lb _ (by exact hb.grew hG) (by omega)).mono ?_
      rintro e w3 ⟨X, cx, rfl, hX, hg3⟩
      have hwl := hG.size
      have hwl3 := hg3.size
      have hown := hX.grew ((Chg.refl _ w3).alloc (.cells #[.int .u8 ((k : Int) % 256)] 5))
      go_wp2_with (at_builtin; refine wpList_appB rfl _ _ rfl wr.heap.size X m cx lb rfl hown (by simp; omega) _ 1 1 [UInt8.ofNat k] rfl (rb_byte w3 k) (by omega) ?_; intro A3 c3 w4 h4)
      have ho4 := h4.ob
      have hr4 : RB w4 A3 (m + 1) (lb ++ [UInt8.ofNat k]) := ho4.rb
      have G4 : Grew wr w4 := h4.grew (hg3.alloc _) fun ad e => (Own.blk_lt hX ad e).1
      have L4 := Lib.hid (hL.out.grew G4)
      clear h4 hown ho4 hX hcx hg3 hwl3 hL
      have e8 : ((g : Nat) : Int) = (x : Int) % 8 := by omega
      by_cases hgt : g = t
      · subst hgt
        have hP := liv_putIf L4.out (by omega) (by have := hlen.out; omega) kK key_k (by rw [hgen.out]; omega) A3 (m + 1) c3 _ hr4 (by omega)
        rw [hgen.out, e8] at hP
        have hq : (((x : Int) % 8) == ((g : Nat) : Int)) = true := by simp; omega
        clear e8 hg
        go_wp2_with fail
        refine hP.mono ?_
        rintro e w5 ⟨rfl, ⟨S5, L5, x5⟩, hc5⟩
        have GG := hG.trans G4
        have G5 : Grew w w5 := liv_grow GG hc5 hS.out
        have hS5 : Hid (∀ k, S5 k → w.heap.size ≤ k) := ext_ge x5 hS.out GG.size
        have hgen5 : Hid (genO (setO Ob ⟨kK, lb ++ [UInt8.ofNat k], g + 1⟩) kK = g + 1) := gen_set Ob ⟨kK, lb ++ [UInt8.ofNat k], g + 1⟩
        have hlen5 : Hid ((setO Ob ⟨kK, lb ++ [UInt8.ofNat k], g + 1⟩).length ≤ g + 1) := Nat.le_trans (setO_len _ _) (Nat.succ_le_succ hlen.out)
        have L5 := Lib.hid L5
        generalize setO Ob ⟨kK, lb ++ [UInt8.ofNat k], g + 1⟩ = Ob5 at *
        clear x5 hc5 L4 hS hlen hgen hP
        have hGet := liv_gen L5.out kK key_k
        rw [hgen5.out] at hGet
        go_wp2_with fail
        refine hGet.mono ?_
        rintro e w6 ⟨⟨v, u, rfl⟩, hg6⟩
        have L6 : Hid (Liv S5 w6 s Ob5 (3 * (g + 1))) := L5.out.grew hg6
        clear hq hGet
        go_wp2
        go_roundw
        case rel => exact ⟨k + 1, g + 1, by omega, by omega, by go_num, by go_num, S5, Ob5, L6, hS5, hgen5, hlen5, G5.trans hg6⟩
        case measure => simp [intOf]; omega
      · have hP := liv_putIf_no L4.out kK key_k A3 (m + 1) c3 (by omega) g (by rw [hgen.out]; omega)
        rw [hgen.out, e8] at hP
        have hq : (((x : Int) % 8) == ((t : Nat) : Int)) = false := by simp; omega
        clear e8 hg hgt
        go_wp2_with fail
        refine hP.mono ?_
        rintro e w5 ⟨rfl, hg5⟩
        have L5 := Lib.hid (L4.out.grew hg5)
        have hGet := liv_gen L5.out kK key_k
        rw [hgen.out] at hGet
        go_wp2_with fail
        refine hGet.mono ?_
        rintro e w6 ⟨⟨v, u, rfl⟩, hg6⟩
        have L6 := Lib.hid (L5.out.grew hg6)
        clear hq hGet L5 L4 hP
        go_wp2
        go_roundw
        case rel => exact ⟨k + 1, t, by omega, by omega, by go_num, by go_num, S, Ob, L6, hS, hgen, hlen, ((hG.trans G4).trans hg5).trans hg6⟩
        case measure => simp [intOf]; omega
    · obtain rfl : k = n := by omega
      go_wp2_with fail
      refine (awake_any _).mono ?_
      rintro e w3 ⟨rfl, hg3⟩
      go_wp2
      go_ret
      exact ⟨by simp, hG.trans hg3⟩
end Go.Proofs.Ytepncgeaehjhiaa

namespace Go.Proofs.Ytepncgeaehjhiaa

section
variable {P : Program} {Q : Exit → Act → World → Prop} {tys : List (Nat × Nat)} {S : World → Prop} {l : List Oper}

def actB (P : Program) (tys : List (Nat × Nat)) (l : List Oper) (i : Nat) : Bool := match l[i]? with
  | some o => decide (2 ≤ kindB P tys o)
  | none => false
/-- j stands before i -/
def okB (P : Program) (tys : List (Nat × Nat)) (l : List Oper) (tab : Array Nat) (j i : Nat) : Bool :=
  ((tab.getD i 0).testBit j || (actB P tys l j && actB P tys l i) || match l[j]?, l[i]? with
    | some oj, some oi => pairT P tys l.toArray oj oi
    | _, _ => false) && match l[j]? with
    | some oj => oj.after.all fun e => !Region.binds .any e || decide (e.on ≠ i)
    | none => false
def pwB (f : Nat → Nat → Bool) : List Nat → Bool
  | [] => true
  | x :: r => (r.all fun y => f x y) && pwB f r
theorem pwB_spec {f : Nat → Nat → Bool} : ∀ {r : List Nat}, pwB f r = true → r.Pairwise fun x y => f x y = true
  | [], _ => List.Pairwise.nil
  | x :: r, h => by
    simp only [pwB, Bool.and_eq_true] at h
    exact List.Pairwise.cons (fun y hy => List.all_eq_true.1 h.1 y hy) (pwB_spec h.2)
def stepR (i : Nat) (r : List Nat) : Option (List Nat) := if r.head? = some i then some r.tail else none
/-- each order of those that act is among rs -/
def covB (n : Nat) (tab : Array Nat) : Nat → List (List Nat) → Bool
  | 0, rs => !rs.isEmpty
  | f + 1, rs => !rs.isEmpty && (List.range n).all fun i => !(rs.all fun r => r.contains i) || (rs.any fun r => r.any fun j => decide (j ≠ i) && (tab.getD i 0).testBit j) || (decide ((rs.filterMap (stepR i)).length ≤ 1) && covB n tab f (rs.filterMap (stepR i)))
theorem fm_congr {α β : Type} {f g : α → Option β} : ∀ {l : List α}, (∀ x ∈ l, f x = g x) → l.filterMap f = l.filterMap g
  | [], _ => rfl
  | x :: l, h => by rw [List.filterMap_cons, List.filterMap_cons, h x (by simp), fm_congr fun y hy => h y (by simp [hy])]
theorem covB_ne {n : Nat} {tab : Array Nat} {f : Nat} {rs : List (List Nat)} (h : covB n tab f rs = true) : rs ≠ [] := by
  rintro rfl
  cases f <;> simp [covB] at h
def permB (n : Nat) (t : List Nat) : Bool := decide (t.length = n) && ((List.range n).all fun i => t.contains i) && t.all (fun i => decide (i < n)) && decide t.Nodup
def edgeB : Nat → List Oper → Bool
  | _, [] => true
  | i, o :: l => (o.after.all fun e => !Region.binds .any e || decide (e.on < i)) && edgeB (i + 1) l
theorem edgeB_spec : ∀ (l : List Oper) (k : Nat), edgeB k l = true → ∀ i o, l[i]? = some o → ∀ e ∈ o.after, Region.binds .any e = true → e.on < k + i
  | [], k, _, i, o, h => by simp at h
  | o :: l, k, h, i, o', ho => by
    simp only [edgeB, Bool.and_eq_true] at h
    cases i with
    | zero =>
      simp at ho
      subst ho
      intro e he hb
      have := Array.all_eq_true_iff_forall_mem.1 h.1 e he
      simpa [hb] using this
    | succ i =>
      have := edgeB_spec l (k + 1) h.2 i o' (by simpa using ho)
      rwa [show k + 1 + i = k + (i + 1) by omega] at this
def textsB (P : Program) (tys : List (Nat × Nat)) (l : List Oper) (ts : List (List Nat)) : Bool :=
  Region.noSelect l.toArray && edgeB 0 l && (l.all fun o => kindB P tys o == tagOf tys o) && (ts.all fun t => permB l.length t && pwB (okB P tys l (ancTab l #[])) t) && covB l.length (ancTab l #[]) l.length (ts.map (·.filter (actB P tys l)))

def opsOf (l : List Oper) (r : List Nat) : List Oper := r.filterMap (l.toArray[·]?)

/-- what holds on the way -/
structure Fam (P : Program) (Q : Exit → Act → World → Prop) (tys : List (Nat × Nat)) (S : World → Prop) (l : List Oper) (listed : Array Bool) (rs : List (List Nat)) (a : Act) (w : World) : Prop where
  mem : ∀ r ∈ rs, ∀ i, i ∈ r ↔ i ∈ rem l.length listed
  nodup : ∀ r ∈ rs, r.Nodup
  pw : ∀ r ∈ rs, r.Pairwise fun j i => okB P tys l (ancTab l #[]) j i = true
  cov : ∃ f, covB l.length (ancTab l #[]) f (rs.map (·.filter (actB P tys l))) = true ∧ ∀ r ∈ rs, (r.filter (actB P tys l)).length ≤ f
  wp : ∀ r ∈ rs, wpT P l.toArray Q tys S (opsOf l r) a w
  here : S w

theorem any_of_texts (hno : Region.noSelect l.toArray = true) (hed : edgeB 0 l = true) : ∀ (fuel : Nat) (listed : Array Bool) (rs : List (List Nat)) (a : Act) (w : World), listed.size = l.length → Closed l.toArray listed → (rem l.length listed).length ≤ fuel →
    Fam P Q tys S l listed rs a w → wpAny P .any l.toArray (OnlyN Q) fuel listed a w := by
  have hedg := edgeB_spec l 0 hed
  simp only [Nat.zero_add] at hedg
  have hsel := Region.noSelect_spec hno
  have hselm : ∀ o : Oper, o ∈ l.toArray → ∀ cs b, o.op ≠ .select cs b := fun o ho cs b => by
    obtain ⟨i, hi, rfl⟩ := Array.mem_iff_getElem.1 ho
    exact hsel i _ cs b (Array.getElem?_eq_getElem hi)
  obtain ⟨hgood, hsz⟩ := ancTab_good (ops := l.toArray) l #[] (fun j => by simp) (fun i hi => by simp at hi)
  simp only [List.size_toArray, List.length_nil, Nat.zero_add] at hsz
  have ready_rem : ∀ {listed : Array Bool} {i : Nat}, i ∈ Region.ready .any l.toArray listed → i ∈ rem l.length listed := fun {listed i} h => by
    obtain ⟨h0, o, ho, _⟩ := mem_ready.1 h
    exact mem_rem.2 ⟨by simpa using (Array.getElem?_eq_some_iff.1 ho).1, h0⟩
  intro fuel
  induction fuel with
  | zero =>
    intro listed rs a w _ _ hlen F
    have h0 : rem l.length listed = [] := List.eq_nil_of_length_eq_zero (by omega)
    obtain ⟨f, hc, _⟩ := F.cov
    obtain ⟨r, hr⟩ := List.exists_mem_of_ne_nil rs (fun e => covB_ne hc (by rw [e]; rfl))
    have hr0 : r = [] := List.eq_nil_iff_forall_not_mem.2 fun i hi => by have := (F.mem r hr i).1 hi; rw [h0] at this; cases this
    subst hr0
    refine ⟨?_, F.wp [] hr⟩
    cases hx : Region.ready .any l.toArray listed with
    | nil => rfl
    | cons x xs =>
      have : x ∈ rem l.length listed := ready_rem (by rw [hx]; simp)
      rw [h0] at this
      cases this
  | succ fuel ih =>
    intro listed rs a w hls hcl hlen F
    obtain ⟨f, hc, hf⟩ := F.cov
    obtain ⟨r0, hr0⟩ := List.exists_mem_of_ne_nil rs (fun e => covB_ne hc (by rw [e]; rfl))
    refine ⟨fun hr => ?_, fun i hi => ?_⟩
    · cases hx : r0 with
      | nil => subst hx; exact F.wp [] hr0
      | cons i0 rest =>
        subst hx
        have hm := (F.mem _ hr0 i0).1 (by simp)
        obtain ⟨hlt, hun⟩ := mem_rem.1 hm
        have ho : l.toArray[i0]? = some l[i0] := by simp [hlt]
        have : i0 ∈ Region.ready .any l.toArray listed := mem_ready.2 ⟨hun, _, ho, fun e hee hb => by
          cases hv : listed.getD e.on false with
          | true => rfl
          | false =>
            exfalso
            have hp := List.pairwise_cons.1 (F.pw _ hr0)
            have h1 := hedg i0 _ (by simp [hlt]) e hee hb
            have hm2 : e.on ∈ rem l.length listed := mem_rem.2 ⟨by omega, getD_in (by omega) hv⟩
            have hm3 := (F.mem _ hr0 e.on).2 hm2
            rcases List.mem_cons.1 hm3 with e1 | e1
            · omega
            · have h5 := hp.1 _ e1
              simp only [okB, Bool.and_eq_true] at h5
              have h6 := h5.2
              rw [show l[i0]? = some l[i0] from by simp [hlt]] at h6
              have h7 := Array.all_eq_true_iff_forall_mem.1 h6 e hee
              simp [hb] at h7⟩
        rw [hr] at this
        cases this
    · have hir := ready_rem hi
      obtain ⟨hun, oi, hoi, hall⟩ := mem_ready.1 hi
      have hil : l[i]? = some oi := by simpa using hoi
      have hit : i < l.length := (List.getElem?_eq_some_iff.1 hil).1
      have hnanc : ∀ j ∈ rem l.length listed, ((ancTab l #[]).getD i 0).testBit j = false := fun j hj => by
        cases hb : ((ancTab l #[]).getD i 0).testBit j with
        | false => rfl
        | true =>
          have := anc_listed hgood hcl i oi (by omega) hoi (fun e hee => hall e (by simpa using hee)) hb
          rw [getD_both (mem_rem.1 hj).2] at this
          cases this
      have hcl' : Closed l.toArray (listed.setIfInBounds i true) := fun k ok hok hk e hee hb => by
        by_cases hik : i = k
        · subst hik
          obtain rfl : ok = oi := Option.some.inj (hok.symm.trans hoi)
          exact getD_set_true (hall e (by simpa using hee) hb)
        · rw [getD_set_ne false hik] at hk
          exact getD_set_true (hcl k ok hok hk e hee hb)
      have hrem : ∀ k, k ∈ rem l.length (listed.setIfInBounds i true) ↔ k ∈ rem l.length listed ∧ k ≠ i := fun k => by
        rw [mem_rem, mem_rem]
        by_cases hik : i = k
        · subst hik
          have hsz2 : i < listed.size := by omega
          simp [hsz2]
        · rw [getD_set_ne true hik]
          exact ⟨fun h => ⟨h, fun e => hik e.symm⟩, fun h => h.1⟩
      have hlen2 : (rem l.length (listed.setIfInBounds i true)).length ≤ fuel := by
        obtain ⟨l1, l2, he⟩ := List.append_of_mem hir
        rw [rem_set he]
        rw [he] at hlen
        simp at hlen ⊢
        omega
      -- one text, with i taken to its front
      have one : ∀ r ∈ rs, (actB P tys l i = true → (r.filter (actB P tys l)).head? = some i) → ∃ A B, r = A ++ i :: B ∧ r.erase i = A ++ B ∧ (actB P tys l i = true → A.filter (actB P tys l) = []) ∧ OkT P tys S l.toArray oi a ∧
          Stp P l.toArray Q oi (fun a' w' => S w' ∧ wpT P l.toArray Q tys S (opsOf l (A ++ B)) a' w') a w := fun r hr hact => by
        obtain ⟨A, B, rfl⟩ := List.append_of_mem ((F.mem r hr i).2 hir)
        have hnd := F.nodup _ hr
        have hiA : i ∉ A := fun h => by
          rw [List.nodup_append] at hnd
          exact hnd.2.2 i h i (by simp) rfl
        have hA0 : actB P tys l i = true → A.filter (actB P tys l) = [] := fun h => by
          have h2 := hact h
          rw [List.filter_append] at h2
          cases hx : A.filter (actB P tys l) with
          | nil => rfl
          | cons y ys =>
            rw [hx] at h2
            simp at h2
            have hy : y ∈ A.filter (actB P tys l) := by rw [hx]; simp
            rw [h2] at hy
            exact (hiA (List.mem_filter.1 hy).1).elim
        refine ⟨A, B, rfl, by rw [List.erase_append_right _ hiA]; simp, hA0, ?_⟩
        have hwp := F.wp _ hr
        have e1 : opsOf l (A ++ i :: B) = opsOf l A ++ oi :: opsOf l B := by
          unfold opsOf
          rw [List.filterMap_append, List.filterMap_cons_some hoi]
        rw [e1] at hwp
        have hfr := wpT.front hselm oi (Array.mem_of_getElem? hoi) (opsOf l B) (opsOf l A) a w F.here (fun oj hoj => by
          obtain ⟨j, hj, hjo⟩ := List.mem_filterMap.1 hoj
          have hjl : l[j]? = some oj := by simpa using hjo
          refine ⟨Array.mem_of_getElem? hjo, ?_⟩
          have hpw := F.pw _ hr
          rw [List.pairwise_append] at hpw
          have h5 := hpw.2.2 j hj i (by simp)
          simp only [okB, Bool.and_eq_true, Bool.or_eq_true] at h5
          have hjr : j ∈ rem l.length listed := (F.mem _ hr j).1 (by simp [hj])
          rcases h5.1 with (h6 | h6) | h6
          · rw [hnanc j hjr] at h6; cases h6
          · have := hA0 h6.2
            have hjf : j ∈ A.filter (actB P tys l) := List.mem_filter.2 ⟨hj, h6.1⟩
            rw [this] at hjf
            cases hjf
          · rw [hjl, hil] at h6
            simp only [pairT, Bool.and_eq_true, Bool.or_eq_true, decide_eq_true_eq] at h6
            exact ⟨h6.2, h6.1⟩) hwp
        refine ⟨hfr.1, hfr.2.mono fun a' w' ⟨h1, h2⟩ => ⟨h1, ?_⟩⟩
        unfold opsOf
        rw [List.filterMap_append]
        exact h2
      -- the family behind i
      obtain ⟨rs', hne', hsub, hsing, hcov'⟩ : ∃ rs' : List (List Nat), rs' ≠ [] ∧ (∀ r' ∈ rs', ∃ r ∈ rs, r' = r.erase i ∧ (actB P tys l i = true → (r.filter (actB P tys l)).head? = some i)) ∧ (actB P tys l i = true → rs'.length ≤ 1) ∧
          ∃ f', covB l.length (ancTab l #[]) f' (rs'.map (·.filter (actB P tys l))) = true ∧ ∀ r' ∈ rs', (r'.filter (actB P tys l)).length ≤ f' := by
        cases hai : actB P tys l i with
        | false =>
          have hfe : ∀ r ∈ rs, (r.erase i).filter (actB P tys l) = r.filter (actB P tys l) := fun r hr => by
            obtain ⟨A, B, rfl⟩ := List.append_of_mem ((F.mem r hr i).2 hir)
            have hnd := F.nodup _ hr
            have hiA : i ∉ A := fun h => by
              rw [List.nodup_append] at hnd
              exact hnd.2.2 i h i (by simp) rfl
            rw [List.erase_append_right _ hiA, List.erase_cons_head, List.filter_append, List.filter_append, List.filter_cons, hai]
            simp
          refine ⟨List.map (fun r : List Nat => r.erase i) rs, (by intro e; rw [List.map_eq_nil_iff] at e; rw [e] at hr0; cases hr0), fun r' hr' => ?_, (fun h => by cases h), f, ?_, fun r' hr' => ?_⟩
          · obtain ⟨r, hr, rfl⟩ := List.mem_map.1 hr'
            exact ⟨r, hr, rfl, fun h => by cases h⟩
          · have e2 : (List.map (fun r : List Nat => r.erase i) rs).map (fun r => r.filter (actB P tys l)) = rs.map (fun r => r.filter (actB P tys l)) := by
              rw [List.map_map]
              exact List.map_congr_left fun r hr => hfe r hr
            rw [e2]
            exact hc
          · obtain ⟨r, hr, rfl⟩ := List.mem_map.1 hr'
            rw [hfe r hr]
            exact hf r hr
        | true =>
          have hmemf : ∀ r ∈ rs, i ∈ r.filter (actB P tys l) := fun r hr => List.mem_filter.2 ⟨(F.mem r hr i).2 hir, hai⟩
          cases f with
          | zero =>
            have := hf r0 hr0
            have h2 := hmemf r0 hr0
            rw [List.eq_nil_of_length_eq_zero (Nat.le_zero.1 this)] at h2
            cases h2
          | succ f =>
            simp only [covB, Bool.and_eq_true] at hc
            have h3 := List.all_eq_true.1 hc.2 i (List.mem_range.2 hit)
            have h4 : ((rs.map (·.filter (actB P tys l))).all fun r => r.contains i) = true := List.all_eq_true.2 fun x hx => by
              obtain ⟨r, hr, rfl⟩ := List.mem_map.1 hx
              exact List.contains_iff_mem.2 (hmemf r hr)
            have h5 : ((rs.map (·.filter (actB P tys l))).any fun r => r.any fun j => decide (j ≠ i) && ((ancTab l #[]).getD i 0).testBit j) = false := by
              rw [List.any_eq_false]
              intro x hx
              obtain ⟨r, hr, rfl⟩ := List.mem_map.1 hx
              rw [Bool.not_eq_true, List.any_eq_false]
              intro j hj
              rw [hnanc j ((F.mem r hr j).1 (List.mem_filter.1 hj).1)]
              simp
            rw [h4, h5] at h3
            simp only [Bool.not_true, Bool.or_self, Bool.false_or, Bool.and_eq_true, decide_eq_true_eq] at h3
            obtain ⟨h30, h3⟩ := h3
            obtain ⟨pick, hpick⟩ : ∃ pick : List Nat → Option (List Nat), pick = fun r => if (r.filter (actB P tys l)).head? = some i then some (r.erase i) else none := ⟨_, rfl⟩
            have hstep : (rs.filterMap pick).map (·.filter (actB P tys l)) = (rs.map (·.filter (actB P tys l))).filterMap (stepR i) := by
              rw [List.map_filterMap, List.filterMap_map]
              refine fm_congr fun r hr => ?_
              simp only [Function.comp, hpick, stepR]
              split
              · rename_i hh
                obtain ⟨A, B, hAB, he, hA0, _, _⟩ := one r hr (fun _ => hh)
                simp only [Option.map_some]
                rw [he, List.filter_append, hA0 hai, List.nil_append, hAB, List.filter_append, hA0 hai, List.nil_append, List.filter_cons, hai]
                simp
              · rfl
            refine ⟨rs.filterMap pick, fun e => covB_ne h3 (by rw [← hstep, e]; rfl), fun r' hr' => ?_, fun _ => by rw [← hstep, List.length_map] at h30; exact h30, f, by rw [hstep]; exact h3, fun r' hr' => ?_⟩
            · obtain ⟨r, hr, hp⟩ := List.mem_filterMap.1 hr'
              rw [hpick] at hp
              simp only at hp
              split at hp
              · rename_i hh
                injection hp with hp
                exact ⟨r, hr, hp.symm, fun _ => hh⟩
              · cases hp
            · obtain ⟨r, hr, hp⟩ := List.mem_filterMap.1 hr'
              rw [hpick] at hp
              simp only at hp
              split at hp
              · rename_i hh
                injection hp with hp
                obtain ⟨A, B, hAB, he, hA0, _, _⟩ := one r hr (fun _ => hh)
                have h6 := hf r hr
                rw [← hp, he, List.filter_append, hA0 hai, List.nil_append]
                rw [hAB, List.filter_append, hA0 hai, List.nil_append, List.filter_cons, hai] at h6
                simp at h6
                omega
              · cases hp
      -- the step is taken in one of them; what follows holds for all
      have hst : Stp P l.toArray Q oi (fun a' w' => wpAny P .any l.toArray (OnlyN Q) fuel (listed.setIfInBounds i true) a' w') a w := by
        have all : Stp P l.toArray Q oi (fun a' w' => S w' ∧ ∀ r' ∈ rs', wpT P l.toArray Q tys S (opsOf l r') a' w') a w := by
          have each : ∀ r' ∈ rs', OkT P tys S l.toArray oi a ∧ Stp P l.toArray Q oi (fun a' w' => S w' ∧ wpT P l.toArray Q tys S (opsOf l r') a' w') a w := fun r' hr' => by
            obtain ⟨r, hr, rfl, hh⟩ := hsub r' hr'
            obtain ⟨A, B, hAB, he, hA0, h7, h8⟩ := one r hr hh
            rw [he]
            exact ⟨h7, h8⟩
          obtain ⟨r1, hr1⟩ := List.exists_mem_of_ne_nil rs' hne'
          cases hai : actB P tys l i with
          | true =>
            have h1 := hsing hai
            refine (each r1 hr1).2.mono fun a' w' ⟨hS', h9⟩ => ⟨hS', fun r' hr' => ?_⟩
            match rs', h1, hr1, hr' with
            | [x], _, hr1, hr' =>
              simp only [List.mem_cons, List.not_mem_nil, or_false] at hr1 hr'
              subst hr1; subst hr'
              exact h9
          | false =>
            have hk : kindB P tys oi ≤ 1 := by
              unfold actB at hai
              rw [hil] at hai
              simp only [decide_eq_false_iff_not] at hai
              omega
            obtain ⟨v, hy⟩ := (each r1 hr1).1.yv hk F.here (each r1 hr1).2
            exact (hy.stp F.here).2 ⟨F.here, fun r' hr' => ((hy.stp F.here).1 (each r' hr').2).2⟩
        refine all.mono fun a' w' ⟨hS', hw'⟩ => ih (listed.setIfInBounds i true) rs' a' w' (by simpa using hls) hcl' hlen2 ⟨fun r' hr' k => ?_, fun r' hr' => ?_, fun r' hr' => ?_, hcov', hw', hS'⟩
        · obtain ⟨r, hr, rfl, hh⟩ := hsub r' hr'
          rw [(F.nodup r hr).mem_erase_iff, hrem, F.mem r hr k]
          exact And.comm
        · obtain ⟨r, hr, rfl, hh⟩ := hsub r' hr'
          exact (F.nodup r hr).erase i
        · obtain ⟨r, hr, rfl, hh⟩ := hsub r' hr'
          exact (F.pw r hr).sublist (List.erase_sublist)
      unfold wpOp
      rw [hoi]
      unfold Stp at hst
      dsimp only
      split
      · rename_i hw; rw [if_pos hw] at hst; exact .inl hst
      · rename_i hw; rw [if_neg hw] at hst; exact hst

/-- A region whose order is drawn, one walk for each order of those of its operations that act; the blocks bs, in which what is loaded lies, stay as they are. -/
theorem wp_region_texts (tys : List (Nat × Nat)) (bs : List Nat) (ts : List (List Nat)) {id : Nat} {l : List Oper} {a : Act} {w : World} (hm : P.follows .mixedOrders = true) (hB : textsB P tys l ts = true) (hc : CellsIn bs w)
    (h : ∀ t ∈ ts, wpU P l.toArray Q tys bs w [] (opsOf l t) a w.drew) : (Code.region id l.toArray true).wp P Q a w := by
  simp only [textsB, Bool.and_eq_true] at hB
  obtain ⟨⟨⟨⟨hno, hed⟩, hkd⟩, hts⟩, hcv⟩ := hB
  refine Code.wp_mono OnlyN.out (wp_region_any hm ?_)
  have hr : rem l.length (Array.replicate l.length false) = List.range l.length := List.filter_eq_self.2 fun i hi => by
    have := List.mem_range.1 hi
    simp [this]
  have hS : SameIn bs w { w with drawn := w.drawn + 1 } := fun k _ => rfl
  have hp : ∀ t ∈ ts, (t.length = l.length ∧ (∀ i, i < l.length → i ∈ t) ∧ (∀ i ∈ t, i < l.length) ∧ t.Nodup) ∧ pwB (okB P tys l (ancTab l #[])) t = true := fun t ht => by
    have := List.all_eq_true.1 hts t ht
    simp only [permB, Bool.and_eq_true, decide_eq_true_eq] at this
    obtain ⟨⟨⟨⟨h1, h2⟩, h3⟩, h4⟩, h5⟩ := this
    exact ⟨⟨h1, fun i hi => List.contains_iff_mem.1 (List.all_eq_true.1 h2 i (List.mem_range.2 hi)), fun i hi => by simpa using List.all_eq_true.1 h3 i hi, h4⟩, h5⟩
  refine any_of_texts (S := SameIn bs w) hno hed _ _ ts _ _ (by simp) ?_ ?_ ⟨fun t ht i => ?_, fun t ht => (hp t ht).1.2.2.2, fun t ht => pwB_spec (hp t ht).2, ⟨l.length, hcv, fun t ht => ?_⟩, fun t ht => ?_, hS⟩
  · intro i o _ hi
    simp only [List.size_toArray] at hi
    rw [getD_replicate_false] at hi
    cases hi
  · simp only [List.size_toArray]
    rw [hr]
    simp
  · simp only [List.size_toArray]
    rw [hr, List.mem_range]
    exact ⟨(hp t ht).1.2.2.1 i, (hp t ht).1.2.1 i⟩
  · exact Nat.le_trans (List.length_filter_le _ _) (by rw [(hp t ht).1.1]; exact Nat.le_refl _)
  · exact wpU_sound hc (opsOf l t) none [] (fun o ho => by
      obtain ⟨j, hj, hjo⟩ := List.mem_filterMap.1 ho
      have : o ∈ l := by
        have h9 : l[j]? = some o := by simpa using hjo
        exact List.mem_of_getElem? h9
      have := List.all_eq_true.1 hkd o this
      simpa using this) (fun x hx => by cases hx) a _ (fun x hx => by cases hx) hS (h t ht)
end
end Go.Proofs.Ytepncgeaehjhiaa
