/-
  Several texts in one:
  Patterns: what a text is like; cut into pieces; the greedy search of the pieces; the places of a pattern that can be reached. Conditions: none; no program in sight.
  Package match: texts in rows; what a piece says of a text. Conditions: texts that memory bears.
-/
import Derived.Lib.SplitLaws
import Derived.Lib.Strings
import Derived.Test.YtlcaaacbookopaaGreatDoorPart3
import Derived.Test.YtlcaaacbookopaaGreatDoorPart6
import Derived.Test.YtlcaaacbookopaaGreatDoorShelf
import Derived.Lib.CutLaws

namespace Go.Proofs.YtlcaaacbookopaaGreatDoor

/-- is a text what an alternative says? -/
def glob : List UInt8 → List UInt8 → Bool
  | [], s => s.isEmpty
  | c :: p, s => if c = 42 then (List.range (s.length + 1)).any (fun k => glob p (s.drop k)) else match s with
    | [] => false
    | d :: s' => c == d && glob p s'

theorem glob_nil {s : List UInt8} : glob [] s = true ↔ s = [] := by simp [glob]
theorem glob_star {p s : List UInt8} : glob (42 :: p) s = true ↔ ∃ a b, s = a ++ b ∧ glob p b = true := by
  simp only [glob, if_true, List.any_eq_true, List.mem_range]
  constructor
  · rintro ⟨k, hk, h⟩
    exact ⟨s.take k, s.drop k, (List.take_append_drop k s).symm, h⟩
  · rintro ⟨a, b, rfl, h⟩
    exact ⟨a.length, by simp; omega, by simpa using h⟩
theorem glob_lit {c : UInt8} {p s : List UInt8} (h : c ≠ 42) : glob (c :: p) s = true ↔ ∃ s', s = c :: s' ∧ glob p s' = true := by
  simp only [glob, if_neg h]
  cases s with
  | nil => simp
  | cons d s' =>
    simp only [Bool.and_eq_true, beq_iff_eq, List.cons.injEq]
    constructor
    · rintro ⟨rfl, h⟩; exact ⟨s', ⟨rfl, rfl⟩, h⟩
    · rintro ⟨s'', ⟨rfl, rfl⟩, h⟩; exact ⟨rfl, h⟩
theorem glob_append : ∀ (q r s : List UInt8), glob (q ++ r) s = true ↔ ∃ a b, s = a ++ b ∧ glob q a = true ∧ glob r b = true
  | [], r, s => by
    constructor
    · intro h; exact ⟨[], s, rfl, by simp [glob], h⟩
    · rintro ⟨a, b, rfl, h1, h2⟩
      rw [glob_nil] at h1
      subst h1
      exact h2
  | c :: q, r, s => by
    by_cases hc : c = 42
    · subst hc
      rw [List.cons_append, glob_star]
      constructor
      · rintro ⟨a, b, rfl, h⟩
        obtain ⟨a', b', rfl, h1, h2⟩ := (glob_append q r b).1 h
        exact ⟨a ++ a', b', by simp, glob_star.2 ⟨a, a', rfl, h1⟩, h2⟩
      · rintro ⟨a, b, rfl, h1, h2⟩
        obtain ⟨a', b', rfl, h3⟩ := glob_star.1 h1
        exact ⟨a', b' ++ b, by simp, (glob_append q r _).2 ⟨b', b, rfl, h3, h2⟩⟩
    · rw [List.cons_append, glob_lit hc]
      constructor
      · rintro ⟨s', rfl, h⟩
        obtain ⟨a', b', rfl, h1, h2⟩ := (glob_append q r s').1 h
        exact ⟨c :: a', b', rfl, (glob_lit hc).2 ⟨a', rfl, h1⟩, h2⟩
      · rintro ⟨a, b, rfl, h1, h2⟩
        obtain ⟨s', rfl, h3⟩ := (glob_lit hc).1 h1
        exact ⟨s' ++ b, rfl, (glob_append q r _).2 ⟨s', b, rfl, h3, h2⟩⟩
theorem glob_plain : ∀ {q : List UInt8} (s : List UInt8), (∀ c ∈ q, c ≠ 42) → (glob q s = true ↔ s = q)
  | [], s, _ => glob_nil
  | c :: q, s, h => by
    rw [glob_lit (h c (by simp))]
    constructor
    · rintro ⟨s', rfl, h'⟩
      rw [(glob_plain s' fun x hx => h x (by simp [hx])).1 h']
    · rintro rfl
      exact ⟨q, rfl, (glob_plain q fun x hx => h x (by simp [hx])).2 rfl⟩

/-! ### Cut at a byte -/
def splitC (c : UInt8) : List UInt8 → List (List UInt8)
  | [] => [[]]
  | d :: l => if d = c then [] :: splitC c l else match splitC c l with
    | [] => [[d]]
    | x :: xs => (d :: x) :: xs
theorem splitC_ne (c : UInt8) (l : List UInt8) : splitC c l ≠ [] := by
  cases l with
  | nil => simp [splitC]
  | cons d l =>
    unfold splitC
    split
    · simp
    · split <;> simp
theorem splitC_cut {c : UInt8} : ∀ {a : List UInt8} (r : List UInt8), (∀ x ∈ a, x ≠ c) → splitC c (a ++ c :: r) = a :: splitC c r
  | [], r, _ => by simp [splitC]
  | d :: a, r, h => by
    have ih := splitC_cut (c := c) (a := a) r fun x hx => h x (by simp [hx])
    rw [List.cons_append, splitC, if_neg (h d (by simp)), ih]
theorem splitC_none {c : UInt8} : ∀ {a : List UInt8}, (∀ x ∈ a, x ≠ c) → splitC c a = [a]
  | [], _ => rfl
  | d :: a, h => by
    have ih := splitC_none (c := c) (a := a) fun x hx => h x (by simp [hx])
    rw [splitC, if_neg (h d (by simp)), ih]
theorem splitC_free (c : UInt8) : ∀ (l : List UInt8), ∀ x ∈ splitC c l, ∀ y ∈ x, y ≠ c
  | [], x, hx, y, hy => by simp [splitC] at hx; subst hx; cases hy
  | d :: l, x, hx, y, hy => by
    have ih := splitC_free c l
    unfold splitC at hx
    split at hx
    · rcases List.mem_cons.1 hx with rfl | hx
      · cases hy
      · exact ih x hx y hy
    · rename_i hd
      cases hs : splitC c l with
      | nil => exact (splitC_ne c l hs).elim
      | cons z zs =>
        rw [hs] at hx
        simp only at hx
        rcases List.mem_cons.1 hx with rfl | hx
        · rcases List.mem_cons.1 hy with rfl | hy
          · exact hd
          · exact ih z (by rw [hs]; simp) y hy
        · exact ih x (by rw [hs]; simp [hx]) y hy
def joinC (c : UInt8) : List (List UInt8) → List UInt8
  | [] => []
  | [t] => t
  | t :: u :: ts => t ++ c :: joinC c (u :: ts)
theorem joinC_cons {c : UInt8} {t : List UInt8} {ts : List (List UInt8)} (h : ts ≠ []) : joinC c (t :: ts) = t ++ c :: joinC c ts := by
  cases ts with
  | nil => exact (h rfl).elim
  | cons u us => rfl
theorem joinC_splitC (c : UInt8) : ∀ l : List UInt8, joinC c (splitC c l) = l
  | [] => rfl
  | d :: l => by
    have ih := joinC_splitC c l
    have hne := splitC_ne c l
    unfold splitC
    split
    · rename_i h
      subst h
      rw [joinC_cons hne, ih]
      rfl
    · cases hs : splitC c l with
      | nil => exact (hne hs).elim
      | cons x xs =>
        rw [hs] at ih
        simp only
        cases xs with
        | nil => simp only [joinC] at ih ⊢; rw [ih]
        | cons y ys => simp only [joinC, List.cons_append] at ih ⊢; rw [ih]

/-! ### The library's cutting -/
theorem index_one_none {c : UInt8} : ∀ {l : List UInt8}, Lib.index l [c] = -1 → ∀ x ∈ l, x ≠ c
  | [], _, x, hx => by cases hx
  | b :: l, h, x, hx => by
    unfold Lib.index at h
    split at h
    · cases h
    · rename_i hp
      have hb : b ≠ c := fun e => hp (by subst e; simp [List.isPrefixOf])
      rcases List.mem_cons.1 hx with rfl | hx
      · exact hb
      · split at h
        · rename_i h1
          exact index_one_none (beq_iff_eq.1 h1) x hx
        · have := Lib.index_ge l [c]
          omega
theorem index_one_some {c : UInt8} : ∀ {l : List UInt8} {i : Nat}, Lib.index l [c] = (i : Int) → ∃ a r, l = a ++ c :: r ∧ a.length = i ∧ ∀ x ∈ a, x ≠ c
  | [], i, h => by
    simp [Lib.index] at h
  | b :: l, i, h => by
    unfold Lib.index at h
    split at h
    · rename_i hp
      have hb : c = b := by
        simp only [List.isPrefixOf, Bool.and_true, beq_iff_eq] at hp
        exact hp
      subst hb
      exact ⟨[], l, rfl, by simp; omega, fun x hx => by cases hx⟩
    · rename_i hp
      have hb : b ≠ c := fun e => hp (by subst e; simp [List.isPrefixOf])
      have hge := Lib.index_ge l [c]
      split at h
      · omega
      · rename_i h1
        have h1 : Lib.index l [c] ≠ -1 := fun e => h1 (by rw [e]; rfl)
        obtain ⟨j, hj⟩ : ∃ j : Nat, Lib.index l [c] = j := ⟨(Lib.index l [c]).toNat, by omega⟩
        obtain ⟨a, r, rfl, h2, h3⟩ := index_one_some hj
        refine ⟨b :: a, r, rfl, by simp; omega, fun x hx => ?_⟩
        rcases List.mem_cons.1 hx with rfl | hx
        · exact hb
        · exact h3 x hx
theorem splitK_one (c : UInt8) : ∀ (n : Nat) (l : List UInt8), l.count c = n → Lib.splitK [c] 0 n l = splitC c l
  | 0, l, h => by
    rw [splitC_none fun x hx => by
      rintro rfl
      have := List.count_pos_iff.2 hx
      omega]
    rfl
  | n + 1, l, h => by
    have hne : Lib.index l [c] ≠ -1 := fun e => by
      have h1 := index_one_none e
      have : l.count c = 0 := List.count_eq_zero.2 fun hx => h1 c hx rfl
      omega
    have hge := Lib.index_ge l [c]
    obtain ⟨i, hi⟩ : ∃ i : Nat, Lib.index l [c] = i := ⟨(Lib.index l [c]).toNat, by omega⟩
    obtain ⟨a, r, rfl, hl, ha⟩ := index_one_some hi
    have hca : a.count c = 0 := List.count_eq_zero.2 fun hx => ha c hx rfl
    have hr : r.count c = n := by
      rw [List.count_append, List.count_cons_self, hca] at h
      omega
    unfold Lib.splitK
    rw [if_neg (by rw [hi]; simp), hi, Int.toNat_natCast, splitC_cut r ha, ← splitK_one c n r hr]
    subst hl
    simp
theorem splitB_one (c : UInt8) (s : ByteArray) : (Lib.splitB ⟨#[c]⟩ 0 (Lib.countB s ⟨#[c]⟩) s).map (·.data.toList) = splitC c s.data.toList := by
  rw [Lib.splitB_data]
  exact splitK_one c _ _ (Lib.count_one c _).symm

/-! ### The pieces of an alternative, sought from the left -/
def mids : List (List UInt8) → List UInt8 → Bool
  | [], _ => true
  | t :: ts, s => if Lib.index s t == -1 then false else mids ts (s.drop ((Lib.index s t).toNat + t.length))
def MidP : List (List UInt8) → List UInt8 → Prop
  | [], _ => True
  | t :: ts, s => ∃ a b, s = a ++ t ++ b ∧ MidP ts b
theorem MidP.more {x : List UInt8} : ∀ {ts : List (List UInt8)} {b : List UInt8}, MidP ts b → MidP ts (x ++ b)
  | [], _, _ => trivial
  | _ :: _, _, ⟨a, b, h, h'⟩ => ⟨x ++ a, b, by rw [h]; simp, h'⟩
theorem index_occ {t : List UInt8} : ∀ {s : List UInt8} {i : Nat}, Lib.index s t = (i : Int) → ∃ a b, s = a ++ t ++ b ∧ a.length = i
  | [], i, h => by
    unfold Lib.index at h
    split at h
    · rename_i he
      have : t = [] := by simpa using he
      subst this
      exact ⟨[], [], rfl, by simp; omega⟩
    · omega
  | b :: l, i, h => by
    unfold Lib.index at h
    split at h
    · rename_i hp
      obtain ⟨r, hr⟩ := List.isPrefixOf_iff_prefix.1 hp
      exact ⟨[], r, by rw [← hr]; rfl, by simp; omega⟩
    · split at h
      · omega
      · rename_i h1
        have h1 : Lib.index l t ≠ -1 := fun e => h1 (by rw [e]; rfl)
        have hge := Lib.index_ge l t
        obtain ⟨j, hj⟩ : ∃ j : Nat, Lib.index l t = j := ⟨(Lib.index l t).toNat, by omega⟩
        obtain ⟨a, r, e, h2⟩ := index_occ hj
        exact ⟨b :: a, r, by rw [e]; simp, by simp; omega⟩
theorem index_le {t : List UInt8} : ∀ (a b : List UInt8), ∃ i : Nat, Lib.index (a ++ t ++ b) t = (i : Int) ∧ i ≤ a.length
  | [], b => by
    refine ⟨0, ?_, by simp⟩
    cases hs : ([] ++ t ++ b : List UInt8) with
    | nil =>
      have : t = [] := by simp at hs; exact hs.1
      subst this
      rfl
    | cons x xs =>
      unfold Lib.index
      rw [if_pos (List.isPrefixOf_iff_prefix.2 (by rw [← hs]; simp))]
      rfl
  | y :: a, b => by
    obtain ⟨i, h1, h2⟩ := index_le (t := t) a b
    simp only [List.cons_append]
    unfold Lib.index
    split
    · exact ⟨0, rfl, by simp⟩
    · simp only [List.append_assoc] at h1 ⊢
      rw [h1]
      have : ((i : Int) == -1) = false := by simp
      rw [this]
      exact ⟨i + 1, by simp, by simp; omega⟩
theorem mids_iff : ∀ (ts : List (List UInt8)) (s : List UInt8), mids ts s = true ↔ MidP ts s
  | [], s => by simp [mids, MidP]
  | t :: ts, s => by
    unfold mids MidP
    constructor
    · intro h
      split at h
      · cases h
      · rename_i h1
        have h1 : Lib.index s t ≠ -1 := fun e => h1 (by rw [e]; rfl)
        have hge := Lib.index_ge s t
        obtain ⟨i, hi⟩ : ∃ i : Nat, Lib.index s t = i := ⟨(Lib.index s t).toNat, by omega⟩
        obtain ⟨a, b, e, hl⟩ := index_occ hi
        refine ⟨a, b, e, ?_⟩
        rw [hi, Int.toNat_natCast, mids_iff ts] at h
        have : s.drop (i + t.length) = b := by
          rw [e, ← hl, show a.length + t.length = (a ++ t).length by simp, List.drop_left]
        rwa [this] at h
    · rintro ⟨a, b, rfl, h⟩
      obtain ⟨i, hi, hle⟩ := index_le (t := t) a b
      have hne : (Lib.index (a ++ t ++ b) t == -1) = false := by rw [hi]; simp
      rw [hne, hi, Int.toNat_natCast, if_neg (by simp), mids_iff ts]
      have : (a ++ t ++ b).drop (i + t.length) = (a ++ t).drop (i + t.length) ++ b := by
        rw [List.drop_append_of_le_length (by simp; omega)]
      rw [this]
      exact h.more
theorem glob_pieces : ∀ (ms : List (List UInt8)) (tn s : List UInt8), (∀ t ∈ ms, ∀ c ∈ t, c ≠ 42) → (∀ c ∈ tn, c ≠ 42) →
    ((∃ a b, s = a ++ b ∧ glob (joinC 42 (ms ++ [tn])) b = true) ↔ ∃ m, s = m ++ tn ∧ MidP ms m)
  | [], tn, s, _, hn => by
    constructor
    · rintro ⟨a, b, rfl, h⟩
      rw [List.nil_append, joinC, glob_plain b hn] at h
      subst h
      exact ⟨a, rfl, trivial⟩
    · rintro ⟨m, rfl, _⟩
      exact ⟨m, tn, rfl, by rw [List.nil_append, joinC, glob_plain tn hn]⟩
  | t :: ms, tn, s, hm, hn => by
    have ih := fun s => glob_pieces ms tn s (fun t ht => hm t (by simp [ht])) hn
    have ht := hm t (by simp)
    rw [List.cons_append, joinC_cons (by simp)]
    constructor
    · rintro ⟨a, b, rfl, h⟩
      obtain ⟨b1, b2, rfl, h1, h2⟩ := (glob_append t _ b).1 h
      rw [glob_plain b1 ht] at h1
      subst h1
      obtain ⟨m, rfl, h4⟩ := (ih b2).1 (glob_star.1 h2)
      exact ⟨a ++ b1 ++ m, by simp, a, m, rfl, h4⟩
    · rintro ⟨m, rfl, a, b, rfl, h⟩
      refine ⟨a, t ++ (b ++ tn), by simp, (glob_append t _ _).2 ⟨t, b ++ tn, rfl, (glob_plain t ht).2 rfl, glob_star.2 ?_⟩⟩
      exact (ih _).2 ⟨b, rfl, h⟩

/-- what a piece's test answers -/
def isB (ts : List (List UInt8)) (s : List UInt8) : Bool :=
  match ts with
  | [] => false
  | [t] => s == t
  | t :: ts => if s.length < t.length + (ts.getLastD []).length then false else if !Lib.hasPrefix s t then false else if !Lib.hasSuffix s (ts.getLastD []) then false else
      mids ts.dropLast ((s.take (s.length - (ts.getLastD []).length)).drop t.length)
theorem isB_glob (ts : List (List UInt8)) (s : List UInt8) (hne : ts ≠ []) (hf : ∀ t ∈ ts, ∀ c ∈ t, c ≠ 42) : isB ts s = glob (joinC 42 ts) s := by
  rw [Bool.eq_iff_iff]
  match ts, hne with
  | [t], _ =>
    rw [joinC, glob_plain s (hf t (by simp))]
    simp [isB]
  | t :: u :: us, _ =>
    obtain ⟨ms, tn, hms⟩ : ∃ ms tn, u :: us = ms ++ [tn] := ⟨(u :: us).dropLast, (u :: us).getLast (by simp), (List.dropLast_concat_getLast (by simp)).symm⟩
    have hl : (u :: us).getLastD [] = tn := by rw [hms]; simp
    have hd : (u :: us).dropLast = ms := by rw [hms]; simp
    have hfm : ∀ x ∈ ms, ∀ c ∈ x, c ≠ 42 := fun x hx => hf x (by rw [hms]; simp [hx])
    have hfn : ∀ c ∈ tn, c ≠ 42 := hf tn (by rw [hms]; simp)
    have ht := hf t (by simp)
    have hu : isB (t :: u :: us) s = (if s.length < t.length + tn.length then false else if !Lib.hasPrefix s t then false else if !Lib.hasSuffix s tn then false else mids ms ((s.take (s.length - tn.length)).drop t.length)) := by
      simp only [isB]
      rw [hl, hd]
    rw [hu, joinC_cons (by simp), glob_append]
    have key : (∃ a b, s = a ++ b ∧ glob t a = true ∧ glob (42 :: joinC 42 (u :: us)) b = true) ↔ ∃ m, s = t ++ m ++ tn ∧ MidP ms m := by
      constructor
      · rintro ⟨a, b, rfl, h1, h2⟩
        rw [glob_plain a ht] at h1
        subst h1
        rw [hms] at h2
        obtain ⟨m, rfl, h3⟩ := (glob_pieces ms tn b hfm hfn).1 (glob_star.1 h2)
        exact ⟨m, by simp, h3⟩
      · rintro ⟨m, rfl, h⟩
        refine ⟨t, m ++ tn, by simp, (glob_plain t ht).2 rfl, ?_⟩
        rw [hms]
        exact glob_star.2 ((glob_pieces ms tn _ hfm hfn).2 ⟨m, rfl, h⟩)
    rw [key]
    constructor
    · intro h
      split at h
      · cases h
      · rename_i h1
        split at h
        · cases h
        · rename_i h2
          split at h
          · cases h
          · rename_i h3
            simp only [Bool.not_eq_true', Bool.not_eq_false] at h2 h3
            obtain ⟨r, hr⟩ := List.isPrefixOf_iff_prefix.1 h2
            obtain ⟨q, hq⟩ := List.isSuffixOf_iff_suffix.1 h3
            have hql : q.length + tn.length = s.length := by rw [← hq]; simp
            have hrl : t.length + r.length = s.length := by rw [← hr]; simp
            have htake : s.take (s.length - tn.length) = q := by rw [← hq]; simp
            have hpre : t ++ (q.drop t.length) = q := by
              have : q.take t.length = t := by
                have h5 : s.take t.length = t := by rw [← hr]; simp
                rw [← htake, List.take_take, Nat.min_eq_left (by omega), h5]
              conv => rhs; rw [← List.take_append_drop t.length q, this]
            rw [htake, mids_iff] at h
            exact ⟨q.drop t.length, by rw [hpre, hq], h⟩
    · rintro ⟨m, rfl, h⟩
      have h1 : ¬ ((t ++ m ++ tn).length < t.length + tn.length) := by simp only [List.length_append]; omega
      have h2 : Lib.hasPrefix (t ++ m ++ tn) t = true := List.isPrefixOf_iff_prefix.2 ⟨m ++ tn, by simp⟩
      have h3 : Lib.hasSuffix (t ++ m ++ tn) tn = true := List.isSuffixOf_iff_suffix.2 ⟨t ++ m, rfl⟩
      rw [if_neg h1, h2, h3]
      simp only [Bool.not_true, Bool.false_eq_true, if_false]
      have : ((t ++ m ++ tn).take ((t ++ m ++ tn).length - tn.length)).drop t.length = m := by
        have e : (t ++ m ++ tn).length - tn.length = (t ++ m).length := by simp only [List.length_append]; omega
        rw [e, List.take_left, List.drop_left]
      rw [this, mids_iff]
      exact h

/-- is a text like a pattern? -/
def likeB (p s : List UInt8) : Bool := (splitC 124 p).any fun x => glob x s
theorem likeB_pieces (p s : List UInt8) : likeB p s = (splitC 124 p).any fun x => isB (splitC 42 x) s := by
  unfold likeB
  congr 1
  funext x
  rw [isB_glob _ _ (splitC_ne 42 x) (splitC_free 42 x), joinC_splitC]
/-! ### The places of an alternative that can be reached -/
end Go.Proofs.YtlcaaacbookopaaGreatDoor

namespace Go.Proofs.YtlcaaacbookopaaGreatDoor
open Go.RowKit

/-- a text in a cell -/
def elStr : El ByteArray := ⟨fun s => [.string s], 1, fun _ => rfl, by
  intro x u hu
  simp only [List.mem_cons, List.not_mem_nil, or_false] at hu
  subst hu
  rfl⟩
theorem RE.str {w : World} {A : Option Addr} {n : Nat} {l : List ByteArray} (h : RE elStr w A n l) {k : Nat} (hk : k < n) : ∃ ad s, A = some ad ∧ l[k]? = some s ∧ w.cell? (ad.add k) = some (.string s) := by
  obtain ⟨ad, s, e, hs, hc⟩ := h.at_ hk (by decide)
  exact ⟨ad, s, e, hs, by have := hc 0 _ rfl; rwa [show k * elStr.sz + 0 = k from by simp [elStr]] at this⟩

abbrev glst (s : ByteArray) : List UInt8 := s.data.toList
theorem glst_length (s : ByteArray) : (glst s).length = s.size := by rw [Array.length_toList]; rfl
theorem lst_extract (s : ByteArray) (a b : Nat) : glst (s.extract a b) = ((glst s).take b).drop a := by
  rw [glst, Lib.extract_data, List.drop_take]

/-- the library's variable that says how far a search goes by itself -/
def MaxL (w : World) : Prop := ∃ m, w.cell? ⟨0, 0, none⟩ = some (.int .i64 m)
theorem MaxL.grew {w w' : World} (h : MaxL w) (hg : Grew w w') : MaxL w' := h.imp fun _ h => hg.cell h (fun e => e)

theorem index_any (s t : ByteArray) (w : World) (hs : s.size < 4294967281) (h : MaxL w) :
    Calls Tryz.prog 144 #[.string s, .string t] w fun e w' => e = .returned (.int .i64 (Lib.index (glst s) (glst t))) ∧ w = w' := by
  obtain ⟨m, hm⟩ := h
  exact (Tryz.strings_Index s t m w hs hm).mono fun _ _ ⟨h1, h2⟩ => ⟨h1, h2.symm⟩
theorem gprefix_any (s t : ByteArray) (w : World) :
    Calls Tryz.prog 146 #[.string s, .string t] w fun e w' => e = .returned (.bool (Lib.hasPrefix (glst s) (glst t))) ∧ w = w' :=
  (Tryz.strings_HasPrefix s t w).mono fun _ _ ⟨h1, h2⟩ => ⟨h1, h2.symm⟩
theorem suffix_any (s t : ByteArray) (w : World) (hs : s.size ≤ 9223372036854775807) :
    Calls Tryz.prog 147 #[.string s, .string t] w fun e w' => e = .returned (.bool (Lib.hasSuffix (glst s) (glst t))) ∧ w = w' :=
  (Tryz.strings_HasSuffix s t w hs).mono fun _ _ ⟨h1, h2⟩ => ⟨h1, h2.symm⟩
/-- cut at a byte -/
def splitS (c : UInt8) (s : ByteArray) : List ByteArray := Lib.splitB ⟨#[c]⟩ 0 (Lib.countB s ⟨#[c]⟩) s
theorem splitS_lst (c : UInt8) (s : ByteArray) : (splitS c s).map glst = splitC c (glst s) := splitB_one c s
theorem sep_one (c : UInt8) : 1 ≤ (⟨#[c]⟩ : ByteArray).size := Nat.le_refl 1
theorem splitS_len (c : UInt8) (s : ByteArray) : (splitS c s).length = Lib.countB s ⟨#[c]⟩ + 1 := Lib.splitB_all _ (sep_one c) 0 _ s rfl
theorem splitS_le (c : UInt8) (s : ByteArray) : (splitS c s).length ≤ s.size + 1 := by
  rw [splitS_len]
  have := Lib.countB_le ⟨#[c]⟩ (sep_one c) s.size s (Nat.le_refl _)
  omega
theorem flat_str (l : List ByteArray) : elStr.flat l = l.map Value.string := by
  induction l with
  | nil => rfl
  | cons x l ih => rw [El.flat_cons, ih]; rfl
/-- a row of texts, known whole -/
def Txs (w : World) (g : Nat) (l : List ByteArray) : Prop := Blk w g 9 (l.map Value.string).toArray
theorem Txs.re {w : World} {g : Nat} {l : List ByteArray} (h : Txs w g l) : RE elStr w (some ⟨g, 0, none⟩) l.length l := by
  refine ⟨rfl, fun k u hu => ⟨_, rfl, ?_⟩⟩
  rw [add_head, Blk.cell h]
  rw [flat_str] at hu
  simpa using hu
theorem splitC_le {c : UInt8} : ∀ {l : List UInt8}, ∀ x ∈ splitC c l, x.length ≤ l.length
  | [], x, hx => by simp [splitC] at hx; simp [hx]
  | d :: l, x, hx => by
    have ih := splitC_le (c := c) (l := l)
    unfold splitC at hx
    split at hx
    · rcases List.mem_cons.1 hx with rfl | hx
      · simp
      · have := ih x hx; simp; omega
    · cases hs : splitC c l with
      | nil => exact (splitC_ne c l hs).elim
      | cons z zs =>
        rw [hs] at hx
        simp only at hx
        rcases List.mem_cons.1 hx with rfl | hx
        · have := ih z (by rw [hs]; simp); simp; omega
        · have := ih x (by rw [hs]; simp [hx]); simp; omega
theorem splitS_part {c : UInt8} {s t : ByteArray} (h : t ∈ splitS c s) : t.size ≤ s.size := by
  have h1 : glst t ∈ splitC c (glst s) := by rw [← splitS_lst]; exact List.mem_map_of_mem h
  have := splitC_le _ h1
  rwa [glst_length, glst_length] at this
def SplP (w : World) (l : List ByteArray) (e : Ending) (w' : World) : Prop :=
  e = .returned (.slice (some ⟨w.heap.size, 0, none⟩) l.length l.length) ∧ Txs w' w.heap.size l ∧ Grew w w' ∧ w.heap.size < w'.heap.size
theorem split_any (c : UInt8) (s : ByteArray) (w : World) (hs : s.size < 4294967281) (h : MaxL w) :
    Calls Tryz.prog 114 #[.string s, .string ⟨#[c]⟩] w (SplP w (splitS c s)) := by
  obtain ⟨m, hm⟩ := h
  refine (Tryz.strings_Split s ⟨#[c]⟩ m w hs hm (sep_one c)).mono fun e w' ⟨h1, h2⟩ => ?_
  subst h2
  exact ⟨by rw [h1, splitS_len], Blk.new w _ _, (Chg.refl _ w).alloc _, by simp⟩

theorem isB_long {ts : List (List UInt8)} {s t tn : List UInt8} {n : Nat} (hl : ts.length = n) (hn : 2 ≤ n) (h0 : ts[0]? = some t) (h1 : ts[n - 1]? = some tn) :
    isB ts s = if s.length < t.length + tn.length then false else if !Lib.hasPrefix s t then false else if !Lib.hasSuffix s tn then false else mids ((ts.take (n - 1)).drop 1) ((s.take (s.length - tn.length)).drop t.length) := by
  match ts, hl, hn with
  | a :: b :: r, hl, _ =>
    simp at h0
    subst h0
    have e1 : (b :: r).getLastD [] = tn := by
      rw [← hl] at h1
      simp only [List.length_cons, Nat.add_sub_cancel, List.getElem?_cons_succ] at h1
      rw [List.getLastD_eq_getLast?, List.getLast?_eq_getElem?]
      simp only [List.length_cons, Nat.add_sub_cancel]
      rw [h1]
      rfl
    have e2 : ((a :: b :: r).take (n - 1)).drop 1 = (b :: r).dropLast := by
      rw [← hl, List.dropLast_eq_take]
      simp
    rw [e2]
    simp only [isB, e1]
  | [], hl, hn => simp at hl; omega
  | [a], hl, hn => simp at hl; omega
theorem isB_short {ts : List (List UInt8)} {s t : List UInt8} (hl : ts.length = 1) (h0 : ts[0]? = some t) : isB ts s = (s == t) := by
  match ts, hl with
  | [a], _ => simp at h0; subst h0; rfl

set_option maxRecDepth 100000 in
set_option maxHeartbeats 2000000 in
theorem is_any (A : Option Addr) (n c : Nat) (ts : List ByteArray) (s : ByteArray) (w : World) (h : RE elStr w A n ts) (hn : 0 < n) (hc : n ≤ c) (hcm : c ≤ 9223372036854775807) (hs : s.size < 4294967281) (hts : ∀ t ∈ ts, t.size < 4294967281) (hm : MaxL w) :
    Calls Tryz.prog 141 #[.agg #[.slice A n c], .string s] w fun e w' => e = .returned (.bool (isB (ts.map glst) (glst s))) ∧ Grew w w' := by
  have hlen := h.1
  have hg0 : Grew w (w.alloc (.cells #[.slice A n c] 168)) := (Chg.refl _ w).alloc _
  have hr0 := h.grew hg0
  have hm0 := hm.grew hg0
  have hb0 : Blk (w.alloc (.cells #[.slice A n c] 168)) w.heap.size 168 #[.slice A n c] := Blk.new w _ _
  clear h hm
  obtain ⟨ad, t0, rfl, h0, hc0⟩ := hr0.str hn
  obtain ⟨ad', tn, e, h1, hc1⟩ := hr0.str (k := n - 1) (by omega)
  injection e with e
  subst e
  have hz0 := hts t0 (List.mem_of_getElem? h0)
  have hz1 := hts tn (List.mem_of_getElem? h1)
  have e0 : ad.add 0 = ad := rfl
  rw [e0] at hc0
  have kz : (n : Int) - 1 = ((n - 1 : Nat) : Int) := by omega
  have hn1' : n - 1 < n := by omega
  by_cases hn1 : n = 1
  · have hr : isB (ts.map glst) (glst s) = (s.toList == t0.toList) := by
      rw [isB_short (t := glst t0) (by simpa using hlen.trans hn1) (by rw [List.getElem?_map, h0]; rfl), ByteArray.toList_eq, ByteArray.toList_eq]
    have Hr := Lib.hid hr
    subst hn1
    clear hr h0 h1 hlen hts
    go_enter Tryz.func141, Tryz.ntmps141
    go_wp2_with fail
    generalize w.alloc (.cells #[.slice (some ad) 1 c] 168) = W at *
    generalize w.heap.size = b0 at *
    have p0 : W.cell? ⟨b0, 0, none⟩ = some (.slice (some ad) 1 c) := by rw [hb0.cell]; rfl
    refine wp_region_text [(3, 1)] (by kernel_rfl) (by kernel_rfl) ?_
    simp only [instr, chk, look, Nat.reduceBEq, if_true, if_false, Nat.reduceEqDiff, List.cons_append, List.nil_append]
    go_wp2_with fail
    refine OnlyN.normal ?_
    go_wp2
    go_ret
    exact ⟨by rw [Hr.out]; simp, hg0.drew⟩
  · have hl2 : (ts.map glst).length = n := by simpa using hlen
    have hr := isB_long (s := glst s) (t := glst t0) (tn := glst tn) hl2 (by omega) (by rw [List.getElem?_map, h0]; rfl) (by rw [List.getElem?_map, h1]; rfl)
    rw [glst_length, glst_length, glst_length] at hr
    have hn2 : ((n : Int) == 1) = false := by simp; omega
    have Hr := Lib.hid hr
    have Hlen := Lib.hid hlen
    clear hr h0 h1 hl2 hlen
    by_cases hsz : s.size < t0.size + tn.size
    · have Hr2 : Hid (isB (ts.map glst) (glst s) = false) := by show _ = _; rw [Hr.out, if_pos hsz]
      clear Hr
      go_enter Tryz.func141, Tryz.ntmps141
      go_wp2_with fail
      generalize w.alloc (.cells #[.slice (some ad) n c] 168) = W at *
      generalize w.heap.size = b0 at *
      have p0 : W.cell? ⟨b0, 0, none⟩ = some (.slice (some ad) n c) := by rw [hb0.cell]; rfl
      refine wp_region_text [(3, 1)] (by kernel_rfl) (by kernel_rfl) ?_
      simp only [instr, chk, look, Nat.reduceBEq, if_true, if_false, Nat.reduceEqDiff, List.cons_append, List.nil_append]
      go_wp2_with fail
      refine OnlyN.normal ?_
      go_wp2
      go_ret
      exact ⟨by rw [Hr2.out]; simp, hg0.drew⟩
    · have hr2 := Hr.out
      rw [if_neg hsz] at hr2
      clear Hr
      by_cases hpre : Lib.hasPrefix (glst s) (glst t0) = true
      · by_cases hsuf : Lib.hasSuffix (glst s) (glst tn) = true
        · have P1 : Hid (∀ w, Calls Tryz.prog 146 #[.string s, .string t0] w fun e w' => e = .returned (.bool true) ∧ w = w') := fun w => by have := gprefix_any s t0 w; rwa [hpre] at this
          have P2 : Hid (∀ w, Calls Tryz.prog 147 #[.string s, .string tn] w fun e w' => e = .returned (.bool true) ∧ w = w') := fun w => by have := suffix_any s tn w (by omega); rwa [hsuf] at this
          rw [hpre, hsuf, if_neg (by simp), if_neg (by simp)] at hr2
          have hle : t0.size + tn.size ≤ s.size := by omega
          have hx : glst (s.extract t0.size (s.size - tn.size)) = ((glst s).take (s.size - tn.size)).drop t0.size := lst_extract _ _ _
          rw [← hx] at hr2
          obtain ⟨M, hM⟩ : ∃ M, M = ((ts.map glst).take (n - 1)).drop 1 := ⟨_, rfl⟩
          rw [← hM] at hr2
          have Hr2 := Lib.hid hr2
          have hMl : M.length = n - 2 := by rw [hM]; simp [Hlen.out]; omega
          have HM : Hid (∀ j t, j < n - 2 → ts[1 + j]? = some t → M.drop j = glst t :: M.drop (j + 1)) := fun j t hj ht => by
            have : M[j]? = some (glst t) := by
              rw [hM, List.getElem?_drop, List.getElem?_take, if_pos (by omega), List.getElem?_map, ht]
              rfl
            obtain ⟨hlt, he⟩ := List.getElem?_eq_some_iff.1 this
            rw [List.drop_eq_getElem_cons hlt, he]
          have Hend : Hid (M.drop (n - 2) = []) := by show _ = _; rw [← hMl]; exact List.drop_length
          have Hts := Lib.hid hts
          have hc2 : 1 < c := by omega
          have hb1 : decide ((s.size : Int) < (t0.size : Int) + tn.size) = false := by simp; omega
          clear hr2 hpre hsuf hsz hx hM hMl hts
          go_enter Tryz.func141, Tryz.ntmps141
          go_wp2_with fail
          generalize w.alloc (.cells #[.slice (some ad) n c] 168) = W at *
          generalize w.heap.size = b0 at *
          have p0 : W.cell? ⟨b0, 0, none⟩ = some (.slice (some ad) n c) := by rw [hb0.cell]; rfl
          refine wp_region_text [(3, 1)] (by kernel_rfl) (by kernel_rfl) ?_
          simp only [instr, chk, look, Nat.reduceBEq, if_true, if_false, Nat.reduceEqDiff, List.cons_append, List.nil_append]
          go_wp2_with fail
          refine OnlyN.normal ?_
          go_wp2_with fail
          refine (P1.out _).mono ?_
          rintro e w1 ⟨rfl, rfl⟩
          go_wp2_with fail
          refine (P2.out _).mono ?_
          rintro e w1 ⟨rfl, rfl⟩
          go_wp2
          have hz : (s.extract t0.size (s.size - tn.size)).size ≤ s.size := by rw [ByteArray.size_extract]; omega
          clear P1 P2 hc0 hc1 hb1 e0 kz hn1 hn2
          generalize s.extract t0.size (s.size - tn.size) = sm at *
          go_loop [1, 66] (fun sv i => ∃ (j : Nat) (s' : ByteArray), j ≤ n - 2 ∧ i = .int .i64 (j : Int) ∧ sv = .string s' ∧ s'.size ≤ s.size ∧ Hid (mids (M.drop j) (glst s') = isB (ts.map glst) (glst s))) (fun _ i => n - 2 - (intOf i).toNat)
          case atStart => exact ⟨0, sm, by omega, rfl, rfl, hz, by show _ = _; rw [Hr2.out]; rfl⟩
          case round =>
            clear Hr2 hz
            obtain ⟨j, s', hj, rfl, rfl, hs', Hj⟩ := hrel
            by_cases hlt : j < n - 2
            · obtain ⟨ad', t, e, ht, hct⟩ := hr0.str (k := 1 + j) (by omega)
              injection e with e
              subst e
              have hct' : W.cell? ⟨ad.block, ad.off + 1 + j, none⟩ = some (.string t) := by rw [Nat.add_assoc, ← add_pos (a := ad) (j := 1 + j) (by omega)]; exact hct
              have hjj := Hj.out
              rw [HM.out j t hlt ht] at hjj
              have hM2 : mids (glst t :: M.drop (j + 1)) (glst s') = if Lib.index (glst s') (glst t) == -1 then false else mids (M.drop (j + 1)) ((glst s').drop ((Lib.index (glst s') (glst t)).toNat + (glst t).length)) := rfl
              rw [hM2] at hjj
              have I : Hid (∀ w, MaxL w → Calls Tryz.prog 144 #[.string s', .string t] w fun e w' => e = .returned (.int .i64 (Lib.index (glst s') (glst t))) ∧ w = w') := fun w hm => index_any s' t w (by omega) hm
              have hix := Lib.indexB_cases s' t
              have hix' : Lib.index (glst s') (glst t) = -1 ∨ ∃ i : Nat, Lib.index (glst s') (glst t) = (i : Int) ∧ i + t.size ≤ s'.size := hix
              generalize Lib.index (glst s') (glst t) = ix at *
              have htz := Hts.out t (List.mem_of_getElem? ht)
              clear hix hM2 ht hct HM Hj
              rcases hix' with rfl | ⟨i, rfl, hi⟩
              · have Hjj := Lib.hid (show false = isB (ts.map glst) (glst s) from hjj)
                clear hjj
                go_wp2_with fail
                refine (I.out _ (by exact hm0)).mono ?_
                rintro e w1 ⟨rfl, rfl⟩
                go_wp2
                go_ret
                exact ⟨by rw [← Hjj.out]; simp, hg0.drew⟩
              · have hne : ((i : Int) == -1) = false := by simp
                rw [hne, if_neg (by simp), Int.toNat_natCast, glst_length] at hjj
                have hsx : glst (s'.extract (i + t.size) s'.size) = (glst s').drop (i + t.size) := Lib.extract_to_end s' (i + t.size)
                rw [← hsx] at hjj
                have hzx : (s'.extract (i + t.size) s'.size).size ≤ s'.size := by rw [ByteArray.size_extract]; omega
                have Hjj := Lib.hid hjj
                clear hjj hsx hne
                go_wp2_with fail
                refine (I.out _ (by exact hm0)).mono ?_
                rintro e w1 ⟨rfl, rfl⟩
                go_wp2
                go_round
                case rel => exact ⟨j + 1, _, by omega, by go_num, rfl, by omega, Hjj.out⟩
                case measure => simp [intOf]; omega
            · obtain rfl : j = n - 2 := by omega
              have hjj := Hj.out
              rw [Hend.out] at hjj
              have Hjj := Lib.hid (show true = isB (ts.map glst) (glst s) from hjj)
              have hd : n - 2 = n - 1 - 1 := by omega
              clear hjj Hj HM
              go_wp2
              go_ret
              exact ⟨by rw [← Hjj.out]; simp, hg0.drew⟩
        · have hsuf : Lib.hasSuffix (glst s) (glst tn) = false := by simpa using hsuf
          have Hr2 : Hid (isB (ts.map glst) (glst s) = false) := by show _ = _; rw [hr2, hpre, hsuf]; rfl
          have P1 : Hid (∀ w, Calls Tryz.prog 146 #[.string s, .string t0] w fun e w' => e = .returned (.bool true) ∧ w = w') := fun w => by have := gprefix_any s t0 w; rwa [hpre] at this
          have P2 : Hid (∀ w, Calls Tryz.prog 147 #[.string s, .string tn] w fun e w' => e = .returned (.bool false) ∧ w = w') := fun w => by have := suffix_any s tn w (by omega); rwa [hsuf] at this
          clear hr2 hpre hsuf
          go_enter Tryz.func141, Tryz.ntmps141
          go_wp2_with fail
          generalize w.alloc (.cells #[.slice (some ad) n c] 168) = W at *
          generalize w.heap.size = b0 at *
          have p0 : W.cell? ⟨b0, 0, none⟩ = some (.slice (some ad) n c) := by rw [hb0.cell]; rfl
          refine wp_region_text [(3, 1)] (by kernel_rfl) (by kernel_rfl) ?_
          simp only [instr, chk, look, Nat.reduceBEq, if_true, if_false, Nat.reduceEqDiff, List.cons_append, List.nil_append]
          go_wp2_with fail
          refine OnlyN.normal ?_
          go_wp2_with fail
          refine (P1.out _).mono ?_
          rintro e w1 ⟨rfl, rfl⟩
          go_wp2_with fail
          refine (P2.out _).mono ?_
          rintro e w1 ⟨rfl, rfl⟩
          go_wp2
          go_ret
          exact ⟨by rw [Hr2.out]; simp, hg0.drew⟩
      · have hpre : Lib.hasPrefix (glst s) (glst t0) = false := by simpa using hpre
        have Hr2 : Hid (isB (ts.map glst) (glst s) = false) := by show _ = _; rw [hr2, hpre]; rfl
        have M : Hid (∀ w, Calls Tryz.prog 146 #[.string s, .string t0] w fun e w' => e = .returned (.bool false) ∧ w = w') := fun w => by have := gprefix_any s t0 w; rwa [hpre] at this
        clear hr2 hpre
        go_enter Tryz.func141, Tryz.ntmps141
        go_wp2_with fail
        generalize w.alloc (.cells #[.slice (some ad) n c] 168) = W at *
        generalize w.heap.size = b0 at *
        have p0 : W.cell? ⟨b0, 0, none⟩ = some (.slice (some ad) n c) := by rw [hb0.cell]; rfl
        refine wp_region_text [(3, 1)] (by kernel_rfl) (by kernel_rfl) ?_
        simp only [instr, chk, look, Nat.reduceBEq, if_true, if_false, Nat.reduceEqDiff, List.cons_append, List.nil_append]
        go_wp2_with fail
        refine OnlyN.normal ?_
        go_wp2_with fail
        refine (M.out _).mono ?_
        rintro e w1 ⟨rfl, rfl⟩
        go_wp2
        go_ret
        exact ⟨by rw [Hr2.out]; simp, hg0.drew⟩
end Go.Proofs.YtlcaaacbookopaaGreatDoor
