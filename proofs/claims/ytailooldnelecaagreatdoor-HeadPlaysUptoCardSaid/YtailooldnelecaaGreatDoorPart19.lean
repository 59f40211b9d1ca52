/-
  Several texts in one:
  Patterns: what a text is like; cut into pieces; the greedy search of the pieces; the places of a pattern that can be reached. Conditions: none; no program in sight.
-/
import Derived.Lib.SplitLaws
import Derived.Lib.Strings

namespace Go.Proofs.YtailooldnelecaaGreatDoor

/-- is a text what an alternative says? -/
def glob : List UInt8 → List UInt8 → Bool
  | [], s => s.isEmpty
  | c :: p, s => if c = 42 then (List.range (s.length + 1)).any (fun k => glob p (s.drop k)) else match s with
    | [] => false
    | d :: s' => c == d && glob p s'

theorem glob_nil {s : List UInt8} : glob [] s = true ↔ s = [] := by simp [glob]
theorem glob_star {p s : List UInt8} : glob (42 :: p) s = true ↔ ∃ a b, s = a ++ b ∧ glob p b = true := by
  simp only [glob, if_true, List.any_eq_true, List.mem_range]
  constructor
  · rintro ⟨k, hk, h⟩
    exact ⟨s.take k, s.drop k, (List.take_append_drop k s).symm, h⟩
  · rintro ⟨a, b, rfl, h⟩
    exact ⟨a.length, by simp; omega, by simpa using h⟩
theorem glob_lit {c : UInt8} {p s : List UInt8} (h : c ≠ 42) : glob (c :: p) s = true ↔ ∃ s', s = c :: s' ∧ glob p s' = true := by
  simp only [glob, if_neg h]
  cases s with
  | nil => simp
  | cons d s' =>
    simp only [Bool.and_eq_true, beq_iff_eq, List.cons.injEq]
    constructor
    · rintro ⟨rfl, h⟩; exact ⟨s', ⟨rfl, rfl⟩, h⟩
    · rintro ⟨s'', ⟨rfl, rfl⟩, h⟩; exact ⟨rfl, h⟩
theorem glob_append : ∀ (q r s : List UInt8), glob (q ++ r) s = true ↔ ∃ a b, s = a ++ b ∧ glob q a = true ∧ glob r b = true
  | [], r, s => by
    constructor
    · intro h; exact ⟨[], s, rfl, by simp [glob], h⟩
    · rintro ⟨a, b, rfl, h1, h2⟩
      rw [glob_nil] at h1
      subst h1
      exact h2
  | c :: q, r, s => by
    by_cases hc : c = 42
    · subst hc
      rw [List.cons_append, glob_star]
      constructor
      · rintro ⟨a, b, rfl, h⟩
        obtain ⟨a', b', rfl, h1, h2⟩ := (glob_append q r b).1 h
        exact ⟨a ++ a', b', by simp, glob_star.2 ⟨a, a', rfl, h1⟩, h2⟩
      · rintro ⟨a, b, rfl, h1, h2⟩
        obtain ⟨a', b', rfl, h3⟩ := glob_star.1 h1
        exact ⟨a', b' ++ b, by simp, (glob_append q r _).2 ⟨b', b, rfl, h3, h2⟩⟩
    · rw [List.cons_append, glob_lit hc]
      constructor
      · rintro ⟨s', rfl, h⟩
        obtain ⟨a', b', rfl, h1, h2⟩ := (glob_append q r s').1 h
        exact ⟨c :: a', b', rfl, (glob_lit hc).2 ⟨a', rfl, h1⟩, h2⟩
      · rintro ⟨a, b, rfl, h1, h2⟩
        obtain ⟨s', rfl, h3⟩ := (glob_lit hc).1 h1
        exact ⟨s' ++ b, rfl, (glob_append q r _).2 ⟨s', b, rfl, h3, h2⟩⟩
theorem glob_plain : ∀ {q : List UInt8} (s : List UInt8), (∀ c ∈ q, c ≠ 42) → (glob q s = true ↔ s = q)
  | [], s, _ => glob_nil
  | c :: q, s, h => by
    rw [glob_lit (h c (by simp))]
    constructor
    · rintro ⟨s', rfl, h'⟩
      rw [(glob_plain s' fun x hx => h x (by simp [hx])).1 h']
    · rintro rfl
      exact ⟨q, rfl, (glob_plain q fun x hx => h x (by simp [hx])).2 rfl⟩

/-! ### Cut at a byte -/
def splitC (c : UInt8) : List UInt8 → List (List UInt8)
  | [] => [[]]
  | d :: l => if d = c then [] :: splitC c l else match splitC c l with
    | [] => [[d]]
    | x :: xs => (d :: x) :: xs
theorem splitC_ne (c : UInt8) (l : List UInt8) : splitC c l ≠ [] := by
  cases l with
  | nil => simp [splitC]
  | cons d l =>
    unfold splitC
    split
    · simp
    · split <;> simp
theorem splitC_cut {c : UInt8} : ∀ {a : List UInt8} (r : List UInt8), (∀ x ∈ a, x ≠ c) → splitC c (a ++ c :: r) = a :: splitC c r
  | [], r, _ => by simp [splitC]
  | d :: a, r, h => by
    have ih := splitC_cut (c := c) (a := a) r fun x hx => h x (by simp [hx])
    rw [List.cons_append, splitC, if_neg (h d (by simp)), ih]
theorem splitC_none {c : UInt8} : ∀ {a : List UInt8}, (∀ x ∈ a, x ≠ c) → splitC c a = [a]
  | [], _ => rfl
  | d :: a, h => by
    have ih := splitC_none (c := c) (a := a) fun x hx => h x (by simp [hx])
    rw [splitC, if_neg (h d (by simp)), ih]
theorem splitC_append {c : UInt8} : ∀ (p q : List UInt8), splitC c (p ++ c :: q) = splitC c p ++ splitC c q
  | [], q => by simp [splitC]
  | d :: p, q => by
    have ih := splitC_append (c := c) p q
    rw [List.cons_append, splitC, splitC, ih]
    split
    · rfl
    · have := splitC_ne c p
      cases hs : splitC c p with
      | nil => exact (this hs).elim
      | cons x xs => rfl
theorem splitC_free (c : UInt8) : ∀ (l : List UInt8), ∀ x ∈ splitC c l, ∀ y ∈ x, y ≠ c
  | [], x, hx, y, hy => by simp [splitC] at hx; subst hx; cases hy
  | d :: l, x, hx, y, hy => by
    have ih := splitC_free c l
    unfold splitC at hx
    split at hx
    · rcases List.mem_cons.1 hx with rfl | hx
      · cases hy
      · exact ih x hx y hy
    · rename_i hd
      cases hs : splitC c l with
      | nil => exact (splitC_ne c l hs).elim
      | cons z zs =>
        rw [hs] at hx
        simp only at hx
        rcases List.mem_cons.1 hx with rfl | hx
        · rcases List.mem_cons.1 hy with rfl | hy
          · exact hd
          · exact ih z (by rw [hs]; simp) y hy
        · exact ih x (by rw [hs]; simp [hx]) y hy
def joinC (c : UInt8) : List (List UInt8) → List UInt8
  | [] => []
  | [t] => t
  | t :: u :: ts => t ++ c :: joinC c (u :: ts)
theorem joinC_cons {c : UInt8} {t : List UInt8} {ts : List (List UInt8)} (h : ts ≠ []) : joinC c (t :: ts) = t ++ c :: joinC c ts := by
  cases ts with
  | nil => exact (h rfl).elim
  | cons u us => rfl
theorem joinC_splitC (c : UInt8) : ∀ l : List UInt8, joinC c (splitC c l) = l
  | [] => rfl
  | d :: l => by
    have ih := joinC_splitC c l
    have hne := splitC_ne c l
    unfold splitC
    split
    · rename_i h
      subst h
      rw [joinC_cons hne, ih]
      rfl
    · cases hs : splitC c l with
      | nil => exact (hne hs).elim
      | cons x xs =>
        rw [hs] at ih
        simp only
        cases xs with
        | nil => simp only [joinC] at ih ⊢; rw [ih]
        | cons y ys => simp only [joinC, List.cons_append] at ih ⊢; rw [ih]

/-! ### The library's cutting -/
theorem index_one_none {c : UInt8} : ∀ {l : List UInt8}, Lib.index l [c] = -1 → ∀ x ∈ l, x ≠ c
  | [], _, x, hx => by cases hx
  | b :: l, h, x, hx => by
    unfold Lib.index at h
    split at h
    · cases h
    · rename_i hp
      have hb : b ≠ c := fun e => hp (by subst e; simp [List.isPrefixOf])
      rcases List.mem_cons.1 hx with rfl | hx
      · exact hb
      · split at h
        · rename_i h1
          exact index_one_none (beq_iff_eq.1 h1) x hx
        · have := Lib.index_ge l [c]
          omega
theorem index_one_some {c : UInt8} : ∀ {l : List UInt8} {i : Nat}, Lib.index l [c] = (i : Int) → ∃ a r, l = a ++ c :: r ∧ a.length = i ∧ ∀ x ∈ a, x ≠ c
  | [], i, h => by
    simp [Lib.index] at h
  | b :: l, i, h => by
    unfold Lib.index at h
    split at h
    · rename_i hp
      have hb : c = b := by
        simp only [List.isPrefixOf, Bool.and_true, beq_iff_eq] at hp
        exact hp
      subst hb
      exact ⟨[], l, rfl, by simp; omega, fun x hx => by cases hx⟩
    · rename_i hp
      have hb : b ≠ c := fun e => hp (by subst e; simp [List.isPrefixOf])
      have hge := Lib.index_ge l [c]
      split at h
      · omega
      · rename_i h1
        have h1 : Lib.index l [c] ≠ -1 := fun e => h1 (by rw [e]; rfl)
        obtain ⟨j, hj⟩ : ∃ j : Nat, Lib.index l [c] = j := ⟨(Lib.index l [c]).toNat, by omega⟩
        obtain ⟨a, r, rfl, h2, h3⟩ := index_one_some hj
        refine ⟨b :: a, r, rfl, by simp; omega, fun x hx => ?_⟩
        rcases List.mem_cons.1 hx with rfl | hx
        · exact hb
        · exact h3 x hx
theorem splitK_one (c : UInt8) : ∀ (n : Nat) (l : List UInt8), l.count c = n → Lib.splitK [c] 0 n l = splitC c l
  | 0, l, h => by
    rw [splitC_none fun x hx => by
      rintro rfl
      have := List.count_pos_iff.2 hx
      omega]
    rfl
  | n + 1, l, h => by
    have hne : Lib.index l [c] ≠ -1 := fun e => by
      have h1 := index_one_none e
      have : l.count c = 0 := List.count_eq_zero.2 fun hx => h1 c hx rfl
      omega
    have hge := Lib.index_ge l [c]
    obtain ⟨i, hi⟩ : ∃ i : Nat, Lib.index l [c] = i := ⟨(Lib.index l [c]).toNat, by omega⟩
    obtain ⟨a, r, rfl, hl, ha⟩ := index_one_some hi
    have hca : a.count c = 0 := List.count_eq_zero.2 fun hx => ha c hx rfl
    have hr : r.count c = n := by
      rw [List.count_append, List.count_cons_self, hca] at h
      omega
    unfold Lib.splitK
    rw [if_neg (by rw [hi]; simp), hi, Int.toNat_natCast, splitC_cut r ha, ← splitK_one c n r hr]
    subst hl
    simp
theorem splitB_one (c : UInt8) (s : ByteArray) : (Lib.splitB ⟨#[c]⟩ 0 (Lib.countB s ⟨#[c]⟩) s).map (·.data.toList) = splitC c s.data.toList := by
  rw [Lib.splitB_data]
  exact splitK_one c _ _ (Lib.count_one c _).symm

/-! ### The pieces of an alternative, sought from the left -/
def mids : List (List UInt8) → List UInt8 → Bool
  | [], _ => true
  | t :: ts, s => if Lib.index s t == -1 then false else mids ts (s.drop ((Lib.index s t).toNat + t.length))
def MidP : List (List UInt8) → List UInt8 → Prop
  | [], _ => True
  | t :: ts, s => ∃ a b, s = a ++ t ++ b ∧ MidP ts b
theorem MidP.more {x : List UInt8} : ∀ {ts : List (List UInt8)} {b : List UInt8}, MidP ts b → MidP ts (x ++ b)
  | [], _, _ => trivial
  | _ :: _, _, ⟨a, b, h, h'⟩ => ⟨x ++ a, b, by rw [h]; simp, h'⟩
theorem index_occ {t : List UInt8} : ∀ {s : List UInt8} {i : Nat}, Lib.index s t = (i : Int) → ∃ a b, s = a ++ t ++ b ∧ a.length = i
  | [], i, h => by
    unfold Lib.index at h
    split at h
    · rename_i he
      have : t = [] := by simpa using he
      subst this
      exact ⟨[], [], rfl, by simp; omega⟩
    · omega
  | b :: l, i, h => by
    unfold Lib.index at h
    split at h
    · rename_i hp
      obtain ⟨r, hr⟩ := List.isPrefixOf_iff_prefix.1 hp
      exact ⟨[], r, by rw [← hr]; rfl, by simp; omega⟩
    · split at h
      · omega
      · rename_i h1
        have h1 : Lib.index l t ≠ -1 := fun e => h1 (by rw [e]; rfl)
        have hge := Lib.index_ge l t
        obtain ⟨j, hj⟩ : ∃ j : Nat, Lib.index l t = j := ⟨(Lib.index l t).toNat, by omega⟩
        obtain ⟨a, r, e, h2⟩ := index_occ hj
        exact ⟨b :: a, r, by rw [e]; simp, by simp; omega⟩
theorem index_le {t : List UInt8} : ∀ (a b : List UInt8), ∃ i : Nat, Lib.index (a ++ t ++ b) t = (i : Int) ∧ i ≤ a.length
  | [], b => by
    refine ⟨0, ?_, by simp⟩
    cases hs : ([] ++ t ++ b : List UInt8) with
    | nil =>
      have : t = [] := by simp at hs; exact hs.1
      subst this
      rfl
    | cons x xs =>
      unfold Lib.index
      rw [if_pos (List.isPrefixOf_iff_prefix.2 (by rw [← hs]; simp))]
      rfl
  | y :: a, b => by
    obtain ⟨i, h1, h2⟩ := index_le (t := t) a b
    simp only [List.cons_append]
    unfold Lib.index
    split
    · exact ⟨0, rfl, by simp⟩
    · simp only [List.append_assoc] at h1 ⊢
      rw [h1]
      have : ((i : Int) == -1) = false := by simp
      rw [this]
      exact ⟨i + 1, by simp, by simp; omega⟩
theorem mids_iff : ∀ (ts : List (List UInt8)) (s : List UInt8), mids ts s = true ↔ MidP ts s
  | [], s => by simp [mids, MidP]
  | t :: ts, s => by
    unfold mids MidP
    constructor
    · intro h
      split at h
      · cases h
      · rename_i h1
        have h1 : Lib.index s t ≠ -1 := fun e => h1 (by rw [e]; rfl)
        have hge := Lib.index_ge s t
        obtain ⟨i, hi⟩ : ∃ i : Nat, Lib.index s t = i := ⟨(Lib.index s t).toNat, by omega⟩
        obtain ⟨a, b, e, hl⟩ := index_occ hi
        refine ⟨a, b, e, ?_⟩
        rw [hi, Int.toNat_natCast, mids_iff ts] at h
        have : s.drop (i + t.length) = b := by
          rw [e, ← hl, show a.length + t.length = (a ++ t).length by simp, List.drop_left]
        rwa [this] at h
    · rintro ⟨a, b, rfl, h⟩
      obtain ⟨i, hi, hle⟩ := index_le (t := t) a b
      have hne : (Lib.index (a ++ t ++ b) t == -1) = false := by rw [hi]; simp
      rw [hne, hi, Int.toNat_natCast, if_neg (by simp), mids_iff ts]
      have : (a ++ t ++ b).drop (i + t.length) = (a ++ t).drop (i + t.length) ++ b := by
        rw [List.drop_append_of_le_length (by simp; omega)]
      rw [this]
      exact h.more
theorem glob_pieces : ∀ (ms : List (List UInt8)) (tn s : List UInt8), (∀ t ∈ ms, ∀ c ∈ t, c ≠ 42) → (∀ c ∈ tn, c ≠ 42) →
    ((∃ a b, s = a ++ b ∧ glob (joinC 42 (ms ++ [tn])) b = true) ↔ ∃ m, s = m ++ tn ∧ MidP ms m)
  | [], tn, s, _, hn => by
    constructor
    · rintro ⟨a, b, rfl, h⟩
      rw [List.nil_append, joinC, glob_plain b hn] at h
      subst h
      exact ⟨a, rfl, trivial⟩
    · rintro ⟨m, rfl, _⟩
      exact ⟨m, tn, rfl, by rw [List.nil_append, joinC, glob_plain tn hn]⟩
  | t :: ms, tn, s, hm, hn => by
    have ih := fun s => glob_pieces ms tn s (fun t ht => hm t (by simp [ht])) hn
    have ht := hm t (by simp)
    rw [List.cons_append, joinC_cons (by simp)]
    constructor
    · rintro ⟨a, b, rfl, h⟩
      obtain ⟨b1, b2, rfl, h1, h2⟩ := (glob_append t _ b).1 h
      rw [glob_plain b1 ht] at h1
      subst h1
      obtain ⟨m, rfl, h4⟩ := (ih b2).1 (glob_star.1 h2)
      exact ⟨a ++ b1 ++ m, by simp, a, m, rfl, h4⟩
    · rintro ⟨m, rfl, a, b, rfl, h⟩
      refine ⟨a, t ++ (b ++ tn), by simp, (glob_append t _ _).2 ⟨t, b ++ tn, rfl, (glob_plain t ht).2 rfl, glob_star.2 ?_⟩⟩
      exact (ih _).2 ⟨b, rfl, h⟩

/-- what a piece's test answers -/
def isB (ts : List (List UInt8)) (s : List UInt8) : Bool :=
  match ts with
  | [] => false
  | [t] => s == t
  | t :: ts => if s.length < t.length + (ts.getLastD []).length then false else if !Lib.hasPrefix s t then false else if !Lib.hasSuffix s (ts.getLastD []) then false else
      mids ts.dropLast ((s.take (s.length - (ts.getLastD []).length)).drop t.length)
theorem isB_glob (ts : List (List UInt8)) (s : List UInt8) (hne : ts ≠ []) (hf : ∀ t ∈ ts, ∀ c ∈ t, c ≠ 42) : isB ts s = glob (joinC 42 ts) s := by
  rw [Bool.eq_iff_iff]
  match ts, hne with
  | [t], _ =>
    rw [joinC, glob_plain s (hf t (by simp))]
    simp [isB]
  | t :: u :: us, _ =>
    obtain ⟨ms, tn, hms⟩ : ∃ ms tn, u :: us = ms ++ [tn] := ⟨(u :: us).dropLast, (u :: us).getLast (by simp), (List.dropLast_concat_getLast (by simp)).symm⟩
    have hl : (u :: us).getLastD [] = tn := by rw [hms]; simp
    have hd : (u :: us).dropLast = ms := by rw [hms]; simp
    have hfm : ∀ x ∈ ms, ∀ c ∈ x, c ≠ 42 := fun x hx => hf x (by rw [hms]; simp [hx])
    have hfn : ∀ c ∈ tn, c ≠ 42 := hf tn (by rw [hms]; simp)
    have ht := hf t (by simp)
    have hu : isB (t :: u :: us) s = (if s.length < t.length + tn.length then false else if !Lib.hasPrefix s t then false else if !Lib.hasSuffix s tn then false else mids ms ((s.take (s.length - tn.length)).drop t.length)) := by
      simp only [isB]
      rw [hl, hd]
    rw [hu, joinC_cons (by simp), glob_append]
    have key : (∃ a b, s = a ++ b ∧ glob t a = true ∧ glob (42 :: joinC 42 (u :: us)) b = true) ↔ ∃ m, s = t ++ m ++ tn ∧ MidP ms m := by
      constructor
      · rintro ⟨a, b, rfl, h1, h2⟩
        rw [glob_plain a ht] at h1
        subst h1
        rw [hms] at h2
        obtain ⟨m, rfl, h3⟩ := (glob_pieces ms tn b hfm hfn).1 (glob_star.1 h2)
        exact ⟨m, by simp, h3⟩
      · rintro ⟨m, rfl, h⟩
        refine ⟨t, m ++ tn, by simp, (glob_plain t ht).2 rfl, ?_⟩
        rw [hms]
        exact glob_star.2 ((glob_pieces ms tn _ hfm hfn).2 ⟨m, rfl, h⟩)
    rw [key]
    constructor
    · intro h
      split at h
      · cases h
      · rename_i h1
        split at h
        · cases h
        · rename_i h2
          split at h
          · cases h
          · rename_i h3
            simp only [Bool.not_eq_true', Bool.not_eq_false] at h2 h3
            obtain ⟨r, hr⟩ := List.isPrefixOf_iff_prefix.1 h2
            obtain ⟨q, hq⟩ := List.isSuffixOf_iff_suffix.1 h3
            have hql : q.length + tn.length = s.length := by rw [← hq]; simp
            have hrl : t.length + r.length = s.length := by rw [← hr]; simp
            have htake : s.take (s.length - tn.length) = q := by rw [← hq]; simp
            have hpre : t ++ (q.drop t.length) = q := by
              have : q.take t.length = t := by
                have h5 : s.take t.length = t := by rw [← hr]; simp
                rw [← htake, List.take_take, Nat.min_eq_left (by omega), h5]
              conv => rhs; rw [← List.take_append_drop t.length q, this]
            rw [htake, mids_iff] at h
            exact ⟨q.drop t.length, by rw [hpre, hq], h⟩
    · rintro ⟨m, rfl, h⟩
      have h1 : ¬ ((t ++ m ++ tn).length < t.length + tn.length) := by simp only [List.length_append]; omega
      have h2 : Lib.hasPrefix (t ++ m ++ tn) t = true := List.isPrefixOf_iff_prefix.2 ⟨m ++ tn, by simp⟩
      have h3 : Lib.hasSuffix (t ++ m ++ tn) tn = true := List.isSuffixOf_iff_suffix.2 ⟨t ++ m, rfl⟩
      rw [if_neg h1, h2, h3]
      simp only [Bool.not_true, Bool.false_eq_true, if_false]
      have : ((t ++ m ++ tn).take ((t ++ m ++ tn).length - tn.length)).drop t.length = m := by
        have e : (t ++ m ++ tn).length - tn.length = (t ++ m).length := by simp only [List.length_append]; omega
        rw [e, List.take_left, List.drop_left]
      rw [this, mids_iff]
      exact h

/-- is a text like a pattern? -/
def likeB (p s : List UInt8) : Bool := (splitC 124 p).any fun x => glob x s
theorem likeB_pieces (p s : List UInt8) : likeB p s = (splitC 124 p).any fun x => isB (splitC 42 x) s := by
  unfold likeB
  congr 1
  funext x
  rw [isB_glob _ _ (splitC_ne 42 x) (splitC_free 42 x), joinC_splitC]
theorem likeB_bar (p q s : List UInt8) : likeB (p ++ 124 :: q) s = (likeB p s || likeB q s) := by
  unfold likeB
  rw [splitC_append, List.any_append]
theorem likeB_one {p s : List UInt8} (h : ∀ c ∈ p, c ≠ 124) : likeB p s = glob p s := by
  unfold likeB
  rw [splitC_none h]
  simp

/-! ### The places of an alternative that can be reached -/
def stB (p s : List UInt8) (k i : Nat) : Bool := if p[i]? = some 42 then (List.range (k + 1)).any fun j => glob (p.take i) (s.take j) else glob (p.take i) (s.take k)
theorem stB_end (p s : List UInt8) : stB p s s.length p.length = glob p s := by
  unfold stB
  rw [if_neg (by simp)]
  simp
theorem glob_snoc {p s : List UInt8} {i k : Nat} {c : UInt8} (hc : p[i]? = some c) (hk : k ≤ s.length) : glob (p.take (i + 1)) (s.take k) = true ↔
    if c = 42 then ∃ j, j ≤ k ∧ glob (p.take i) (s.take j) = true else ∃ j, k = j + 1 ∧ s[j]? = some c ∧ glob (p.take i) (s.take j) = true := by
  rw [List.take_add_one, hc, Option.toList_some, glob_append]
  constructor
  · rintro ⟨a, b, e, h1, h2⟩
    have hal : a.length ≤ k := by have := congrArg List.length e; simp at this; omega
    have ha : a = s.take a.length := by
      have h3 : (s.take k).take a.length = a := by rw [e]; simp
      rw [List.take_take, Nat.min_eq_left hal] at h3
      exact h3.symm
    split
    · exact ⟨a.length, hal, by rw [← ha]; exact h1⟩
    · rename_i hne
      obtain ⟨b', rfl, h3⟩ := (glob_lit hne).1 h2
      rw [glob_nil] at h3
      subst h3
      have hlen := congrArg List.length e
      simp at hlen
      have hk2 : k = a.length + 1 := by omega
      refine ⟨a.length, hk2, ?_, by rw [← ha]; exact h1⟩
      have : (s.take k)[a.length]? = some c := by rw [e]; simp
      rwa [List.getElem?_take, if_pos (by omega)] at this
  · intro h
    split at h
    · rename_i h42
      subst h42
      obtain ⟨j, hj, h⟩ := h
      refine ⟨s.take j, (s.take k).drop j, ?_, h, glob_star.2 ⟨_, [], (List.append_nil _).symm, by simp [glob]⟩⟩
      have : s.take j = (s.take k).take j := by rw [List.take_take, Nat.min_eq_left hj]
      rw [this, List.take_append_drop]
    · rename_i hne
      obtain ⟨j, rfl, hs, h⟩ := h
      refine ⟨s.take j, [c], ?_, h, (glob_lit hne).2 ⟨[], rfl, by simp [glob]⟩⟩
      rw [List.take_add_one, hs]
      rfl
theorem stB_star {p s : List UInt8} {k i : Nat} (h : p[i]? = some 42) : stB p s k i = true ↔ ∃ j, j ≤ k ∧ glob (p.take i) (s.take j) = true := by
  unfold stB
  rw [if_pos h]
  simp only [List.any_eq_true, List.mem_range]
  exact ⟨fun ⟨j, h1, h2⟩ => ⟨j, by omega, h2⟩, fun ⟨j, h1, h2⟩ => ⟨j, by omega, h2⟩⟩
theorem stB_lit {p s : List UInt8} {k i : Nat} (h : p[i]? ≠ some 42) : stB p s k i = glob (p.take i) (s.take k) := by
  unfold stB
  rw [if_neg h]
theorem stB_zero (p s : List UInt8) : stB p s 0 0 = true := by
  by_cases h : p[0]? = some 42
  · rw [stB_star h]; exact ⟨0, Nat.le_refl _, by simp [glob]⟩
  · rw [stB_lit h]; simp [glob]
theorem stB_first {p s : List UInt8} {i : Nat} {c : UInt8} (hc : p[i]? = some c) : stB p s 0 (i + 1) = (stB p s 0 i && c == 42) := by
  have h0 : ∀ i, stB p s 0 i = true ↔ glob (p.take i) (s.take 0) = true := fun i => by
    by_cases h : p[i]? = some 42
    · rw [stB_star h]
      exact ⟨fun ⟨j, hj, h⟩ => by rw [Nat.le_zero.1 hj] at h; exact h, fun h => ⟨0, Nat.le_refl _, h⟩⟩
    · rw [stB_lit h]
  rw [Bool.eq_iff_iff, Bool.and_eq_true, h0, h0, glob_snoc hc (Nat.zero_le _), beq_iff_eq]
  constructor
  · intro h
    split at h
    · rename_i e
      obtain ⟨j, hj, h⟩ := h
      rw [Nat.le_zero.1 hj] at h
      exact ⟨h, e⟩
    · obtain ⟨j, hj, _⟩ := h
      omega
  · rintro ⟨h, rfl⟩
    rw [if_pos rfl]
    exact ⟨0, Nat.le_refl _, h⟩
/-- behind one more byte, before the stars are passed -/
def nxB (p s : List UInt8) (k i : Nat) : Bool :=
  (stB p s k i && p[i]? == some 42) || match i with
    | 0 => false
    | j + 1 => stB p s k j && p[j]? != some 42 && p[j]? == s[k]?
theorem stB_next0 {p s : List UInt8} {k : Nat} (hk : k < s.length) : stB p s (k + 1) 0 = nxB p s k 0 := by
  rw [Bool.eq_iff_iff]
  simp only [nxB, Bool.or_false, Bool.and_eq_true, beq_iff_eq]
  by_cases h : p[0]? = some 42
  · rw [stB_star h, stB_star h]
    exact ⟨fun _ => ⟨⟨0, Nat.zero_le _, by simp [glob]⟩, h⟩, fun _ => ⟨0, Nat.zero_le _, by simp [glob]⟩⟩
  · rw [stB_lit h]
    constructor
    · intro h1
      rw [List.take_zero, glob_nil] at h1
      have := congrArg List.length h1
      rw [List.length_take, List.length_nil] at this
      omega
    · rintro ⟨_, h1⟩
      exact (h h1).elim
theorem stB_next {p s : List UInt8} {k i : Nat} {c : UInt8} (hc : p[i]? = some c) (hk : k < s.length) : stB p s (k + 1) (i + 1) = (nxB p s k (i + 1) || (stB p s (k + 1) i && c == 42)) := by
  have hL : glob (p.take (i + 1)) (s.take (k + 1)) = true ↔ (stB p s k i = true ∧ c ≠ 42 ∧ s[k]? = some c) ∨ (stB p s (k + 1) i = true ∧ c = 42) := by
    rw [glob_snoc hc (by omega)]
    by_cases h42 : c = 42
    · subst h42
      rw [if_pos rfl, stB_star hc, stB_star hc]
      exact ⟨fun h => .inr ⟨h, rfl⟩, fun h => h.elim (fun h => (h.2.1 rfl).elim) fun h => h.1⟩
    · have hn : p[i]? ≠ some 42 := fun e => h42 (by rw [hc] at e; injection e)
      rw [if_neg h42, stB_lit hn, stB_lit hn]
      constructor
      · rintro ⟨j, hj, h1, h2⟩
        obtain rfl : j = k := by omega
        exact .inl ⟨h2, h42, h1⟩
      · rintro (⟨h1, _, h2⟩ | ⟨_, h⟩)
        · exact ⟨k, rfl, h2, h1⟩
        · exact (h42 h).elim
  rw [Bool.eq_iff_iff]
  simp only [nxB, Bool.or_eq_true, Bool.and_eq_true, beq_iff_eq, bne_iff_ne, hc]
  have e1 : (some c ≠ some (42 : UInt8)) ↔ c ≠ 42 := by simp
  have e2 : (some c = s[k]?) ↔ s[k]? = some c := eq_comm
  rw [e1, e2]
  by_cases h : p[i + 1]? = some 42
  · rw [stB_star h, stB_star h]
    constructor
    · rintro ⟨j, hj, hg⟩
      rcases Nat.lt_or_ge k j with hlt | hge
      · obtain rfl : j = k + 1 := by omega
        rcases hL.1 hg with ⟨a, b, d⟩ | ⟨a, b⟩
        · exact .inl (.inr ⟨⟨a, b⟩, d⟩)
        · exact .inr ⟨a, b⟩
      · exact .inl (.inl ⟨⟨j, hge, hg⟩, h⟩)
    · rintro ((⟨⟨j, hj, hg⟩, _⟩ | ⟨⟨a, b⟩, d⟩) | ⟨a, b⟩)
      · exact ⟨j, by omega, hg⟩
      · exact ⟨k + 1, Nat.le_refl _, hL.2 (.inl ⟨a, b, d⟩)⟩
      · exact ⟨k + 1, Nat.le_refl _, hL.2 (.inr ⟨a, b⟩)⟩
  · rw [stB_lit h, hL]
    constructor
    · rintro (⟨a, b, d⟩ | ⟨a, b⟩)
      · exact .inl (.inr ⟨⟨a, b⟩, d⟩)
      · exact .inr ⟨a, b⟩
    · rintro ((⟨_, h1⟩ | ⟨⟨a, b⟩, d⟩) | ⟨a, b⟩)
      · exact (h h1).elim
      · exact .inl ⟨a, b, d⟩
      · exact .inr ⟨a, b⟩
end Go.Proofs.YtailooldnelecaaGreatDoor
