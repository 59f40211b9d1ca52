/-
  Several texts in one:
  What each call of the disk leaves of a disk of any number of files. Conditions: names that may be; lengths within the file's bound; counts that have not come to their ends; the power stays.
-/
import Derived.Test.YtepncgeaehjhiaaGreatPart15

namespace Go.Proofs.YtepncgeaehjhiaaGreat
open Go.RowKit

structure Cnt (armed : Bool) (left : Int) (n : Nat) : Prop where
  na : armed = true → left ≠ 0
  le : -9223372036854775808 ≤ left ∧ left ≤ 9223372036854775807
  n : n ≤ 4000000000000000000

section
variable {S : Nat → Prop} {w : World} {d m : Nat} {E : List FEnt} {clock : Nat} {armed : Bool} {left kp : Int} {n : Nat}

theorem pair_at {i j : Nat} {e f : FEnt} (hp : E.Pairwise Apart) (hi : E[i]? = some e) (hj : E[j]? = some f) (hij : i ≠ j) : Apart f e := by
  obtain ⟨h1, h2⟩ := List.getElem?_eq_some_iff.1 hi
  obtain ⟨h3, h4⟩ := List.getElem?_eq_some_iff.1 hj
  rw [List.pairwise_iff_getElem] at hp
  subst h2; subst h4
  rcases Nat.lt_or_gt_of_ne hij with h | h
  · exact (hp i j h1 h3 h).symm
  · exact hp j i h3 h1 h

/-- a file's entry replaced by another that is apart of all that it was apart of -/
theorem pair_set {E : List FEnt} (hp : E.Pairwise Apart) {i : Nat} {f : FEnt} (hi : E[i]? = some f) (f' : FEnt) (hf : ∀ b ∈ E, Apart b f → Apart b f') : (E.set i f').Pairwise Apart := by
  rw [List.pairwise_iff_getElem] at hp ⊢
  obtain ⟨h1, h2⟩ := List.getElem?_eq_some_iff.1 hi
  intro a b ha hb hab
  simp only [List.length_set] at ha hb
  rw [List.getElem_set, List.getElem_set]
  split
  · rename_i e
    subst e
    rw [if_neg (by omega)]
    exact (hf _ (List.getElem_mem _) (h2 ▸ hp _ _ ha hb hab).symm).symm
  · split
    · rename_i e
      subst e
      exact hf _ (List.getElem_mem _) (h2 ▸ hp _ _ ha hb hab)
    · exact hp _ _ ha hb hab

theorem fs_new (w : World) : Calls Tryz.prog 4 #[] w fun e w' => ∃ d m, e = .returned (.pointer (some ⟨d, 0, none⟩)) ∧ FS (fun k => w.heap.size ≤ k) w' d m [] 0 true false 0 0 0 ∧ Grew w w' :=
  (new_any w).mono fun e w' ⟨d, m, h1, h2, h3⟩ => ⟨d, m, h1, ⟨h2, fun e he => by simp at he, List.Pairwise.nil⟩, h3⟩

theorem fs_append_new (h : FS S w d m E clock true armed left kp n) (hc : Cnt armed left n) (x : ByteArray) (hx : NmOk x) (hno : ∀ e ∈ E, e.nm ≠ x) (hE : E.length < 1048576) (A : Option Addr) (k cap : Nat) (l : List UInt8) (hr : RB w A k l) (hk : k ≤ 4194304) (hAd : ∀ ad, A = some ad → 0 < k → ad.block ≠ d) :
    Calls Tryz.prog 75 #[.pointer (some ⟨d, 0, none⟩), .string x, .slice A k cap] w fun e w' => e = .returned (.int .i64 0) ∧ ∃ f : FEnt, f.nm = x ∧ f.l = l ∧ f.sy = 0 ∧ FS (Up S w) w' d m (E ++ [f]) (clock + 1) true armed (dcl left) kp (n + 1) ∧ Chg S w w' := by
  have hR := h.rise
  refine (append_new Up.new hR.dsk hc.na hc.le hc.n x hx (by simpa using find_no E 0 hno) (by simpa using hE) A k cap l hr hk hAd).mono ?_
  rintro e w' ⟨rfl, g, A', c, h1, h2, h3, h4, h5⟩
  refine ⟨rfl, ⟨x, g, clock, A', c, l, 0⟩, rfl, rfl, rfl, ⟨?_, ?_, ?_⟩, ?_⟩
  · have := ent_push E ⟨x, g, clock, A', c, l, 0⟩
    rw [← this]
    exact h1
  · intro e he
    rcases List.mem_append.1 he with he | he
    · exact (hR.ok e he).stay hR.dsk h3 (Nat.le_succ _)
    · obtain rfl : e = _ := by simpa using he
      exact ⟨h2, Nat.zero_le _, by show l.length ≤ _; rw [hr.1]; exact hk, Nat.lt_succ_self _⟩
  · rw [List.pairwise_append]
    refine ⟨h.ap, List.pairwise_singleton _ _, ?_⟩
    intro a ha b hb
    obtain rfl : b = _ := by simpa using hb
    have ho := h.ok a ha
    refine ⟨hno a ha, fun e => ?_, fun e => ?_, fun ad bd e1 e2 e => ?_⟩
    · have := ho.fil.hg.lt
      have e : a.g = g := e
      omega
    · have := ho.born
      have e : a.born = clock := e
      omega
    · have := (Own.blk_lt ho.fil.hA ad e1).2
      have := h5 bd e2
      omega
  · exact h3.mono fun k _ hk => hk.elim (fun e => e ▸ h.dsk.od) (fun e => e ▸ h.dsk.om)

theorem fs_sync (h : FS S w d m E clock true armed left kp n) (hc : Cnt armed left n) {i : Nat} {f : FEnt} (hi : E[i]? = some f) (hx : NmOk f.nm) :
    Calls Tryz.prog 76 #[.pointer (some ⟨d, 0, none⟩), .string f.nm] w fun e w' => e = .returned (.int .i64 0) ∧ FS S w' d m (E.set i { f with sy := f.l.length }) clock true armed (dcl left) kp (n + 1) ∧ Chg S w w' := by
  have hf := h.ok f (List.mem_of_getElem? hi)
  refine (sync_ok h.dsk hc.na hc.le hc.n f.nm hx (h.find hi) hf.fil).mono ?_
  rintro e w' ⟨rfl, h1, h2, h3⟩
  obtain ⟨hil, hie⟩ := List.getElem?_eq_some_iff.1 hi
  have hent : ((E.set i { f with sy := f.l.length }).map FEnt.ent) = E.map FEnt.ent := by
    apply List.ext_getElem?
    intro j
    simp only [List.getElem?_map, List.getElem?_set]
    by_cases hij : i = j
    · subst hij
      simp [hil, hie, FEnt.ent, entF]
    · simp [hij]
  have hc3 : Chg (fun k => k = d ∨ k = f.g ∨ ∃ ad, f.A = some ad ∧ k = ad.block) w w' := h3.mono fun k _ hk => hk.elim .inl (fun e => .inr (.inl e))
  refine ⟨rfl, ⟨by rw [hent]; exact h1, ?_, ?_⟩, h3.mono fun k _ hk => hk.elim (fun e => e ▸ h.dsk.od) (fun e => e ▸ hf.fil.og)⟩
  · intro e he
    obtain ⟨j, hj⟩ := List.getElem?_of_mem he
    rw [List.getElem?_set] at hj
    by_cases hij : i = j
    · subst hij
      simp [hil] at hj
      subst hj
      exact ⟨h2, Nat.le_refl _, hf.len, hf.born⟩
    · simp [hij] at hj
      exact (h.ok e (List.mem_of_getElem? hj)).stay3 hf (pair_at h.ap hi hj hij) h.dsk hc3 (Nat.le_refl _)
  · exact pair_set h.ap hi ⟨f.nm, f.g, f.born, f.A, f.cap, f.l, f.l.length⟩ fun b _ hb => hb
theorem mem_erase {i : Nat} {f : FEnt} (hp : E.Pairwise Apart) (hi : E[i]? = some f) {e : FEnt} (he : e ∈ E.eraseIdx i) : e ∈ E ∧ Apart e f := by
  obtain ⟨j, hj, hje⟩ := List.mem_eraseIdx_iff_getElem?.1 he
  exact ⟨List.mem_of_getElem? hje, pair_at hp hi hje (fun e => hj e.symm)⟩
theorem pair_erase (hp : E.Pairwise Apart) (i : Nat) : (E.eraseIdx i).Pairwise Apart := hp.sublist (List.eraseIdx_sublist E i)

theorem fs_rename_new (h : FS S w d m E clock true armed left kp n) (hc : Cnt armed left n) {i : Nat} {f : FEnt} (hi : E[i]? = some f) (hx : NmOk f.nm) (y : ByteArray) (hy : NmOk y) (hno : ∀ e ∈ E.eraseIdx i, e.nm ≠ y) :
    Calls Tryz.prog 77 #[.pointer (some ⟨d, 0, none⟩), .string f.nm, .string y] w fun e w' => e = .returned (.int .i64 0) ∧ FS S w' d m (E.eraseIdx i ++ [{ f with nm := y, born := clock }]) (clock + 1) true armed (dcl left) kp (n + 1) ∧ Chg S w w' := by
  have hf := h.ok f (List.mem_of_getElem? hi)
  refine (rename_ok h.dsk hc.na hc.le hc.n f.nm y hx hy (h.find hi) (es2 := ((E.eraseIdx i ++ [{ f with nm := y, born := clock }]).map FEnt.ent).toArray) (clock2 := clock + 1) ?_).mono ?_
  · intro w' hm
    rw [ent_erase] at hm
    have := run_put_new (P := Tryz.prog) Tryz.underlying44 Tryz.underlying9 hm (.pointer (some ⟨f.g, 0, none⟩)) (by simpa using find_no (E.eraseIdx i) 0 hno)
    rw [this]
    simp [FEnt.ent, entF]
  · rintro e w' ⟨rfl, h1, h3⟩
    refine ⟨rfl, ⟨h1, ?_, ?_⟩, h3.mono fun k _ hk => hk.elim (fun e => e ▸ h.dsk.od) (fun e => e ▸ h.dsk.om)⟩
    · intro e he
      rcases List.mem_append.1 he with he | he
      · exact (h.ok e (mem_erase h.ap hi he).1).stay h.dsk h3 (Nat.le_succ _)
      · obtain rfl : e = _ := by simpa using he
        have hk := hf.stay (clock' := clock + 1) h.dsk h3 (Nat.le_succ _)
        exact ⟨hk.fil, hk.sy, hk.len, Nat.lt_succ_self _⟩
    · rw [List.pairwise_append]
      refine ⟨pair_erase h.ap i, List.pairwise_singleton _ _, ?_⟩
      intro a ha b hb
      obtain rfl : b = _ := by simpa using hb
      have ho := mem_erase h.ap hi ha
      refine ⟨hno a ha, ho.2.2.1, fun e => ?_, ho.2.2.2.2⟩
      have := (h.ok a ho.1).born
      have e : a.born = clock := e
      omega

theorem fs_rename_old (h : FS S w d m E clock true armed left kp n) (hc : Cnt armed left n) {i : Nat} {f : FEnt} (hi : E[i]? = some f) (hx : NmOk f.nm) {j : Nat} {t : FEnt} (hj : (E.eraseIdx i)[j]? = some t) (hy : NmOk t.nm) :
    Calls Tryz.prog 77 #[.pointer (some ⟨d, 0, none⟩), .string f.nm, .string t.nm] w fun e w' => e = .returned (.int .i64 0) ∧ FS S w' d m ((E.eraseIdx i).set j { f with nm := t.nm, born := t.born }) clock true armed (dcl left) kp (n + 1) ∧ Chg S w w' := by
  have hf := h.ok f (List.mem_of_getElem? hi)
  have ht := mem_erase h.ap hi (List.mem_of_getElem? hj)
  refine (rename_ok h.dsk hc.na hc.le hc.n f.nm t.nm hx hy (h.find hi) (es2 := (((E.eraseIdx i).set j { f with nm := t.nm, born := t.born }).map FEnt.ent).toArray) (clock2 := clock) ?_).mono ?_
  · intro w' hm
    rw [ent_erase] at hm
    have hfd := find_at (E.eraseIdx i) j 0 t hj (pair_erase h.ap i)
    have := run_put_old (P := Tryz.prog) Tryz.underlying44 Tryz.underlying9 hm (.pointer (some ⟨f.g, 0, none⟩)) (i := j) (x := t.ent) (by simpa using hfd) (by simp [hj]) rfl
    rw [this, ent_modify (E.eraseIdx i) j t { f with nm := t.nm, born := t.born } hj rfl rfl t.nm rfl]
  · rintro e w' ⟨rfl, h1, h3⟩
    refine ⟨rfl, ⟨h1, ?_, ?_⟩, h3.mono fun k _ hk => hk.elim (fun e => e ▸ h.dsk.od) (fun e => e ▸ h.dsk.om)⟩
    · intro e he
      rcases List.mem_or_eq_of_mem_set he with he | rfl
      · exact (h.ok e (mem_erase h.ap hi he).1).stay h.dsk h3 (Nat.le_refl _)
      · have hk := hf.stay (clock' := clock) h.dsk h3 (Nat.le_refl _)
        exact ⟨hk.fil, hk.sy, hk.len, (h.ok t ht.1).born⟩
    · refine pair_set (pair_erase h.ap i) hj _ fun b hb hbt => ?_
      have ho := mem_erase h.ap hi hb
      exact ⟨hbt.1, ho.2.2.1, hbt.2.2.1, ho.2.2.2.2⟩

theorem fs_delete (h : FS S w d m E clock true armed left kp n) (hc : Cnt armed left n) {i : Nat} {f : FEnt} (hi : E[i]? = some f) (hx : NmOk f.nm) :
    Calls Tryz.prog 15 #[.pointer (some ⟨d, 0, none⟩), .string f.nm] w fun e w' => e = .returned (.int .i64 0) ∧ FS S w' d m (E.eraseIdx i) clock true armed (dcl left) kp (n + 1) ∧ Chg S w w' := by
  refine (delete_ok h.dsk hc.na hc.le hc.n f.nm hx (h.find hi)).mono ?_
  rintro e w' ⟨rfl, h1, h3⟩
  rw [ent_erase] at h1
  exact ⟨rfl, ⟨h1, fun e he => (h.ok e (mem_erase h.ap hi he).1).stay h.dsk h3 (Nat.le_refl _), pair_erase h.ap i⟩, h3.mono fun k _ hk => hk.elim (fun e => e ▸ h.dsk.od) (fun e => e ▸ h.dsk.om)⟩
theorem fs_delete_none (h : FS S w d m E clock true armed left kp n) (x : ByteArray) (hx : NmOk x) (hno : ∀ e ∈ E, e.nm ≠ x) :
    Calls Tryz.prog 15 #[.pointer (some ⟨d, 0, none⟩), .string x] w fun e w' => e = .returned (.int .i64 62) ∧ Grew w w' :=
  delete_none h.dsk x hx (by simpa using find_no E 0 hno)
theorem fs_read (h : FS S w d m E clock true armed left kp n) {i : Nat} {f : FEnt} (hi : E[i]? = some f) (hx : NmOk f.nm) :
    Calls Tryz.prog 70 #[.pointer (some ⟨d, 0, none⟩), .string f.nm] w fun e w' => ∃ A' c', e = .returned (.tuple #[.slice A' f.l.length c', .int .i64 0]) ∧ OB w' w.heap.size 5 A' f.l.length c' f.l ∧ Grew w w' :=
  read_ok h.dsk f.nm hx (h.find hi) (h.ok f (List.mem_of_getElem? hi)).fil (h.ok f (List.mem_of_getElem? hi)).len
theorem fs_read_none (h : FS S w d m E clock true armed left kp n) (x : ByteArray) (hx : NmOk x) (hno : ∀ e ∈ E, e.nm ≠ x) :
    Calls Tryz.prog 70 #[.pointer (some ⟨d, 0, none⟩), .string x] w fun e w' => e = .returned (.tuple #[.slice none 0 0, .int .i64 62]) ∧ w = w' :=
  read_none h.dsk x hx (by simpa using find_no E 0 hno)
end
end Go.Proofs.YtepncgeaehjhiaaGreat
