/-
  Several texts in one:
  Package match: texts in rows; what a piece says of a text. Conditions: texts that memory bears.
-/
import Derived.Test.YtailooldnelecaaGreatDoorPart19
import Derived.Test.YtailooldnelecaaGreatDoorPart2
import Derived.Test.YtailooldnelecaaGreatDoorPart7
import Derived.Test.YtailooldnelecaaGreatDoorShelf
import Derived.Lib.CutLaws

namespace Go.Proofs.YtailooldnelecaaGreatDoor
open Go.RowKit

/-- a text in a cell -/
def elStr : El ByteArray := ⟨fun s => [.string s], 1, fun _ => rfl, by
  intro x u hu
  simp only [List.mem_cons, List.not_mem_nil, or_false] at hu
  subst hu
  rfl⟩
theorem RE.str {w : World} {A : Option Addr} {n : Nat} {l : List ByteArray} (h : RE elStr w A n l) {k : Nat} (hk : k < n) : ∃ ad s, A = some ad ∧ l[k]? = some s ∧ w.cell? (ad.add k) = some (.string s) := by
  obtain ⟨ad, s, e, hs, hc⟩ := h.at_ hk (by decide)
  exact ⟨ad, s, e, hs, by have := hc 0 _ rfl; rwa [show k * elStr.sz + 0 = k from by simp [elStr]] at this⟩

abbrev lst (s : ByteArray) : List UInt8 := s.data.toList
theorem lst_length (s : ByteArray) : (lst s).length = s.size := by rw [Array.length_toList]; rfl
theorem lst_inj {a b : ByteArray} : lst a = lst b ↔ a = b := by
  constructor
  · intro h
    cases a; cases b
    congr
    exact Array.ext' h
  · rintro rfl; rfl
theorem beq_lst (a b : ByteArray) : (a == b) = (lst a == lst b) := by
  have h1 : (a == b) = (a.data == b.data) := rfl
  rw [h1, Bool.eq_iff_iff, beq_iff_eq, beq_iff_eq]
  exact ⟨fun h => by rw [lst, h], fun h => Array.ext' h⟩
theorem lst_extract (s : ByteArray) (a b : Nat) : lst (s.extract a b) = ((lst s).take b).drop a := by
  rw [lst, Lib.extract_data, List.drop_take]

/-- the library's variable that says how far a search goes by itself -/
def MaxL (w : World) : Prop := ∃ m, w.cell? ⟨0, 0, none⟩ = some (.int .i64 m)
theorem MaxL.grew {w w' : World} (h : MaxL w) (hg : Grew w w') : MaxL w' := h.imp fun _ h => hg.cell h (fun e => e)

theorem index_any (s t : ByteArray) (w : World) (hs : s.size < 4294967281) (h : MaxL w) :
    Calls Tryz.prog 98 #[.string s, .string t] w fun e w' => e = .returned (.int .i64 (Lib.index (lst s) (lst t))) ∧ w = w' := by
  obtain ⟨m, hm⟩ := h
  exact (Tryz.strings_Index s t m w hs hm).mono fun _ _ ⟨h1, h2⟩ => ⟨h1, h2.symm⟩
theorem prefix_any (s t : ByteArray) (w : World) :
    Calls Tryz.prog 100 #[.string s, .string t] w fun e w' => e = .returned (.bool (Lib.hasPrefix (lst s) (lst t))) ∧ w = w' :=
  (Tryz.strings_HasPrefix s t w).mono fun _ _ ⟨h1, h2⟩ => ⟨h1, h2.symm⟩
theorem suffix_any (s t : ByteArray) (w : World) (hs : s.size ≤ 9223372036854775807) :
    Calls Tryz.prog 101 #[.string s, .string t] w fun e w' => e = .returned (.bool (Lib.hasSuffix (lst s) (lst t))) ∧ w = w' :=
  (Tryz.strings_HasSuffix s t w hs).mono fun _ _ ⟨h1, h2⟩ => ⟨h1, h2.symm⟩
/-- cut at a byte -/
def splitS (c : UInt8) (s : ByteArray) : List ByteArray := Lib.splitB ⟨#[c]⟩ 0 (Lib.countB s ⟨#[c]⟩) s
theorem splitS_lst (c : UInt8) (s : ByteArray) : (splitS c s).map lst = splitC c (lst s) := splitB_one c s
theorem sep_one (c : UInt8) : 1 ≤ (⟨#[c]⟩ : ByteArray).size := Nat.le_refl 1
theorem splitS_len (c : UInt8) (s : ByteArray) : (splitS c s).length = Lib.countB s ⟨#[c]⟩ + 1 := Lib.splitB_all _ (sep_one c) 0 _ s rfl
theorem splitS_le (c : UInt8) (s : ByteArray) : (splitS c s).length ≤ s.size + 1 := by
  rw [splitS_len]
  have := Lib.countB_le ⟨#[c]⟩ (sep_one c) s.size s (Nat.le_refl _)
  omega
theorem flat_str (l : List ByteArray) : elStr.flat l = l.map Value.string := by
  induction l with
  | nil => rfl
  | cons x l ih => rw [El.flat_cons, ih]; rfl
/-- a row of texts, known whole -/
def Txs (w : World) (g : Nat) (l : List ByteArray) : Prop := Blk w g 9 (l.map Value.string).toArray
theorem Txs.re {w : World} {g : Nat} {l : List ByteArray} (h : Txs w g l) : RE elStr w (some ⟨g, 0, none⟩) l.length l := by
  refine ⟨rfl, fun k u hu => ⟨_, rfl, ?_⟩⟩
  rw [add_head, Blk.cell h]
  rw [flat_str] at hu
  simpa using hu
theorem splitC_le {c : UInt8} : ∀ {l : List UInt8}, ∀ x ∈ splitC c l, x.length ≤ l.length
  | [], x, hx => by simp [splitC] at hx; simp [hx]
  | d :: l, x, hx => by
    have ih := splitC_le (c := c) (l := l)
    unfold splitC at hx
    split at hx
    · rcases List.mem_cons.1 hx with rfl | hx
      · simp
      · have := ih x hx; simp; omega
    · cases hs : splitC c l with
      | nil => exact (splitC_ne c l hs).elim
      | cons z zs =>
        rw [hs] at hx
        simp only at hx
        rcases List.mem_cons.1 hx with rfl | hx
        · have := ih z (by rw [hs]; simp); simp; omega
        · have := ih x (by rw [hs]; simp [hx]); simp; omega
theorem splitS_part {c : UInt8} {s t : ByteArray} (h : t ∈ splitS c s) : t.size ≤ s.size := by
  have h1 : lst t ∈ splitC c (lst s) := by rw [← splitS_lst]; exact List.mem_map_of_mem h
  have := splitC_le _ h1
  rwa [lst_length, lst_length] at this
def SplP (w : World) (l : List ByteArray) (e : Ending) (w' : World) : Prop :=
  e = .returned (.slice (some ⟨w.heap.size, 0, none⟩) l.length l.length) ∧ Txs w' w.heap.size l ∧ Grew w w' ∧ w.heap.size < w'.heap.size
theorem split_any (c : UInt8) (s : ByteArray) (w : World) (hs : s.size < 4294967281) (h : MaxL w) :
    Calls Tryz.prog 74 #[.string s, .string ⟨#[c]⟩] w (SplP w (splitS c s)) := by
  obtain ⟨m, hm⟩ := h
  refine (Tryz.strings_Split s ⟨#[c]⟩ m w hs hm (sep_one c)).mono fun e w' ⟨h1, h2⟩ => ?_
  subst h2
  exact ⟨by rw [h1, splitS_len], Blk.new w _ _, (Chg.refl _ w).alloc _, by simp⟩

theorem isB_long {ts : List (List UInt8)} {s t tn : List UInt8} {n : Nat} (hl : ts.length = n) (hn : 2 ≤ n) (h0 : ts[0]? = some t) (h1 : ts[n - 1]? = some tn) :
    isB ts s = if s.length < t.length + tn.length then false else if !Lib.hasPrefix s t then false else if !Lib.hasSuffix s tn then false else mids ((ts.take (n - 1)).drop 1) ((s.take (s.length - tn.length)).drop t.length) := by
  match ts, hl, hn with
  | a :: b :: r, hl, _ =>
    simp at h0
    subst h0
    have e1 : (b :: r).getLastD [] = tn := by
      rw [← hl] at h1
      simp only [List.length_cons, Nat.add_sub_cancel, List.getElem?_cons_succ] at h1
      rw [List.getLastD_eq_getLast?, List.getLast?_eq_getElem?]
      simp only [List.length_cons, Nat.add_sub_cancel]
      rw [h1]
      rfl
    have e2 : ((a :: b :: r).take (n - 1)).drop 1 = (b :: r).dropLast := by
      rw [← hl, List.dropLast_eq_take]
      simp
    rw [e2]
    simp only [isB, e1]
  | [], hl, hn => simp at hl; omega
  | [a], hl, hn => simp at hl; omega
theorem isB_short {ts : List (List UInt8)} {s t : List UInt8} (hl : ts.length = 1) (h0 : ts[0]? = some t) : isB ts s = (s == t) := by
  match ts, hl with
  | [a], _ => simp at h0; subst h0; rfl

set_option maxRecDepth 100000 in
set_option maxHeartbeats 2000000 in
theorem is_any (A : Option Addr) (n c : Nat) (ts : List ByteArray) (s : ByteArray) (w : World) (h : RE elStr w A n ts) (hn : 0 < n) (hc : n ≤ c) (hcm : c ≤ 9223372036854775807) (hs : s.size < 4294967281) (hts : ∀ t ∈ ts, t.size < 4294967281) (hm : MaxL w) :
    Calls Tryz.prog 95 #[.agg #[.slice A n c], .string s] w fun e w' => e = .returned (.bool (isB (ts.map lst) (lst s))) ∧ Grew w w' := by
  have hlen := h.1
  have hg0 : Grew w (w.alloc (.cells #[.slice A n c] 118)) := (Chg.refl _ w).alloc _
  have hr0 := h.grew hg0
  have hm0 := hm.grew hg0
  have hb0 : Blk (w.alloc (.cells #[.slice A n c] 118)) w.heap.size 118 #[.slice A n c] := Blk.new w _ _
  clear h hm
  obtain ⟨ad, t0, rfl, h0, hc0⟩ := hr0.str hn
  obtain ⟨ad', tn, e, h1, hc1⟩ := hr0.str (k := n - 1) (by omega)
  injection e with e
  subst e
  have hz0 := hts t0 (List.mem_of_getElem? h0)
  have hz1 := hts tn (List.mem_of_getElem? h1)
  have e0 : ad.add 0 = ad := rfl
  rw [e0] at hc0
  have kz : (n : Int) - 1 = ((n - 1 : Nat) : Int) := by omega
  have hn1' : n - 1 < n := by omega
  by_cases hn1 : n = 1
  · have hr : isB (ts.map lst) (lst s) = (s.toList == t0.toList) := by
      rw [isB_short (t := lst t0) (by simpa using hlen.trans hn1) (by rw [List.getElem?_map, h0]; rfl), ByteArray.toList_eq, ByteArray.toList_eq]
    have Hr := Lib.hid hr
    subst hn1
    clear hr h0 h1 hlen hts
    go_enter Tryz.func95, Tryz.ntmps95
    go_wp2_with fail
    generalize w.alloc (.cells #[.slice (some ad) 1 c] 118) = W at *
    generalize w.heap.size = b0 at *
    have p0 : W.cell? ⟨b0, 0, none⟩ = some (.slice (some ad) 1 c) := by rw [hb0.cell]; rfl
    refine wp_region_text [(3, 1)] (by kernel_rfl) (by kernel_rfl) ?_
    simp only [instr, chk, look, Nat.reduceBEq, if_true, if_false, Nat.reduceEqDiff, List.cons_append, List.nil_append]
    go_wp2_with fail
    refine OnlyN.normal ?_
    go_wp2
    go_ret
    exact ⟨by rw [Hr.out]; simp, hg0.drew⟩
  · have hl2 : (ts.map lst).length = n := by simpa using hlen
    have hr := isB_long (s := lst s) (t := lst t0) (tn := lst tn) hl2 (by omega) (by rw [List.getElem?_map, h0]; rfl) (by rw [List.getElem?_map, h1]; rfl)
    rw [lst_length, lst_length, lst_length] at hr
    have hn2 : ((n : Int) == 1) = false := by simp; omega
    have Hr := Lib.hid hr
    have Hlen := Lib.hid hlen
    clear hr h0 h1 hl2 hlen
    by_cases hsz : s.size < t0.size + tn.size
    · have Hr2 : Hid (isB (ts.map lst) (lst s) = false) := by show _ = _; rw [Hr.out, if_pos hsz]
      clear Hr
      go_enter Tryz.func95, Tryz.ntmps95
      go_wp2_with fail
      generalize w.alloc (.cells #[.slice (some ad) n c] 118) = W at *
      generalize w.heap.size = b0 at *
      have p0 : W.cell? ⟨b0, 0, none⟩ = some (.slice (some ad) n c) := by rw [hb0.cell]; rfl
      refine wp_region_text [(3, 1)] (by kernel_rfl) (by kernel_rfl) ?_
      simp only [instr, chk, look, Nat.reduceBEq, if_true, if_false, Nat.reduceEqDiff, List.cons_append, List.nil_append]
      go_wp2_with fail
      refine OnlyN.normal ?_
      go_wp2
      go_ret
      exact ⟨by rw [Hr2.out]; simp, hg0.drew⟩
    · have hr2 := Hr.out
      rw [if_neg hsz] at hr2
      clear Hr
      by_cases hpre : Lib.hasPrefix (lst s) (lst t0) = true
      · by_cases hsuf : Lib.hasSuffix (lst s) (lst tn) = true
        · have P1 : Hid (∀ w, Calls Tryz.prog 100 #[.string s, .string t0] w fun e w' => e = .returned (.bool true) ∧ w = w') := fun w => by have := prefix_any s t0 w; rwa [hpre] at this
          have P2 : Hid (∀ w, Calls Tryz.prog 101 #[.string s, .string tn] w fun e w' => e = .returned (.bool true) ∧ w = w') := fun w => by have := suffix_any s tn w (by omega); rwa [hsuf] at this
          rw [hpre, hsuf, if_neg (by simp), if_neg (by simp)] at hr2
          have hle : t0.size + tn.size ≤ s.size := by omega
          have hx : lst (s.extract t0.size (s.size - tn.size)) = ((lst s).take (s.size - tn.size)).drop t0.size := lst_extract _ _ _
          rw [← hx] at hr2
          obtain ⟨M, hM⟩ : ∃ M, M = ((ts.map lst).take (n - 1)).drop 1 := ⟨_, rfl⟩
          rw [← hM] at hr2
          have Hr2 := Lib.hid hr2
          have hMl : M.length = n - 2 := by rw [hM]; simp [Hlen.out]; omega
          have HM : Hid (∀ j t, j < n - 2 → ts[1 + j]? = some t → M.drop j = lst t :: M.drop (j + 1)) := fun j t hj ht => by
            have : M[j]? = some (lst t) := by
              rw [hM, List.getElem?_drop, List.getElem?_take, if_pos (by omega), List.getElem?_map, ht]
              rfl
            obtain ⟨hlt, he⟩ := List.getElem?_eq_some_iff.1 this
            rw [List.drop_eq_getElem_cons hlt, he]
          have Hend : Hid (M.drop (n - 2) = []) := by show _ = _; rw [← hMl]; exact List.drop_length
          have Hts := Lib.hid hts
          have hc2 : 1 < c := by omega
          have hb1 : decide ((s.size : Int) < (t0.size : Int) + tn.size) = false := by simp; omega
          clear hr2 hpre hsuf hsz hx hM hMl hts
          go_enter Tryz.func95, Tryz.ntmps95
          go_wp2_with fail
          generalize w.alloc (.cells #[.slice (some ad) n c] 118) = W at *
          generalize w.heap.size = b0 at *
          have p0 : W.cell? ⟨b0, 0, none⟩ = some (.slice (some ad) n c) := by rw [hb0.cell]; rfl
          refine wp_region_text [(3, 1)] (by kernel_rfl) (by kernel_rfl) ?_
          simp only [instr, chk, look, Nat.reduceBEq, if_true, if_false, Nat.reduceEqDiff, List.cons_append, List.nil_append]
          go_wp2_with fail
          refine OnlyN.normal ?_
          go_wp2_with fail
          refine (P1.out _).mono ?_
          rintro e w1 ⟨rfl, rfl⟩
          go_wp2_with fail
          refine (P2.out _).mono ?_
          rintro e w1 ⟨rfl, rfl⟩
          go_wp2
          have hz : (s.extract t0.size (s.size - tn.size)).size ≤ s.size := by rw [ByteArray.size_extract]; omega
          clear P1 P2 hc0 hc1 hb1 e0 kz hn1 hn2
          generalize s.extract t0.size (s.size - tn.size) = sm at *
          go_loop [1, 66] (fun sv i => ∃ (j : Nat) (s' : ByteArray), j ≤ n - 2 ∧ i = .int .i64 (j : Int) ∧ sv = .string s' ∧ s'.size ≤ s.size ∧ Hid (mids (M.drop j) (lst s') = isB (ts.map lst) (lst s))) (fun _ i => n - 2 - (intOf i).toNat)
          case atStart => exact ⟨0, sm, by omega, rfl, rfl, hz, by show _ = _; rw [Hr2.out]; rfl⟩
          case round =>
            clear Hr2 hz
            obtain ⟨j, s', hj, rfl, rfl, hs', Hj⟩ := hrel
            by_cases hlt : j < n - 2
            · obtain ⟨ad', t, e, ht, hct⟩ := hr0.str (k := 1 + j) (by omega)
              injection e with e
              subst e
              have hct' : W.cell? ⟨ad.block, ad.off + 1 + j, none⟩ = some (.string t) := by rw [Nat.add_assoc, ← add_pos (a := ad) (j := 1 + j) (by omega)]; exact hct
              have hjj := Hj.out
              rw [HM.out j t hlt ht] at hjj
              have hM2 : mids (lst t :: M.drop (j + 1)) (lst s') = if Lib.index (lst s') (lst t) == -1 then false else mids (M.drop (j + 1)) ((lst s').drop ((Lib.index (lst s') (lst t)).toNat + (lst t).length)) := rfl
              rw [hM2] at hjj
              have I : Hid (∀ w, MaxL w → Calls Tryz.prog 98 #[.string s', .string t] w fun e w' => e = .returned (.int .i64 (Lib.index (lst s') (lst t))) ∧ w = w') := fun w hm => index_any s' t w (by omega) hm
              have hix := Lib.indexB_cases s' t
              have hix' : Lib.index (lst s') (lst t) = -1 ∨ ∃ i : Nat, Lib.index (lst s') (lst t) = (i : Int) ∧ i + t.size ≤ s'.size := hix
              generalize Lib.index (lst s') (lst t) = ix at *
              have htz := Hts.out t (List.mem_of_getElem? ht)
              clear hix hM2 ht hct HM Hj
              rcases hix' with rfl | ⟨i, rfl, hi⟩
              · have Hjj := Lib.hid (show false = isB (ts.map lst) (lst s) from hjj)
                clear hjj
                go_wp2_with fail
                refine (I.out _ (by exact hm0)).mono ?_
                rintro e w1 ⟨rfl, rfl⟩
                go_wp2
                go_ret
                exact ⟨by rw [← Hjj.out]; simp, hg0.drew⟩
              · have hne : ((i : Int) == -1) = false := by simp
                rw [hne, if_neg (by simp), Int.toNat_natCast, lst_length] at hjj
                have hsx : lst (s'.extract (i + t.size) s'.size) = (lst s').drop (i + t.size) := Lib.extract_to_end s' (i + t.size)
                rw [← hsx] at hjj
                have hzx : (s'.extract (i + t.size) s'.size).size ≤ s'.size := by rw [ByteArray.size_extract]; omega
                have Hjj := Lib.hid hjj
                clear hjj hsx hne
                go_wp2_with fail
                refine (I.out _ (by exact hm0)).mono ?_
                rintro e w1 ⟨rfl, rfl⟩
                go_wp2
                go_round
                case rel => exact ⟨j + 1, _, by omega, by go_num, rfl, by omega, Hjj.out⟩
                case measure => simp [intOf]; omega
            · obtain rfl : j = n - 2 := by omega
              have hjj := Hj.out
              rw [Hend.out] at hjj
              have Hjj := Lib.hid (show true = isB (ts.map lst) (lst s) from hjj)
              have hd : n - 2 = n - 1 - 1 := by omega
              clear hjj Hj HM
              go_wp2
              go_ret
              exact ⟨by rw [← Hjj.out]; simp, hg0.drew⟩
        · have hsuf : Lib.hasSuffix (lst s) (lst tn) = false := by simpa using hsuf
          have Hr2 : Hid (isB (ts.map lst) (lst s) = false) := by show _ = _; rw [hr2, hpre, hsuf]; rfl
          have P1 : Hid (∀ w, Calls Tryz.prog 100 #[.string s, .string t0] w fun e w' => e = .returned (.bool true) ∧ w = w') := fun w => by have := prefix_any s t0 w; rwa [hpre] at this
          have P2 : Hid (∀ w, Calls Tryz.prog 101 #[.string s, .string tn] w fun e w' => e = .returned (.bool false) ∧ w = w') := fun w => by have := suffix_any s tn w (by omega); rwa [hsuf] at this
          clear hr2 hpre hsuf
          go_enter Tryz.func95, Tryz.ntmps95
          go_wp2_with fail
          generalize w.alloc (.cells #[.slice (some ad) n c] 118) = W at *
          generalize w.heap.size = b0 at *
          have p0 : W.cell? ⟨b0, 0, none⟩ = some (.slice (some ad) n c) := by rw [hb0.cell]; rfl
          refine wp_region_text [(3, 1)] (by kernel_rfl) (by kernel_rfl) ?_
          simp only [instr, chk, look, Nat.reduceBEq, if_true, if_false, Nat.reduceEqDiff, List.cons_append, List.nil_append]
          go_wp2_with fail
          refine OnlyN.normal ?_
          go_wp2_with fail
          refine (P1.out _).mono ?_
          rintro e w1 ⟨rfl, rfl⟩
          go_wp2_with fail
          refine (P2.out _).mono ?_
          rintro e w1 ⟨rfl, rfl⟩
          go_wp2
          go_ret
          exact ⟨by rw [Hr2.out]; simp, hg0.drew⟩
      · have hpre : Lib.hasPrefix (lst s) (lst t0) = false := by simpa using hpre
        have Hr2 : Hid (isB (ts.map lst) (lst s) = false) := by show _ = _; rw [hr2, hpre]; rfl
        have M : Hid (∀ w, Calls Tryz.prog 100 #[.string s, .string t0] w fun e w' => e = .returned (.bool false) ∧ w = w') := fun w => by have := prefix_any s t0 w; rwa [hpre] at this
        clear hr2 hpre
        go_enter Tryz.func95, Tryz.ntmps95
        go_wp2_with fail
        generalize w.alloc (.cells #[.slice (some ad) n c] 118) = W at *
        generalize w.heap.size = b0 at *
        have p0 : W.cell? ⟨b0, 0, none⟩ = some (.slice (some ad) n c) := by rw [hb0.cell]; rfl
        refine wp_region_text [(3, 1)] (by kernel_rfl) (by kernel_rfl) ?_
        simp only [instr, chk, look, Nat.reduceBEq, if_true, if_false, Nat.reduceEqDiff, List.cons_append, List.nil_append]
        go_wp2_with fail
        refine OnlyN.normal ?_
        go_wp2_with fail
        refine (M.out _).mono ?_
        rintro e w1 ⟨rfl, rfl⟩
        go_wp2
        go_ret
        exact ⟨by rw [Hr2.out]; simp, hg0.drew⟩
end Go.Proofs.YtailooldnelecaaGreatDoor
