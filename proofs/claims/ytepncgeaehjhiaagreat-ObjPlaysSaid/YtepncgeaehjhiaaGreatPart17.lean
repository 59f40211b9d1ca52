/-
  Several texts in one:
  The names of a disk of any number of files, sorted. Conditions: none.
-/
import Derived.Maps.RangeRun
import Derived.Test.YtepncgeaehjhiaaGreatPart16
import Derived.Test.YtepncgeaehjhiaaGreatPart2

namespace Go.Proofs.YtepncgeaehjhiaaGreat
open Go.RowKit

/-- the names that begin so -/
def begun (E : List FEnt) (p : ByteArray) : List ByteArray := (E.filter fun e => Lib.hasPrefix (lst e.nm) (lst p)).map FEnt.nm
theorem begun_perm {E F : List FEnt} (h : E.Perm F) (p : ByteArray) : (begun E p).Perm (begun F p) := (h.filter _).map _
theorem begun_step (V : List FEnt) (f : FEnt) (p : ByteArray) : begun (V ++ [f]) p = begun V p ++ (if Lib.hasPrefix (lst f.nm) (lst p) then [f.nm] else []) := by
  unfold begun
  rw [List.filter_append, List.map_append]
  congr 1
  by_cases h : Lib.hasPrefix (lst f.nm) (lst p) = true <;> simp [h]
theorem begun_le (V : List FEnt) (p : ByteArray) : (begun V p).length ≤ V.length := by
  unfold begun
  rw [List.length_map]
  exact List.length_filter_le _ _

/-- some of the files, each once -/
structure Part (V E : List FEnt) : Prop where
  sub : ∀ f ∈ V, f ∈ E
  nd : V.Pairwise Apart
theorem Part.nil (E : List FEnt) : Part [] E := ⟨fun f h => by simp at h, List.Pairwise.nil⟩
theorem Apart.irrefl {f : FEnt} (h : Apart f f) : False := h.1 rfl
theorem nodup_of {V : List FEnt} (h : V.Pairwise Apart) : V.Nodup := h.imp fun {a b} h e => by subst e; exact h.irrefl
theorem sub_len : ∀ (V E : List FEnt), V.Nodup → (∀ f ∈ V, f ∈ E) → V.length ≤ E.length
  | [], E, _, _ => by simp
  | a :: V, E, h, hs => by
    obtain ⟨s, t, rfl⟩ := List.append_of_mem (hs a (by simp))
    obtain ⟨h1, h2⟩ := List.nodup_cons.1 h
    have := sub_len V (s ++ t) h2 (fun f hf => by
      have h3 := hs f (by simp [hf])
      simp only [List.mem_append, List.mem_cons] at h3 ⊢
      rcases h3 with h3 | rfl | h3
      · exact .inl h3
      · exact absurd hf h1
      · exact .inr h3)
    simp only [List.length_append, List.length_cons] at this ⊢
    omega
theorem apart_of {E : List FEnt} (hE : E.Pairwise Apart) {f g : FEnt} (hf : f ∈ E) (hg : g ∈ E) (h : f ≠ g) : Apart f g := by
  obtain ⟨i, hi⟩ := List.getElem?_of_mem hf
  obtain ⟨j, hj⟩ := List.getElem?_of_mem hg
  refine pair_at hE hj hi fun e => h ?_
  subst e
  rw [hi] at hj
  injection hj
theorem Part.le {V E : List FEnt} (h : Part V E) : V.length ≤ E.length := sub_len V E (nodup_of h.nd) h.sub
theorem Part.perm {V E : List FEnt} (h : Part V E) (hE : E.Pairwise Apart) (h2 : ∀ f ∈ E, f ∈ V) : V.Perm E := (List.perm_ext_iff_of_nodup (nodup_of h.nd) (nodup_of hE)).2 fun f => ⟨h.sub f, h2 f⟩
theorem Part.step {V E : List FEnt} (h : Part V E) (hE : E.Pairwise Apart) {f : FEnt} (hf : f ∈ E) (hn : f ∉ V) : Part (V ++ [f]) E :=
  ⟨fun g hg => (List.mem_append.1 hg).elim (h.sub g) (fun e => by simp at e; exact e ▸ hf), by
    rw [List.pairwise_append]
    refine ⟨h.nd, List.pairwise_singleton _ _, fun a ha b hb => ?_⟩
    obtain rfl : b = f := by simpa using hb
    have hab : a ≠ b := fun e => hn (e ▸ ha)
    exact apart_of hE (h.sub a ha) hf hab⟩
theorem born_inj {E : List FEnt} (hE : E.Pairwise Apart) {f g : FEnt} (hf : f ∈ E) (hg : g ∈ E) (h : f.born = g.born) : f = g := by
  by_cases e : f = g
  · exact e
  · exact absurd h (apart_of hE hf hg e).2.2.1

def seenOf (V : List FEnt) : Array Nat := (V.map FEnt.born).toArray
theorem seenOf_push (V : List FEnt) (f : FEnt) : (seenOf V).push f.born = seenOf (V ++ [f]) := by simp [seenOf]
theorem mem_left {V E : List FEnt} (h : Part V E) (hE : E.Pairwise Apart) (x : MapEntry) : x ∈ (leftOf (E.map FEnt.ent).toArray (seenOf V)).toList ↔ ∃ f ∈ E, f ∉ V ∧ x = f.ent := by
  unfold leftOf seenOf
  simp only [Array.toList_filter, List.mem_filter, List.mem_map]
  constructor
  · rintro ⟨⟨f, hf, rfl⟩, hx⟩
    refine ⟨f, hf, fun hV => ?_, rfl⟩
    simp [FEnt.ent, entF] at hx
    exact hx f hV rfl
  · rintro ⟨f, hf, hV, rfl⟩
    refine ⟨⟨f, hf, rfl⟩, ?_⟩
    simp [FEnt.ent, entF]
    exact fun g hg e => hV (born_inj hE (h.sub g hg) hf e ▸ hg)
theorem born_nodup {E : List FEnt} (hE : E.Pairwise Apart) : ((E.map FEnt.ent).toArray.toList.map (·.born)).Nodup := by
  simp only [List.map_map]
  exact List.Pairwise.map _ (fun a b h => h.2.2.1) hE

/-- the iterator over the disk's map, at world w, behind the files V -/
def ItV (w : World) (r m clock : Nat) (V : List FEnt) : Prop := ∃ c0, IterB w r m clock (seenOf V) c0 ∧ clock ≤ c0
theorem ItV.chg {T : Nat → Prop} {w w' : World} {r m clock : Nat} {V : List FEnt} (h : ItV w r m clock V) (hc : Chg T w w') (hn : ¬ T r) : ItV w' r m clock V := by
  obtain ⟨c0, h1, h2⟩ := h
  exact ⟨c0, h1.chg hc hn, h2⟩
theorem ItV.lt {w : World} {r m clock : Nat} {V : List FEnt} (h : ItV w r m clock V) : r < w.heap.size := h.choose_spec.1.lt
theorem itv_next {S : Nat → Prop} {w : World} {d m : Nat} {E : List FEnt} {clock : Nat} {up armed : Bool} {left kp : Int} {n r : Nat} {V : List FEnt} (h : FS S w d m E clock up armed left kp n) (hi : ItV w r m clock V) (hp : Part V E) :
    (V.Perm E ∧ ∀ ty, (Instr.next (.pointer (some ⟨r, 0, none⟩)) false ty).run Tryz.prog w = .ok (.tuple #[.bool false]) w) ∨
    ∃ f ∈ E, Part (V ++ [f]) E ∧ ∃ w1 : World, Chg (fun k => k = r) w w1 ∧ w1.heap.size = w.heap.size ∧ (∀ ty, (Instr.next (.pointer (some ⟨r, 0, none⟩)) false ty).run Tryz.prog w = .ok (.tuple #[.bool true, .string f.nm, .pointer (some ⟨f.g, 0, none⟩)]) w1) ∧
      ItV w1 r m clock (V ++ [f]) ∧ FS S w1 d m E clock up armed left kp n ∧ (Instr.entry (.pointer (some ⟨r, 0, none⟩))).run Tryz.prog w1 = .ok (.tuple #[.string f.nm, .pointer (some ⟨f.g, 0, none⟩)]) w1 := by
  obtain ⟨c0, hi, hc0⟩ := hi
  have hb := h.dsk.hm
  have hold : ∀ x ∈ ((E.map FEnt.ent).toArray).toList, x.born < clock := by
    intro x hx
    obtain ⟨f, hf, rfl⟩ := List.mem_map.1 (by simpa using hx)
    exact (h.ok f hf).born
  have key := fun ty => run_next_at (P := Tryz.prog) w ty r m clock c0 (seenOf V) (E.map FEnt.ent).toArray clock hi hb hold hc0
  by_cases h0 : (leftOf (E.map FEnt.ent).toArray (seenOf V)).size = 0
  · left
    refine ⟨hp.perm h.ap fun f hf => ?_, fun ty => ?_⟩
    · by_cases hV : f ∈ V
      · exact hV
      · have := (mem_left hp h.ap f.ent).2 ⟨f, hf, hV, rfl⟩
        rw [Array.eq_empty_of_size_eq_zero h0] at this
        simp at this
    · rcases key ty with ⟨_, h1⟩ | ⟨e, he, _⟩
      · exact h1
      · rw [Array.eq_empty_of_size_eq_zero h0] at he
        simp at he
  · right
    rcases key 0 with ⟨h1, _⟩ | ⟨e, he, w1, hw1, hrun⟩
    · exact absurd h1 h0
    obtain ⟨f, hf, hV, rfl⟩ := (mem_left hp h.ap e).1 he
    have hr1 : r < w1.heap.size := by rcases hw1 with rfl | rfl <;> exact hi.lt
    have hw1s : w1.heap.size = w.heap.size := by rcases hw1 with rfl | rfl <;> rfl
    have hc1 : Chg (fun k => k = r) w w1 := by rcases hw1 with rfl | rfl; exact Chg.refl _ _; exact (Chg.refl _ _).drew
    have hc2 : Chg (fun k => k = r) w (setB w1 r (.mapIter (some m) clock ((seenOf V).push f.born) clock)) := Chg.setB (S := fun k => k = r) hc1 (.inr rfl) _
    have hi2 : ItV (setB w1 r (.mapIter (some m) clock ((seenOf V).push f.born) clock)) r m clock (V ++ [f]) := ⟨clock, by rw [← seenOf_push]; exact setB_here hr1 _, Nat.le_refl _⟩
    have hrd : r ≠ d := hi.ne_blk h.dsk.hd
    have hrm : r ≠ m := fun e => by
      subst e
      have := Eq.trans (Eq.symm hi) hb
      cases this
    have hF2 : FS S (setB w1 r (.mapIter (some m) clock ((seenOf V).push f.born) clock)) d m E clock up armed left kp n :=
      ⟨h.dsk.chg hc2 (fun e => hrd e.symm) (fun e => hrm e.symm), fun e he => (h.ok e he).chg hc2 (fun e1 => hi.ne_blk (h.ok e he).fil.hg e1.symm) (fun ad e1 e2 => by
        rcases (h.ok e he).fil.hA.2 with ⟨e3, _⟩ | ⟨g', cap, cur, e3, hb', hg, _⟩
        · injection e3 with e3
          rw [e3] at e1
          cases e1
        · injection e3 with e3
          rw [e3] at e1
          injection e1 with e1
          subst e1
          subst e2
          have := Eq.trans (Eq.symm hi) hg
          cases this) (Nat.le_refl _), h.ap⟩
    refine ⟨f, hf, hp.step h.ap hf hV, _, hc2, by rw [setB_size]; exact hw1s, fun ty => ?_, hi2, hF2, ?_⟩
    · exact hrun
    · obtain ⟨c1, h1, _⟩ := hi2
      have := run_entry_at (P := Tryz.prog) _ r m clock (seenOf V) (E.map FEnt.ent).toArray clock f.ent (setB_here hr1 _) hF2.dsk.hm (by simp; exact ⟨f, hf, rfl⟩) (born_nodup h.ap)
      exact this
theorem Own.ne_iter {w : World} {base : Nat} {t : TypeId} {sz n c r m clock : Nat} {A : Option Addr} {cs : List Value} {V : List FEnt} (h : Own w base t sz A n c cs) (hi : ItV w r m clock V) : ∀ ad, A = some ad → ad.block ≠ r := by
  rintro ad rfl
  obtain ⟨c0, hi, _⟩ := hi
  rcases h.2 with ⟨e, h3⟩ | ⟨g', cap, cur, e', hb', hg, rest⟩
  · cases e
  · injection e' with e1 e2 e3
    injection e1 with e1
    subst e1
    rintro rfl
    have := Eq.trans (Eq.symm hi) hg
    cases this

/-- what holds at the head of the loop -/
structure LisAt (S : Nat → Prop) (w : World) (d m : Nat) (E : List FEnt) (clock : Nat) (armed : Bool) (left kp : Int) (n : Nat) (p : ByteArray) (V : List FEnt) (v : Value) (wr : World) : Prop where
  fs : FS S wr d m E clock true armed left kp n
  it : ItV wr w.heap.size m clock V
  pt : Part V E
  gr : Grew w wr
  row : ∃ A c, v = .slice A (begun V p).length c ∧ OE elNm wr w.heap.size 9 A (begun V p).length c (begun V p)

set_option maxHeartbeats 2000000 in
theorem fs_list {S : Nat → Prop} {w : World} {d m : Nat} {E : List FEnt} {clock : Nat} {armed : Bool} {left kp : Int} {n : Nat} (h : FS S w d m E clock true armed left kp n) (hE : E.length ≤ 1048576) (p : ByteArray) :
    Calls Tryz.prog 14 #[.pointer (some ⟨d, 0, none⟩), .string p] w fun e w' => ∃ A c, e = .returned (.slice A (sortT (begun E p)).length c) ∧ OE elNm w' w.heap.size 9 A (sortT (begun E p)).length c (sortT (begun E p)) ∧ Grew w w' := by
  have c0 := h.dsk.c0
  have c1 := h.dsk.c1
  have hg1 : Grew w (w.alloc (.mapIter (some m) clock #[] clock)) := (Chg.refl _ w).alloc _
  have hrange := run_range_b (P := Tryz.prog) Tryz.underlying44 h.dsk.hm
  have hL : Hid (LisAt S w d m E clock armed left kp n p [] (.slice none 0 0) (w.alloc (.mapIter (some m) clock #[] clock))) :=
    ⟨h.grew hg1, ⟨clock, heap_alloc_new w _, Nat.le_refl _⟩, Part.nil E, hg1, none, 0, rfl, OE.nil _ _ _⟩
  have h := Lib.hid h
  go_enter Tryz.func14, Tryz.ntmps14
  go_wp2
  go_loopw [5] (fun v wr => ∃ V, Hid (LisAt S w d m E clock armed left kp n p V v wr)) (fun _ wr => match wr.heap[w.heap.size]? with | some (.mapIter _ _ seen _) => E.length - seen.size | _ => 0)
  case atStart => exact ⟨[], hL⟩
  case round =>
    obtain ⟨V, hV⟩ := hrel
    have hm0 : (match wr.heap[w.heap.size]? with | some (.mapIter _ _ seen _) => E.length - seen.size | _ => 0) = E.length - V.length := by
      obtain ⟨c0, h1, _⟩ := hV.out.it
      unfold IterB at h1
      rw [h1]
      simp [seenOf]
    obtain ⟨A, c, rfl, hrow⟩ := hV.out.row
    rcases itv_next hV.out.fs hV.out.it hV.out.pt with ⟨hpm, hnx⟩ | ⟨f, hfE, hpt, w1, hc1, hs1, hnx, hit, hfs, hen⟩
    · have hsE : sortT (begun V p) = sortT (begun E p) := sortT_of_perm (begun_perm hpm p)
      have hbl : (begun V p).length ≤ 1048576 := Nat.le_trans (begun_le V p) (Nat.le_trans hV.out.pt.le hE)
      have hle : (begun V p).length = (sortT (begun E p)).length := by rw [← hsE, sortT_length]
      have hS := sort_names hrow (by omega)
      have hgr := Lib.hid hV.out.gr
      have hbk := Lib.hid (Own.blk_lt hrow)
      rw [hsE] at hS
      rw [hle] at hS ⊢
      clear hrow hV hm0 hle hbl hsE
      go_wp2_with fail
      refine hS.mono ?_
      rintro e w4 ⟨rfl, ho, hc⟩
      go_wp2
      go_ret
      refine ⟨A, c, by simp, ho, hgr.out.step hc fun k hk ⟨ad, e, he⟩ => ?_⟩
      have := (hbk.out ad e).1
      omega
    · have hlt : V.length < E.length := by
        have := hpt.le
        simp at this
        omega
      have hbl : (begun V p).length ≤ 1048576 := Nat.le_trans (begun_le V p) (Nat.le_trans hV.out.pt.le hE)
      have hgw : Grew w w1 := hV.out.gr.step hc1 fun k hk e => by
        have e : k = w.heap.size := e
        omega
      have hrow1 : OE elNm w1 w.heap.size 9 A (begun V p).length c (begun V p) := hrow.chg hc1 (Own.ne_iter hrow hV.out.it)
      have hst := begun_step V f p
      have hil := hit.lt
      have hm1 : ∀ w2 : World, ItV w2 w.heap.size m clock (V ++ [f]) → (match w2.heap[w.heap.size]? with | some (.mapIter _ _ seen _) => E.length - seen.size | _ => 0) < (match wr.heap[w.heap.size]? with | some (.mapIter _ _ seen _) => E.length - seen.size | _ => 0) := by
        rintro w2 ⟨c0, h1, _⟩
        unfold IterB at h1
        rw [h1, hm0]
        simp [seenOf]
        omega
      clear hm0 hc1 hs1 hrow hV
      have hfs := Lib.hid hfs
      have hit := Lib.hid hit
      have hpt := Lib.hid hpt
      have hst := Lib.hid hst
      have hm1 := Lib.hid hm1
      go_wp2_with fail
      refine (prefix_any f.nm p _).mono ?_
      rintro e w2 ⟨rfl, rfl⟩
      clear hnx hen
      by_cases hpre : Lib.hasPrefix (lst f.nm) (lst p) = true
      · simp only [hpre]
        have hsrc : RE elNm (w1.alloc (.cells #[.string f.nm] 9)) (some ⟨w1.heap.size, 0, none⟩) 1 [f.nm] := RE.newAt rfl rfl rfl
        have hown : OE elNm (w1.alloc (.cells #[.string f.nm] 9)) w.heap.size 9 A (begun V p).length c (begun V p) := hrow1.grew ((Chg.refl _ w1).alloc _)
        have hsz := hgw.size
        go_wp2_with (at_builtin; refine wpList_appE rfl _ _ 47 9 infoNm rfl Tryz.underlying47 rfl w.heap.size A (begun V p).length c (begun V p) rfl hown (by simp; omega) _ 1 1 [f.nm] rfl hsrc (by unfold maxLen; omega) (by omega) ?_; intro A3 c3 w3 h3)
        have hc3 : Chg (fun k => ∃ ad, A = some ad ∧ k = ad.block) w1 w3 := Chg.step (S := fun k => ∃ ad, A = some ad ∧ k = ad.block) ((Chg.refl _ w1).alloc _) h3.chg fun _ _ e => e
        have hG3 : Grew w w3 := hgw.step hc3 fun k hk ⟨ad, e, he⟩ => by
          have := (Own.blk_lt hrow1 ad e).1
          omega
        have hit3 : ItV w3 w.heap.size m clock (V ++ [f]) := hit.out.chg hc3 fun ⟨ad, e, he⟩ => Own.ne_iter hrow1 hit.out ad e he.symm
        have ho3 := h3.oe
        have hm3 := hm1.out w3 hit3
        have hbe : begun (V ++ [f]) p = begun V p ++ [f.nm] := by rw [hst.out, hpre]; rfl
        have hfin : Hid (LisAt S w d m E clock armed left kp n p (V ++ [f]) (.slice A3 ((begun V p).length + 1) c3) w3) :=
          ⟨h.out.grew hG3, hit3, hpt.out, hG3, A3, c3, by rw [hbe]; simp, by rw [hbe]; simpa using ho3⟩
        clear h3 hc3 hG3 hit3 ho3 hsrc hown hm1
        go_roundw
        case rel => exact ⟨V ++ [f], by simpa using hfin⟩
        case measure => exact hm3
      · have hpre : Lib.hasPrefix (lst f.nm) (lst p) = false := by simpa using hpre
        simp only [hpre]
        have hm3 := hm1.out w1 hit.out
        have hbe : begun (V ++ [f]) p = begun V p := by rw [hst.out, hpre]; simp
        have hfin : Hid (LisAt S w d m E clock armed left kp n p (V ++ [f]) (.slice A (begun V p).length c) w1) :=
          ⟨h.out.grew hgw, hit.out, hpt.out, hgw, A, c, by rw [hbe], by rw [hbe]; exact hrow1⟩
        clear hm1
        go_wp2
        go_roundw
        case rel => exact ⟨V ++ [f], hfin⟩
        case measure => exact hm3
end Go.Proofs.YtepncgeaehjhiaaGreat
