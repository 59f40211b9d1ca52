/-
  Several texts in one:
  The law SeriesApart, walked. Conditions: lengths that memory bears; the longest text that the library takes is as it is set.
  Arguments that came in, opened: bytes, with the form's own reach. Conditions: none; no program in sight.
  The bound of the second form, opened: bytes that came in are no longer than their bulk. Conditions: none; no program in sight.
  Arguments that came in, opened: slices whose elements take some cells each. Conditions: none.
-/
import Derived.Test.YtjgbdkokcgcpjaaDoorPart41
import Derived.Test.YtjgbdkokcgcpjaaDoorPart1
import Derived.ProofKit
import Derived.OpenShut
import Derived.ShutString
import Derived.ChangeOld
import Derived.SizedLaws
import Derived.Deep.Slices
import Derived.Deep.Fields
import Derived.Test.YtjgbdkokcgcpjaaDoorRows
import Derived.Test.YtjgbdkokcgcpjaaDoorPart4
import Derived.Deep.SlicePairs

namespace Go.Proofs.YtjgbdkokcgcpjaaDoor
open Go.RowKit

theorem chkG_val : ∀ {prev : Option ByteArray} {L : List Lab}, chkG prev L = 0 → ∀ x ∈ L, x.2.size ≤ 256
  | _, [], _, x, hx => by cases hx
  | prev, l :: r, h, x, hx => by
    rw [chkG_cons] at h
    split at h
    · cases h
    · split at h
      · cases h
      · split at h
        · cases h
        · rename_i h2 _
          rcases List.mem_cons.1 hx with rfl | hx
          · unfold txtB at h2
            simp at h2
            exact h2.2.1
          · exact chkG_val h x hx
theorem chkL_val {L : List Lab} (h : chkL L = 0) : ∀ x ∈ L, x.2.size ≤ 16777216 := fun x hx => by
  unfold chkL at h
  split at h
  · cases h
  · have := chkG_val h x hx
    omega
/-- matchers that came in -/
structure InMa (w : World) (M : Option Addr) (n c : Nat) (mt : List Mat) : Prop where
  re : RE elMa w M n mt
  cap : n ≤ c ∧ c ≤ 9223372036854775807
  val : ∀ x ∈ mt, x.2.2.size ≤ 16777216
theorem InMa.grew {w w' : World} {M : Option Addr} {n c : Nat} {mt : List Mat} (h : InMa w M n c mt) (hg : Grew w w') : InMa w' M n c mt := ⟨h.re.grew hg, h.cap, h.val⟩
theorem pickM_any {w : World} {A M : Option Addr} {n c N mn mc : Nat} {ss : List Ser} {mt : List Mat} (h : InM w A n c ss N) (hN : N ≤ 1073741824) (hM : InMa w M mn mc mt) (hx : MaxL w) : Calls Tryd.prog 19 #[.slice A n c, .slice M mn mc] w fun e w' => ∃ B d, e = .returned (.tuple #[.slice B (pickS mt ss).length d, .int .i64 0]) ∧ InM w' B (pickS mt ss).length d (pickS mt ss) N ∧ Grew w w' :=
  (pick_yes A n c ss M mn mc mt w h.rs (by have := h.cap; omega) h.ok (okL_small h.ok (Nat.le_trans h.len hN) (by have := h.tot; omega)) hM.re (by have := hM.cap; omega) hM.val (fun s hs => chkL_val (h.ok.2 s hs)) hx).mono
    fun e w' ⟨B, d, he, hNS, hg⟩ => ⟨B, d, he, ⟨hNS.rs, hNS.cap, pickS_ok h.ok, Nat.le_trans (List.length_filter_le _ _) h.len, Nat.le_trans (pickS_tot mt ss) h.tot⟩, hg⟩

set_option maxRecDepth 100000 in
set_option maxHeartbeats 8000000 in
theorem apart_no (A B M : Option Addr) (n m cn cm mn mc : Nat) (a b : List Ser) (f t : Int) (w : World) (ha : InS w A n cn a) (hb : InS w B m cm b) (hm : MaxL w) (hno : ¬ (OkL a ∧ OkL b)) :
    Calls Tryd.prog 7 #[.slice A n cn, .slice B m cm, .slice M mn mc, .int .i64 f, .int .i64 t] w fun e w' => e = .returned (.bool true) ∧ Grew w w' := by
  replace hno := Lib.hid hno
  go_enter Tryd.func7, Tryd.ntmps7
  go_wp2_with fail
  refine (copyIn w ha (Chg.refl _ _)).mono ?_
  rintro e w1 ⟨A1, c1, rfl, h1, g1⟩
  go_wp2_with fail
  refine (copyIn w1 hb g1).mono ?_
  rintro e w2 ⟨A2, c2, rfl, h2, g2⟩
  have g02 := g1.trans g2
  go_wp2_with fail
  have hga : Grew w2 (w2.alloc (.cells #[.slice A1 a.length c1, .slice A2 b.length c2] 22)) := (Chg.refl _ _).alloc _
  refine (merge_no _ 2 2 [⟨A1, a.length, c1, a⟩, ⟨A2, b.length, c2, b⟩] _ (RE.newAt rfl rfl rfl) (all2 (((h1.grew g2).ls).grew hga) ((h2.ls).grew hga)) (fun h => hno.out ⟨?_, ?_⟩) (by decide)).mono ?_
  · exact h ⟨A1, a.length, c1, a⟩ (by simp)
  · exact h ⟨A2, b.length, c2, b⟩ (by simp)
  rintro e w4 ⟨rfl, g4⟩
  have g04 := g02.trans (hga.trans g4)
  go_wp2_with fail
  refine (awake_any w4 (hm.grew g04)).mono ?_
  rintro e w8 ⟨rfl, g8⟩
  go_wp2
  go_ret
  exact ⟨by simp, g04.trans g8⟩

set_option maxRecDepth 100000 in
set_option maxHeartbeats 16000000 in
theorem apart_yes (A B M : Option Addr) (n m cn cm mn mc : Nat) (a b : List Ser) (mt : List Mat) (f t : Int) (w : World) (ha : InM w A n cn a 4194304) (hb : InM w B m cm b 4194304) (hM : InMa w M mn mc mt) (hm : MaxL w) :
    Calls Tryd.prog 7 #[.slice A n cn, .slice B m cm, .slice M mn mc, .int .i64 f, .int .i64 t] w fun e w' => e = .returned (.bool true) ∧ Grew w w' := by
  go_enter Tryd.func7, Tryd.ntmps7
  go_wp2_with fail
  refine (copyM ha (by decide)).mono ?_
  rintro e w1 ⟨A1, c1, rfl, h1, g1⟩
  go_wp2_with fail
  refine (copyM (hb.grew g1) (by decide)).mono ?_
  rintro e w2 ⟨A2, c2, rfl, h2, g2⟩
  go_wp2_with fail
  refine (mg2 rfl (h1.grew g2) h2 (by decide)).mono ?_
  rintro e w3 ⟨AM, cM, mm, rfl, hMM, hMm, g3⟩
  have g03 := (g1.trans g2).trans (((Chg.refl _ w2).alloc _).trans g3)
  have hAp := apart_eq (ms := mt) (f := f) (t := t) ha.ok hb.ok hMm
  replace hAp := Lib.hid hAp
  clear h1 h2 g1 g2 g3 hMm
  go_wp2_with fail
  refine (copyM hMM (by decide)).mono ?_
  rintro e w4 ⟨A4, c4, rfl, h4, g4⟩
  go_wp2_with fail
  refine (clipM_any f t h4 (by decide)).mono ?_
  rintro e w5 ⟨AC, cC, rfl, hC, g5⟩
  have g05 := (g03.trans g4).trans g5
  clear h4 hMM g4 g5 g03
  go_wp2_with fail
  refine (pickM_any hC (by decide) (hM.grew g05) (hm.grew g05)).mono ?_
  rintro e w6 ⟨AD, cD, rfl, hD, g6⟩
  have g06 := g05.trans g6
  clear hC g05 g6
  -- a's
  go_wp2_with fail
  refine (copyM (ha.grew g06) (by decide)).mono ?_
  rintro e w7 ⟨A7, c7, rfl, h7, g7⟩
  go_wp2_with fail
  refine (clipM_any f t h7 (by decide)).mono ?_
  rintro e w8 ⟨AX, cX, rfl, hX, g8⟩
  have g68 := g7.trans g8
  have g08 := g06.trans g68
  clear h7 g7 g8
  -- b's
  go_wp2_with fail
  refine (copyM (hb.grew g08) (by decide)).mono ?_
  rintro e w9 ⟨A9, c9, rfl, h9, g9⟩
  go_wp2_with fail
  refine (clipM_any f t h9 (by decide)).mono ?_
  rintro e w10 ⟨AY, cY, rfl, hY, g10⟩
  have g810 := g9.trans g10
  have g010 := g08.trans g810
  clear h9 g9 g10
  go_wp2_with fail
  refine (pickM_any (hX.grew g810) (by decide) (hM.grew g010) (hm.grew g010)).mono ?_
  rintro e w11 ⟨AU, cU, rfl, hU, g11⟩
  have g011 := g010.trans g11
  go_wp2_with fail
  refine (pickM_any (hY.grew g11) (by decide) (hM.grew g011) (hm.grew g011)).mono ?_
  rintro e w12 ⟨AV, cV, rfl, hV, g12⟩
  have g012 := g011.trans g12
  go_wp2_with fail
  refine (mg2 rfl (hU.grew g12) hV (by decide)).mono ?_
  rintro e w13 ⟨AW, cW, ww, rfl, hW, hWm, g13⟩
  have g1213 : Grew w12 w13 := ((Chg.refl _ w12).alloc _).trans g13
  have g013 := g012.trans g1213
  have eW := hAp.out.uniq hWm
  have hD13 := hD.grew (((g68.trans g810).trans (g11.trans g12)).trans g1213)
  clear hU hV hX hY hD g11 g12 g13 g68 g810 g010 g011 g012 hWm hAp g06 g08
  have eq := eqB_true eW
  replace eW := Lib.hid eW
  go_wp2_with fail
  refine (sameM hD13 hW).mono ?_
  rw [eq]
  rintro e w14 ⟨rfl, g14⟩
  have g014 := g013.trans g14
  go_wp2_with fail
  refine (awake_any w14 (hm.grew g014)).mono ?_
  rintro e w15 ⟨rfl, g15⟩
  go_wp2
  go_ret
  exact ⟨by simp, g014.trans g15⟩
theorem walk_seriesApart (A : Option Addr) (n cn : Nat) (a : List Ser) (B : Option Addr) (m cm : Nat) (b : List Ser) (M : Option Addr) (mn mc : Nat) (mt : List Mat) (f t : Int) (w : World) (ha : InS w A n cn a) (hb : InS w B m cm b) (hM : RE elMa w M mn mt) (_ : mn ≤ 1048576) (hc : mn ≤ mc ∧ mc ≤ 9223372036854775807) (hv : ∀ x ∈ mt, x.2.2.size ≤ 16777216)
    (_ : (Lit.int .i64 f).wf = true) (_ : (Lit.int .i64 t).wf = true) (hm : MaxL w) :
    Calls Tryd.prog 7 #[.slice A n cn, .slice B m cm, .slice M mn mc, .int .i64 f, .int .i64 t] w fun e w' => e = .returned (.bool true) ∧ Grew w w' := by
  by_cases h : OkL a ∧ OkL b
  · exact apart_yes A B M n m cn cm mn mc a b mt f t w (ha.m h.1) (hb.m h.2) ⟨hM, hc, hv⟩ hm
  · exact apart_no A B M n m cn cm mn mc a b f t w ha hb hm h
end Go.Proofs.YtjgbdkokcgcpjaaDoor

namespace Go.Proofs.YtjgbdkokcgcpjaaDoor
open Go.ChangeShapes Go.WideShapes Go.ChangeAt Go.RowKit

theorem u8_of_wf {z : Int} (h : (Lit.int .u8 z).wf = true) : ((UInt8.ofNat z.toNat).toNat : Int) = z := by
  have := Go.bounds_u8 h
  rw [UInt8.toNat_ofNat']
  omega

theorem open_bytes {H : Type} {enc : TypeId × Value → H} {P : Program} {W : World} {base : Nat} {spare : Nat → Bool} {held : Bool} {t e : TypeId} (ht : P.underlying t = some (.slice e)) (he : P.underlying e = some (.int .u8)) (hC : P.cellsOf e = 1) (hB : P.bytesOf e = 1)
    {ts : List TypeId} {ds : List (DataW H)} {j : Nat} {d : DataW H} (hsz : (DataW.weightsEach P ts ds).all (· ≤ reachBytes) = true) (htj : ts[j]? = some t) (hdj : ds[j]? = some d)
    {A : Option Addr} {n c : Nat} {p : List MemPlace} (h : DataW.Trod enc P W base spare held t (.slice A n c) d p) : ∃ l : List UInt8, RB W A n l ∧ n ≤ 140737488351232 := by
  obtain ⟨fuel, hf⟩ := h
  rcases open_ints ht he hC hf with ⟨hcs, _⟩ | ⟨x, l, c', zs, hcs, _, hl, hm, hz, hx, hcell, hwz⟩
  · simp [Value.cells] at hcs
    obtain ⟨rfl, rfl, rfl⟩ := hcs
    exact ⟨[], ⟨rfl, Rd.nil _ _⟩, by omega⟩
  · simp [Value.cells] at hcs
    obtain ⟨rfl, rfl, rfl⟩ := hcs
    simp only [Prod.mk.injEq] at hx
    obtain ⟨rfl, _⟩ := hx
    have hlen : n ≤ zs.length := by rw [hz]; split <;> omega
    refine ⟨(zs.take n).map fun z => UInt8.ofNat z.toNat, ⟨by simp; omega, ?_⟩, ?_⟩
    · intro k u hu
      refine ⟨x, rfl, ?_⟩
      simp only [List.map_map, List.getElem?_map, List.getElem?_take] at hu
      split at hu
      · rename_i hk
        rw [hcell k (by omega)]
        rw [List.getElem?_eq_getElem (by omega)] at hu
        simp only [Option.map_some, Option.some.injEq, Function.comp, byt] at hu
        rw [← hu, u8_of_wf (hwz _ (List.getElem_mem _)), List.getD_eq_getElem?_getD, List.getElem?_eq_getElem (by omega)]
        rfl
      · simp at hu
    · have := sized_slice hsz htj hdj ht
      rw [hB] at this
      simp only [Go.ChangeShapes.lits, List.length_map, List.length_take, List.length_drop, reachBytes] at this
      omega

theorem open_bytes2 {H : Type} {enc : TypeId × Value → H} {P : Program} {W : World} {base : Nat} {spare : Nat → Bool} {held : Bool} {t e : TypeId} (ht : P.underlying t = some (.slice e)) (he : P.underlying e = some (.int .u8)) (hC : P.cellsOf e = 1) (hB : P.bytesOf e = 1)
    {ts : List TypeId} {ds : List (DataW H)} {j : Nat} {d : DataW H} (hsz : (DataW.weightsEach P ts ds).all (· ≤ reachBytes) = true) (htj : ts[j]? = some t) (hdj : ds[j]? = some d)
    {A : Option Addr} {n c : Nat} {p : List MemPlace} (h : DataW.Trod enc P W base spare held t (.slice A n c) d p) : ∃ l : List UInt8, RB W A n l ∧ n ≤ 140737488351232 ∧ (n ≤ c ∧ c ≤ 9223372036854775807) := by
  have hc : n ≤ c ∧ c ≤ 9223372036854775807 := by
    obtain ⟨fuel, hf⟩ := h
    rcases open_ints ht he hC hf with ⟨hcs, _⟩ | ⟨x, l, c', zs, hcs, _, hl, hm, hz, hx, hcell, hwz⟩
    · simp [Value.cells] at hcs
      obtain ⟨rfl, rfl, rfl⟩ := hcs
      omega
    · simp [Value.cells] at hcs
      obtain ⟨rfl, rfl, rfl⟩ := hcs
      unfold maxLen at hm
      omega
  obtain ⟨l, h1, h2⟩ := open_bytes ht he hC hB hsz htj hdj h
  exact ⟨l, h1, h2, hc⟩
end Go.Proofs.YtjgbdkokcgcpjaaDoor

namespace Go.Proofs.YtjgbdkokcgcpjaaDoor
open Go.ChangeShapes Go.WideShapes Go.ChangeAt Go.RowKit

theorem bulk_one {H : Type} (d : DataW H) : 1 ≤ Rows.uptoBulk d := by
  cases d with
  | lit l => cases l <;> simp [Rows.uptoBulk]
  | _ => simp [Rows.uptoBulk]
theorem bulk_len {H : Type} (l : List (DataW H)) : l.length ≤ Rows.uptoBulkAll l := by
  induction l with
  | nil => simp [Rows.uptoBulkAll]
  | cons x r ih => have := bulk_one x; simp only [Rows.uptoBulkAll, List.length_cons]; omega

theorem open_bulk {H : Type} {enc : TypeId × Value → H} {P : Program} {W : World} {base : Nat} {spare : Nat → Bool} {held : Bool} {t e : TypeId} (ht : P.underlying t = some (.slice e)) (he : P.underlying e = some (.int .u8)) (hC : P.cellsOf e = 1)
    {d : DataW H} {A : Option Addr} {n c : Nat} {p : List MemPlace} (h : DataW.Trod enc P W base spare held t (.slice A n c) d p) : n ≤ Rows.uptoBulk d := by
  obtain ⟨fuel, hf⟩ := h
  rcases open_ints ht he hC hf with ⟨hcs, _⟩ | ⟨x, l, c', zs, hcs, _, hl, hm, hz, hx, hcell, hwz⟩
  · simp [Value.cells] at hcs
    obtain ⟨rfl, rfl, rfl⟩ := hcs
    exact Nat.zero_le _
  · simp [Value.cells] at hcs
    obtain ⟨rfl, rfl, rfl⟩ := hcs
    simp only [Prod.mk.injEq] at hx
    obtain ⟨rfl, _⟩ := hx
    have hlen : n ≤ zs.length := by rw [hz]; split <;> omega
    have := bulk_len (H := H) (Go.ChangeShapes.lits .u8 (zs.take n))
    simp only [Go.ChangeShapes.lits, List.length_map, List.length_take] at this
    simp only [Rows.uptoBulk, Go.ChangeShapes.lits]
    omega
end Go.Proofs.YtjgbdkokcgcpjaaDoor

namespace Go.Proofs.YtjgbdkokcgcpjaaDoor
open Go.ChangeShapes Go.WideShapes Go.ChangeAt Go.RowKit Go.Deep

theorem list_of {α : Type} (n : Nat) (p : Nat → α → Prop) (h : ∀ i, i < n → ∃ x, p i x) : ∃ l : List α, l.length = n ∧ ∀ i x, l[i]? = some x → p i x := by
  induction n with
  | zero => exact ⟨[], rfl, fun i x hx => by simp at hx⟩
  | succ n ih =>
    obtain ⟨l, hl, hp⟩ := ih fun i hi => h i (by omega)
    obtain ⟨x, hx⟩ := h n (by omega)
    refine ⟨l ++ [x], by simp [hl], fun i y hy => ?_⟩
    rcases Nat.lt_or_ge i l.length with hi | hi
    · rw [List.getElem?_append_left hi] at hy
      exact hp i y hy
    · rw [List.getElem?_append_right hi] at hy
      have : i - l.length = 0 := by
        rcases Nat.eq_zero_or_pos (i - l.length) with e | e
        · exact e
        · rw [List.getElem?_eq_none (by simp; omega)] at hy; cases hy
      rw [this] at hy
      obtain rfl := Option.some.inj hy
      rw [show i = n by omega]
      exact hx
theorem bulk_all_mem {H : Type} {d : DataW H} : ∀ {l : List (DataW H)}, d ∈ l → Rows.uptoBulk d ≤ Rows.uptoBulkAll l
  | x :: r, h => by
    simp only [Rows.uptoBulkAll]
    rcases List.mem_cons.1 h with rfl | h
    · omega
    · have := bulk_all_mem h; omega

section
variable {H : Type} {enc : TypeId × Value → H} {P : Program} {W : World} {base : Nat} {spare : Nat → Bool} {held : Bool}
theorem open_elems {α : Type} (E : El α) (Q : α → DataW H → Prop) {t e : TypeId} (ht : P.underlying t = some (.slice e)) (ce : P.cellsOf e = E.sz)
    (dec : ∀ n cs x, DataW.trod enc P W base spare held n e cs = some x → cs.length = P.cellsOf e → ∃ y, cs = E.cells y ∧ Q y x.1)
    {A : Option Addr} {n c : Nat} {d : DataW H} {p : List MemPlace} (h : DataW.Trod enc P W base spare held t (.slice A n c) d p) :
    ∃ l : List α, RE E W A n l ∧ n ≤ Rows.uptoBulk d ∧ (n ≤ c ∧ c ≤ 9223372036854775807) ∧ ∀ y ∈ l, ∃ dd, Q y dd ∧ Rows.uptoBulk dd ≤ Rows.uptoBulk d := by
  obtain ⟨fuel, hf⟩ := h
  rcases open_slice ht hf with ⟨hcs, _⟩ | ⟨a, len, cap, m, n', D, Pl, hcs, hb, hl, hm, hmm, hx, hel⟩
  · simp [Value.cells] at hcs
    obtain ⟨rfl, rfl, rfl⟩ := hcs
    exact ⟨[], RE.nil _ _, Nat.zero_le _, by omega, fun y hy => by cases hy⟩
  · simp [Value.cells] at hcs
    obtain ⟨rfl, rfl, rfl⟩ := hcs
    simp only [Prod.mk.injEq] at hx
    obtain ⟨rfl, _⟩ := hx
    have hlm : n ≤ m := by rw [hmm]; split <;> omega
    have key : ∀ i, i < n → ∃ y, (∀ j u, (E.cells y)[j]? = some u → W.cell? (a.add (i * E.sz + j)) = some u) ∧ Q y (D i) := fun i hi => by
      obtain ⟨cs', h1, h2⟩ := hel i (by omega)
      obtain ⟨_, hlen, hcell⟩ := World.cells?_some h1
      obtain ⟨y, rfl, hq⟩ := dec _ _ _ h2 hlen
      refine ⟨y, fun j u hu => ?_, hq⟩
      have hj : j < (E.cells y).length := (List.getElem?_eq_some_iff.1 hu).1
      have h3 := hcell j (by rw [← hlen]; exact hj)
      rw [add_add, ce] at h3
      rw [h3]
      exact hu
    obtain ⟨l, hll, hlp⟩ := list_of n _ key
    refine ⟨l, ⟨hll, fun k u hu => ⟨a, rfl, ?_⟩⟩, ?_, by unfold maxLen at hm; omega, fun y hy => ?_⟩
    · have hk := (List.getElem?_eq_some_iff.1 hu).1
      rw [El.flat_length, hll] at hk
      have hs : 0 < E.sz := by
        rcases Nat.eq_zero_or_pos E.sz with e0 | e0
        · rw [e0] at hk; omega
        · exact e0
      obtain ⟨i, j, rfl, hj⟩ : ∃ i j, k = i * E.sz + j ∧ j < E.sz := ⟨k / E.sz, k % E.sz, by rw [Nat.mul_comm]; exact (Nat.div_add_mod k E.sz).symm, Nat.mod_lt _ hs⟩
      have hi : i < n := by
        rcases Nat.lt_or_ge i n with h1 | h1
        · exact h1
        · have := Nat.mul_le_mul_right E.sz h1; omega
      have hx : l[i]? = some l[i] := List.getElem?_eq_getElem (by omega)
      rw [E.flat_get l hx hj] at hu
      exact (hlp i _ hx).1 j u hu
    · have := bulk_len (H := H) ((List.range n).map D)
      simp only [List.length_map, List.length_range] at this
      simp only [Rows.uptoBulk]
      omega
    · obtain ⟨i, hi⟩ := List.mem_iff_getElem?.1 hy
      have hin : i < n := by have := (List.getElem?_eq_some_iff.1 hi).1; omega
      refine ⟨D i, (hlp i y hi).2, ?_⟩
      have : D i ∈ (List.range n).map D := List.mem_map.2 ⟨i, List.mem_range.2 hin, rfl⟩
      have := bulk_all_mem this
      simp only [Rows.uptoBulk]
      omega
end
end Go.Proofs.YtjgbdkokcgcpjaaDoor
