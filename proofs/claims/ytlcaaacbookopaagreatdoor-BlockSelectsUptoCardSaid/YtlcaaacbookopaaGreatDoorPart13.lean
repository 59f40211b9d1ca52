/-
  Several texts in one:
  A block's reader: (reader).number, (reader).signed, open, on the way that gives nothing up. Conditions: lengths that memory bears.
  A block's bytes in plain words; blocks told apart by their bytes, whatever is behind them. Conditions: numbers of 64 bits.
  Rows of texts: sorted by the library's sort; a text's beginning. Conditions: none.
  Sorted rows of texts without repetition (what slices.Compact leaves of a sorted row); a block's texts. Conditions: none; no program in sight.
  Series of a block's sizes may be written with their own texts. Conditions: none; no program in sight.
-/
import Derived.Test.YtlcaaacbookopaaGreatDoorPart12
import Derived.Test.YtlcaaacbookopaaGreatDoorPart2
import Derived.Test.YtlcaaacbookopaaGreatDoorPart3
import Derived.Sort.OwnSorted
import Derived.Sort.KeysCollected
import Derived.Test.YtlcaaacbookopaaGreatDoorShelf
import Derived.Test.YtlcaaacbookopaaGreatDoorPart1
import Derived.Lib.SlicesCompact

namespace Go.Proofs.YtlcaaacbookopaaGreatDoor
open Go.RowKit

theorem uintR_at (p r : List UInt8) (v : Nat) (hv : v < 18446744073709551616) : uintR (p ++ (uv v ++ r)) (p.length : Int) = (v, p.length + (uv v).length, 0) := by
  have h := ur_uv r v 0 0 (Or.inl rfl) (by omega) (by omega)
  unfold uintR
  rw [if_pos ⟨by omega, by simp only [List.length_append]; omega⟩, Int.toNat_natCast, List.drop_left, h]
  simp
theorem textR_at (p t r : List UInt8) (n : Nat) (ht : t.length = n) (hn : n < 18446744073709551616) : textR (p ++ (uv n ++ (t ++ r))) (p.length : Int) = (t, p.length + (uv n).length + n, 0) := by
  unfold textR
  rw [uintR_at p (t ++ r) n hn]
  unfold textOf
  rw [if_neg (by simp), if_neg (by simp only [List.length_append]; omega)]
  have e : (p ++ (uv n ++ (t ++ r))).drop (p.length + (uv n).length) = t ++ r := by
    rw [← List.append_assoc, ← List.length_append, List.drop_left]
  simp only
  rw [e, List.take_left' ht]

set_option maxRecDepth 100000 in
set_option maxHeartbeats 4000000 in
theorem must_yes (w : World) : Calls Tryz.prog 44 #[.bool true] w fun e w' => e = .returned (.tuple #[]) ∧ w' = w := by
  go_enter Tryz.func44, Tryz.ntmps44
  go_wp2
  first
    | go_end0
    | refine bodyPost_ret (results_none rfl _ _ _) rfl ?_
  exact ⟨rfl, rfl⟩

/-- a block's reader: its bytes, and at which place it is -/
structure RdS (w : World) (g : Nat) (B : Option Addr) (n c : Nat) (l : List UInt8) (q : Nat) : Prop where
  bk : Blk w g 77 #[.slice B n c, .int .i64 (q : Int)]
  rb : RB w B n l
  ne : ∀ ad, B = some ad → 0 < n → ad.block ≠ g
theorem RdS.chg {w w' : World} {S : Nat → Prop} {g : Nat} {B : Option Addr} {n c : Nat} {l : List UInt8} {q : Nat} (h : RdS w g B n c l q) (hc : Chg S w w') (h1 : ¬ S g) (h2 : ∀ ad, B = some ad → 0 < n → ¬ S ad.block) : RdS w' g B n c l q :=
  ⟨h.bk.chg hc h1, h.rb.far hc h2, h.ne⟩
/-- what a reading leaves: the place behind -/
structure RdT (w w' : World) (g : Nat) (B : Option Addr) (n c : Nat) (l : List UInt8) (q : Nat) : Prop where
  rd : RdS w' g B n c l q
  ch : Chg (fun k => k = g) w w'
theorem RdS.to {w W : World} {g : Nat} {B : Option Addr} {n c : Nat} {l : List UInt8} {q : Nat} (h : RdS w g B n c l q) (hW : Grew w W) (q2 : Nat) : RdT w (W.setCell ⟨g, 1, none⟩ (.int .i64 (q2 : Int))) g B n c l q2 := by
  have b3 := (h.bk.grew hW).set 1 (.int .i64 (q2 : Int))
  simp only [List.setIfInBounds_toArray, List.set_cons_succ, List.set_cons_zero] at b3
  refine ⟨⟨b3, (h.rb.grew hW).far (Chg.cell1 W g 1 _) (fun ad e h0 hk => h.ne ad e h0 hk), h.ne⟩, (Chg.of_grew hW).trans (Chg.cell1 W g 1 _)⟩

set_option maxRecDepth 100000 in
set_option maxHeartbeats 4000000 in
theorem rnumber_ok (g : Nat) (B : Option Addr) (n c : Nat) (l : List UInt8) (q v q2 : Nat) (w : World) (h : RdS w g B n c l q) (hn : n ≤ 140737488355328) (hr : uintR l (q : Int) = (v, q2, 0)) :
    Calls Tryz.prog 43 #[.pointer (some ⟨g, 0, none⟩)] w fun e w' => e = .returned (.int .u64 (v : Int)) ∧ RdT w w' g B n c l q2 := by
  have hU := fun W (hW : Grew w W) => uint_any B n c l (q : Int) W (h.rb.grew hW) hn
  rw [hr] at hU
  unfold UintPost uintEnd at hU
  replace hU := Lib.hid hU
  have c0 := h.bk.cell 0
  have c1 := h.bk.cell 1
  simp only [List.getElem?_toArray, List.getElem?_cons_succ, List.getElem?_cons_zero] at c0 c1
  have hcs : CellsIn [g] w := cellsIn_one h.bk
  clear hr
  go_enter Tryz.func43, Tryz.ntmps43
  go_wp2
  refine wp_region_text [] (by kernel_rfl) (by kernel_rfl) ?_
  simp only [instr, chk, List.nil_append]
  go_wp2_with fail
  refine (hU.out _ (Chg.refl _ w).drew).mono ?_
  rintro e w1 ⟨rfl, rfl⟩
  go_wp2_with fail
  refine OnlyN.normal ?_
  go_wp2_with fail
  refine (must_yes _).mono ?_
  rintro e w2 ⟨rfl, rfl⟩
  clear hU
  have hto := h.to ((Chg.refl _ w).drew) q2
  have k1 := h.bk.cell 1
  have kf := h.bk.frozen 1
  simp only [List.getElem?_toArray, List.getElem?_cons_succ, List.getElem?_cons_zero] at k1
  go_wp2
  go_ret
  exact ⟨by simp, hto⟩
set_option maxRecDepth 100000 in
set_option maxHeartbeats 4000000 in
theorem rsigned_ok (g : Nat) (B : Option Addr) (n c : Nat) (l : List UInt8) (q v q2 : Nat) (w : World) (h : RdS w g B n c l q) (hn : n ≤ 140737488355328) (hr : uintR l (q : Int) = (v, q2, 0)) :
    Calls Tryz.prog 45 #[.pointer (some ⟨g, 0, none⟩)] w fun e w' => e = .returned (.int .i64 (uz v)) ∧ RdT w w' g B n c l q2 := by
  have hU := fun W (hW : Grew w W) => int_any B n c l (q : Int) W (h.rb.grew hW) hn
  rw [hr] at hU
  unfold IntPost at hU
  replace hU := Lib.hid hU
  have c0 := h.bk.cell 0
  have c1 := h.bk.cell 1
  simp only [List.getElem?_toArray, List.getElem?_cons_succ, List.getElem?_cons_zero] at c0 c1
  clear hr
  go_enter Tryz.func45, Tryz.ntmps45
  go_wp2
  refine wp_region_text [] (by kernel_rfl) (by kernel_rfl) ?_
  simp only [instr, chk, List.nil_append]
  go_wp2_with fail
  refine (hU.out _ (Chg.refl _ w).drew).mono ?_
  rintro e w1 ⟨rfl, rfl⟩
  go_wp2_with fail
  refine OnlyN.normal ?_
  go_wp2_with fail
  refine (must_yes _).mono ?_
  rintro e w2 ⟨rfl, rfl⟩
  clear hU
  have hto := h.to ((Chg.refl _ w).drew) q2
  have k1 := h.bk.cell 1
  have kf := h.bk.frozen 1
  simp only [List.getElem?_toArray, List.getElem?_cons_succ, List.getElem?_cons_zero] at k1
  go_wp2
  go_ret
  exact ⟨by simp, hto⟩
end Go.Proofs.YtlcaaacbookopaaGreatDoor

namespace Go.Proofs.YtlcaaacbookopaaGreatDoor

theorem uv_cut {a b : Nat} {x y : List UInt8} (ha : a < 18446744073709551616) (hb : b < 18446744073709551616) (h : uv a ++ x = uv b ++ y) : a = b ∧ x = y := by
  have h1 := uintR_at [] x a ha
  have h2 := uintR_at [] y b hb
  rw [List.nil_append] at h1 h2
  rw [h] at h1
  rw [h1] at h2
  injection h2 with h2 _
  subst h2
  exact ⟨rfl, List.append_cancel_left h⟩
/-- a text's bytes -/
def wrdB (s : List UInt8) : List UInt8 := uv s.length ++ s
theorem wrdB_cancel {a b x y : List UInt8} (ha : a.length < 18446744073709551616) (hb : b.length < 18446744073709551616) (h : wrdB a ++ x = wrdB b ++ y) : a = b ∧ x = y := by
  unfold wrdB at h
  rw [List.append_assoc, List.append_assoc] at h
  obtain ⟨h1, h2⟩ := uv_cut ha hb h
  exact List.append_inj h2 h1
theorem flat_cancelP {α : Type} (f : α → List UInt8) (P : α → Prop) (hc : ∀ a b x y, P a → P b → f a ++ x = f b ++ y → a = b ∧ x = y) : ∀ {xs ys : List α} {x y : List UInt8}, xs.length = ys.length → (∀ a ∈ xs, P a) → (∀ a ∈ ys, P a) → xs.flatMap f ++ x = ys.flatMap f ++ y → xs = ys ∧ x = y
  | [], [], x, y, _, _, _, h => ⟨rfl, by simpa using h⟩
  | a :: xs, b :: ys, x, y, hl, ha, hb, h => by
    rw [List.flatMap_cons, List.flatMap_cons, List.append_assoc, List.append_assoc] at h
    obtain ⟨rfl, h2⟩ := hc a b _ _ (ha a List.mem_cons_self) (hb b List.mem_cons_self) h
    obtain ⟨rfl, h3⟩ := flat_cancelP f P hc (by simpa using hl) (fun z hz => ha z (List.mem_cons_of_mem _ hz)) (fun z hz => hb z (List.mem_cons_of_mem _ hz)) h2
    exact ⟨rfl, h3⟩
  | [], _ :: _, _, _, hl, _, _, _ => by simp at hl
  | _ :: _, [], _, _, hl, _, _, _ => by simp at hl

/-- a text's place in a list -/
def plc (T : List ByteArray) (s : ByteArray) : Nat := T.findIdx fun t => decide (t = s)
theorem plc_lt {T : List ByteArray} {s : ByteArray} (h : s ∈ T) : plc T s < T.length := List.findIdx_lt_length_of_exists ⟨s, h, by simp⟩
theorem plc_get {T : List ByteArray} {s : ByteArray} (h : s ∈ T) : T[plc T s]? = some s := by
  have h1 := plc_lt h
  have h2 := List.findIdx_getElem (w := h1)
  rw [decide_eq_true_eq] at h2
  rw [List.getElem?_eq_getElem h1]
  exact congrArg some h2
theorem plc_inj {T : List ByteArray} {a b : ByteArray} (ha : a ∈ T) (hb : b ∈ T) (h : plc T a = plc T b) : a = b := by
  have h1 := plc_get ha
  rw [h, plc_get hb] at h1
  injection h1 with h1
  exact h1.symm

/-- labels, points, a block's bytes but for their sum -/
def labB (T : List ByteArray) (l : Lab) : List UInt8 := uv (plc T l.1) ++ uv (plc T l.2)
def labsB (T : List ByteArray) (ls : List Lab) : List UInt8 := uv ls.length ++ ls.flatMap (labB T)
def pntsB (ps : List Ptn) : List UInt8 := wrdB (pack (encB ps))
def headK : List UInt8 := [84, 87, 66, 1]
def bodyK (T : List ByteArray) (ss : List Ser) : List UInt8 :=
  headK ++ uv T.length ++ T.flatMap (fun t => wrdB t.data.toList) ++ uv ss.length ++ (ss.map Ser.lbs).flatMap (labsB T) ++ (ss.map Ser.pts).flatMap pntsB

/-- series whose block may be written with these texts -/
structure BkW (T : List ByteArray) (ss : List Ser) : Prop where
  t : T.length < 18446744073709551616
  tx : ∀ t ∈ T, t.data.toList.length < 18446744073709551616
  n : ss.length < 18446744073709551616
  ln : ∀ s ∈ ss, s.lbs.length < 18446744073709551616
  lb : ∀ s ∈ ss, ∀ l ∈ s.lbs, l.1 ∈ T ∧ l.2 ∈ T
  pn : ∀ s ∈ ss, s.pts.length ≤ 8191 ∧ Okp s.pts ∧ Okv s.pts ∧ (pack (encB s.pts)).length < 18446744073709551616

theorem labsB_cancel {T : List ByteArray} (hT : T.length < 18446744073709551616) (a b : List Lab) (x y : List UInt8) (ha : a.length < 18446744073709551616 ∧ ∀ l ∈ a, l.1 ∈ T ∧ l.2 ∈ T) (hb : b.length < 18446744073709551616 ∧ ∀ l ∈ b, l.1 ∈ T ∧ l.2 ∈ T) (h : labsB T a ++ x = labsB T b ++ y) : a = b ∧ x = y := by
  unfold labsB at h
  rw [List.append_assoc, List.append_assoc] at h
  obtain ⟨h1, h2⟩ := uv_cut ha.1 hb.1 h
  refine flat_cancelP (labB T) (fun l => l.1 ∈ T ∧ l.2 ∈ T) (fun p q x y hp hq h => ?_) h1 ha.2 hb.2 h2
  unfold labB at h
  rw [List.append_assoc, List.append_assoc] at h
  obtain ⟨e1, h3⟩ := uv_cut (by have := plc_lt hp.1; omega) (by have := plc_lt hq.1; omega) h
  obtain ⟨e2, h4⟩ := uv_cut (by have := plc_lt hp.2; omega) (by have := plc_lt hq.2; omega) h3
  exact ⟨Prod.ext (plc_inj hp.1 hq.1 e1) (plc_inj hp.2 hq.2 e2), h4⟩
theorem pack_pre {a b : List Bool} (h : pack a = pack b) : ∃ u v, a ++ u = b ++ v := by
  have key : ∀ {a b : List Bool}, pack a = pack b → a.length ≤ b.length → b.take a.length = a := fun {a b} h hl => by
    have h1 := bitsOf_pack a
    have h2 := bitsOf_pack b
    rw [h] at h1
    unfold bitsOf at h1 h2
    rw [← h2, ← List.map_take, List.take_range, Nat.min_eq_left hl]
    exact h1
  rcases Nat.le_total a.length b.length with hl | hl
  · refine ⟨b.drop a.length, [], ?_⟩
    have e := List.take_append_drop a.length b
    rw [key h hl] at e
    rw [List.append_nil, e]
  · refine ⟨[], a.drop b.length, ?_⟩
    have e := List.take_append_drop b.length a
    rw [key h.symm hl] at e
    rw [List.append_nil, e]
def PntW (ps : List Ptn) : Prop := ps.length ≤ 8191 ∧ Okp ps ∧ Okv ps ∧ (pack (encB ps)).length < 18446744073709551616
theorem pntsB_cancel (a b : List Ptn) (x y : List UInt8) (ha : PntW a) (hb : PntW b) (h : pntsB a ++ x = pntsB b ++ y) : a = b ∧ x = y := by
  obtain ⟨h1, h2⟩ := wrdB_cancel ha.2.2.2 hb.2.2.2 h
  refine ⟨?_, h2⟩
  obtain ⟨u, v, e1⟩ := pack_pre h1
  exact encB_inj ha.2.1 ha.2.2.1 ha.1 hb.2.1 hb.2.2.1 hb.1 e1
theorem bodyK_cancel {T T' : List ByteArray} {ss ss' : List Ser} {x y : List UInt8} (h : BkW T ss) (h' : BkW T' ss') (e : bodyK T ss ++ x = bodyK T' ss' ++ y) : T = T' ∧ ss = ss' ∧ x = y := by
  unfold bodyK at e
  simp only [List.append_assoc] at e
  replace e := List.append_cancel_left e
  obtain ⟨e1, e2⟩ := uv_cut h.t h'.t e
  obtain ⟨e3, e4⟩ := flat_cancelP (fun t : ByteArray => wrdB t.data.toList) (fun t => t.data.toList.length < 18446744073709551616) (fun a b x y ha hb h => by
    obtain ⟨h1, h2⟩ := wrdB_cancel ha hb h
    exact ⟨data_inj h1, h2⟩) e1 h.tx h'.tx e2
  subst e3
  obtain ⟨e5, e6⟩ := uv_cut h.n h'.n e4
  obtain ⟨e7, e8⟩ := flat_cancelP (labsB T) (fun ls => ls.length < 18446744073709551616 ∧ ∀ l ∈ ls, l.1 ∈ T ∧ l.2 ∈ T) (labsB_cancel h.t) (by simpa using e5) (fun ls hl => by
    obtain ⟨s, hs, rfl⟩ := List.mem_map.1 hl
    exact ⟨h.ln s hs, h.lb s hs⟩) (fun ls hl => by
    obtain ⟨s, hs, rfl⟩ := List.mem_map.1 hl
    exact ⟨h'.ln s hs, h'.lb s hs⟩) e6
  obtain ⟨e9, e10⟩ := flat_cancelP pntsB PntW pntsB_cancel (by simpa using e5) (fun ps hp => by
    obtain ⟨s, hs, rfl⟩ := List.mem_map.1 hp
    exact h.pn s hs) (fun ps hp => by
    obtain ⟨s, hs, rfl⟩ := List.mem_map.1 hp
    exact h'.pn s hs) e8
  refine ⟨rfl, ?_, e10⟩
  refine List.ext_getElem? fun i => ?_
  have k1 := congrArg (fun l => l[i]?) e7
  have k2 := congrArg (fun l => l[i]?) e9
  simp only [List.getElem?_map] at k1 k2
  cases hx : ss[i]? with
  | none => rw [hx] at k1; cases hy : ss'[i]? with
    | none => rfl
    | some b => rw [hy] at k1; cases k1
  | some a => rw [hx] at k1 k2; cases hy : ss'[i]? with
    | none => rw [hy] at k1; cases k1
    | some b =>
      rw [hy] at k1 k2
      simp only [Option.map_some, Option.some.injEq] at k1 k2
      cases a
      cases b
      simp only at k1 k2
      rw [k1, k2]
/-- a block's bytes -/
def blkB (T : List ByteArray) (ss : List Ser) : List UInt8 := sealB (bodyK T ss)
theorem blkB_cancel {T T' : List ByteArray} {ss ss' : List Ser} {x y : List UInt8} (h : BkW T ss) (h' : BkW T' ss') (e : blkB T ss ++ x = blkB T' ss' ++ y) : T = T' ∧ ss = ss' ∧ x = y := by
  unfold blkB sealB at e
  rw [List.append_assoc, List.append_assoc] at e
  obtain ⟨rfl, rfl, e2⟩ := bodyK_cancel h h' e
  exact ⟨rfl, rfl, List.append_cancel_left e2⟩
end Go.Proofs.YtlcaaacbookopaaGreatDoor

namespace Go.Proofs.YtlcaaacbookopaaGreatDoor
open Go.RowKit Go.Sort

abbrev lst (s : ByteArray) : List UInt8 := s.data.toList
abbrev txt (l : List UInt8) : ByteArray := ⟨l.toArray⟩
theorem txt_lst (s : ByteArray) : txt (lst s) = s := rfl
theorem lst_txt (l : List UInt8) : lst (txt l) = l := by simp
def elNm : El ByteArray := ⟨fun s => [.string s], 1, fun _ => rfl, by
  intro x u hu
  simp at hu
  subst hu
  rfl⟩
theorem infoNm : (Tryz.prog.info? 9).map (fun i => (i.zero, i.size, i.bytes)) = some (some (.string ⟨#[]⟩), 1, 16) := by kernel_rfl
theorem elNm_flat (l : List ByteArray) : elNm.flat l = l.map Value.string := by
  induction l with
  | nil => rfl
  | cons a l ih => rw [El.flat_cons, ih]; rfl
theorem flat_enc (l : List ByteArray) : elNm.flat l = (l.map lst).map encStr := by
  rw [elNm_flat, List.map_map]
  rfl
theorem enc_flat (l : List (List UInt8)) : l.map encStr = elNm.flat (l.map txt) := by
  rw [elNm_flat, List.map_map]
  rfl

def sortT (l : List ByteArray) : List ByteArray := ((l.map lst).mergeSort fun x y => decide (x ≤ y)).map txt
theorem sortT_length (l : List ByteArray) : (sortT l).length = l.length := by simp [sortT]
theorem sortT_perm (l : List ByteArray) : (sortT l).Perm l := by
  have h := (List.mergeSort_perm (l.map lst) fun x y => decide (x ≤ y)).map txt
  rw [List.map_map] at h
  have : (l.map (txt ∘ lst)) = l := by
    rw [show (txt ∘ lst) = id from funext fun s => txt_lst s]
    simp
  rw [this] at h
  exact h
theorem sort_names {w : World} {base : Nat} {A : Option Addr} {n c : Nat} {ss : List ByteArray} (h : OE elNm w base 9 A n c ss) (hn : n < 4611686018427387904) :
    Calls Tryz.prog 76 #[.slice A n c] w fun e w' => e = .returned (.tuple #[]) ∧ OE elNm w' base 9 A n c (sortT ss) ∧ Chg (fun k => ∃ ad, A = some ad ∧ k = ad.block) w w' := by
  have hl : ss.length = n := h.len (by decide)
  subst hl
  rcases h.2 with ⟨e, h3⟩ | ⟨g, cap, cur, e, hb, hg, h3, h4, h5, h6⟩
  · injection e with e1 e2 e3
    subst e1; subst e3
    have : ss = [] := List.eq_nil_of_length_eq_zero (by omega)
    subst this
    refine (Tryz.slices_Sort_string_none none 0 w).mono ?_
    rintro e w' ⟨rfl, n, rfl⟩
    exact ⟨rfl, by simpa [sortT] using h, Chg.refl _ w⟩
  · injection e with e1 e2 e3
    subst e1; subst e3
    have h6' : cur.toList.take (ss.map lst).length = (ss.map lst).map encStr := by
      rw [← flat_enc, ← h6]
      simp [elNm]
    have hH : Holds encStr w g 0 (ss.map lst).toArray := holds_of_block hg h6'
    have hS := Tryz.slices_Sort_string g 0 c (ss.map lst) w hH (Array.getElem?_eq_some_iff.1 hg).1 (by simpa using hn)
    rw [List.length_map] at hS
    refine hS.mono ?_
    rintro e w' ⟨rfl, k, os, rfl⟩
    refine ⟨rfl, ?_, ?_⟩
    · have := ownsRow_sorted (n := k) (os := os) (base := base) (g := g) (cap := c) (e := 9) (cur := cur) (ss := ss.map lst) (ts := (ss.map lst).mergeSort fun x y => decide (x ≤ y)) (by simp) hb hg (by simpa using h3) h4 (by simpa [elNm] using h5)
      rw [List.length_map] at this
      unfold OE Own
      rw [show elNm.flat (sortT ss) = ((ss.map lst).mergeSort fun x y => decide (x ≤ y)).map encStr from (enc_flat _).symm]
      exact this
    · exact (Chg.of_grownBy (grownBy_sorted (n := k) (os := os) _)).mono fun j _ hj => ⟨⟨g, 0, none⟩, rfl, by simpa using hj⟩
end Go.Proofs.YtlcaaacbookopaaGreatDoor

namespace Go.Proofs.YtlcaaacbookopaaGreatDoor

theorem up_mem (d : Array (List UInt8)) : ∀ (m : Nat) (x : List UInt8), x ∈ Lib.compactUpTo d m ↔ ∃ j, j < m ∧ d[j]! = x
  | 0, x => by simp [Lib.compactUpTo]
  | m + 1, x => by
    rw [Lib.compactUpTo_succ, List.mem_append, up_mem d m x]
    constructor
    · rintro (⟨j, h1, h2⟩ | h)
      · exact ⟨j, by omega, h2⟩
      · split at h
        · rcases List.mem_singleton.1 h with rfl
          exact ⟨m, by omega, rfl⟩
        · cases h
    · rintro ⟨j, h1, h2⟩
      by_cases hj : j < m
      · exact .inl ⟨j, hj, h2⟩
      · obtain rfl : j = m := by omega
        by_cases hk : Lib.keeps d j = true
        · right
          rw [if_pos hk, h2]
          exact List.mem_singleton.2 rfl
        · left
          have h0 : j ≠ 0 := by
            rintro rfl
            exact hk (by simp [Lib.keeps])
          have he : d[j]! = d[j - 1]! := by
            by_cases h : d[j]! = d[j - 1]!
            · exact h
            · exact absurd (Lib.keeps_pos h) hk
          exact ⟨j - 1, by omega, by rw [← he, h2]⟩
theorem lt_of_ne {a b : List UInt8} (h : a ≤ b) (hne : b ≠ a) : a < b := by
  by_cases h1 : a < b
  · exact h1
  · exact absurd (List.le_antisymm (List.not_lt.1 h1) h) hne
theorem up_lt (d : Array (List UInt8)) (hs : ∀ j, j + 1 < d.size → d[j]! ≤ d[j + 1]!) : ∀ m : Nat, m ≤ d.size → (Lib.compactUpTo d m).Pairwise (· < ·) ∧ ∀ x ∈ Lib.compactUpTo d m, x ≤ d[m - 1]!
  | 0, _ => ⟨by simp [Lib.compactUpTo], fun x hx => by simp [Lib.compactUpTo] at hx⟩
  | m + 1, hm => by
    obtain ⟨h1, h2⟩ := up_lt d hs m (by omega)
    rw [Lib.compactUpTo_succ]
    have hle : ∀ x ∈ Lib.compactUpTo d m, x ≤ d[m]! := fun x hx => by
      rcases Nat.eq_zero_or_pos m with rfl | h0
      · simp [Lib.compactUpTo] at hx
      · obtain ⟨k, rfl⟩ : ∃ k, m = k + 1 := ⟨m - 1, by omega⟩
        exact List.le_trans (h2 x hx) (hs k (by omega))
    by_cases hk : Lib.keeps d m = true
    · rw [if_pos hk]
      refine ⟨List.pairwise_append.2 ⟨h1, List.pairwise_singleton _ _, fun x hx y hy => ?_⟩, fun x hx => ?_⟩
      · rcases List.mem_singleton.1 hy with rfl
        rcases Nat.eq_zero_or_pos m with rfl | h0
        · simp [Lib.compactUpTo] at hx
        · have hne : d[m]! ≠ d[m - 1]! := by
            unfold Lib.keeps at hk
            rw [decide_eq_true_eq] at hk
            rcases hk with hk | hk
            · omega
            · exact hk
          obtain ⟨k, rfl⟩ : ∃ k, m = k + 1 := ⟨m - 1, by omega⟩
          exact List.lt_of_le_of_lt (h2 x hx) (lt_of_ne (hs k (by omega)) hne)
      · rcases List.mem_append.1 hx with hx | hx
        · exact hle x hx
        · rcases List.mem_singleton.1 hx with rfl
          exact List.le_refl _
    · rw [if_neg hk, List.append_nil]
      exact ⟨h1, hle⟩

/-- all texts of some series; those of a block, each once, in order -/
def allT (ss : List Ser) : List ByteArray := ss.flatMap fun s => s.lbs.flatMap fun l => [l.1, l.2]
def uniT (l : List ByteArray) : List ByteArray := (Lib.compact ((sortT l).map lst)).map txt
def tabT (ss : List Ser) : List ByteArray := uniT (allT ss)
theorem sortT_le (l : List ByteArray) : ((sortT l).map lst).Pairwise (· ≤ ·) := by
  have h := List.pairwise_mergeSort (le := fun x y : List UInt8 => decide (x ≤ y)) (fun a b c h1 h2 => by
    simp only [decide_eq_true_eq] at *
    exact List.le_trans h1 h2) (fun a b => by
    simp only [Bool.or_eq_true, decide_eq_true_eq]
    exact List.le_total a b) (l.map lst)
  unfold sortT
  rw [List.map_map, show (lst ∘ txt) = id from funext fun s => lst_txt s, List.map_id]
  simpa using h
theorem mem_uniT {l : List ByteArray} {t : ByteArray} : t ∈ uniT l ↔ t ∈ l := by
  unfold uniT Lib.compact
  rw [List.mem_map]
  have hl : ((sortT l).map lst).length = ((sortT l).map lst).toArray.size := by simp
  constructor
  · rintro ⟨x, hx, rfl⟩
    obtain ⟨j, hj, e⟩ := (up_mem _ _ _).1 hx
    have hm : x ∈ (sortT l).map lst := by
      rw [← e]
      have hj' : j < ((sortT l).map lst).toArray.size := by omega
      rw [getElem!_pos ((sortT l).map lst).toArray j hj']
      simp only [List.getElem_toArray]
      exact List.getElem_mem _
    obtain ⟨t, ht, rfl⟩ := List.mem_map.1 hm
    rw [txt_lst]
    exact (sortT_perm l).mem_iff.1 ht
  · intro ht
    refine ⟨lst t, ?_, txt_lst t⟩
    have hm : lst t ∈ (sortT l).map lst := List.mem_map.2 ⟨t, (sortT_perm l).mem_iff.2 ht, rfl⟩
    obtain ⟨j, hj, e⟩ := List.getElem_of_mem hm
    refine (up_mem _ _ _).2 ⟨j, hj, ?_⟩
    rw [getElem!_pos ((sortT l).map lst).toArray j (by simpa using hj)]
    simpa using e
theorem uniT_lt (l : List ByteArray) : ((uniT l).map lst).Pairwise (· < ·) := by
  unfold uniT Lib.compact
  rw [List.map_map, show (lst ∘ txt) = id from funext fun s => lst_txt s, List.map_id]
  refine (up_lt _ (fun j hj => ?_) _ (by simp)).1
  have h := List.pairwise_iff_getElem.1 (sortT_le l) j (j + 1) (by simpa using Nat.lt_of_succ_lt hj) (by simpa using hj) (by omega)
  rw [getElem!_pos ((sortT l).map lst).toArray j (Nat.lt_of_succ_lt hj), getElem!_pos ((sortT l).map lst).toArray (j + 1) hj]
  simpa using h
theorem uniT_nodup (l : List ByteArray) : (uniT l).Nodup := by
  have h : ((uniT l).map lst).Nodup := (uniT_lt l).imp fun {a b} h e => by
    subst e
    exact List.lt_irrefl _ h
  rw [List.nodup_iff_pairwise_ne, List.pairwise_map] at h
  exact h.imp fun {a b} h e => h (congrArg lst e)
/-- in a row without repetition a text's place is where it stands -/
theorem plc_at {T : List ByteArray} (h : T.Nodup) {i : Nat} {s : ByteArray} (hi : T[i]? = some s) : plc T s = i := by
  have hm := List.mem_of_getElem? hi
  have h1 := plc_get hm
  have hlt := plc_lt hm
  have hil : i < T.length := (List.getElem?_eq_some_iff.1 hi).1
  rw [List.getElem?_eq_getElem hlt] at h1
  rw [List.getElem?_eq_getElem hil] at hi
  have he := (Option.some.inj h1).trans (Option.some.inj hi).symm
  rw [List.nodup_iff_pairwise_ne] at h
  have hp := List.pairwise_iff_getElem.1 h
  rcases Nat.lt_trichotomy (plc T s) i with h2 | h2 | h2
  · exact absurd he (hp _ _ hlt hil h2)
  · exact h2
  · exact absurd he.symm (hp _ _ hil hlt h2)
theorem mem_tabT {ss : List Ser} {s : Ser} {l : Lab} (hs : s ∈ ss) (hl : l ∈ s.lbs) : l.1 ∈ tabT ss ∧ l.2 ∈ tabT ss := by
  have h : ∀ t ∈ [l.1, l.2], t ∈ allT ss := fun t ht => List.mem_flatMap.2 ⟨s, hs, List.mem_flatMap.2 ⟨l, hl, ht⟩⟩
  exact ⟨mem_uniT.2 (h _ (by simp)), mem_uniT.2 (h _ (by simp))⟩
end Go.Proofs.YtlcaaacbookopaaGreatDoor

namespace Go.Proofs.YtlcaaacbookopaaGreatDoor

theorem flat_le {α β : Type} (f : α → List β) (k : Nat) : ∀ {l : List α}, (∀ x ∈ l, (f x).length ≤ k) → (l.flatMap f).length ≤ k * l.length
  | [], _ => by simp
  | a :: l, h => by
    rw [List.flatMap_cons, List.length_append, List.length_cons, Nat.mul_succ]
    have h1 := h a List.mem_cons_self
    have h2 := flat_le f k (l := l) fun x hx => h x (List.mem_cons_of_mem _ hx)
    omega
theorem up_len (d : Array (List UInt8)) : ∀ m : Nat, (Lib.compactUpTo d m).length ≤ m
  | 0 => by simp [Lib.compactUpTo]
  | m + 1 => by
    rw [Lib.compactUpTo_succ, List.length_append]
    have h := up_len d m
    split <;> simp <;> omega
theorem uniT_len (l : List ByteArray) : (uniT l).length ≤ l.length := by
  unfold uniT Lib.compact
  rw [List.length_map]
  refine Nat.le_trans (up_len _ _) ?_
  rw [List.length_map, sortT_length]
  exact Nat.le_refl _
/-- the sizes of a block's series -/
structure BkS (ss : List Ser) : Prop where
  n : ss.length ≤ 1024
  lb : ∀ s ∈ ss, s.lbs.length ≤ 16 ∧ ∀ x ∈ s.lbs, x.1.size ≤ 64 ∧ x.2.size ≤ 256
  pt : ∀ s ∈ ss, s.pts.length ≤ 8191 ∧ Okp s.pts ∧ Okv s.pts
  en : ∀ s ∈ ss, (encB s.pts).length ≤ 141 + 145 * s.pts.length
theorem BkS.all {ss : List Ser} (h : BkS ss) : (allT ss).length ≤ 32768 := by
  unfold allT
  have h1 : ∀ s ∈ ss, (s.lbs.flatMap fun l => [l.1, l.2]).length ≤ 32 := fun s hs => by
    have h2 := flat_le (fun l : Lab => [l.1, l.2]) 2 (l := s.lbs) fun x _ => by simp
    have h3 := (h.lb s hs).1
    omega
  have h4 := flat_le (fun s : Ser => s.lbs.flatMap fun l => [l.1, l.2]) 32 h1
  have h5 := h.n
  omega
theorem BkS.tab {ss : List Ser} (h : BkS ss) : (tabT ss).length ≤ 32768 := Nat.le_trans (uniT_len _) h.all
theorem BkS.bkw {ss : List Ser} (h : BkS ss) : BkW (tabT ss) ss where
  t := by have := h.tab; omega
  tx := fun t ht => by
    obtain ⟨s, hs, h1⟩ := List.mem_flatMap.1 (mem_uniT.1 ht)
    obtain ⟨l, hl, h2⟩ := List.mem_flatMap.1 h1
    have h3 := (h.lb s hs).2 l hl
    rw [Array.length_toList]
    show t.size < _
    simp only [List.mem_cons, List.not_mem_nil, or_false] at h2
    rcases h2 with rfl | rfl <;> omega
  n := by have := h.n; omega
  ln := fun s hs => by have := (h.lb s hs).1; omega
  lb := fun s hs l hl => mem_tabT hs hl
  pn := fun s hs => by
    obtain ⟨h1, h2, h3⟩ := h.pt s hs
    refine ⟨h1, h2, h3, ?_⟩
    have h4 := h.en s hs
    rw [length_pack]
    omega
/-- a block's bytes tell its series, whatever is behind them -/
theorem blk_tell {ss ss' : List Ser} (h : BkS ss) (h' : BkS ss') {x y : List UInt8} (e : blkB (tabT ss) ss ++ x = blkB (tabT ss') ss' ++ y) : ss = ss' ∧ x = y := (blkB_cancel h.bkw h'.bkw e).2
end Go.Proofs.YtlcaaacbookopaaGreatDoor
