/-
  Several texts in one:
  Points as bits: the program's reader and the reference's, and that what was written is read back, whatever stands behind it. Conditions: none; no program in sight.
  Arguments that came in, opened: bytes, with the form's own reach. Conditions: none; no program in sight.
  Rows of elements that take some cells each: read (RE), owned (OE), appended to. Conditions: none; no program in sight.
  The bound of the second form, opened: bytes that came in are no longer than their bulk. Conditions: none; no program in sight.
-/
import Derived.Test.YtlcaaacbookopaaGreatDoorPart2
import Derived.Test.YtlcaaacbookopaaGreatDoorPart1
import Derived.ProofKit
import Derived.OpenShut
import Derived.ShutString
import Derived.ChangeOld
import Derived.SizedLaws
import Derived.Deep.Slices
import Derived.Deep.Fields
import Derived.Test.YtlcaaacbookopaaGreatDoorRows

namespace Go.Proofs.YtlcaaacbookopaaGreatDoor

abbrev St := Nat × Bool
/-- the program's reader: the class of a difference of differences -/
def pN (bs : List Bool) : Nat → Nat → St → Nat × St
  | 0, n, s => (n, s)
  | f + 1, n, s => if (tk bs 1 s).1 = 1 ∧ (tk bs 1 s).2.2 = false then pN bs f (n + 1) (tk bs 1 s).2 else (n, (tk bs 1 s).2)
def wid (n : Nat) : Nat := if n = 0 then 0 else if n = 1 then 7 else if n = 2 then 9 else if n = 3 then 12 else 64
def pTime (bs : List Bool) (s : St) : Int × St :=
  if (pN bs 4 0 s).1 = 0 then (0, (pN bs 4 0 s).2) else (sx (tk bs (wid (pN bs 4 0 s).1) (pN bs 4 0 s).2).1 (wid (pN bs 4 0 s).1), (tk bs (wid (pN bs 4 0 s).1) (pN bs 4 0 s).2).2)
/-- behind the window: a value's bits -/
def pVal (bs : List Bool) (w : Win) (s : St) : Nat × Win × St :=
  if w.2.2 = true then ((tk bs (64 - w.1 - w.2.1) s).1 * 2 ^ w.2.1, w, (tk bs (64 - w.1 - w.2.1) s).2) else (0, w, (s.1, true))
def pValue (bs : List Bool) (w : Win) (s : St) : Nat × Win × St :=
  if (tk bs 1 s).1 = 0 then (0, w, (tk bs 1 s).2)
  else if (tk bs 1 (tk bs 1 s).2).1 = 1 then
    (if 64 < (tk bs 5 (tk bs 1 (tk bs 1 s).2).2).1 + ((tk bs 6 (tk bs 5 (tk bs 1 (tk bs 1 s).2).2).2).1 + 1) then (0, w, ((tk bs 6 (tk bs 5 (tk bs 1 (tk bs 1 s).2).2).2).2.1, true))
     else pVal bs ((tk bs 5 (tk bs 1 (tk bs 1 s).2).2).1, 64 - (tk bs 5 (tk bs 1 (tk bs 1 s).2).2).1 - ((tk bs 6 (tk bs 5 (tk bs 1 (tk bs 1 s).2).2).2).1 + 1), true) (tk bs 6 (tk bs 5 (tk bs 1 (tk bs 1 s).2).2).2).2)
  else pVal bs w (tk bs 1 (tk bs 1 s).2).2
/-- the points behind the first one: so many at most -/
def pGo (bs : List Bool) : Nat → Int → Pnt → Win → St → List Pnt × Bool
  | 0, _, _, _, s => ([], s.2)
  | f + 1, d, p, w, s =>
    if s.2 = true then ([], true) else
    if f = 0 then ([p], false) else
    let t := pTime bs s
    let v := pValue bs w t.2
    let d' := wr64 (d + t.1)
    let q : Pnt := (wr64 (p.1 + d'), p.2 ^^^ v.1)
    let r := pGo bs f d' q v.2.1 v.2.2
    (p :: r.1, r.2)
def pParse (bs : List Bool) : List Pnt × Bool :=
  let h := tk bs 13 (0, false)
  if h.1 = 0 then ([], h.2.2) else
  let t := tk bs 64 h.2
  let v := tk bs 64 t.2
  pGo bs h.1 0 (sx t.1 64, v.1) (0, 0, false) v.2

/-! ### What was written is read back -/
theorem pTime_at (pre rest : List Bool) (z : Int) (h1 : -9223372036854775808 ≤ z) (h2 : z < 9223372036854775808) : pTime (pre ++ (zB z ++ rest)) (pre.length, false) = (z, ((pre ++ zB z).length, false)) := by
  have one : ∀ (p : List Bool) (r : List Bool), tk (p ++ (true :: r)) 1 (p.length, false) = (1, (p ++ [true]).length, false) := fun p r => tk_at p [true] r false
  have zero : ∀ (p : List Bool) (r : List Bool), tk (p ++ (false :: r)) 1 (p.length, false) = (0, (p ++ [false]).length, false) := fun p r => tk_at p [false] r false
  have body : ∀ (hd : List Bool) (n w : Nat), 0 < w → w ≤ 64 → wid n = w → n ≠ 0 → -(2 ^ (w - 1) : Nat) ≤ z → z < (2 ^ (w - 1) : Nat) → zB z = hd ++ toBits (u64 z) w →
      pN (pre ++ (zB z ++ rest)) 4 0 (pre.length, false) = (n, (pre ++ hd).length, false) → pTime (pre ++ (zB z ++ rest)) (pre.length, false) = (z, ((pre ++ zB z).length, false)) := by
    intro hd n w hw hw2 hn hn0 hz1 hz2 hzB hN
    unfold pTime
    rw [hN]
    simp only
    rw [if_neg hn0, hn]
    have e : pre ++ (zB z ++ rest) = (pre ++ hd) ++ (toBits (u64 z) w ++ rest) := by rw [hzB]; simp only [List.append_assoc]
    have ht := tk_at (pre ++ hd) (toBits (u64 z) w) rest false
    rw [length_toBits, val_toBits] at ht
    rw [e, ht]
    simp only
    rw [sx_u64 hw hw2 hz1 hz2, hzB, ← List.append_assoc]
  by_cases c0 : z = 0
  · subst c0
    have hz : zB 0 = [false] := rfl
    unfold pTime
    have hN : pN (pre ++ (zB 0 ++ rest)) 4 0 (pre.length, false) = (0, (pre ++ [false]).length, false) := by
      rw [hz]
      unfold pN
      have := zero pre rest
      simp only [List.singleton_append]
      rw [this, if_neg (by simp)]
    rw [hN]
    simp [hz]
  · by_cases c1 : -64 ≤ z ∧ z ≤ 63
    · have hc : cls z = (2, 2, 7) := by unfold cls; rw [if_neg c0, if_pos c1]
      have hz : zB z = [true, false] ++ toBits (u64 z) 7 := by unfold zB; rw [hc]; rfl
      refine body [true, false] 1 7 (by decide) (by decide) rfl (by decide) (by simp; omega) (by simp; omega) hz ?_
      rw [hz]
      have e1 := one pre ([false] ++ toBits (u64 z) 7 ++ rest)
      have e2 := zero (pre ++ [true]) (toBits (u64 z) 7 ++ rest)
      simp only [List.append_assoc, List.cons_append, List.nil_append] at e1 e2 ⊢
      simp only [pN, e1, e2]
      simp
    · by_cases c2 : -256 ≤ z ∧ z ≤ 255
      · have hc : cls z = (6, 3, 9) := by unfold cls; rw [if_neg c0, if_neg c1, if_pos c2]
        have hz : zB z = [true, true, false] ++ toBits (u64 z) 9 := by unfold zB; rw [hc]; rfl
        refine body [true, true, false] 2 9 (by decide) (by decide) rfl (by decide) (by simp; omega) (by simp; omega) hz ?_
        rw [hz]
        have e1 := one pre ([true, false] ++ toBits (u64 z) 9 ++ rest)
        have e2 := one (pre ++ [true]) ([false] ++ toBits (u64 z) 9 ++ rest)
        have e3 := zero (pre ++ [true, true]) (toBits (u64 z) 9 ++ rest)
        simp only [List.append_assoc, List.cons_append, List.nil_append] at e1 e2 e3 ⊢
        simp only [pN, e1, e2, e3]
        simp
      · by_cases c3 : -2048 ≤ z ∧ z ≤ 2047
        · have hc : cls z = (14, 4, 12) := by unfold cls; rw [if_neg c0, if_neg c1, if_neg c2, if_pos c3]
          have hz : zB z = [true, true, true, false] ++ toBits (u64 z) 12 := by unfold zB; rw [hc]; rfl
          refine body [true, true, true, false] 3 12 (by decide) (by decide) rfl (by decide) (by simp; omega) (by simp; omega) hz ?_
          rw [hz]
          have e1 := one pre ([true, true, false] ++ toBits (u64 z) 12 ++ rest)
          have e2 := one (pre ++ [true]) ([true, false] ++ toBits (u64 z) 12 ++ rest)
          have e3 := one (pre ++ [true, true]) ([false] ++ toBits (u64 z) 12 ++ rest)
          have e4 := zero (pre ++ [true, true, true]) (toBits (u64 z) 12 ++ rest)
          simp only [List.append_assoc, List.cons_append, List.nil_append] at e1 e2 e3 e4 ⊢
          simp only [pN, e1, e2, e3, e4]
          simp
        · have hc : cls z = (15, 4, 64) := by unfold cls; rw [if_neg c0, if_neg c1, if_neg c2, if_neg c3]
          have hz : zB z = [true, true, true, true] ++ toBits (u64 z) 64 := by unfold zB; rw [hc]; rfl
          refine body [true, true, true, true] 4 64 (by decide) (by decide) rfl (by decide) (by simp; omega) (by simp; omega) hz ?_
          rw [hz]
          have e1 := one pre ([true, true, true] ++ toBits (u64 z) 64 ++ rest)
          have e2 := one (pre ++ [true]) ([true, true] ++ toBits (u64 z) 64 ++ rest)
          have e3 := one (pre ++ [true, true]) ([true] ++ toBits (u64 z) 64 ++ rest)
          have e4 := one (pre ++ [true, true, true]) (toBits (u64 z) 64 ++ rest)
          simp only [List.append_assoc, List.cons_append, List.nil_append] at e1 e2 e3 e4 ⊢
          simp only [pN, e1, e2, e3, e4]
          simp

theorem pVal_at (pre rest : List Bool) (w : Win) (x : Nat) (h : w.2.2 = true) (hb : w.2.1 ≤ tz x) (ha : w.1 ≤ lz x) (hx : x < 2 ^ 64) :
    pVal (pre ++ (toBits (x / 2 ^ w.2.1) (64 - w.1 - w.2.1) ++ rest)) w (pre.length, false) = (x, w, ((pre ++ toBits (x / 2 ^ w.2.1) (64 - w.1 - w.2.1)).length, false)) := by
  unfold pVal
  rw [if_pos h]
  have hlt : x / 2 ^ w.2.1 < 2 ^ (64 - w.1 - w.2.1) := by
    rw [Nat.div_lt_iff_lt_mul (Nat.two_pow_pos _), ← Nat.pow_add]
    refine Nat.lt_of_lt_of_le (lt_of_lz hx ha) (Nat.pow_le_pow_right (by omega) (by omega))
  rw [tk_bits _ _ _ _ _ hlt]
  simp only
  rw [div_of_tz hb]

theorem pValue_at (pre rest : List Bool) (w : Win) (x : Nat) (hx : x < 2 ^ 64) : pValue (pre ++ ((valB w x).1 ++ rest)) w (pre.length, false) = (x, (valB w x).2, ((pre ++ (valB w x).1).length, false)) := by
  unfold valB
  by_cases h0 : x = 0
  · subst h0
    rw [if_pos rfl]
    unfold pValue
    have := tk_at pre [false] rest false
    rw [show [false].length = 1 from rfl] at this
    rw [this]
    rfl
  · rw [if_neg h0]
    by_cases h1 : w.2.2 = true ∧ w.1 ≤ lz x ∧ w.2.1 ≤ tz x
    · rw [if_pos h1]
      unfold pValue
      have e1 := tk_bits pre (toBits 0 1 ++ (toBits (x / 2 ^ w.2.1) (64 - w.1 - w.2.1) ++ rest)) 1 1 false (by decide)
      have e2 := tk_bits (pre ++ toBits 1 1) (toBits (x / 2 ^ w.2.1) (64 - w.1 - w.2.1) ++ rest) 0 1 false (by decide)
      have e3 := pVal_at (pre ++ toBits 1 1 ++ toBits 0 1) rest w x h1.1 h1.2.2 h1.2.1 hx
      simp only [List.append_assoc] at e1 e2 e3 ⊢
      rw [e1]
      simp only
      rw [e2]
      simp only
      rw [if_neg (by decide), if_neg (by decide), e3]
    · rw [if_neg h1]
      have hlt := lz_tz h0 hx
      have hl := lz_le x
      unfold pValue
      have e1 := tk_bits pre (toBits 1 1 ++ (toBits (lz x) 5 ++ (toBits (63 - lz x - tz x) 6 ++ (toBits (x / 2 ^ tz x) (64 - lz x - tz x) ++ rest)))) 1 1 false (by decide)
      have e2 := tk_bits (pre ++ toBits 1 1) (toBits (lz x) 5 ++ (toBits (63 - lz x - tz x) 6 ++ (toBits (x / 2 ^ tz x) (64 - lz x - tz x) ++ rest))) 1 1 false (by decide)
      have e3 := tk_bits (pre ++ toBits 1 1 ++ toBits 1 1) (toBits (63 - lz x - tz x) 6 ++ (toBits (x / 2 ^ tz x) (64 - lz x - tz x) ++ rest)) (lz x) 5 false (by omega)
      have e4 := tk_bits (pre ++ toBits 1 1 ++ toBits 1 1 ++ toBits (lz x) 5) (toBits (x / 2 ^ tz x) (64 - lz x - tz x) ++ rest) (63 - lz x - tz x) 6 false (by omega)
      have e5 := pVal_at (pre ++ toBits 1 1 ++ toBits 1 1 ++ toBits (lz x) 5 ++ toBits (63 - lz x - tz x) 6) rest (lz x, tz x, true) x rfl (Nat.le_refl _) (Nat.le_refl _) hx
      simp only [List.append_assoc] at e1 e2 e3 e4 e5 ⊢
      rw [e1]
      simp only
      rw [e2]
      simp only
      rw [if_neg (by decide), if_pos trivial, e3]
      simp only
      rw [e4]
      simp only
      rw [if_neg (by omega), show 64 - lz x - (63 - lz x - tz x + 1) = tz x by omega, e5]

theorem wr64_in {x : Int} (h1 : -9223372036854775808 ≤ x) (h2 : x < 9223372036854775808) : wr64 x = x := by
  exact IntWalk.i64_in _ ⟨by omega, by omega⟩
theorem xor_back (a b : Nat) : a ^^^ (b ^^^ a) = b := by
  rw [Nat.xor_comm b a, ← Nat.xor_assoc, Nat.xor_self, Nat.zero_xor]
theorem xor_lt {a b : Nat} (ha : a < 18446744073709551616) (hb : b < 18446744073709551616) : a ^^^ b < 2 ^ 64 := Nat.xor_lt_two_pow (n := 64) ha hb
theorem Okp.tail {p q : Pnt} {r : List Pnt} (h : Okp (p :: q :: r)) : Okp (q :: r) := fun i x hx => h (i + 1) x hx
theorem Okp.first {p q : Pnt} {r : List Pnt} (h : Okp (p :: q :: r)) : (-1099511627776 ≤ p.1 ∧ p.1 ≤ 1099511627776) ∧ (-1099511627776 ≤ q.1 ∧ q.1 ≤ 1099511627776) ∧ p.1 < q.1 :=
  ⟨(h 0 p rfl).1, (h 1 q rfl).1, (h 0 p rfl).2 q rfl⟩

theorem pGo_at : ∀ (r : List Pnt) (pre rest : List Bool) (p : Pnt) (d : Int) (w : Win), Okp (p :: r) → Okv (p :: r) → -4398046511104 ≤ d → d ≤ 4398046511104 →
    pGo (pre ++ (encGo p d w r ++ rest)) (r.length + 1) d p w (pre.length, false) = (p :: r, false)
  | [], pre, rest, p, d, w, _, _, _, _ => by simp [pGo]
  | q :: r, pre, rest, p, d, w, ho, hv, hd1, hd2 => by
    obtain ⟨b1, b2, b3⟩ := ho.first
    have hp := hv p (by simp)
    have hq := hv q (by simp)
    have ih := pGo_at r (pre ++ zB (q.1 - p.1 - d) ++ (valB w (q.2 ^^^ p.2)).1) rest q (q.1 - p.1) (valB w (q.2 ^^^ p.2)).2 ho.tail (fun x hx => hv x (List.mem_cons_of_mem _ hx)) (by omega) (by omega)
    have e1 := pTime_at pre ((valB w (q.2 ^^^ p.2)).1 ++ (encGo q (q.1 - p.1) (valB w (q.2 ^^^ p.2)).2 r ++ rest)) (q.1 - p.1 - d) (by omega) (by omega)
    have e2 := pValue_at (pre ++ zB (q.1 - p.1 - d)) (encGo q (q.1 - p.1) (valB w (q.2 ^^^ p.2)).2 r ++ rest) w (q.2 ^^^ p.2) (xor_lt hq hp)
    have e3 : wr64 (d + (q.1 - p.1 - d)) = q.1 - p.1 := by rw [wr64_in (by omega) (by omega)]; omega
    have e4 : wr64 (p.1 + (q.1 - p.1)) = q.1 := by rw [wr64_in (by omega) (by omega)]; omega
    simp only [encGo, List.append_assoc] at e1 e2 ih ⊢
    unfold pGo
    simp only [Bool.false_eq_true, if_false, List.length_cons, Nat.succ_ne_zero, e1, e2, e3, e4, xor_back, ih]
theorem pParse_at (ps : List Pnt) (rest : List Bool) (ho : Okp ps) (hv : Okv ps) (hn : ps.length ≤ 8191) : pParse (encB ps ++ rest) = (ps, false) := by
  cases ps with
  | nil =>
    have e0 := tk_bits [] rest 0 13 false (by decide)
    simp only [List.nil_append, List.length_nil] at e0
    simp only [encB, pParse, List.length_nil, List.append_nil, e0]
    rfl
  | cons p r =>
    have b := (ho 0 p rfl).1
    have hp := hv p (by simp)
    have e0 := tk_bits [] ((headB p ++ encGo p 0 (0, 0, false) r) ++ rest) (r.length + 1) 13 false (by simp at hn; omega)
    simp only [List.nil_append, List.length_nil] at e0
    simp only [encB, pParse, List.length_cons, List.append_assoc] at e0 ⊢
    rw [e0]
    simp only [Nat.succ_ne_zero, if_false]
    have e1 := tk_at (toBits (r.length + 1) 13) (toBits (u64 p.1) 64) (toBits p.2 64 ++ (encGo p 0 (0, 0, false) r ++ rest)) false
    have e2 := tk_bits (toBits (r.length + 1) 13 ++ toBits (u64 p.1) 64) (encGo p 0 (0, 0, false) r ++ rest) p.2 64 false (by omega)
    have e3 := pGo_at r (toBits (r.length + 1) 13 ++ toBits (u64 p.1) 64 ++ toBits p.2 64) rest p 0 (0, 0, false) ho hv (by omega) (by omega)
    have e4 : sx (val (toBits (u64 p.1) 64)) 64 = p.1 := by
      rw [val_toBits]
      exact sx_u64 (by decide) (by decide) (by simp; omega) (by simp; omega)
    rw [length_toBits] at e1
    simp only [headB, List.append_assoc] at e1 e2 e3 ⊢
    rw [e1]
    simp only [List.length_append] at e2 e3 ⊢
    rw [e2, e4, e3]
/-- what is read back is the same -/
theorem encB_inj {ps qs : List Pnt} {x y : List Bool} (ho : Okp ps) (hv : Okv ps) (hn : ps.length ≤ 8191) (ho' : Okp qs) (hv' : Okv qs) (hn' : qs.length ≤ 8191) (h : encB ps ++ x = encB qs ++ y) : ps = qs := by
  have h1 := pParse_at ps x ho hv hn
  rw [h, pParse_at qs y ho' hv' hn'] at h1
  exact (congrArg Prod.fst h1).symm
end Go.Proofs.YtlcaaacbookopaaGreatDoor

namespace Go.Proofs.YtlcaaacbookopaaGreatDoor
open Go.ChangeShapes Go.WideShapes Go.ChangeAt Go.RowKit

theorem u8_of_wf {z : Int} (h : (Lit.int .u8 z).wf = true) : ((UInt8.ofNat z.toNat).toNat : Int) = z := by
  have := Go.bounds_u8 h
  rw [UInt8.toNat_ofNat']
  omega

theorem open_bytes {H : Type} {enc : TypeId × Value → H} {P : Program} {W : World} {base : Nat} {spare : Nat → Bool} {held : Bool} {t e : TypeId} (ht : P.underlying t = some (.slice e)) (he : P.underlying e = some (.int .u8)) (hC : P.cellsOf e = 1) (hB : P.bytesOf e = 1)
    {ts : List TypeId} {ds : List (DataW H)} {j : Nat} {d : DataW H} (hsz : (DataW.weightsEach P ts ds).all (· ≤ reachBytes) = true) (htj : ts[j]? = some t) (hdj : ds[j]? = some d)
    {A : Option Addr} {n c : Nat} {p : List MemPlace} (h : DataW.Trod enc P W base spare held t (.slice A n c) d p) : ∃ l : List UInt8, RB W A n l ∧ n ≤ 140737488351232 := by
  obtain ⟨fuel, hf⟩ := h
  rcases open_ints ht he hC hf with ⟨hcs, _⟩ | ⟨x, l, c', zs, hcs, _, hl, hm, hz, hx, hcell, hwz⟩
  · simp [Value.cells] at hcs
    obtain ⟨rfl, rfl, rfl⟩ := hcs
    exact ⟨[], ⟨rfl, Rd.nil _ _⟩, by omega⟩
  · simp [Value.cells] at hcs
    obtain ⟨rfl, rfl, rfl⟩ := hcs
    simp only [Prod.mk.injEq] at hx
    obtain ⟨rfl, _⟩ := hx
    have hlen : n ≤ zs.length := by rw [hz]; split <;> omega
    refine ⟨(zs.take n).map fun z => UInt8.ofNat z.toNat, ⟨by simp; omega, ?_⟩, ?_⟩
    · intro k u hu
      refine ⟨x, rfl, ?_⟩
      simp only [List.map_map, List.getElem?_map, List.getElem?_take] at hu
      split at hu
      · rename_i hk
        rw [hcell k (by omega)]
        rw [List.getElem?_eq_getElem (by omega)] at hu
        simp only [Option.map_some, Option.some.injEq, Function.comp, byt] at hu
        rw [← hu, u8_of_wf (hwz _ (List.getElem_mem _)), List.getD_eq_getElem?_getD, List.getElem?_eq_getElem (by omega)]
        rfl
      · simp at hu
    · have := sized_slice hsz htj hdj ht
      rw [hB] at this
      simp only [Go.ChangeShapes.lits, List.length_map, List.length_take, List.length_drop, reachBytes] at this
      omega

theorem open_bytes2 {H : Type} {enc : TypeId × Value → H} {P : Program} {W : World} {base : Nat} {spare : Nat → Bool} {held : Bool} {t e : TypeId} (ht : P.underlying t = some (.slice e)) (he : P.underlying e = some (.int .u8)) (hC : P.cellsOf e = 1) (hB : P.bytesOf e = 1)
    {ts : List TypeId} {ds : List (DataW H)} {j : Nat} {d : DataW H} (hsz : (DataW.weightsEach P ts ds).all (· ≤ reachBytes) = true) (htj : ts[j]? = some t) (hdj : ds[j]? = some d)
    {A : Option Addr} {n c : Nat} {p : List MemPlace} (h : DataW.Trod enc P W base spare held t (.slice A n c) d p) : ∃ l : List UInt8, RB W A n l ∧ n ≤ 140737488351232 ∧ (n ≤ c ∧ c ≤ 9223372036854775807) := by
  have hc : n ≤ c ∧ c ≤ 9223372036854775807 := by
    obtain ⟨fuel, hf⟩ := h
    rcases open_ints ht he hC hf with ⟨hcs, _⟩ | ⟨x, l, c', zs, hcs, _, hl, hm, hz, hx, hcell, hwz⟩
    · simp [Value.cells] at hcs
      obtain ⟨rfl, rfl, rfl⟩ := hcs
      omega
    · simp [Value.cells] at hcs
      obtain ⟨rfl, rfl, rfl⟩ := hcs
      unfold maxLen at hm
      omega
  obtain ⟨l, h1, h2⟩ := open_bytes ht he hC hB hsz htj hdj h
  exact ⟨l, h1, h2, hc⟩
end Go.Proofs.YtlcaaacbookopaaGreatDoor

namespace Go.Proofs.YtlcaaacbookopaaGreatDoor

/-- how an element lies in cells -/
structure El (α : Type) where
  cells : α → List Value
  sz : Nat
  len : ∀ x, (cells x).length = sz
  one : ∀ x, ∀ u ∈ cells x, u.oneCell' = true

namespace El
variable {α : Type} (E : El α)
def flat (l : List α) : List Value := l.flatMap E.cells
theorem flat_cons (x : α) (l : List α) : E.flat (x :: l) = E.cells x ++ E.flat l := rfl
theorem flat_append (a b : List α) : E.flat (a ++ b) = E.flat a ++ E.flat b := by simp [flat]
theorem flat_length (l : List α) : (E.flat l).length = l.length * E.sz := by
  induction l with
  | nil => simp [flat]
  | cons x l ih => rw [flat_cons, List.length_append, ih, E.len, List.length_cons, Nat.succ_mul]; omega
theorem flat_one' (l : List α) : ∀ u ∈ E.flat l, u.oneCell' = true := by
  intro u hu
  obtain ⟨x, _, hx⟩ := List.mem_flatMap.1 hu
  exact E.one x u hx
theorem flat_take (l : List α) (k : Nat) : (E.flat l).take (k * E.sz) = E.flat (l.take k) := by
  induction l generalizing k with
  | nil => simp [flat]
  | cons x l ih =>
    cases k with
    | zero => simp [flat]
    | succ k => rw [List.take_succ_cons, flat_cons, flat_cons, Nat.succ_mul, Nat.add_comm, List.take_length_add_append' (E.len x), ih]
  where
  List.take_length_add_append' {l1 l2 : List Value} {n i : Nat} (h : l1.length = n) : (l1 ++ l2).take (n + i) = l1 ++ l2.take i := by
    subst h; rw [List.take_append]; simp [List.take_of_length_le]
theorem flat_drop (l : List α) (k : Nat) : (E.flat l).drop (k * E.sz) = E.flat (l.drop k) := by
  have h1 : E.flat l = E.flat (l.take k) ++ E.flat (l.drop k) := by rw [← flat_append, List.take_append_drop]
  rcases Nat.lt_or_ge l.length k with h | h
  · rw [List.drop_of_length_le (by rw [flat_length]; exact Nat.mul_le_mul_right _ (by omega)), List.drop_of_length_le (by omega)]
    rfl
  · rw [h1, List.drop_left' (by rw [flat_length, List.length_take, Nat.min_eq_left h])]
theorem flat_get (l : List α) {k j : Nat} {x : α} (hk : l[k]? = some x) (hj : j < E.sz) : (E.flat l)[k * E.sz + j]? = (E.cells x)[j]? := by
  have hlt : k < l.length := (List.getElem?_eq_some_iff.1 hk).1
  have hx : l[k] = x := (List.getElem?_eq_some_iff.1 hk).2
  have h1 : E.flat l = E.flat (l.take k) ++ (E.cells x ++ E.flat (l.drop (k + 1))) := by
    rw [← flat_cons, ← flat_append, ← hx, ← List.drop_eq_getElem_cons hlt, List.take_append_drop]
  have h2 : (E.flat (l.take k)).length = k * E.sz := by rw [flat_length, List.length_take, Nat.min_eq_left (by omega)]
  rw [h1, List.getElem?_append_right (by omega), h2, Nat.add_sub_cancel_left, List.getElem?_append_left (by rw [E.len]; exact hj)]
theorem flat_set (l : List α) (k : Nat) (x : α) (hk : k < l.length) : E.flat (l.set k x) = E.flat (l.take k) ++ (E.cells x ++ E.flat (l.drop (k + 1))) := by
  rw [List.set_eq_take_append_cons_drop, if_pos hk, flat_append, flat_cons]
end El

theorem add_pos {a : Addr} {j : Nat} (hj : 0 < j) : a.add j = ⟨a.block, a.off + j, none⟩ := by
  unfold Addr.add
  rw [if_neg (by omega)]
/-- the walk's spelling of a later cell of an element -/
theorem cell_off {w : World} {ad : Addr} {i j : Nat} {u : Value} (hj : 0 < j) (h : w.cell? (ad.add (i + j)) = some u) : w.cell? ⟨(ad.add i).block, (ad.add i).off + j, none⟩ = some u := by
  rw [← add_add, add_pos hj] at h
  exact h

section
variable {α : Type} {E : El α}
/-- a slice's cells are these elements -/
def RE (E : El α) (w : World) (A : Option Addr) (n : Nat) (l : List α) : Prop := l.length = n ∧ Rd w A (E.flat l)
/-- a row of elements of the call's own -/
def OE (E : El α) (w : World) (base : Nat) (t : TypeId) (A : Option Addr) (n c : Nat) (l : List α) : Prop := Own w base t E.sz A n c (E.flat l)

theorem RE.at_ {w : World} {A : Option Addr} {n : Nat} {l : List α} (h : RE E w A n l) {k : Nat} (hk : k < n) (hs : 0 < E.sz) :
    ∃ ad x, A = some ad ∧ l[k]? = some x ∧ ∀ j u, (E.cells x)[j]? = some u → w.cell? (ad.add (k * E.sz + j)) = some u := by
  have hl : k < l.length := by rw [h.1]; exact hk
  have hx : l[k]? = some l[k] := List.getElem?_eq_getElem hl
  have h0 := E.flat_get l (x := l[k]) hx hs
  obtain ⟨u0, hu0⟩ : ∃ u, (E.cells l[k])[0]? = some u := ⟨(E.cells l[k])[0]'(by rw [E.len]; exact hs), List.getElem?_eq_getElem _⟩
  rw [hu0] at h0
  obtain ⟨ad, rfl, _⟩ := h.2 _ _ h0
  refine ⟨ad, l[k], rfl, hx, fun j u hu => ?_⟩
  have hj : j < E.sz := by have := (List.getElem?_eq_some_iff.1 hu).1; rwa [E.len] at this
  obtain ⟨ad', e, hc⟩ := h.2 _ u ((E.flat_get l hx hj).trans hu)
  injection e with e
  subst e
  exact hc
theorem RE.nil (w : World) (A : Option Addr) : RE E w A 0 [] := ⟨rfl, Rd.nil _ _⟩
theorem RE.chg {S : Nat → Prop} {w w' : World} {A : Option Addr} {n : Nat} {l : List α} (h : RE E w A n l) (hc : Chg S w w') (hn : ∀ ad, A = some ad → ¬ S ad.block) : RE E w' A n l := ⟨h.1, h.2.chg hc hn⟩
theorem RE.grew {w w' : World} {A : Option Addr} {n : Nat} {l : List α} (h : RE E w A n l) (hc : Grew w w') : RE E w' A n l := ⟨h.1, h.2.grew hc⟩
theorem RE.drewN {w : World} {A : Option Addr} {n : Nat} {l : List α} (h : RE E w A n l) (k : Nat) : RE E (w.drewN k) A n l := h
theorem RE.lt {w : World} {A : Option Addr} {n : Nat} {l : List α} (h : RE E w A n l) (hs : 0 < E.sz) : ∀ ad, A = some ad → 0 < n → ad.block < w.heap.size := by
  rintro ad rfl hn
  refine h.2.lt ?_
  intro e
  have := congrArg List.length e
  rw [E.flat_length, h.1, List.length_nil] at this
  have := Nat.mul_pos hn hs
  omega
theorem RE.far {S : Nat → Prop} {w w' : World} {A : Option Addr} {n : Nat} {l : List α} (h : RE E w A n l) (hc : Chg S w w') (hn : ∀ ad, A = some ad → 0 < n → ¬ S ad.block) : RE E w' A n l := by
  rcases Nat.eq_zero_or_pos n with h0 | h0
  · have : l = [] := List.eq_nil_of_length_eq_zero (by rw [h.1, h0])
    subst this
    exact ⟨h.1, Rd.nil _ _⟩
  · exact ⟨h.1, h.2.chg hc (fun ad e => hn ad e h0)⟩
theorem RE.drop {w : World} {ad : Addr} {n : Nat} {l : List α} (h : RE E w (some ad) n l) (i : Nat) : RE E w (some (ad.add (i * E.sz))) (n - i) (l.drop i) := by
  refine ⟨by rw [List.length_drop, h.1], ?_⟩
  rw [← E.flat_drop]
  exact h.2.drop (i * E.sz)
theorem RE.take {w : World} {A : Option Addr} {n : Nat} {l : List α} (h : RE E w A n l) {i : Nat} (hi : i ≤ n) : RE E w A i (l.take i) := by
  refine ⟨by rw [List.length_take, h.1]; omega, ?_⟩
  rw [← E.flat_take]
  exact h.2.take _
theorem RE.take0 {w : World} {A : Option Addr} {n : Nat} {l r : List α} (h : RE E w A (n + r.length) (l ++ r)) : RE E w A n l := by
  have h1 : l.length = n := by have := h.1; simp at this; omega
  have := h.take (i := n) (by omega)
  rwa [List.take_left' h1] at this
theorem RE.newAt {w : World} {B : Nat} {l : List α} {n : Nat} {cs : Array Value} {t : TypeId} (hB : B = w.heap.size) (hn : l.length = n) (hc : cs = (E.flat l).toArray) : RE E (w.alloc (.cells cs t)) (some ⟨B, 0, none⟩) n l := by
  subst hB; subst hc
  exact ⟨hn, Rd.new w (E.flat l).toArray t⟩
theorem OE.len {w : World} {base : Nat} {t : TypeId} {A : Option Addr} {n c : Nat} {l : List α} (hs : 0 < E.sz) (h : OE E w base t A n c l) : l.length = n := by
  have := Own.len h
  rw [E.flat_length] at this
  exact Nat.eq_of_mul_eq_mul_right hs this
theorem OE.cap {w : World} {base : Nat} {t : TypeId} {A : Option Addr} {n c : Nat} {l : List α} (h : OE E w base t A n c l) : n ≤ c ∧ c ≤ 9223372036854775807 := by have := Own.cap h; unfold maxLen at this; omega
theorem OE.re {w : World} {base : Nat} {t : TypeId} {A : Option Addr} {n c : Nat} {l : List α} (hs : 0 < E.sz) (h : OE E w base t A n c l) : RE E w A n l := ⟨h.len hs, Own.rd h⟩
theorem OE.chg {S : Nat → Prop} {w w' : World} {base : Nat} {t : TypeId} {A : Option Addr} {n c : Nat} {l : List α} (h : OE E w base t A n c l) (hc : Chg S w w') (hn : ∀ ad, A = some ad → ¬ S ad.block) : OE E w' base t A n c l := Own.chg h hc hn
theorem OE.grew {w w' : World} {base : Nat} {t : TypeId} {A : Option Addr} {n c : Nat} {l : List α} (h : OE E w base t A n c l) (hc : Grew w w') : OE E w' base t A n c l := Own.grew h hc
theorem OE.drewN {w : World} {base : Nat} {t : TypeId} {A : Option Addr} {n c : Nat} {l : List α} (h : OE E w base t A n c l) (k : Nat) : OE E (w.drewN k) base t A n c l := h
theorem OE.nil (w : World) (base : Nat) (t : TypeId) : OE E w base t none 0 0 [] := Own.nil w base t E.sz
theorem OE.made (w : World) (base : Nat) (t : TypeId) (hb : base ≤ w.heap.size) : OE E (w.alloc (.cells #[] t)) base t (some ⟨w.heap.size, 0, none⟩) 0 0 [] := Own.made w base t E.sz hb
theorem OE.lit (w : World) (base : Nat) (t : TypeId) (n : Nat) (l : List α) (cs : Array Value) (hb : base ≤ w.heap.size) (hm : n ≤ maxLen) (hn : l.length = n) (hc : cs = (E.flat l).toArray) :
    OE E (w.alloc (.cells cs t)) base t (some ⟨w.heap.size, 0, none⟩) n n l := by
  have := Own.lit w base t E.sz n cs hb hm (by rw [hc, List.size_toArray, E.flat_length, hn])
  rw [hc] at this ⊢
  exact this
/-- one element stored into -/
theorem flat_set_cells (E : El α) (l : List α) (k : Nat) (x y : α) (hk : l[k]? = some y) : ∀ i, (E.flat (l.set k x))[i]? = if k * E.sz ≤ i ∧ i < k * E.sz + E.sz then (E.cells x)[i - k * E.sz]? else (E.flat l)[i]? := by
  intro i
  have hlt : k < l.length := (List.getElem?_eq_some_iff.1 hk).1
  have hy : l[k] = y := (List.getElem?_eq_some_iff.1 hk).2
  have h1 : E.flat l = E.flat (l.take k) ++ (E.cells y ++ E.flat (l.drop (k + 1))) := by
    rw [← E.flat_cons, ← E.flat_append, ← hy, ← List.drop_eq_getElem_cons hlt, List.take_append_drop]
  have h2 : (E.flat (l.take k)).length = k * E.sz := by rw [E.flat_length, List.length_take, Nat.min_eq_left (by omega)]
  have hx := E.len x
  have hy := E.len y
  rw [E.flat_set l k x hlt, h1]
  generalize E.flat (l.take k) = a at *
  generalize E.flat (l.drop (k + 1)) = b at *
  by_cases ha : i < k * E.sz
  · rw [List.getElem?_append_left (by omega), if_neg (by omega), List.getElem?_append_left (by omega)]
  · by_cases hb : i < k * E.sz + E.sz
    · rw [if_pos (by omega), List.getElem?_append_right (by omega), h2, List.getElem?_append_left (by omega)]
    · rw [if_neg (by omega), List.getElem?_append_right (by omega), List.getElem?_append_right (by omega), List.getElem?_append_right (l₁ := a) (by omega), List.getElem?_append_right (by omega), hx, hy]
end

theorem take_step {α : Type} {l r : List α} {k : Nat} {x : α} (h : l.take k = r.take k) (hx : l[k]? = some x) (hy : r[k]? = some x) : l.take (k + 1) = r.take (k + 1) := by
  rw [List.take_add_one, List.take_add_one, h, hx, hy]
theorem ne_at {α : Type} {l r : List α} {k : Nat} {x y : α} (hx : l[k]? = some x) (hy : r[k]? = some y) (hn : x ≠ y) : l ≠ r := by
  rintro rfl
  rw [hx] at hy
  injection hy with hy
  exact hn hy

/-- what an append of elements leaves -/
def ApE {α : Type} (E : El α) (w : World) (base : Nat) (t : TypeId) (A : Option Addr) (n c : Nat) (l : List α) (A' : Option Addr) (c' : Nat) (w' : World) : Prop := Apped w base t E.sz A n c (E.flat l) A' c' w'
section
variable {α : Type} {E : El α}
theorem ApE.oe {w w' : World} {base : Nat} {t : TypeId} {A A' : Option Addr} {n c c' : Nat} {l : List α} (h : ApE E w base t A n c l A' c' w') : OE E w' base t A' n c' l := h.1
theorem ApE.chg {w w' : World} {base : Nat} {t : TypeId} {A A' : Option Addr} {n c c' : Nat} {l : List α} (h : ApE E w base t A n c l A' c' w') : Chg (fun k => ∃ ad, A = some ad ∧ k = ad.block) w w' := h.2.1
theorem ApE.grew {w0 w w' : World} {base : Nat} {t : TypeId} {A A' : Option Addr} {n c c' : Nat} {l : List α} (h : ApE E w base t A n c l A' c' w') (hg : Grew w0 w) (hA : ∀ ad, A = some ad → w0.heap.size ≤ ad.block) : Grew w0 w' :=
  hg.step h.chg fun k hk ⟨ad, e, he⟩ => by have := hA ad e; omega

variable {P : Program}
theorem wpList_appE {ops : Array Oper} {rest : List Oper} {o : Oper} {a : Act} {w : World} {Q : Exit → Act → World → Prop} (hgd : o.guard = none) (s x : Operand) (ts t : TypeId) {z : Value} {bytes : Nat}
    (hinfo : (P.info? t).map (fun i => (i.zero, i.size, i.bytes)) = some (some z, E.sz, bytes)) (hzs : z.cells.size = E.sz) (ht : P.underlying ts = some (.slice t))
    (ho : o.op = .call { callee := .builtin .append, args := #[s, x], argTypes := #[ts, ts] })
    (base : Nat) (A : Option Addr) (n c : Nat) (l : List α) (hs : a.eval s = .slice A n c) (hown : OE E w base t A n c l) (hbase : base ≤ w.heap.size)
    (B : Option Addr) (m d : Nat) (r : List α) (hx : a.eval x = .slice B m d) (hr : RE E w B m r) (h63 : n + m ≤ maxLen) (hbytes : (n + m) * bytes ≤ 140737488355328)
    (h : ∀ A' c' w', ApE E w base t A (n + m) c (l ++ r) A' c' w' → wpList P ops Q rest (a.put o.dst (.slice A' (n + m) c')) w') : wpList P ops Q (o :: rest) a w := by
  obtain ⟨i0, hi, hz0, hz1, hz2⟩ := info_parts hinfo
  refine wpList_app w hgd s x ts t ho i0 z E.sz bytes ht hi hz0 hz1 hz2 hzs base A n c _ hs hown hbase B m d _ hx (by rw [E.flat_length, hr.1]) hr.2 (E.flat_one' r) h63 hbytes ?_
  intro A' c' w' h1
  exact h A' c' w' (by unfold ApE; rw [E.flat_append]; exact h1)
end
end Go.Proofs.YtlcaaacbookopaaGreatDoor

namespace Go.Proofs.YtlcaaacbookopaaGreatDoor
open Go.ChangeShapes Go.WideShapes Go.ChangeAt Go.RowKit

theorem bulk_one {H : Type} (d : DataW H) : 1 ≤ Rows.uptoBulk d := by
  cases d with
  | lit l => cases l <;> simp [Rows.uptoBulk]
  | _ => simp [Rows.uptoBulk]
theorem bulk_len {H : Type} (l : List (DataW H)) : l.length ≤ Rows.uptoBulkAll l := by
  induction l with
  | nil => simp [Rows.uptoBulkAll]
  | cons x r ih => have := bulk_one x; simp only [Rows.uptoBulkAll, List.length_cons]; omega

theorem open_bulk {H : Type} {enc : TypeId × Value → H} {P : Program} {W : World} {base : Nat} {spare : Nat → Bool} {held : Bool} {t e : TypeId} (ht : P.underlying t = some (.slice e)) (he : P.underlying e = some (.int .u8)) (hC : P.cellsOf e = 1)
    {d : DataW H} {A : Option Addr} {n c : Nat} {p : List MemPlace} (h : DataW.Trod enc P W base spare held t (.slice A n c) d p) : n ≤ Rows.uptoBulk d := by
  obtain ⟨fuel, hf⟩ := h
  rcases open_ints ht he hC hf with ⟨hcs, _⟩ | ⟨x, l, c', zs, hcs, _, hl, hm, hz, hx, hcell, hwz⟩
  · simp [Value.cells] at hcs
    obtain ⟨rfl, rfl, rfl⟩ := hcs
    exact Nat.zero_le _
  · simp [Value.cells] at hcs
    obtain ⟨rfl, rfl, rfl⟩ := hcs
    simp only [Prod.mk.injEq] at hx
    obtain ⟨rfl, _⟩ := hx
    have hlen : n ≤ zs.length := by rw [hz]; split <;> omega
    have := bulk_len (H := H) (Go.ChangeShapes.lits .u8 (zs.take n))
    simp only [Go.ChangeShapes.lits, List.length_map, List.length_take] at this
    simp only [Rows.uptoBulk, Go.ChangeShapes.lits]
    omega
end Go.Proofs.YtlcaaacbookopaaGreatDoor
