/-
  Points as bits: the program's reader and the reference's, and that what was written is read back, whatever stands behind it. Conditions: none; no program in sight.
-/
import Derived.Test.YtlilnibinligkaaKv
import Derived.Test.YtlilnibinligkaaMem
namespace Go.Proofs.Ytlilnibinligkaa

abbrev St := Nat × Bool
/-- the program's reader: the class of a difference of differences -/
def pN (bs : List Bool) : Nat → Nat → St → Nat × St
  | 0, n, s => (n, s)
  | f + 1, n, s => if (tk bs 1 s).1 = 1 ∧ (tk bs 1 s).2.2 = false then pN bs f (n + 1) (tk bs 1 s).2 else (n, (tk bs 1 s).2)
def wid (n : Nat) : Nat := if n = 0 then 0 else if n = 1 then 7 else if n = 2 then 9 else if n = 3 then 12 else 64
def pTime (bs : List Bool) (s : St) : Int × St :=
  if (pN bs 4 0 s).1 = 0 then (0, (pN bs 4 0 s).2) else (sx (tk bs (wid (pN bs 4 0 s).1) (pN bs 4 0 s).2).1 (wid (pN bs 4 0 s).1), (tk bs (wid (pN bs 4 0 s).1) (pN bs 4 0 s).2).2)
/-- behind the window: a value's bits -/
def pVal (bs : List Bool) (w : Win) (s : St) : Nat × Win × St :=
  if w.2.2 = true then ((tk bs (64 - w.1 - w.2.1) s).1 * 2 ^ w.2.1, w, (tk bs (64 - w.1 - w.2.1) s).2) else (0, w, (s.1, true))
def pValue (bs : List Bool) (w : Win) (s : St) : Nat × Win × St :=
  if (tk bs 1 s).1 = 0 then (0, w, (tk bs 1 s).2)
  else if (tk bs 1 (tk bs 1 s).2).1 = 1 then
    (if 64 < (tk bs 5 (tk bs 1 (tk bs 1 s).2).2).1 + ((tk bs 6 (tk bs 5 (tk bs 1 (tk bs 1 s).2).2).2).1 + 1) then (0, w, ((tk bs 6 (tk bs 5 (tk bs 1 (tk bs 1 s).2).2).2).2.1, true))
     else pVal bs ((tk bs 5 (tk bs 1 (tk bs 1 s).2).2).1, 64 - (tk bs 5 (tk bs 1 (tk bs 1 s).2).2).1 - ((tk bs 6 (tk bs 5 (tk bs 1 (tk bs 1 s).2).2).2).1 + 1), true) (tk bs 6 (tk bs 5 (tk bs 1 (tk bs 1 s).2).2).2).2)
  else pVal bs w (tk bs 1 (tk bs 1 s).2).2
/-- the points behind the first one: so many at most -/
def pGo (bs : List Bool) : Nat → Int → Pnt → Win → St → List Pnt × Bool
  | 0, _, _, _, s => ([], s.2)
  | f + 1, d, p, w, s =>
    if s.2 = true then ([], true) else
    if f = 0 then ([p], false) else
    let t := pTime bs s
    let v := pValue bs w t.2
    let d' := wr64 (d + t.1)
    let q : Pnt := (wr64 (p.1 + d'), p.2 ^^^ v.1)
    let r := pGo bs f d' q v.2.1 v.2.2
    (p :: r.1, r.2)
def pParse (bs : List Bool) : List Pnt × Bool :=
  let h := tk bs 13 (0, false)
  if h.1 = 0 then ([], h.2.2) else
  let t := tk bs 64 h.2
  let v := tk bs 64 t.2
  pGo bs h.1 0 (sx t.1 64, v.1) (0, 0, false) v.2

/-! ### What was written is read back -/
theorem pTime_at (pre rest : List Bool) (z : Int) (h1 : -9223372036854775808 ≤ z) (h2 : z < 9223372036854775808) : pTime (pre ++ (zB z ++ rest)) (pre.length, false) = (z, ((pre ++ zB z).length, false)) := by
  have one : ∀ (p : List Bool) (r : List Bool), tk (p ++ (true :: r)) 1 (p.length, false) = (1, (p ++ [true]).length, false) := fun p r => tk_at p [true] r false
  have zero : ∀ (p : List Bool) (r : List Bool), tk (p ++ (false :: r)) 1 (p.length, false) = (0, (p ++ [false]).length, false) := fun p r => tk_at p [false] r false
  have body : ∀ (hd : List Bool) (n w : Nat), 0 < w → w ≤ 64 → wid n = w → n ≠ 0 → -(2 ^ (w - 1) : Nat) ≤ z → z < (2 ^ (w - 1) : Nat) → zB z = hd ++ toBits (u64 z) w →
      pN (pre ++ (zB z ++ rest)) 4 0 (pre.length, false) = (n, (pre ++ hd).length, false) → pTime (pre ++ (zB z ++ rest)) (pre.length, false) = (z, ((pre ++ zB z).length, false)) := by
    intro hd n w hw hw2 hn hn0 hz1 hz2 hzB hN
    unfold pTime
    rw [hN]
    simp only
    rw [if_neg hn0, hn]
    have e : pre ++ (zB z ++ rest) = (pre ++ hd) ++ (toBits (u64 z) w ++ rest) := by rw [hzB]; simp only [List.append_assoc]
    have ht := tk_at (pre ++ hd) (toBits (u64 z) w) rest false
    rw [length_toBits, val_toBits] at ht
    rw [e, ht]
    simp only
    rw [sx_u64 hw hw2 hz1 hz2, hzB, ← List.append_assoc]
  by_cases c0 : z = 0
  · subst c0
    have hz : zB 0 = [false] := rfl
    unfold pTime
    have hN : pN (pre ++ (zB 0 ++ rest)) 4 0 (pre.length, false) = (0, (pre ++ [false]).length, false) := by
      rw [hz]
      unfold pN
      have := zero pre rest
      simp only [List.singleton_append]
      rw [this, if_neg (by simp)]
    rw [hN]
    simp [hz]
  · by_cases c1 : -64 ≤ z ∧ z ≤ 63
    · have hc : cls z = (2, 2, 7) := by unfold cls; rw [if_neg c0, if_pos c1]
      have hz : zB z = [true, false] ++ toBits (u64 z) 7 := by unfold zB; rw [hc]; rfl
      refine body [true, false] 1 7 (by decide) (by decide) rfl (by decide) (by simp; omega) (by simp; omega) hz ?_
      rw [hz]
      have e1 := one pre ([false] ++ toBits (u64 z) 7 ++ rest)
      have e2 := zero (pre ++ [true]) (toBits (u64 z) 7 ++ rest)
      simp only [List.append_assoc, List.cons_append, List.nil_append] at e1 e2 ⊢
      simp only [pN, e1, e2]
      simp
    · by_cases c2 : -256 ≤ z ∧ z ≤ 255
      · have hc : cls z = (6, 3, 9) := by unfold cls; rw [if_neg c0, if_neg c1, if_pos c2]
        have hz : zB z = [true, true, false] ++ toBits (u64 z) 9 := by unfold zB; rw [hc]; rfl
        refine body [true, true, false] 2 9 (by decide) (by decide) rfl (by decide) (by simp; omega) (by simp; omega) hz ?_
        rw [hz]
        have e1 := one pre ([true, false] ++ toBits (u64 z) 9 ++ rest)
        have e2 := one (pre ++ [true]) ([false] ++ toBits (u64 z) 9 ++ rest)
        have e3 := zero (pre ++ [true, true]) (toBits (u64 z) 9 ++ rest)
        simp only [List.append_assoc, List.cons_append, List.nil_append] at e1 e2 e3 ⊢
        simp only [pN, e1, e2, e3]
        simp
      · by_cases c3 : -2048 ≤ z ∧ z ≤ 2047
        · have hc : cls z = (14, 4, 12) := by unfold cls; rw [if_neg c0, if_neg c1, if_neg c2, if_pos c3]
          have hz : zB z = [true, true, true, false] ++ toBits (u64 z) 12 := by unfold zB; rw [hc]; rfl
          refine body [true, true, true, false] 3 12 (by decide) (by decide) rfl (by decide) (by simp; omega) (by simp; omega) hz ?_
          rw [hz]
          have e1 := one pre ([true, true, false] ++ toBits (u64 z) 12 ++ rest)
          have e2 := one (pre ++ [true]) ([true, false] ++ toBits (u64 z) 12 ++ rest)
          have e3 := one (pre ++ [true, true]) ([false] ++ toBits (u64 z) 12 ++ rest)
          have e4 := zero (pre ++ [true, true, true]) (toBits (u64 z) 12 ++ rest)
          simp only [List.append_assoc, List.cons_append, List.nil_append] at e1 e2 e3 e4 ⊢
          simp only [pN, e1, e2, e3, e4]
          simp
        · have hc : cls z = (15, 4, 64) := by unfold cls; rw [if_neg c0, if_neg c1, if_neg c2, if_neg c3]
          have hz : zB z = [true, true, true, true] ++ toBits (u64 z) 64 := by unfold zB; rw [hc]; rfl
          refine body [true, true, true, true] 4 64 (by decide) (by decide) rfl (by decide) (by simp; omega) (by simp; omega) hz ?_
          rw [hz]
          have e1 := one pre ([true, true, true] ++ toBits (u64 z) 64 ++ rest)
          have e2 := one (pre ++ [true]) ([true, true] ++ toBits (u64 z) 64 ++ rest)
          have e3 := one (pre ++ [true, true]) ([true] ++ toBits (u64 z) 64 ++ rest)
          have e4 := one (pre ++ [true, true, true]) (toBits (u64 z) 64 ++ rest)
          simp only [List.append_assoc, List.cons_append, List.nil_append] at e1 e2 e3 e4 ⊢
          simp only [pN, e1, e2, e3, e4]
          simp

theorem pVal_at (pre rest : List Bool) (w : Win) (x : Nat) (h : w.2.2 = true) (hb : w.2.1 ≤ tz x) (ha : w.1 ≤ lz x) (hx : x < 2 ^ 64) :
    pVal (pre ++ (toBits (x / 2 ^ w.2.1) (64 - w.1 - w.2.1) ++ rest)) w (pre.length, false) = (x, w, ((pre ++ toBits (x / 2 ^ w.2.1) (64 - w.1 - w.2.1)).length, false)) := by
  unfold pVal
  rw [if_pos h]
  have hlt : x / 2 ^ w.2.1 < 2 ^ (64 - w.1 - w.2.1) := by
    rw [Nat.div_lt_iff_lt_mul (Nat.two_pow_pos _), ← Nat.pow_add]
    refine Nat.lt_of_lt_of_le (lt_of_lz hx ha) (Nat.pow_le_pow_right (by omega) (by omega))
  rw [tk_bits _ _ _ _ _ hlt]
  simp only
  rw [div_of_tz hb]

theorem pValue_at (pre rest : List Bool) (w : Win) (x : Nat) (hx : x < 2 ^ 64) : pValue (pre ++ ((valB w x).1 ++ rest)) w (pre.length, false) = (x, (valB w x).2, ((pre ++ (valB w x).1).length, false)) := by
  unfold valB
  by_cases h0 : x = 0
  · subst h0
    rw [if_pos rfl]
    unfold pValue
    have := tk_at pre [false] rest false
    rw [show [false].length = 1 from rfl] at this
    rw [this]
    rfl
  · rw [if_neg h0]
    by_cases h1 : w.2.2 = true ∧ w.1 ≤ lz x ∧ w.2.1 ≤ tz x
    · rw [if_pos h1]
      unfold pValue
      have e1 := tk_bits pre (toBits 0 1 ++ (toBits (x / 2 ^ w.2.1) (64 - w.1 - w.2.1) ++ rest)) 1 1 false (by decide)
      have e2 := tk_bits (pre ++ toBits 1 1) (toBits (x / 2 ^ w.2.1) (64 - w.1 - w.2.1) ++ rest) 0 1 false (by decide)
      have e3 := pVal_at (pre ++ toBits 1 1 ++ toBits 0 1) rest w x h1.1 h1.2.2 h1.2.1 hx
      simp only [List.append_assoc] at e1 e2 e3 ⊢
      rw [e1]
      simp only
      rw [e2]
      simp only
      rw [if_neg (by decide), if_neg (by decide), e3]
    · rw [if_neg h1]
      have hlt := lz_tz h0 hx
      have hl := lz_le x
      unfold pValue
      have e1 := tk_bits pre (toBits 1 1 ++ (toBits (lz x) 5 ++ (toBits (63 - lz x - tz x) 6 ++ (toBits (x / 2 ^ tz x) (64 - lz x - tz x) ++ rest)))) 1 1 false (by decide)
      have e2 := tk_bits (pre ++ toBits 1 1) (toBits (lz x) 5 ++ (toBits (63 - lz x - tz x) 6 ++ (toBits (x / 2 ^ tz x) (64 - lz x - tz x) ++ rest))) 1 1 false (by decide)
      have e3 := tk_bits (pre ++ toBits 1 1 ++ toBits 1 1) (toBits (63 - lz x - tz x) 6 ++ (toBits (x / 2 ^ tz x) (64 - lz x - tz x) ++ rest)) (lz x) 5 false (by omega)
      have e4 := tk_bits (pre ++ toBits 1 1 ++ toBits 1 1 ++ toBits (lz x) 5) (toBits (x / 2 ^ tz x) (64 - lz x - tz x) ++ rest) (63 - lz x - tz x) 6 false (by omega)
      have e5 := pVal_at (pre ++ toBits 1 1 ++ toBits 1 1 ++ toBits (lz x) 5 ++ toBits (63 - lz x - tz x) 6) rest (lz x, tz x, true) x rfl (Nat.le_refl _) (Nat.le_refl _) hx
      simp only [List.append_assoc] at e1 e2 e3 e4 e5 ⊢
      rw [e1]
      simp only
      rw [e2]
      simp only
      rw [if_neg (by decide), if_pos trivial, e3]
      simp only
      rw [e4]
      simp only
      rw [if_neg (by omega), show 64 - lz x - (63 - lz x - tz x + 1) = tz x by omega, e5]

theorem wr64_in {x : Int} (h1 : -9223372036854775808 ≤ x) (h2 : x < 9223372036854775808) : wr64 x = x := by
  exact IntWalk.i64_in _ ⟨by omega, by omega⟩
theorem xor_back (a b : Nat) : a ^^^ (b ^^^ a) = b := by
  rw [Nat.xor_comm b a, ← Nat.xor_assoc, Nat.xor_self, Nat.zero_xor]
theorem xor_lt {a b : Nat} (ha : a < 18446744073709551616) (hb : b < 18446744073709551616) : a ^^^ b < 2 ^ 64 := Nat.xor_lt_two_pow (n := 64) ha hb
theorem Okp.tail {p q : Pnt} {r : List Pnt} (h : Okp (p :: q :: r)) : Okp (q :: r) := fun i x hx => h (i + 1) x hx
theorem Okp.first {p q : Pnt} {r : List Pnt} (h : Okp (p :: q :: r)) : (-1099511627776 ≤ p.1 ∧ p.1 ≤ 1099511627776) ∧ (-1099511627776 ≤ q.1 ∧ q.1 ≤ 1099511627776) ∧ p.1 < q.1 :=
  ⟨(h 0 p rfl).1, (h 1 q rfl).1, (h 0 p rfl).2 q rfl⟩

theorem pGo_at : ∀ (r : List Pnt) (pre rest : List Bool) (p : Pnt) (d : Int) (w : Win), Okp (p :: r) → Okv (p :: r) → -4398046511104 ≤ d → d ≤ 4398046511104 →
    pGo (pre ++ (encGo p d w r ++ rest)) (r.length + 1) d p w (pre.length, false) = (p :: r, false)
  | [], pre, rest, p, d, w, _, _, _, _ => by simp [pGo]
  | q :: r, pre, rest, p, d, w, ho, hv, hd1, hd2 => by
    obtain ⟨b1, b2, b3⟩ := ho.first
    have hp := hv p (by simp)
    have hq := hv q (by simp)
    have ih := pGo_at r (pre ++ zB (q.1 - p.1 - d) ++ (valB w (q.2 ^^^ p.2)).1) rest q (q.1 - p.1) (valB w (q.2 ^^^ p.2)).2 ho.tail (fun x hx => hv x (List.mem_cons_of_mem _ hx)) (by omega) (by omega)
    have e1 := pTime_at pre ((valB w (q.2 ^^^ p.2)).1 ++ (encGo q (q.1 - p.1) (valB w (q.2 ^^^ p.2)).2 r ++ rest)) (q.1 - p.1 - d) (by omega) (by omega)
    have e2 := pValue_at (pre ++ zB (q.1 - p.1 - d)) (encGo q (q.1 - p.1) (valB w (q.2 ^^^ p.2)).2 r ++ rest) w (q.2 ^^^ p.2) (xor_lt hq hp)
    have e3 : wr64 (d + (q.1 - p.1 - d)) = q.1 - p.1 := by rw [wr64_in (by omega) (by omega)]; omega
    have e4 : wr64 (p.1 + (q.1 - p.1)) = q.1 := by rw [wr64_in (by omega) (by omega)]; omega
    simp only [encGo, List.append_assoc] at e1 e2 ih ⊢
    unfold pGo
    simp only [Bool.false_eq_true, if_false, List.length_cons, Nat.succ_ne_zero, e1, e2, e3, e4, xor_back, ih]
theorem pParse_at (ps : List Pnt) (rest : List Bool) (ho : Okp ps) (hv : Okv ps) (hn : ps.length ≤ 8191) : pParse (encB ps ++ rest) = (ps, false) := by
  cases ps with
  | nil =>
    have e0 := tk_bits [] rest 0 13 false (by decide)
    simp only [List.nil_append, List.length_nil] at e0
    simp only [encB, pParse, List.length_nil, List.append_nil, e0]
    rfl
  | cons p r =>
    have b := (ho 0 p rfl).1
    have hp := hv p (by simp)
    have e0 := tk_bits [] ((headB p ++ encGo p 0 (0, 0, false) r) ++ rest) (r.length + 1) 13 false (by simp at hn; omega)
    simp only [List.nil_append, List.length_nil] at e0
    simp only [encB, pParse, List.length_cons, List.append_assoc] at e0 ⊢
    rw [e0]
    simp only [Nat.succ_ne_zero, if_false]
    have e1 := tk_at (toBits (r.length + 1) 13) (toBits (u64 p.1) 64) (toBits p.2 64 ++ (encGo p 0 (0, 0, false) r ++ rest)) false
    have e2 := tk_bits (toBits (r.length + 1) 13 ++ toBits (u64 p.1) 64) (encGo p 0 (0, 0, false) r ++ rest) p.2 64 false (by omega)
    have e3 := pGo_at r (toBits (r.length + 1) 13 ++ toBits (u64 p.1) 64 ++ toBits p.2 64) rest p 0 (0, 0, false) ho hv (by omega) (by omega)
    have e4 : sx (val (toBits (u64 p.1) 64)) 64 = p.1 := by
      rw [val_toBits]
      exact sx_u64 (by decide) (by decide) (by simp; omega) (by simp; omega)
    rw [length_toBits] at e1
    simp only [headB, List.append_assoc] at e1 e2 e3 ⊢
    rw [e1]
    simp only [List.length_append] at e2 e3 ⊢
    rw [e2, e4, e3]
/-- what is read back is the same -/
theorem encB_inj {ps qs : List Pnt} {x y : List Bool} (ho : Okp ps) (hv : Okv ps) (hn : ps.length ≤ 8191) (ho' : Okp qs) (hv' : Okv qs) (hn' : qs.length ≤ 8191) (h : encB ps ++ x = encB qs ++ y) : ps = qs := by
  have h1 := pParse_at ps x ho hv hn
  rw [h, pParse_at qs y ho' hv' hn'] at h1
  exact (congrArg Prod.fst h1).symm
end Go.Proofs.Ytlilnibinligkaa
