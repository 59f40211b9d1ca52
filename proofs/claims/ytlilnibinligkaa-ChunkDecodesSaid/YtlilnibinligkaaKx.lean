/-
  Points as bits: the reference's reader, and that it reads back what was written. Conditions: none; no program in sight.
-/
import Derived.Test.YtlilnibinligkaaKw
namespace Go.Proofs.Ytlilnibinligkaa

def rSig (bs : List Bool) (w : Nat) (s : St) : Int × St := (sx (tk bs w s).1 w, (tk bs w s).2)
def rZ (bs : List Bool) : List Nat → St → Int × St
  | [], s => rSig bs 64 s
  | w :: ws, s => if (tk bs 1 s).1 = 0 then rSig bs w (tk bs 1 s).2 else rZ bs ws (tk bs 1 s).2
def rZero (bs : List Bool) (s : St) : Int × St := if (tk bs 1 s).1 = 0 then (0, (tk bs 1 s).2) else rZ bs [7, 9, 12] (tk bs 1 s).2
/-- behind the window -/
def rVal (bs : List Bool) (a w : Nat) (s : St) : Nat × Nat × Nat × St := if 64 < a + w then (0, a, w, (s.1, true)) else ((tk bs w s).1 * 2 ^ (64 - a - w), a, w, (tk bs w s).2)
def rValue (bs : List Bool) (a w : Nat) (s : St) : Nat × Nat × Nat × St :=
  if (tk bs 1 s).1 = 1 then
    if (tk bs 1 (tk bs 1 s).2).1 = 1 then
      rVal bs (tk bs 5 (tk bs 1 (tk bs 1 s).2).2).1 ((tk bs 6 (tk bs 5 (tk bs 1 (tk bs 1 s).2).2).2).1 + 1) (tk bs 6 (tk bs 5 (tk bs 1 (tk bs 1 s).2).2).2).2
    else rVal bs a w (tk bs 1 (tk bs 1 s).2).2
  else (0, a, w, (tk bs 1 s).2)
/-- the points behind p: so many at most -/
def rGo (bs : List Bool) : Nat → Int → Pnt → Nat → Nat → St → List Pnt × Bool
  | 0, _, _, _, _, s => ([], s.2)
  | f + 1, d, p, a, w, s =>
    if s.2 = true then ([], true) else
    let t := rZero bs s
    let v := rValue bs a w t.2
    let d' := wr64 (d + t.1)
    let q : Pnt := (wr64 (p.1 + d'), p.2 ^^^ v.1)
    let r := rGo bs f d' q v.2.1 v.2.2.1 v.2.2.2
    (q :: r.1, r.2)
def rParse (bs : List Bool) : List Pnt × Bool :=
  let h := tk bs 13 (0, false)
  if h.1 = 0 ∨ h.2.2 = true then ([], h.2.2) else
  let t := tk bs 64 h.2
  let v := tk bs 64 t.2
  let r := rGo bs (h.1 - 1) 0 (sx t.1 64, v.1) 0 0 v.2
  ((sx t.1 64, v.1) :: r.1, r.2)

theorem rZero_at (pre rest : List Bool) (z : Int) (h1 : -9223372036854775808 ≤ z) (h2 : z < 9223372036854775808) : rZero (pre ++ (zB z ++ rest)) (pre.length, false) = (z, ((pre ++ zB z).length, false)) := by
  have one : ∀ (p : List Bool) (r : List Bool), tk (p ++ (true :: r)) 1 (p.length, false) = (1, (p ++ [true]).length, false) := fun p r => tk_at p [true] r false
  have zero : ∀ (p : List Bool) (r : List Bool), tk (p ++ (false :: r)) 1 (p.length, false) = (0, (p ++ [false]).length, false) := fun p r => tk_at p [false] r false
  have body : ∀ (hd : List Bool) (w : Nat), 0 < w → w ≤ 64 → -(2 ^ (w - 1) : Nat) ≤ z → z < (2 ^ (w - 1) : Nat) → zB z = hd ++ toBits (u64 z) w →
      rSig (pre ++ (zB z ++ rest)) w ((pre ++ hd).length, false) = (z, ((pre ++ zB z).length, false)) := by
    intro hd w hw hw2 hz1 hz2 hzB
    unfold rSig
    have e : pre ++ (zB z ++ rest) = (pre ++ hd) ++ (toBits (u64 z) w ++ rest) := by rw [hzB]; simp only [List.append_assoc]
    have ht := tk_at (pre ++ hd) (toBits (u64 z) w) rest false
    rw [length_toBits, val_toBits] at ht
    rw [e, ht]
    simp only
    rw [sx_u64 hw hw2 hz1 hz2, hzB, ← List.append_assoc]
  by_cases c0 : z = 0
  · subst c0
    have hz : zB 0 = [false] := rfl
    unfold rZero
    have := zero pre rest
    rw [hz]
    simp only [List.singleton_append]
    rw [this]
    rfl
  · by_cases c1 : -64 ≤ z ∧ z ≤ 63
    · have hc : cls z = (2, 2, 7) := by unfold cls; rw [if_neg c0, if_pos c1]
      have hz : zB z = [true, false] ++ toBits (u64 z) 7 := by unfold zB; rw [hc]; rfl
      have hb := body [true, false] 7 (by decide) (by decide) (by simp; omega) (by simp; omega) hz
      rw [hz] at hb ⊢
      have e1 := one pre ([false] ++ toBits (u64 z) 7 ++ rest)
      have e2 := zero (pre ++ [true]) (toBits (u64 z) 7 ++ rest)
      simp only [List.append_assoc, List.cons_append, List.nil_append] at e1 e2 hb ⊢
      simp only [rZero, rZ, e1, e2]
      simp only [Nat.one_ne_zero, if_false, if_true]
      exact hb
    · by_cases c2 : -256 ≤ z ∧ z ≤ 255
      · have hc : cls z = (6, 3, 9) := by unfold cls; rw [if_neg c0, if_neg c1, if_pos c2]
        have hz : zB z = [true, true, false] ++ toBits (u64 z) 9 := by unfold zB; rw [hc]; rfl
        have hb := body [true, true, false] 9 (by decide) (by decide) (by simp; omega) (by simp; omega) hz
        rw [hz] at hb ⊢
        have e1 := one pre ([true, false] ++ toBits (u64 z) 9 ++ rest)
        have e2 := one (pre ++ [true]) ([false] ++ toBits (u64 z) 9 ++ rest)
        have e3 := zero (pre ++ [true, true]) (toBits (u64 z) 9 ++ rest)
        simp only [List.append_assoc, List.cons_append, List.nil_append] at e1 e2 e3 hb ⊢
        simp only [rZero, rZ, e1, e2, e3]
        simp only [Nat.one_ne_zero, if_false, if_true]
        exact hb
      · by_cases c3 : -2048 ≤ z ∧ z ≤ 2047
        · have hc : cls z = (14, 4, 12) := by unfold cls; rw [if_neg c0, if_neg c1, if_neg c2, if_pos c3]
          have hz : zB z = [true, true, true, false] ++ toBits (u64 z) 12 := by unfold zB; rw [hc]; rfl
          have hb := body [true, true, true, false] 12 (by decide) (by decide) (by simp; omega) (by simp; omega) hz
          rw [hz] at hb ⊢
          have e1 := one pre ([true, true, false] ++ toBits (u64 z) 12 ++ rest)
          have e2 := one (pre ++ [true]) ([true, false] ++ toBits (u64 z) 12 ++ rest)
          have e3 := one (pre ++ [true, true]) ([false] ++ toBits (u64 z) 12 ++ rest)
          have e4 := zero (pre ++ [true, true, true]) (toBits (u64 z) 12 ++ rest)
          simp only [List.append_assoc, List.cons_append, List.nil_append] at e1 e2 e3 e4 hb ⊢
          simp only [rZero, rZ, e1, e2, e3, e4]
          simp only [Nat.one_ne_zero, if_false, if_true]
          exact hb
        · have hc : cls z = (15, 4, 64) := by unfold cls; rw [if_neg c0, if_neg c1, if_neg c2, if_neg c3]
          have hz : zB z = [true, true, true, true] ++ toBits (u64 z) 64 := by unfold zB; rw [hc]; rfl
          have hb := body [true, true, true, true] 64 (by decide) (by decide) (by simp; omega) (by simp; omega) hz
          rw [hz] at hb ⊢
          have e1 := one pre ([true, true, true] ++ toBits (u64 z) 64 ++ rest)
          have e2 := one (pre ++ [true]) ([true, true] ++ toBits (u64 z) 64 ++ rest)
          have e3 := one (pre ++ [true, true]) ([true] ++ toBits (u64 z) 64 ++ rest)
          have e4 := one (pre ++ [true, true, true]) (toBits (u64 z) 64 ++ rest)
          simp only [List.append_assoc, List.cons_append, List.nil_append] at e1 e2 e3 e4 hb ⊢
          simp only [rZero, rZ, e1, e2, e3, e4]
          simp only [Nat.one_ne_zero, if_false]
          exact hb

/-- the two windows say the same -/
def SameWin (w : Win) (a k : Nat) : Prop := w.2.2 = true → a = w.1 ∧ a + w.2.1 + k = 64

theorem rVal_at (pre rest : List Bool) (a b : Nat) (x : Nat) (hb : b ≤ tz x) (ha : a ≤ lz x) (hab : a + b ≤ 63) (hx : x < 2 ^ 64) :
    rVal (pre ++ (toBits (x / 2 ^ b) (64 - a - b) ++ rest)) a (64 - a - b) (pre.length, false) = (x, a, 64 - a - b, ((pre ++ toBits (x / 2 ^ b) (64 - a - b)).length, false)) := by
  unfold rVal
  rw [if_neg (by omega)]
  have hlt : x / 2 ^ b < 2 ^ (64 - a - b) := by
    rw [Nat.div_lt_iff_lt_mul (Nat.two_pow_pos _), ← Nat.pow_add]
    refine Nat.lt_of_lt_of_le (lt_of_lz hx ha) (Nat.pow_le_pow_right (by omega) (by omega))
  rw [tk_bits _ _ _ _ _ hlt]
  simp only
  rw [show 64 - a - (64 - a - b) = b by omega, div_of_tz hb]

theorem rValue_at (pre rest : List Bool) (w : Win) (x a k : Nat) (hx : x < 2 ^ 64) (hw : WinOk w) (hs : SameWin w a k) :
    ∃ a' k', rValue (pre ++ ((valB w x).1 ++ rest)) a k (pre.length, false) = (x, a', k', ((pre ++ (valB w x).1).length, false)) ∧ SameWin (valB w x).2 a' k' := by
  unfold valB
  by_cases h0 : x = 0
  · subst h0
    rw [if_pos rfl]
    refine ⟨a, k, ?_, hs⟩
    unfold rValue
    have := tk_at pre [false] rest false
    rw [show [false].length = 1 from rfl] at this
    rw [this]
    rfl
  · rw [if_neg h0]
    by_cases h1 : w.2.2 = true ∧ w.1 ≤ lz x ∧ w.2.1 ≤ tz x
    · rw [if_pos h1]
      obtain ⟨s1, s2⟩ := hs h1.1
      have hwo := hw h1.1
      obtain rfl : k = 64 - w.1 - w.2.1 := by omega
      subst s1
      refine ⟨w.1, 64 - w.1 - w.2.1, ?_, fun _ => ⟨rfl, by omega⟩⟩
      unfold rValue
      have e1 := tk_bits pre (toBits 0 1 ++ (toBits (x / 2 ^ w.2.1) (64 - w.1 - w.2.1) ++ rest)) 1 1 false (by decide)
      have e2 := tk_bits (pre ++ toBits 1 1) (toBits (x / 2 ^ w.2.1) (64 - w.1 - w.2.1) ++ rest) 0 1 false (by decide)
      have e3 := rVal_at (pre ++ toBits 1 1 ++ toBits 0 1) rest w.1 w.2.1 x h1.2.2 h1.2.1 hwo.2 hx
      simp only [List.append_assoc] at e1 e2 e3 ⊢
      rw [e1]
      simp only
      rw [e2]
      simp only
      rw [if_pos trivial, if_neg (by decide), e3]
    · rw [if_neg h1]
      have hlt := lz_tz h0 hx
      have hl := lz_le x
      refine ⟨lz x, 64 - lz x - tz x, ?_, fun _ => ⟨rfl, by simp only; omega⟩⟩
      unfold rValue
      have e1 := tk_bits pre (toBits 1 1 ++ (toBits (lz x) 5 ++ (toBits (63 - lz x - tz x) 6 ++ (toBits (x / 2 ^ tz x) (64 - lz x - tz x) ++ rest)))) 1 1 false (by decide)
      have e2 := tk_bits (pre ++ toBits 1 1) (toBits (lz x) 5 ++ (toBits (63 - lz x - tz x) 6 ++ (toBits (x / 2 ^ tz x) (64 - lz x - tz x) ++ rest))) 1 1 false (by decide)
      have e3 := tk_bits (pre ++ toBits 1 1 ++ toBits 1 1) (toBits (63 - lz x - tz x) 6 ++ (toBits (x / 2 ^ tz x) (64 - lz x - tz x) ++ rest)) (lz x) 5 false (by omega)
      have e4 := tk_bits (pre ++ toBits 1 1 ++ toBits 1 1 ++ toBits (lz x) 5) (toBits (x / 2 ^ tz x) (64 - lz x - tz x) ++ rest) (63 - lz x - tz x) 6 false (by omega)
      have e5 := rVal_at (pre ++ toBits 1 1 ++ toBits 1 1 ++ toBits (lz x) 5 ++ toBits (63 - lz x - tz x) 6) rest (lz x) (tz x) x (Nat.le_refl _) (Nat.le_refl _) hlt hx
      simp only [List.append_assoc] at e1 e2 e3 e4 e5 ⊢
      rw [e1]
      simp only
      rw [e2]
      simp only
      rw [if_pos trivial, if_pos trivial, e3]
      simp only
      rw [e4]
      simp only
      rw [show 63 - lz x - tz x + 1 = 64 - lz x - tz x by omega, e5]

theorem rGo_at : ∀ (r : List Pnt) (pre rest : List Bool) (p : Pnt) (d : Int) (w : Win) (a k : Nat), Okp (p :: r) → Okv (p :: r) → -4398046511104 ≤ d → d ≤ 4398046511104 → WinOk w → SameWin w a k →
    rGo (pre ++ (encGo p d w r ++ rest)) r.length d p a k (pre.length, false) = (r, false)
  | [], pre, rest, p, d, w, a, k, _, _, _, _, _, _ => by simp [rGo]
  | q :: r, pre, rest, p, d, w, a, k, ho, hv, hd1, hd2, hw, hs => by
    obtain ⟨b1, b2, b3⟩ := ho.first
    have hp := hv p (by simp)
    have hq := hv q (by simp)
    have e1 := rZero_at pre ((valB w (q.2 ^^^ p.2)).1 ++ (encGo q (q.1 - p.1) (valB w (q.2 ^^^ p.2)).2 r ++ rest)) (q.1 - p.1 - d) (by omega) (by omega)
    obtain ⟨a', k', e2, hs'⟩ := rValue_at (pre ++ zB (q.1 - p.1 - d)) (encGo q (q.1 - p.1) (valB w (q.2 ^^^ p.2)).2 r ++ rest) w (q.2 ^^^ p.2) a k (xor_lt hq hp) hw hs
    have ih := rGo_at r (pre ++ zB (q.1 - p.1 - d) ++ (valB w (q.2 ^^^ p.2)).1) rest q (q.1 - p.1) (valB w (q.2 ^^^ p.2)).2 a' k' ho.tail (fun x hx => hv x (List.mem_cons_of_mem _ hx)) (by omega) (by omega) (valB_ok hw (xor_lt hq hp)) hs'
    have e3 : wr64 (d + (q.1 - p.1 - d)) = q.1 - p.1 := by rw [wr64_in (by omega) (by omega)]; omega
    have e4 : wr64 (p.1 + (q.1 - p.1)) = q.1 := by rw [wr64_in (by omega) (by omega)]; omega
    simp only [encGo, List.append_assoc, List.length_cons] at e1 e2 ih ⊢
    unfold rGo
    simp only [Bool.false_eq_true, if_false, e1, e2, e3, e4, xor_back, ih]
theorem rParse_at (ps : List Pnt) (rest : List Bool) (ho : Okp ps) (hv : Okv ps) (hn : ps.length ≤ 8191) : rParse (encB ps ++ rest) = (ps, false) := by
  cases ps with
  | nil =>
    have e0 := tk_bits [] rest 0 13 false (by decide)
    simp only [List.nil_append, List.length_nil] at e0
    simp only [encB, rParse, List.length_nil, List.append_nil, e0]
    rfl
  | cons p r =>
    have b := (ho 0 p rfl).1
    have hp := hv p (by simp)
    have e0 := tk_bits [] ((headB p ++ encGo p 0 (0, 0, false) r) ++ rest) (r.length + 1) 13 false (by simp at hn; omega)
    simp only [List.nil_append, List.length_nil] at e0
    simp only [encB, rParse, List.length_cons, List.append_assoc] at e0 ⊢
    rw [e0]
    simp only [Nat.succ_ne_zero, Bool.false_eq_true, or_self, if_false]
    have e1 := tk_at (toBits (r.length + 1) 13) (toBits (u64 p.1) 64) (toBits p.2 64 ++ (encGo p 0 (0, 0, false) r ++ rest)) false
    have e2 := tk_bits (toBits (r.length + 1) 13 ++ toBits (u64 p.1) 64) (encGo p 0 (0, 0, false) r ++ rest) p.2 64 false (by omega)
    have e3 := rGo_at r (toBits (r.length + 1) 13 ++ toBits (u64 p.1) 64 ++ toBits p.2 64) rest p 0 (0, 0, false) 0 0 ho hv (by omega) (by omega) (fun h => by cases h) (fun h => by cases h)
    have e4 : sx (val (toBits (u64 p.1) 64)) 64 = p.1 := by
      rw [val_toBits]
      exact sx_u64 (by decide) (by decide) (by simp; omega) (by simp; omega)
    rw [length_toBits] at e1
    simp only [headB, List.append_assoc] at e1 e2 e3 ⊢
    rw [e1]
    simp only [List.length_append] at e2 e3 ⊢
    rw [e2, e4, Nat.add_sub_cancel, e3]
end Go.Proofs.Ytlilnibinligkaa
