/-
  The reference of chunk: what its Decode has read behind each point. Conditions: none; no program in sight.
-/
import Derived.Test.YtlilnibinligkaaKx
namespace Go.Proofs.Ytlilnibinligkaa

/-- behind k points of N: l are they, d the last distance, a and w the window, s the place -/
def RSt (bs : List Bool) (N k : Nat) (l : List Pnt) (d : Int) (a w : Nat) (s : St) : Prop :=
  (k = 0 ∧ l = [] ∧ d = 0 ∧ a = 0 ∧ w = 0 ∧ s = (tk bs 13 (0, false)).2) ∨ ∃ p, 0 < k ∧ l[k - 1]? = some p ∧ rParse bs = (l ++ (rGo bs (N - k) d p a w s).1, (rGo bs (N - k) d p a w s).2)

theorem RSt.exit {bs : List Bool} {N k : Nat} {l : List Pnt} {d : Int} {a w : Nat} {s : St} (h : RSt bs N k l d a w s) (hN : N = (tk bs 13 (0, false)).1) (hx : N ≤ k ∨ s.2 = true) : rParse bs = (l, s.2) := by
  rcases h with ⟨h0, h1, _, _, _, h2⟩ | ⟨p, h0, _, h2⟩
  · subst h0; subst h1; subst h2
    unfold rParse
    simp only
    rw [if_pos (by rcases hx with hx | hx; · left; omega
                   · right; exact hx)]
  · rw [h2]
    have : rGo bs (N - k) d p a w s = ([], s.2) := by
      rcases Nat.eq_zero_or_pos (N - k) with e | e
      · rw [e]; rfl
      · obtain ⟨f, hf⟩ : ∃ f, N - k = f + 1 := ⟨N - k - 1, by omega⟩
        rw [hf]
        unfold rGo
        rcases hx with hx | hx
        · omega
        · rw [if_pos hx, hx]
    rw [this]
    simp
theorem RSt.first {bs : List Bool} {N : Nat} {l : List Pnt} {d : Int} {a w : Nat} {s : St} (h : RSt bs N 0 l d a w s) (hN : N = (tk bs 13 (0, false)).1) (h0 : 0 < N) (hb : s.2 = false) :
    l = [] ∧ d = 0 ∧ a = 0 ∧ w = 0 ∧ RSt bs N 1 [(sx (tk bs 64 s).1 64, (tk bs 64 (tk bs 64 s).2).1)] 0 0 0 (tk bs 64 (tk bs 64 s).2).2 := by
  rcases h with ⟨_, h1, h2, h3, h4, h5⟩ | ⟨p, h, _⟩
  · refine ⟨h1, h2, h3, h4, .inr ⟨_, by omega, rfl, ?_⟩⟩
    unfold rParse
    simp only
    rw [← h5, if_neg (by rw [hb]; simp; omega), ← hN]
    rfl
  · omega
theorem RSt.next {bs : List Bool} {N k : Nat} {l : List Pnt} {d : Int} {a w : Nat} {s : St} (h : RSt bs N k l d a w s) (h0 : 0 < k) (hlt : k < N) (hb : s.2 = false) (hl : l.length = k) {p : Pnt} (hp : l[k - 1]? = some p) :
    RSt bs N (k + 1) (l ++ [(wr64 (p.1 + wr64 (d + (rZero bs s).1)), p.2 ^^^ (rValue bs a w (rZero bs s).2).1)]) (wr64 (d + (rZero bs s).1)) (rValue bs a w (rZero bs s).2).2.1 (rValue bs a w (rZero bs s).2).2.2.1 (rValue bs a w (rZero bs s).2).2.2.2 := by
  rcases h with ⟨h, _⟩ | ⟨p', _, hp', h2⟩
  · omega
  · rw [hp] at hp'
    injection hp' with hp'
    subst hp'
    refine .inr ⟨_, by omega, by rw [Nat.add_sub_cancel, List.getElem?_append_right (by omega), hl, Nat.sub_self]; rfl, ?_⟩
    rw [h2]
    obtain ⟨f, hf⟩ : ∃ f, N - k = f + 1 := ⟨N - k - 1, by omega⟩
    rw [hf, show N - (k + 1) = f by omega, rGo, if_neg (by rw [hb]; simp)]
    simp

theorem RSt.start (bs : List Bool) (N : Nat) : RSt bs N 0 [] 0 0 0 (tk bs 13 (0, false)).2 := .inl ⟨rfl, rfl, rfl, rfl, rfl, rfl⟩

/-- the four ways of a value -/
theorem rValue_no {bs : List Bool} {a w v : Nat} {s s1 : St} (h1 : tk bs 1 s = (v, s1)) (hv : v ≠ 1) : rValue bs a w s = (0, a, w, s1) := by
  unfold rValue
  rw [h1, if_neg hv]
theorem rValue_same {bs : List Bool} {a w v x : Nat} {s s1 s2 s3 : St} (h1 : tk bs 1 s = (1, s1)) (h2 : tk bs 1 s1 = (v, s2)) (hv : v ≠ 1) (haw : a + w ≤ 64) (h3 : tk bs w s2 = (x, s3)) : rValue bs a w s = (x * 2 ^ (64 - a - w), a, w, s3) := by
  unfold rValue
  rw [h1]
  simp only
  rw [h2, if_pos trivial, if_neg hv]
  unfold rVal
  rw [if_neg (by omega), h3]
theorem rValue_bad {bs : List Bool} {a w a' w' : Nat} {s s1 s2 s3 s4 : St} (h1 : tk bs 1 s = (1, s1)) (h2 : tk bs 1 s1 = (1, s2)) (h3 : tk bs 5 s2 = (a', s3)) (h4 : tk bs 6 s3 = (w', s4)) (haw : 64 < a' + (w' + 1)) : rValue bs a w s = (0, a', w' + 1, (s4.1, true)) := by
  unfold rValue
  rw [h1]
  simp only
  rw [h2]
  simp only
  rw [if_pos trivial, if_pos trivial, h3]
  simp only
  rw [h4]
  unfold rVal
  rw [if_pos haw]
theorem rValue_new {bs : List Bool} {a w a' w' x : Nat} {s s1 s2 s3 s4 s5 : St} (h1 : tk bs 1 s = (1, s1)) (h2 : tk bs 1 s1 = (1, s2)) (h3 : tk bs 5 s2 = (a', s3)) (h4 : tk bs 6 s3 = (w', s4)) (haw : a' + (w' + 1) ≤ 64)
    (h5 : tk bs (w' + 1) s4 = (x, s5)) : rValue bs a w s = (x * 2 ^ (64 - a' - (w' + 1)), a', w' + 1, s5) := by
  unfold rValue
  rw [h1]
  simp only
  rw [h2]
  simp only
  rw [if_pos trivial, if_pos trivial, h3]
  simp only
  rw [h4]
  unfold rVal
  rw [if_neg (by omega), h5]
theorem shift_lt {x w a : Nat} (hx : x < 2 ^ w) (h : a + w ≤ 64) : x * 2 ^ (64 - a - w) < 18446744073709551616 := by
  have h1 : x * 2 ^ (64 - a - w) < 2 ^ w * 2 ^ (64 - a - w) := Nat.mul_lt_mul_of_pos_right hx (Nat.two_pow_pos _)
  rw [← Nat.pow_add] at h1
  exact Nat.lt_of_lt_of_le h1 (Nat.pow_le_pow_right (n := 2) (by omega) (show w + (64 - a - w) ≤ 64 by omega))
end Go.Proofs.Ytlilnibinligkaa
