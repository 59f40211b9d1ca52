/-
  Package chunk: Decode of any bytes: the points whose bytes they are, or refused. Conditions: lengths that memory bears.
-/
import Derived.Test.YtlilnibinligkaaKe
import Derived.Test.YtlilnibinligkaaKg
import Derived.Test.YtlilnibinligkaaBe
namespace Go.Proofs.Ytlilnibinligkaa
open Go.RowKit

theorem bitsOf_add (l : List UInt8) (a b : Nat) : bitsOf l (a + b) = bitsOf l a ++ (List.range b).map fun i => bit l (a + i) := by
  unfold bitsOf
  rw [List.range_add, List.map_append, List.map_map]
  rfl
theorem bitsOf_packed (bs : List Bool) : ∃ pad, bitsOf (pack bs) (8 * (pack bs).length) = bs ++ pad := by
  have hl : (pack bs).length = (bs.length + 7) / 8 := length_pack bs
  obtain ⟨k, hk⟩ : ∃ k, 8 * (pack bs).length = bs.length + k := ⟨8 * (pack bs).length - bs.length, by omega⟩
  rw [hk, bitsOf_add, bitsOf_pack]
  exact ⟨_, rfl⟩

/-- whose points' bytes some bytes are -/
def DecIs (b : List UInt8) (ps : List Pnt) (er : Nat) : Prop :=
  (er = 0 ∧ ps.length ≤ 8191 ∧ Okp ps ∧ Okv ps ∧ pack (encB ps) = b) ∨ (er = 52 ∧ ps = [] ∧ ∀ qs : List Pnt, qs.length ≤ 8191 → Okp qs → Okv qs → pack (encB qs) ≠ b)
theorem pack_enc_inj {ps qs : List Pnt} (h1 : ps.length ≤ 8191) (h2 : Okp ps) (h3 : Okv ps) (g1 : qs.length ≤ 8191) (g2 : Okp qs) (g3 : Okv qs) (h : pack (encB ps) = pack (encB qs)) : ps = qs := by
  obtain ⟨x, hx⟩ := bitsOf_packed (encB ps)
  obtain ⟨y, hy⟩ := bitsOf_packed (encB qs)
  rw [h, hy] at hx
  exact (encB_inj g2 g3 g1 h2 h3 h1 hx).symm
theorem DecIs.uniq {b : List UInt8} {ps qs : List Pnt} {x y : Nat} (h : DecIs b ps x) (h' : DecIs b qs y) : ps = qs ∧ x = y := by
  rcases h with ⟨h0, h1, h2, h3, h4⟩ | ⟨h0, h1, h2⟩ <;> rcases h' with ⟨g0, g1, g2, g3, g4⟩ | ⟨g0, g1, g2'⟩
  · exact ⟨pack_enc_inj h1 h2 h3 g1 g2 g3 (by rw [h4, g4]), by omega⟩
  · exact (g2' ps h1 h2 h3 h4).elim
  · exact (h2 qs g1 g2 g3 g4).elim
  · exact ⟨by rw [h1, g1], by omega⟩
def DecP (w : World) (b : List UInt8) (e : Ending) (w' : World) : Prop :=
  ∃ A n c ps er, DecIs b ps er ∧ e = .returned (.tuple #[.slice A n c, .int .i64 (er : Int)]) ∧ OE elPt w' w.heap.size 41 A n c ps ∧ Grew w w'

/-- what a reader's parse comes to, checked by writing it again -/
theorem dec_of {b : List UInt8} {out : List Pnt} {bad : Bool} {l : List UInt8} {er : Nat} (parse : List Bool → List Pnt × Bool) (hp : ∀ ps rest, Okp ps → Okv ps → ps.length ≤ 8191 → parse (encB ps ++ rest) = (ps, false))
    (h : (bad = true ∧ (parse (bitsOf b (8 * b.length))).2 = true) ∨ (bad = false ∧ parse (bitsOf b (8 * b.length)) = (out, false) ∧ Okv out ∧ EncIs out l er)) :
    DecIs b (if bad = false ∧ er = 0 ∧ l = b then out else []) (if bad = false ∧ er = 0 ∧ l = b then 0 else 52) := by
  have key : ∀ qs : List Pnt, qs.length ≤ 8191 → Okp qs → Okv qs → pack (encB qs) = b → parse (bitsOf b (8 * b.length)) = (qs, false) := fun qs h1 h2 h3 h4 => by
    subst h4
    obtain ⟨pad, hpad⟩ := bitsOf_packed (encB qs)
    rw [hpad, hp qs pad h2 h3 h1]
  rcases h with ⟨rfl, h⟩ | ⟨rfl, h, hv, he⟩
  · right
    refine ⟨by simp, by simp, fun qs h1 h2 h3 h4 => ?_⟩
    rw [key qs h1 h2 h3 h4] at h
    cases h
  · by_cases hc : er = 0 ∧ l = b
    · obtain ⟨rfl, rfl⟩ := hc
      obtain ⟨h1, h2, h3⟩ := he.ok
      left
      simp only [and_self, if_true]
      exact ⟨trivial, h1, h2, hv, h3.symm⟩
    · right
      refine ⟨by simp only [true_and]; rw [if_neg hc], by simp only [true_and]; rw [if_neg hc], fun qs h1 h2 h3 h4 => ?_⟩
      rw [key qs h1 h2 h3 h4] at h
      injection h with h _
      subst h
      have := EncIs.uniq he (.inr (.inr ⟨h1, h2, rfl, rfl⟩))
      exact hc ⟨this.2, by rw [this.1, h4]⟩
end Go.Proofs.Ytlilnibinligkaa
