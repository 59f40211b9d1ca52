/-
  Points' bytes: a beginning, more behind, one value changed; the law's Low. Conditions: none.
-/
import Derived.Test.YtlilnibinligkaaKj
import Derived.OpenShut
namespace Go.Proofs.Ytlilnibinligkaa
open Go.RowKit

theorem low_form (x : Int) : ∃ r : Nat, r < 9223372036854775808 ∧ bits .and .i64 x 9223372036854775807 = (r : Int) := by
  refine ⟨(BitVec.ofInt 64 x &&& BitVec.ofInt 64 9223372036854775807).toNat, ?_, ?_⟩
  · rw [BitVec.toNat_and]
    exact Nat.and_lt_two_pow (n := 63) _ (by decide)
  · show IntKind.i64.wrap ((BitVec.ofInt 64 x &&& BitVec.ofInt 64 9223372036854775807).toNat : Int) = _
    have : (BitVec.ofInt 64 x &&& BitVec.ofInt 64 9223372036854775807).toNat < 2 ^ 63 := by
      rw [BitVec.toNat_and]
      exact Nat.and_lt_two_pow (n := 63) _ (by decide)
    rw [IntKind.wrap_i64]
    omega
/-- a number that is not negative; the world as it was -/
def LowPost (w : World) (e : Ending) (w' : World) : Prop := ∃ r : Nat, r ≤ 9223372036854775807 ∧ e = .returned (.int .i64 (r : Int)) ∧ w = w'
set_option maxHeartbeats 400000 in
theorem low_any (x : Int) (w : World) : Calls Try.prog 25 #[.int .i64 x] w (LowPost w) := by
  obtain ⟨r, hr, he⟩ := low_form x
  have He := Lib.hid he
  clear he
  go_enter Try.func25, Try.ntmps25
  go_wp2
  go_ret
  refine ⟨r, by omega, ?_, rfl⟩
  rw [← He.out]
  simp

theorem bit_left (l r : List UInt8) {i : Nat} (h : i < 8 * l.length) : bit (l ++ r) i = bit l i := by
  unfold bit
  rw [List.getD_eq_getElem?_getD, List.getD_eq_getElem?_getD, List.getElem?_append_left (by omega)]
theorem bitsOf_left (l r : List UInt8) : ∃ x, bitsOf (l ++ r) (8 * (l ++ r).length) = bitsOf l (8 * l.length) ++ x := by
  have : 8 * (l ++ r).length = 8 * l.length + 8 * r.length := by rw [List.length_append]; omega
  rw [this, bitsOf_add]
  refine ⟨_, congrArg (· ++ _) ?_⟩
  unfold bitsOf
  apply List.map_congr_left
  intro i hi
  exact bit_left l r (List.mem_range.1 hi)
theorem dec_append {l r : List UInt8} {ps qs : List Pnt} (h : DecIs l ps 0) (g : DecIs (l ++ r) qs 0) : r = [] := by
  obtain ⟨h1, h2, h3, h4⟩ := h.enc
  obtain ⟨g1, g2, g3, g4⟩ := g.enc
  have e1 := h4.ok.2.2
  have e2 := g4.ok.2.2
  obtain ⟨x, hx⟩ := bitsOf_left l r
  obtain ⟨y, hy⟩ := bitsOf_packed (encB ps)
  obtain ⟨z, hz⟩ := bitsOf_packed (encB qs)
  rw [← e1] at hy
  rw [← e2, hx, hy, List.append_assoc] at hz
  have e : ps = qs := encB_inj h2 h3 h1 g2 g3 g1 hz
  subst e
  rw [← e1] at e2
  have := congrArg List.length e2
  rw [List.length_append] at this
  exact List.eq_nil_of_length_eq_zero (by omega)
theorem dec_cut {l : List UInt8} {ps qs : List Pnt} {i er : Nat} (h : DecIs l ps 0) (hi : i < l.length) (g : DecIs (l.take i) qs er) : er = 52 := by
  by_cases h0 : er = 0
  · subst h0
    have h' := h
    rw [← List.take_append_drop i l] at h'
    have := congrArg List.length (dec_append g h')
    rw [List.length_drop, List.length_nil] at this
    omega
  · exact (g.no h0).1
theorem dec_more {l r : List UInt8} {ps qs : List Pnt} {er : Nat} (h : DecIs l ps 0) (g : DecIs (l ++ r) qs er) : (er = 0 ∧ r = []) ∨ (er = 52 ∧ r ≠ []) := by
  by_cases h0 : er = 0
  · subst h0
    exact .inl ⟨rfl, dec_append h g⟩
  · refine .inr ⟨(g.no h0).1, ?_⟩
    rintro rfl
    rw [List.append_nil] at g
    exact h0 (g.uniq h).2

theorem Okp.setV {ps : List Pnt} (h : Okp ps) {k : Nat} {p : Pnt} (hk : ps[k]? = some p) (v : Nat) : Okp (ps.set k (p.1, v)) := by
  have key : ∀ (i : Nat) (q : Pnt), (ps.set k (p.1, v))[i]? = some q → ∃ q' : Pnt, ps[i]? = some q' ∧ q'.1 = q.1 := fun i q hq => by
    rw [List.getElem?_set] at hq
    by_cases e : k = i
    · subst e
      have hlt := (List.getElem?_eq_some_iff.1 hk).1
      rw [if_pos rfl, if_pos hlt] at hq
      injection hq with hq
      exact ⟨p, hk, by rw [← hq]⟩
    · rw [if_neg e] at hq
      exact ⟨q, hq, rfl⟩
  intro i q hq
  obtain ⟨q', h1, h2⟩ := key i q hq
  obtain ⟨g1, g2⟩ := h i q' h1
  refine ⟨by rw [← h2]; exact g1, fun x hx => ?_⟩
  obtain ⟨x', h3, h4⟩ := key (i + 1) x hx
  rw [← h2, ← h4]
  exact g2 x' h3
theorem Okv.setV {ps : List Pnt} (h : Okv ps) (k : Nat) (z : Int) (v : Nat) (hv : v < 18446744073709551616) : Okv (ps.set k (z, v)) := by
  intro p hp
  rcases List.mem_or_eq_of_mem_set hp with h1 | rfl
  · exact h p h1
  · exact hv
theorem set_same {ps : List Pnt} {k : Nat} {p : Pnt} (hk : ps[k]? = some p) (v : Nat) : ps = ps.set k (p.1, v) ↔ p.2 = v := by
  have hlt := (List.getElem?_eq_some_iff.1 hk).1
  constructor
  · intro h
    have h2 : (ps.set k (p.1, v))[k]? = some p := by rw [← h, hk]
    rw [List.getElem?_set_self hlt] at h2
    injection h2 with h2
    rw [← h2]
  · rintro rfl
    refine (List.ext_getElem? fun i => ?_)
    rw [List.getElem?_set]
    by_cases e : k = i
    · subst e
      rw [if_pos rfl, if_pos hlt, hk]
    · rw [if_neg e]
theorem flat_setV (ps : List Pnt) {k : Nat} {p : Pnt} (hk : ps[k]? = some p) (v : Nat) : elPt.flat (ps.set k (p.1, v)) = (elPt.flat ps).set (k * 2 + 1) (.int .u64 (v : Int)) := by
  have hlt := (List.getElem?_eq_some_iff.1 hk).1
  have hl : (elPt.flat ps).length = ps.length * 2 := elPt.flat_length ps
  refine List.ext_getElem? fun i => ?_
  have h := flat_set_cells elPt ps k (p.1, v) p hk i
  have e2 : elPt.sz = 2 := rfl
  rw [e2] at h
  rw [h, List.getElem?_set]
  by_cases e : k * 2 + 1 = i
  · subst e
    rw [if_pos (by omega), if_pos rfl, if_pos (by omega), Nat.add_sub_cancel_left]
    rfl
  · rw [if_neg e]
    by_cases e0 : k * 2 ≤ i ∧ i < k * 2 + 2
    · have : i = k * 2 + 0 := by omega
      subst this
      have hg : (elPt.flat ps)[k * 2 + 0]? = _ := elPt.flat_get ps hk (j := 0) (by decide)
      rw [if_pos e0, hg, Nat.add_zero, Nat.sub_self]
      rfl
    · rw [if_neg e0]
theorem OE.setV {w : World} {base g n c : Nat} {t : TypeId} {ps : List Pnt} (h : OE elPt w base t (some ⟨g, 0, none⟩) n c ps) {k : Nat} {p : Pnt} (hk : ps[k]? = some p) (v : Nat) :
    OE elPt (w.setCell ⟨g, k * 2 + 1, none⟩ (.int .u64 (v : Int))) base t (some ⟨g, 0, none⟩) n c (ps.set k (p.1, v)) := by
  have := Own.set h (k * 2 + 1) (.int .u64 (v : Int))
  rw [← flat_setV ps hk v] at this
  exact this
theorem cellsIn_cell {W : World} {ad : Addr} {u : Value} (h : W.cell? ad = some u) : CellsIn [ad.block] W := fun i hi => by
  simp only [List.mem_cons, List.not_mem_nil, or_false] at hi
  subst hi
  unfold World.cell? at h
  split at h
  · exact ⟨_, _, _, by assumption⟩
  · cases h
theorem sameIn_chg {S : Nat → Prop} {W w : World} {k : Nat} (hc : Chg S W w) (hk : k < W.heap.size) (hn : ¬ S k) : SameIn [k] W w := fun i hi => by
  simp only [List.mem_cons, List.not_mem_nil, or_false] at hi
  subst hi
  exact hc.block i hk hn
/-- one value changed: the bytes are the same if and only if the value is -/
theorem enc_setV {ps : List Pnt} {l l' : List UInt8} {er k v : Nat} {p : Pnt} (h : EncIs ps l 0) (hv : Okv ps) (hk : ps[k]? = some p) (hv2 : v < 18446744073709551616) (g : EncIs (ps.set k (p.1, v)) l' er) : er = 0 ∧ (l == l') = ((v : Int) == (p.2 : Int)) := by
  obtain ⟨h1, h2, h3⟩ := h.ok
  have g1 : EncIs (ps.set k (p.1, v)) (pack (encB (ps.set k (p.1, v)))) 0 := .inr (.inr ⟨by simpa using h1, h2.setV hk v, rfl, rfl⟩)
  obtain ⟨e1, e2⟩ := g.uniq g1
  refine ⟨e2, ?_⟩
  rw [Bool.eq_iff_iff]
  simp only [beq_iff_eq]
  rw [h3, e1]
  constructor
  · intro e
    have := pack_enc_inj h1 h2 hv (by simpa using h1) (h2.setV hk v) (hv.setV k p.1 v hv2) e
    have := (set_same hk v).1 this
    omega
  · intro e
    have : p.2 = v := by omega
    rw [← (set_same hk v).2 this]
end Go.Proofs.Ytlilnibinligkaa
