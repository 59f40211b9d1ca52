/-
  Package chunk: Encode of any points: their bytes, or why there are none. Conditions: lengths that memory bears.
-/
import Derived.Test.YtlilnibinligkaaKd
namespace Go.Proofs.Ytlilnibinligkaa
open Go.RowKit

/-- points' bytes, and the error -/
def EncIs (ps : List Pnt) (l : List UInt8) (er : Nat) : Prop :=
  (8191 < ps.length ∧ l = [] ∧ er = 51) ∨ (ps.length ≤ 8191 ∧ ¬ Okp ps ∧ l = [] ∧ er = 50) ∨ (ps.length ≤ 8191 ∧ Okp ps ∧ l = pack (encB ps) ∧ er = 0)
theorem EncIs.uniq {ps : List Pnt} {l r : List UInt8} {a b : Nat} (h : EncIs ps l a) (h' : EncIs ps r b) : l = r ∧ a = b := by
  rcases h with ⟨h1, h2, h3⟩ | ⟨h1, h2, h3, h4⟩ | ⟨h1, h2, h3, h4⟩ <;> rcases h' with ⟨g1, g2, g3⟩ | ⟨g1, g2, g3, g4⟩ | ⟨g1, g2, g3, g4⟩
  all_goals first | omega | exact (h2 g2).elim | exact (g2 h2).elim | exact ⟨by rw [h2, g2], by rw [h3, g3]⟩ | exact ⟨by rw [h3, g3], by rw [h4, g4]⟩
theorem EncIs.some (ps : List Pnt) : ∃ l er, EncIs ps l er := by
  by_cases h : 8191 < ps.length
  · exact ⟨_, _, .inl ⟨h, rfl, rfl⟩⟩
  · by_cases h2 : Okp ps
    · exact ⟨_, _, .inr (.inr ⟨by omega, h2, rfl, rfl⟩)⟩
    · exact ⟨_, _, .inr (.inl ⟨by omega, h2, rfl, rfl⟩)⟩
theorem EncIs.ok {ps : List Pnt} {l : List UInt8} (h : EncIs ps l 0) : ps.length ≤ 8191 ∧ Okp ps ∧ l = pack (encB ps) := by
  rcases h with ⟨_, _, h⟩ | ⟨_, _, _, h⟩ | ⟨h1, h2, h3, _⟩
  · cases h
  · cases h
  · exact ⟨h1, h2, h3⟩
theorem EncIs.no {ps : List Pnt} {l : List UInt8} {er : Nat} (h : EncIs ps l er) (he : er ≠ 0) : l = [] ∧ ¬ (ps.length ≤ 8191 ∧ Okp ps) := by
  rcases h with ⟨h1, h2, h⟩ | ⟨h1, h2, h3, h⟩ | ⟨h1, h2, h3, h⟩
  · exact ⟨h2, fun h => by omega⟩
  · exact ⟨h3, fun h => h2 h.2⟩
  · exact (he h).elim
def EncP (w : World) (ps : List Pnt) (e : Ending) (w' : World) : Prop :=
  ∃ B m d l er, EncIs ps l er ∧ e = .returned (.tuple #[.slice B m d, .int .i64 (er : Int)]) ∧ OB w' w.heap.size 5 B m d l ∧ Grew w w'

set_option maxRecDepth 100000 in
set_option maxHeartbeats 4000000 in
theorem encode_any (A : Option Addr) (n c : Nat) (ps : List Pnt) (w : World) (h : RE elPt w A n ps) (hn : n ≤ 8796093022208) (hv : Okv ps) :
    Calls Try.prog 12 #[.slice A n c] w (EncP w ps) := by
  have hl := h.1
  by_cases h1 : 8191 < n
  · have Hl := Lib.hid hl
    clear hl
    go_enter Try.func12, Try.ntmps12
    go_wp2
    go_step3
    go_wp2
    rw [Exit.noGoto_ret]
    go_ret2
    exact ⟨none, 0, 0, [], 51, .inl ⟨by rw [Hl.out]; exact h1, rfl, rfl⟩, by simp, Own.nil _ _ _ _, Chg.refl _ _⟩
  · by_cases h2 : Okp ps
    · by_cases h0 : 0 < n
      · exact (encode_ok A n c ps w h (by omega) h2 hv h0).mono fun e w' ⟨B, m, d, g1, g2, g3⟩ => ⟨B, m, d, _, 0, .inr (.inr ⟨by omega, h2, rfl, rfl⟩), g1, g2, g3⟩
      · obtain rfl : n = 0 := by omega
        have hps : ps = [] := List.eq_nil_of_length_eq_zero hl
        have Hps := Lib.hid hps
        have M : Hid (∀ w, RE elPt w A 0 ps → Calls Try.prog 30 #[.slice A 0 c] w fun e w' => e = .returned (.bool true) ∧ Grew w w') := fun w h => (may_any A 0 c ps w h (by omega)).mono fun e w' ⟨b, h1, h2', h3⟩ => ⟨by rw [h1, h2'.2 h2], h3⟩
        clear hl hps hv h2
        go_enter Try.func12, Try.ntmps12
        go_wp2
        refine wp_scope_two 1 0 (fun _ _ => False) (fun a' wr => ∃ (g : Nat), RowIs wr w.heap.size g (encB ps) ∧ Grew w wr ∧ a'.tmps.size = 99 ∧ a'.defers = [] ∧ a'.tmps.getD 4 undef = .pointer (some ⟨g, 0, none⟩)) (fun _ _ => 0) ?b0 ?b1 ?h0 ?h1 (by decide) ?_ ?_ ?_
        case h0 => exact rfl
        case h1 => exact rfl
        · intro _ _ h
          exact h.elim
        · rintro a' wr ⟨g, hrow, hgr, hfr⟩
          obtain ⟨fs, fd, f4⟩ := hfr
          obtain ⟨u, hu⟩ : ∃ u : Nat → Value, a' = { tmps := #[u 0, u 1, u 2, u 3, .pointer (some ⟨g, 0, none⟩), u 5, u 6, u 7, u 8, u 9, u 10, u 11, u 12, u 13, u 14, u 15, u 16, u 17, u 18, u 19, u 20, u 21, u 22, u 23, u 24, u 25, u 26, u 27, u 28, u 29, u 30, u 31, u 32, u 33, u 34, u 35, u 36, u 37, u 38, u 39, u 40, u 41, u 42, u 43, u 44, u 45, u 46, u 47, u 48, u 49, u 50, u 51, u 52, u 53, u 54, u 55, u 56, u 57, u 58, u 59, u 60, u 61, u 62, u 63, u 64, u 65, u 66, u 67, u 68, u 69, u 70, u 71, u 72, u 73, u 74, u 75, u 76, u 77, u 78, u 79, u 80, u 81, u 82, u 83, u 84, u 85, u 86, u 87, u 88, u 89, u 90, u 91, u 92, u 93, u 94, u 95, u 96, u 97, u 98], defers := [] } := ⟨fun i => a'.tmps.getD i undef, (frame_lit a' 99 fs fd).trans (by show ({ tmps := #[a'.tmps.getD 0 undef, a'.tmps.getD 1 undef, a'.tmps.getD 2 undef, a'.tmps.getD 3 undef, a'.tmps.getD 4 undef, a'.tmps.getD 5 undef, a'.tmps.getD 6 undef, a'.tmps.getD 7 undef, a'.tmps.getD 8 undef, a'.tmps.getD 9 undef, a'.tmps.getD 10 undef, a'.tmps.getD 11 undef, a'.tmps.getD 12 undef, a'.tmps.getD 13 undef, a'.tmps.getD 14 undef, a'.tmps.getD 15 undef, a'.tmps.getD 16 undef, a'.tmps.getD 17 undef, a'.tmps.getD 18 undef, a'.tmps.getD 19 undef, a'.tmps.getD 20 undef, a'.tmps.getD 21 undef, a'.tmps.getD 22 undef, a'.tmps.getD 23 undef, a'.tmps.getD 24 undef, a'.tmps.getD 25 undef, a'.tmps.getD 26 undef, a'.tmps.getD 27 undef, a'.tmps.getD 28 undef, a'.tmps.getD 29 undef, a'.tmps.getD 30 undef, a'.tmps.getD 31 undef, a'.tmps.getD 32 undef, a'.tmps.getD 33 undef, a'.tmps.getD 34 undef, a'.tmps.getD 35 undef, a'.tmps.getD 36 undef, a'.tmps.getD 37 undef, a'.tmps.getD 38 undef, a'.tmps.getD 39 undef, a'.tmps.getD 40 undef, a'.tmps.getD 41 undef, a'.tmps.getD 42 undef, a'.tmps.getD 43 undef, a'.tmps.getD 44 undef, a'.tmps.getD 45 undef, a'.tmps.getD 46 undef, a'.tmps.getD 47 undef, a'.tmps.getD 48 undef, a'.tmps.getD 49 undef, a'.tmps.getD 50 undef, a'.tmps.getD 51 undef, a'.tmps.getD 52 undef, a'.tmps.getD 53 undef, a'.tmps.getD 54 undef, a'.tmps.getD 55 undef, a'.tmps.getD 56 undef, a'.tmps.getD 57 undef, a'.tmps.getD 58 undef, a'.tmps.getD 59 undef, a'.tmps.getD 60 undef, a'.tmps.getD 61 undef, a'.tmps.getD 62 undef, a'.tmps.getD 63 undef, a'.tmps.getD 64 undef, a'.tmps.getD 65 undef, a'.tmps.getD 66 undef, a'.tmps.getD 67 undef, a'.tmps.getD 68 undef, a'.tmps.getD 69 undef, a'.tmps.getD 70 undef, a'.tmps.getD 71 undef, a'.tmps.getD 72 undef, a'.tmps.getD 73 undef, a'.tmps.getD 74 undef, a'.tmps.getD 75 undef, a'.tmps.getD 76 undef, a'.tmps.getD 77 undef, a'.tmps.getD 78 undef, a'.tmps.getD 79 undef, a'.tmps.getD 80 undef, a'.tmps.getD 81 undef, a'.tmps.getD 82 undef, a'.tmps.getD 83 undef, a'.tmps.getD 84 undef, a'.tmps.getD 85 undef, a'.tmps.getD 86 undef, a'.tmps.getD 87 undef, a'.tmps.getD 88 undef, a'.tmps.getD 89 undef, a'.tmps.getD 90 undef, a'.tmps.getD 91 undef, a'.tmps.getD 92 undef, a'.tmps.getD 93 undef, a'.tmps.getD 94 undef, a'.tmps.getD 95 undef, a'.tmps.getD 96 undef, a'.tmps.getD 97 undef, a'.tmps.getD 98 undef], defers := [] } : Act) = _; rw [f4])⟩
          clear fs fd f4
          subst hu
          obtain ⟨hb0', B, m, d, hbk, hob⟩ := hrow
          have hc0 : wr.cell? ⟨g, 0, none⟩ = some (.slice B m d) := by rw [hbk.cell]; rfl
          go_wp2
          rw [ExJ.ret]
          go_ret2
          refine ⟨B, m, d, _, 0, .inr (.inr ⟨by rw [Hps.out]; simp, by rw [Hps.out]; exact fun i p h => by simp at h, rfl, rfl⟩), by simp, hob, hgr⟩
        · intro _
          go_wp2_with fail
          refine (M.out _ h).mono ?_
          rintro e w1 ⟨rfl, hg1⟩
          have hs1 := hg1.size
          have hr1 := (RowIs.new w1 w.heap.size hs1)
          go_wp2_with fail
          refine (put_row w1.heap.size [] 0 13 _ _ w.heap.size _ hr1 rfl rfl (by omega) (by omega) (by simp)).mono ?_
          rintro e w2 ⟨rfl, hr2, hc2⟩
          have hg2 := RChg.up (hg1.alloc (.cells #[.slice none 0 0, .int .i64 0] 54)) (Nat.le_refl _) hc2
          go_wp2
          go_step3
          refine .inr ⟨rfl, w1.heap.size, ?_, hg2.alloc _, rfl, rfl, rfl⟩
          rw [Hps.out]
          have := hr2.grew ((Chg.refl _ w2).alloc (.cells #[.int .i64 0, .int .i64 0, .bool false] 56))
          simpa [encB] using this
    · have M : Hid (∀ w, RE elPt w A n ps → Calls Try.prog 30 #[.slice A n c] w fun e w' => e = .returned (.bool false) ∧ Grew w w') := fun w h => (may_any A n c ps w h hn).mono fun e w' ⟨b, h1, h2', h3⟩ => ⟨by
        cases b
        · exact h1
        · exact (h2 (h2'.1 rfl)).elim, h3⟩
      have Hl := Lib.hid hl
      have H2 := Lib.hid h2
      clear hl h2
      go_enter Try.func12, Try.ntmps12
      go_wp2
      go_step3
      go_wp2_with fail
      refine (M.out _ h).mono ?_
      rintro e w1 ⟨rfl, hg1⟩
      go_wp2
      rw [Exit.noGoto_ret]
      go_ret2
      exact ⟨none, 0, 0, [], 50, .inr (.inl ⟨by rw [Hl.out]; omega, H2.out, rfl, rfl⟩), by simp, Own.nil _ _ _ _, hg1⟩
end Go.Proofs.Ytlilnibinligkaa
