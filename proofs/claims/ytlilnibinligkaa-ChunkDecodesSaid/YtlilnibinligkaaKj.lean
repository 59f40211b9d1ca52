/-
  The law ChunkStrict, walked; what every program answers, call by call (awake). Conditions: lengths within the form's reach.
-/
import Derived.Test.YtlilnibinligkaaKi
import Derived.Test.YtlilnibinligkaaTs
namespace Go.Proofs.Ytlilnibinligkaa
open Go.RowKit

theorem zB_long (z : Int) : (zB z).length ≤ 68 := by
  unfold zB cls
  split
  · simp
  · split
    · simp
    · split
      · simp
      · split <;> simp
theorem valB_long (w : Win) (x : Nat) : (valB w x).1.length ≤ 77 := by
  unfold valB
  split
  · simp
  · split
    · simp; omega
    · simp; omega
theorem encGo_long : ∀ (r : List Pnt) (p : Pnt) (d : Int) (w : Win), (encGo p d w r).length ≤ 145 * r.length
  | [], p, d, w => by simp [encGo]
  | q :: r, p, d, w => by
    unfold encGo
    have h1 := zB_long (q.1 - p.1 - d)
    have h2 := valB_long w (q.2 ^^^ p.2)
    have h3 := encGo_long r q (q.1 - p.1) (valB w (q.2 ^^^ p.2)).2
    simp only [List.length_append, List.length_cons]
    omega
theorem encB_long (ps : List Pnt) : 13 ≤ (encB ps).length ∧ (encB ps).length ≤ 141 + 145 * ps.length := by
  unfold encB
  cases ps with
  | nil => simp
  | cons p r =>
    have h := encGo_long r p 0 (0, 0, false)
    simp only [List.length_append, List.length_cons, headB, length_toBits]
    omega
theorem EncIs.len {ps : List Pnt} {l : List UInt8} {er : Nat} (h : EncIs ps l er) : l.length ≤ 200000 := by
  rcases h with ⟨_, h, _⟩ | ⟨_, _, h, _⟩ | ⟨h1, _, h, _⟩
  · simp [h]
  · simp [h]
  · have := encB_long ps
    rw [h, length_pack]
    omega
theorem EncIs.dec {ps : List Pnt} {l : List UInt8} (h : EncIs ps l 0) (hv : Okv ps) : DecIs l ps 0 := by
  obtain ⟨h1, h2, h3⟩ := h.ok
  exact .inl ⟨rfl, h1, h2, hv, h3.symm⟩
theorem DecIs.enc {b : List UInt8} {ps : List Pnt} (h : DecIs b ps 0) : ps.length ≤ 8191 ∧ Okp ps ∧ Okv ps ∧ EncIs ps b 0 := by
  rcases h with ⟨_, h1, h2, h3, h4⟩ | ⟨h, _⟩
  · exact ⟨h1, h2, h3, .inr (.inr ⟨h1, h2, h4.symm, rfl⟩)⟩
  · cases h
theorem DecIs.no {b : List UInt8} {ps : List Pnt} {er : Nat} (h : DecIs b ps er) (he : er ≠ 0) : er = 52 ∧ ps = [] := by
  rcases h with ⟨h, _⟩ | ⟨h, h2, _⟩
  · exact (he h).elim
  · exact ⟨h, h2⟩
theorem DecIs.none : DecIs [] [] 52 := .inr ⟨rfl, rfl, fun qs _ _ _ h => by
  have h1 := encB_long qs
  have h2 := congrArg List.length h
  rw [length_pack] at h2
  simp only [List.length_nil] at h2
  omega⟩

def three : List Pnt := [(1, 5), (61, 5), (121, 7)]
theorem three_v : Okv three := by
  intro p hp
  simp only [three, List.mem_cons, List.not_mem_nil, or_false] at hp
  rcases hp with rfl | rfl | rfl <;> decide
theorem three_p : Okp three := by
  intro i p hp
  match i with
  | 0 => obtain rfl := Option.some.inj hp; exact ⟨by decide, fun q hq => by obtain rfl := Option.some.inj hq; decide⟩
  | 1 => obtain rfl := Option.some.inj hp; exact ⟨by decide, fun q hq => by obtain rfl := Option.some.inj hq; decide⟩
  | 2 => obtain rfl := Option.some.inj hp; exact ⟨by decide, fun q hq => by simp [three] at hq⟩
  | i + 3 => simp [three] at hp
theorem three_enc : EncIs three (pack (encB three)) 0 := .inr (.inr ⟨by decide, three_p, rfl, rfl⟩)
theorem three_len : (pack (encB three)).length = 25 := by
  rw [length_pack]
  decide +kernel

set_option maxRecDepth 100000 in
set_option maxHeartbeats 4000000 in
theorem awake_any (w : World) : Calls Try.prog 17 #[] w fun e w' => e = .returned (.bool true) ∧ Grew w w' := by
  go_enter Try.func17, Try.ntmps17
  go_wp2_with fail
  refine (encode_any _ 3 3 three _ (by exact RE.newAt rfl rfl rfl) (by omega) three_v).mono ?_
  rintro e w1 ⟨B, m, d, l, er, he, rfl, ho, hg⟩
  have hr0 : RE elPt w1 (some ⟨w.heap.size, 0, none⟩) 3 three := RE.grew (RE.newAt rfl rfl rfl) hg
  obtain ⟨rfl, rfl⟩ := he.uniq three_enc
  obtain rfl : m = 25 := by rw [← ho.len, three_len]
  have hg1 : Grew w w1 := ((Chg.refl _ w).alloc _).trans hg
  go_wp2_with fail
  refine (decode_any _ 25 _ _ _ (by exact ho.rb) (by omega)).mono ?_
  rintro e w2 ⟨C, n, c, ps, er2, he2, rfl, ho2, hg2⟩
  obtain ⟨rfl, rfl⟩ := he2.uniq (he.dec three_v)
  obtain rfl : n = 3 := by rw [← ho2.len (by decide)]; rfl
  have hr2 := hr0.grew hg2
  have hg12 := hg1.trans hg2
  clear hg hg1 hg2 hr0
  go_wp2_with fail
  refine (decode_any _ 0 _ [] _ (by exact ⟨rfl, Rd.nil _ _⟩) (by omega)).mono ?_
  rintro e w3 ⟨C3, n3, c3, ps3, er3, he3, rfl, ho3, hg3⟩
  obtain ⟨rfl, rfl⟩ := he3.uniq DecIs.none
  have hg13 := hg12.trans hg3
  have hr3 := hr2.grew hg3
  have ho23 := ho2.grew hg3
  go_wp2_with fail
  refine (samePoints_yes _ _ 3 3 _ _ three _ (by exact ho23.re (by decide)) (by exact hr3) (by omega) (by omega)).mono ?_
  rintro e w4 ⟨rfl, k4, rfl⟩
  go_wp2
  go_ret
  exact ⟨by simp, hg13.drewN k4⟩

set_option maxRecDepth 100000 in
set_option maxHeartbeats 4000000 in
theorem walk_chunkStrict (A : Option Addr) (m c : Nat) (l : List UInt8) (w : World) (h : RB w A m l) (hm : m ≤ 140737488351232) :
    Calls Try.prog 6 #[.slice A m c] w fun e w' => e = .returned (.bool true) ∧ Grew w w' := by
  go_enter Try.func6, Try.ntmps6
  go_wp2_with fail
  refine (copyBytes_any A m c l _ h (by omega)).mono ?_
  rintro e w1 ⟨P1, c1, rfl, ho1, hg1⟩
  go_wp2_with fail
  refine (decode_any _ m _ l _ (by exact ho1.rb) (by omega)).mono ?_
  rintro e w2 ⟨C, n, c2, ps, er, he, rfl, ho2, hg2⟩
  have hg02 := hg1.trans hg2
  by_cases h0 : er = 0
  · subst h0
    obtain ⟨h1, h2, h3, h4⟩ := he.enc
    have hn : ps.length = n := ho2.len (by decide)
    go_wp2_with fail
    refine (encode_any _ n _ ps _ (by exact ho2.re (by decide)) (by omega) h3).mono ?_
    rintro e w3 ⟨B, m3, d, l3, er3, he3, rfl, ho3, hg3⟩
    obtain ⟨rfl, rfl⟩ := he3.uniq h4
    have hg03 := hg02.trans hg3
    have hr3 := h.grew hg03
    have hc3 := ho3.cap
    go_wp2_with fail
    refine (sameBytes_yes _ _ m3 m _ _ l3 _ (by exact ho3.rb) (by exact hr3) (by omega) (by omega)).mono ?_
    rintro e w4 ⟨rfl, k4, rfl⟩
    go_wp2_with fail
    refine (awake_any _).mono ?_
    rintro e w5 ⟨rfl, hg5⟩
    go_wp2
    go_ret
    exact ⟨by simp, (hg03.drewN k4).trans hg5⟩
  · obtain ⟨rfl, rfl⟩ := he.no h0
    obtain rfl : n = 0 := by rw [← ho2.len (by decide)]; rfl
    go_wp2_with fail
    refine (awake_any _).mono ?_
    rintro e w3 ⟨rfl, hg3⟩
    go_wp2
    go_ret
    exact ⟨by simp, hg02.trans hg3⟩
end Go.Proofs.Ytlilnibinligkaa
