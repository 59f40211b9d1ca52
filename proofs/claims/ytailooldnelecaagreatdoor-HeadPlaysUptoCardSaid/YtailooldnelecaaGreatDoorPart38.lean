/-
  Several texts in one:
  What every program of series answers, call by call (awake). Conditions: the longest text that the library takes is as it is set.
  Lists of series copied by the statements' own helper. Conditions: lengths that memory bears.
  The law SeriesOrder, walked. Conditions: lengths that memory bears; the longest text that the library takes is as it is set.
  What 'covers' says, in plain words; clips and picks of lists that may be. Conditions: none; no program in sight.
  The laws SeriesCovers and SeriesApart, walked. Conditions: lengths that memory bears; the longest text that the library takes is as it is set.
  The law SeriesApart, walked. Conditions: lengths that memory bears; the longest text that the library takes is as it is set.
  The document's order of labels, and what a list has at a place. Conditions: none.
  The law SeriesGreatest, walked. Conditions: lengths that memory bears; the longest text that the library takes is as it is set.
-/
import Derived.Test.YtailooldnelecaaGreatDoorPart37
import Derived.Test.YtailooldnelecaaGreatDoorPart34
import Derived.Test.YtailooldnelecaaGreatDoorPart33
import Derived.Test.YtailooldnelecaaGreatDoorPart30

namespace Go.Proofs.YtailooldnelecaaGreatDoor
open Go.RowKit

/-- what a merge of lists leaves -/
def MergeOk (w : World) (L : List (List Ser)) (e : Ending) (w' : World) : Prop := ∃ A c, e = .returned (.tuple #[.slice A (mrg L).length c, .int .i64 0]) ∧ NS w' w.heap.size A (mrg L).length c (mrg L) ∧ Grew w w' ∧ Mrg L (mrg L) ∧ (mrg L).length ≤ L.flatten.length ∧ tot (mrg L) ≤ tot L.flatten
theorem NS.ls {w : World} {base : Nat} {A : Option Addr} {n c : Nat} {ss : List Ser} (h : NS w base A n c ss) : LsIn w ⟨A, n, c, ss⟩ := ⟨h.rs, h.cap⟩
/-- one series as a literal lays it -/
theorem rs_one {w : World} {A P : Option Addr} {n c m d : Nat} {s : Ser} (hl : RE elLb w A n s.lbs) (hp : RE elPt w P m s.pts) (hc : n ≤ c ∧ c ≤ 9223372036854775807) (hd : m ≤ d ∧ d ≤ 9223372036854775807) {B : Option Addr} (hr : RE elSr w B 1 [⟨A, n, c, P, m, d⟩]) : RS w B 1 [s] :=
  ⟨[⟨A, n, c, P, m, d⟩], hr, rfl, fun i mm s' hm hs => by
    cases i with
    | zero =>
      obtain rfl := Option.some.inj hm
      obtain rfl := Option.some.inj hs
      exact ⟨hl, hp, hc, hd⟩
    | succ i => simp at hm⟩

theorem new_re {α : Type} (E : El α) (w : World) (t : TypeId) (n : Nat) (l : List α) (cs : Array Value) (B : Nat) (hB : B = w.heap.size) (hn : l.length = n) (hc : cs = (E.flat l).toArray) :
    ∃ W, W = w.alloc (.cells cs t) ∧ Grew w W ∧ W.heap.size = B + 1 ∧ RE E W (some ⟨B, 0, none⟩) n l := ⟨_, rfl, (Chg.refl _ w).alloc _, by rw [hB]; simp, RE.newAt hB hn hc⟩
theorem lits (w : World) : ∃ W, W = (((((((w.alloc (.cells #[.string ⟨#[97]⟩, .string ⟨#[120]⟩] 72)).alloc (.cells #[.int .i64 1, .int .u64 5, .int .i64 2, .int .u64 6] 69)).alloc
    (.cells #[.slice (some ⟨w.heap.size, 0, none⟩) 1 1, .slice (some ⟨w.heap.size + 1, 0, none⟩) 2 2] 61)).alloc (.cells #[.string ⟨#[97]⟩, .string ⟨#[120]⟩] 72)).alloc (.cells #[.int .i64 2, .int .u64 7] 69)).alloc
    (.cells #[.slice (some ⟨w.heap.size + 1 + 1 + 1, 0, none⟩) 1 1, .slice (some ⟨w.heap.size + 1 + 1 + 1 + 1, 0, none⟩) 1 1] 61)).alloc
    (.cells #[.slice (some ⟨w.heap.size + 1 + 1, 0, none⟩) 1 1, .slice (some ⟨w.heap.size + 1 + 1 + 1 + 1 + 1, 0, none⟩) 1 1] 36)) ∧ Grew w W ∧
    RS W (some ⟨w.heap.size + 1 + 1, 0, none⟩) 1 serA ∧ RS W (some ⟨w.heap.size + 1 + 1 + 1 + 1 + 1, 0, none⟩) 1 serB ∧ RE elLs W (some ⟨w.heap.size + 1 + 1 + 1 + 1 + 1 + 1, 0, none⟩) 2 [⟨some ⟨w.heap.size + 1 + 1, 0, none⟩, 1, 1, serA⟩, ⟨some ⟨w.heap.size + 1 + 1 + 1 + 1 + 1, 0, none⟩, 1, 1, serB⟩] := by
  obtain ⟨w1, e1, g1, z1, r1⟩ := new_re elLb w 72 1 lbA #[.string ⟨#[97]⟩, .string ⟨#[120]⟩] w.heap.size rfl rfl rfl
  obtain ⟨w2, e2, g2, z2, r2⟩ := new_re elPt w1 69 2 [(1, 5), (2, 6)] #[.int .i64 1, .int .u64 5, .int .i64 2, .int .u64 6] (w.heap.size + 1) z1.symm rfl rfl
  obtain ⟨w3, e3, g3, z3, r3⟩ := new_re elSr w2 61 1 [⟨some ⟨w.heap.size, 0, none⟩, 1, 1, some ⟨w.heap.size + 1, 0, none⟩, 2, 2⟩] #[.slice (some ⟨w.heap.size, 0, none⟩) 1 1, .slice (some ⟨w.heap.size + 1, 0, none⟩) 2 2] (w.heap.size + 1 + 1) z2.symm rfl rfl
  obtain ⟨w4, e4, g4, z4, r4⟩ := new_re elLb w3 72 1 lbA #[.string ⟨#[97]⟩, .string ⟨#[120]⟩] (w.heap.size + 1 + 1 + 1) z3.symm rfl rfl
  obtain ⟨w5, e5, g5, z5, r5⟩ := new_re elPt w4 69 1 [(2, 7)] #[.int .i64 2, .int .u64 7] (w.heap.size + 1 + 1 + 1 + 1) z4.symm rfl rfl
  obtain ⟨w6, e6, g6, z6, r6⟩ := new_re elSr w5 61 1 [⟨some ⟨w.heap.size + 1 + 1 + 1, 0, none⟩, 1, 1, some ⟨w.heap.size + 1 + 1 + 1 + 1, 0, none⟩, 1, 1⟩] #[.slice (some ⟨w.heap.size + 1 + 1 + 1, 0, none⟩) 1 1, .slice (some ⟨w.heap.size + 1 + 1 + 1 + 1, 0, none⟩) 1 1] (w.heap.size + 1 + 1 + 1 + 1 + 1) z5.symm rfl rfl
  obtain ⟨w7, e7, g7, z7, r7⟩ := new_re elLs w6 36 2 [⟨some ⟨w.heap.size + 1 + 1, 0, none⟩, 1, 1, serA⟩, ⟨some ⟨w.heap.size + 1 + 1 + 1 + 1 + 1, 0, none⟩, 1, 1, serB⟩] #[.slice (some ⟨w.heap.size + 1 + 1, 0, none⟩) 1 1, .slice (some ⟨w.heap.size + 1 + 1 + 1 + 1 + 1, 0, none⟩) 1 1] (w.heap.size + 1 + 1 + 1 + 1 + 1 + 1) z6.symm rfl rfl
  have g37 := g4.trans (g5.trans (g6.trans g7))
  refine ⟨w7, by rw [e7, e6, e5, e4, e3, e2, e1], g1.trans (g2.trans (g3.trans g37)), ?_, ?_, r7⟩
  · exact rs_one (r1.grew (g2.trans (g3.trans g37))) (r2.grew (g3.trans g37)) (by decide) (by decide) (r3.grew g37)
  · exact rs_one (r4.grew (g5.trans (g6.trans g7))) (r5.grew (g6.trans g7)) (by decide) (by decide) (r6.grew g7)
theorem smallA : Small serA := ⟨by decide, fun s hs => by
  obtain rfl : s = ⟨lbA, [(1, 5), (2, 6)]⟩ := by simpa [serA] using hs
  exact ⟨by decide, by decide⟩⟩
theorem smallM : Small serM := ⟨by decide, fun s hs => by
  obtain rfl : s = ⟨lbA, [(1, 5), (2, 7)]⟩ := by simpa [serM] using hs
  exact ⟨by decide, by decide⟩⟩

end Go.Proofs.YtailooldnelecaaGreatDoor

namespace Go.Proofs.YtailooldnelecaaGreatDoor
open Go.RowKit

theorem pair_ab {W w1 w2 : World} {m : SerM} {s : Ser} {A2 A4 : Option Addr} {c2 c4 : Nat} (h2 : OE elLb w1 W.heap.size 72 A2 m.ln c2 s.lbs) (h4 : OE elPt w2 w1.heap.size 69 A4 m.pn c4 s.pts) (g1 : Grew W w1) (g2 : Grew w1 w2) : NsE w2 W.heap.size ⟨A2, m.ln, c2, A4, m.pn, c4⟩ s :=
  ⟨h2.grew g2, Own.mono h4 g1.size⟩

end Go.Proofs.YtailooldnelecaaGreatDoor

namespace Go.Proofs.YtailooldnelecaaGreatDoor
open Go.RowKit

theorem order_n {a b c m : List Ser} (h : Mrg [a, b, c] m) : Mrg [c, a, b, a] m := h.to fun K t => by
  simp only [maxL_cons, maxL_nil, maxO_none]
  rw [maxO_left (atV a K t) (atV b K t) (atV c K t), maxO_comm (atV b K t) (atV a K t), maxO_self2 (atV a K t) (atV b K t)]
  rw [maxO_left (atV c K t) (atV a K t), maxO_comm (atV c K t), maxO_left (atV b K t)]
theorem order_y {a b c x m : List Ser} (h : Mrg [a, b, c] m) (hx : Mrg [b, c] x) : Mrg [a, x] m := h.to fun K t => by
  have := hx.at_ K t
  simp only [maxL_cons, maxL_nil, maxO_none] at this ⊢
  rw [this]
theorem order_z {m : List Ser} (h : Vs m) : Mrg [m, m] m := ⟨h, fun K t => by
  simp only [maxL_cons, maxL_nil, maxO_none]
  rw [maxO_self]⟩

/-- a list of series that came in, of a size that memory bears -/
structure InS (w : World) (A : Option Addr) (n c : Nat) (ss : List Ser) : Prop where
  rs : RS w A n ss
  cap : n ≤ c ∧ c ≤ 9223372036854775807
  small : Small ss
  len : ss.length ≤ 4194304
  tot : tot ss ≤ 4194304
theorem InS.grew {w w' : World} {A : Option Addr} {n c : Nat} {ss : List Ser} (h : InS w A n c ss) (hg : Grew w w') : InS w' A n c ss := ⟨h.rs.grew hg, h.cap, h.small, h.len, h.tot⟩
theorem okL_small {ss : List Ser} (h : OkL ss) (hl : ss.length ≤ 1073741824) (ht : tot ss ≤ 1099511627776) : Small ss := ⟨hl, fun s hs => ⟨chkL_len (h.2 s hs), by have := tot_mem hs; omega⟩⟩
theorem all1 {α : Type} {P : α → Prop} {x : α} (hx : P x) : ∀ z ∈ [x], P z := fun z hz => by
  obtain rfl : z = x := by simpa using hz
  exact hx
theorem all2 {α : Type} {P : α → Prop} {x y : α} (hx : P x) (hy : P y) : ∀ z ∈ [x, y], P z := fun z hz => by
  rcases List.mem_cons.1 hz with rfl | hz
  · exact hx
  · exact all1 hy z hz
theorem all3 {α : Type} {P : α → Prop} {x y u : α} (hx : P x) (hy : P y) (hu : P u) : ∀ z ∈ [x, y, u], P z := fun z hz => by
  rcases List.mem_cons.1 hz with rfl | hz
  · exact hx
  · exact all2 hy hu z hz
theorem all4 {α : Type} {P : α → Prop} {x y u v : α} (hx : P x) (hy : P y) (hu : P u) (hv : P v) : ∀ z ∈ [x, y, u, v], P z := fun z hz => by
  rcases List.mem_cons.1 hz with rfl | hz
  · exact hx
  · exact all3 hy hu hv z hz
/-- a list that may be, in memory, of a size -/
structure InM (w : World) (A : Option Addr) (n c : Nat) (ss : List Ser) (N : Nat) : Prop where
  rs : RS w A n ss
  cap : n ≤ c ∧ c ≤ 9223372036854775807
  ok : OkL ss
  len : ss.length ≤ N
  tot : tot ss ≤ N
theorem InM.grew {w w' : World} {A : Option Addr} {n c N : Nat} {ss : List Ser} (h : InM w A n c ss N) (hg : Grew w w') : InM w' A n c ss N := ⟨h.rs.grew hg, h.cap, h.ok, h.len, h.tot⟩
theorem InM.ls {w : World} {A : Option Addr} {n c N : Nat} {ss : List Ser} (h : InM w A n c ss N) : LsIn w ⟨A, n, c, ss⟩ := ⟨h.rs, h.cap⟩
def MgM (w : World) (L : List (List Ser)) (N : Nat) (e : Ending) (w' : World) : Prop := ∃ A c m, e = .returned (.tuple #[.slice A m.length c, .int .i64 0]) ∧ InM w' A m.length c m N ∧ Mrg L m ∧ Grew w w'
theorem InS.m {w : World} {A : Option Addr} {n c : Nat} {ss : List Ser} (h : InS w A n c ss) (hok : OkL ss) : InM w A n c ss 4194304 := ⟨h.rs, h.cap, hok, h.len, h.tot⟩
theorem sameM {w : World} {A B : Option Addr} {n m c d N M : Nat} {l r : List Ser} (ha : InM w A n c l N) (hb : InM w B m d r M) : Calls Tryz.prog 7 #[.slice A n c, .slice B m d] w fun e w' => e = .returned (.bool (eqB l r)) ∧ Grew w w' :=
  sameS_any A B n m c d l r w ha.rs hb.rs (by have := ha.cap; omega) (by have := hb.cap; omega)

end Go.Proofs.YtailooldnelecaaGreatDoor

namespace Go.Proofs.YtailooldnelecaaGreatDoor

theorem holdsP_iff : ∀ (a b : List Ptn), Rise a → Rise b → (holdsP a b = true ↔ ∀ q ∈ b, q ∈ a)
  | a, [], _, _ => by rw [holdsP_nil]; simp
  | [], q :: b, _, _ => by
    rw [holdsP_none]
    exact ⟨fun h => (by cases h), fun h => (by cases h q (by simp))⟩
  | p :: a, q :: b, ha, hb => by
    have ha' := List.pairwise_cons.1 ha
    have hb' := List.pairwise_cons.1 hb
    by_cases h : p.1 < q.1
    · rw [holdsP_lt h, holdsP_iff a (q :: b) ha'.2 hb]
      have hne : ∀ x ∈ q :: b, x ≠ p := fun x hx e => by
        subst e
        rcases List.mem_cons.1 hx with rfl | hx
        · omega
        · have := hb'.1 x hx
          omega
      constructor
      · intro h1 x hx
        exact List.mem_cons_of_mem _ (h1 x hx)
      · intro h1 x hx
        rcases List.mem_cons.1 (h1 x hx) with h2 | h2
        · exact absurd h2 (hne x hx)
        · exact h2
    · rw [holdsP_ge h, Bool.and_eq_true, decide_eq_true_iff, holdsP_iff (p :: a) b ha hb'.2]
      constructor
      · rintro ⟨rfl, h2⟩ x hx
        rcases List.mem_cons.1 hx with rfl | hx
        · simp
        · exact h2 x hx
      · intro h1
        refine ⟨?_, fun x hx => h1 x (by simp [hx])⟩
        rcases List.mem_cons.1 (h1 q (by simp)) with h2 | h2
        · exact h2.symm
        · have := ha'.1 q h2
          omega
termination_by a b => a.length + b.length
/-- each series of b is in a, with all its points -/
def CovP (a b : List Ser) : Prop := ∀ s ∈ b, ∃ s' ∈ a, s'.lbs = s.lbs ∧ ∀ q ∈ s.pts, q ∈ s'.pts
theorem coversS_iff : ∀ (a b : List Ser), Vs a → Vs b → (coversS a b = true ↔ CovP a b)
  | a, [], _, _ => by rw [coversS_nil]; simp [CovP]
  | [], q :: b, _, _ => by
    rw [coversS_none]
    refine ⟨fun h => (by cases h), fun h => ?_⟩
    obtain ⟨s', h1, _⟩ := h q (by simp)
    cases h1
  | p :: a, q :: b, ha, hb => by
    have ha1 := List.pairwise_cons.1 ha.sort
    have hb1 := List.pairwise_cons.1 hb.sort
    have ha' : Vs a := ⟨ha1.2, fun s hs => ha.rise s (by simp [hs]), fun s hs => ha.some s (by simp [hs])⟩
    have hb' : Vs b := ⟨hb1.2, fun s hs => hb.rise s (by simp [hs]), fun s hs => hb.some s (by simp [hs])⟩
    by_cases h : cmpLs p.lbs q.lbs < 0
    · rw [coversS_lt h, coversS_iff a (q :: b) ha' hb]
      have hne : ∀ x ∈ q :: b, p.lbs ≠ x.lbs := fun x hx e => by
        rcases List.mem_cons.1 hx with rfl | hx
        · rw [e] at h
          exact cmpLs_ok.irrefl _ h
        · have := cmpLs_ok.trans _ _ _ h (hb1.1 x hx)
          rw [e] at this
          exact cmpLs_ok.irrefl _ this
      constructor
      · intro h1 x hx
        obtain ⟨s', k1, k2⟩ := h1 x hx
        exact ⟨s', by simp [k1], k2⟩
      · intro h1 x hx
        obtain ⟨s', k1, k2, k3⟩ := h1 x hx
        rcases List.mem_cons.1 k1 with rfl | k1
        · exact absurd k2 (hne x hx)
        · exact ⟨s', k1, k2, k3⟩
    · rw [coversS_ge h, Bool.and_eq_true, Bool.and_eq_true, decide_eq_true_iff, holdsP_iff p.pts q.pts (ha.rise p (by simp)) (hb.rise q (by simp)), coversS_iff (p :: a) b ha hb']
      constructor
      · rintro ⟨h1, h2, h3⟩ x hx
        rcases List.mem_cons.1 hx with rfl | hx
        · exact ⟨p, by simp, (cmpLs_ok.zero _ _).1 h1, h2⟩
        · exact h3 x hx
      · intro h1
        obtain ⟨s', k1, k2, k3⟩ := h1 q (by simp)
        have hp : s' = p := by
          rcases List.mem_cons.1 k1 with h2 | h2
          · exact h2
          · have := ha1.1 s' h2
            rw [k2] at this
            exact absurd this h
        subst hp
        exact ⟨(cmpLs_ok.zero _ _).2 k2, k3, fun x hx => h1 x (by simp [hx])⟩
termination_by a b => a.length + b.length
theorem covB_iff {a b : List Ser} (ha : OkL a) (hb : OkL b) : covB' a b = true ↔ CovP a b := by
  unfold covB'
  rw [okS_iff.2 ha, okS_iff.2 hb, Bool.true_and, Bool.true_and]
  exact coversS_iff a b ha.1 hb.1
theorem covB_no {a b : List Ser} (h : ¬ (OkL a ∧ OkL b)) : covB' a b = false := by
  unfold covB'
  rw [Bool.and_eq_false_iff, Bool.and_eq_false_iff]
  by_cases h1 : OkL a
  · right
    left
    rw [Bool.eq_false_iff]
    exact fun h2 => h ⟨h1, okS_iff.1 h2⟩
  · left
    rw [Bool.eq_false_iff]
    exact fun h2 => h1 (okS_iff.1 h2)
theorem covP_refl (a : List Ser) : CovP a a := fun s hs => ⟨s, hs, rfl, fun _ h => h⟩
theorem covP_nil (a : List Ser) : CovP a [] := fun s hs => by cases hs
theorem vs_uniq {a : List Ser} (h : Vs a) {s s' : Ser} (hs : s ∈ a) (hs' : s' ∈ a) (e : s.lbs = s'.lbs) : s = s' := by
  have h1 := (lookS_mem h.sort).2 ⟨hs, e⟩
  have h2 := (lookS_mem h.sort (L := s'.lbs)).2 ⟨hs', rfl⟩
  rw [h1] at h2
  exact Option.some.inj h2
theorem covP_anti {a b : List Ser} (ha : Vs a) (hb : Vs b) (h : CovP a b) (h' : CovP b a) : a = b := by
  have key : ∀ {a b : List Ser}, Vs a → Vs b → CovP a b → CovP b a → ∀ s ∈ a, s ∈ b := by
    intro a b ha hb h h' s hs
    obtain ⟨s1, k1, k2, k3⟩ := h' s hs
    obtain ⟨s2, q1, q2, q3⟩ := h s1 k1
    have e := vs_uniq ha q1 hs (q2.trans k2)
    subst e
    have hp : s2.pts = s1.pts := sorted_ext (fun p q : Ptn => p.1 < q.1) (fun _ => by omega) (fun _ _ _ h1 h2 => Int.lt_trans h1 h2) (ha.rise _ hs) (hb.rise _ k1) fun x => ⟨k3 x, q3 x⟩
    have : s2 = s1 := by
      cases s2
      cases s1
      simp only at hp k2
      rw [hp, k2]
    rw [this]
    exact k1
  exact sorted_ext (fun x y : Ser => cmpLs x.lbs y.lbs < 0) (fun x => cmpLs_ok.irrefl _) (fun _ _ _ h1 h2 => cmpLs_ok.trans _ _ _ h1 h2) ha.sort hb.sort fun s => ⟨key ha hb h h' s, key hb ha h' h s⟩
theorem both_eq {a b : List Ser} (ha : OkL a) (hb : OkL b) : (covB' a b && covB' b a) = eqB a b := by
  rw [Bool.eq_iff_iff, Bool.and_eq_true, covB_iff ha hb, covB_iff hb ha, eqB_iff]
  constructor
  · rintro ⟨h1, h2⟩
    exact covP_anti ha.1 hb.1 h1 h2
  · rintro rfl
    exact ⟨covP_refl _, covP_refl _⟩

/-! ### clips and picks -/
theorem clipS_mem {f t : Int} {ss : List Ser} {s : Ser} : s ∈ clipS f t ss ↔ ∃ x ∈ ss, s = ⟨x.lbs, clipP f t x.pts⟩ ∧ clipP f t x.pts ≠ [] := by
  induction ss with
  | nil => simp [clipS]
  | cons y r ih =>
    rw [clipS]
    split
    · rename_i h
      rw [ih]
      constructor
      · rintro ⟨x, hx, h1⟩
        exact ⟨x, by simp [hx], h1⟩
      · rintro ⟨x, hx, h1, h2⟩
        rcases List.mem_cons.1 hx with rfl | hx
        · exact absurd h h2
        · exact ⟨x, hx, h1, h2⟩
    · rename_i h
      rw [List.mem_cons, ih]
      constructor
      · rintro (h1 | ⟨x, hx, h1⟩)
        · exact ⟨y, by simp, h1, h⟩
        · exact ⟨x, by simp [hx], h1⟩
      · rintro ⟨x, hx, h1, h2⟩
        rcases List.mem_cons.1 hx with rfl | hx
        · exact .inl h1
        · exact .inr ⟨x, hx, h1, h2⟩
theorem clipS_sort {f t : Int} {ss : List Ser} (h : SortS ss) : SortS (clipS f t ss) := by
  induction ss with
  | nil => exact List.Pairwise.nil
  | cons y r ih =>
    have h1 := List.pairwise_cons.1 h
    rw [clipS]
    split
    · exact ih h1.2
    · refine List.pairwise_cons.2 ⟨fun s hs => ?_, ih h1.2⟩
      obtain ⟨x, hx, rfl, _⟩ := clipS_mem.1 hs
      exact h1.1 x hx
theorem clipS_ok {f t : Int} {ss : List Ser} (h : OkL ss) : OkL (clipS f t ss) := ⟨⟨clipS_sort h.1.sort, fun s hs => by
    obtain ⟨x, hx, rfl, _⟩ := clipS_mem.1 hs
    exact (h.1.rise x hx).filter _, fun s hs => by
    obtain ⟨x, hx, rfl, h2⟩ := clipS_mem.1 hs
    exact h2⟩, fun s hs => by
    obtain ⟨x, hx, rfl, _⟩ := clipS_mem.1 hs
    exact h.2 x hx⟩
theorem clipS_cov {f t : Int} {ss : List Ser} : CovP ss (clipS f t ss) := fun s hs => by
  obtain ⟨x, hx, rfl, _⟩ := clipS_mem.1 hs
  exact ⟨x, hx, rfl, fun q hq => (List.mem_filter.1 hq).1⟩
theorem clipS_tot (f t : Int) (ss : List Ser) : tot (clipS f t ss) ≤ tot ss := by
  induction ss with
  | nil => simp [clipS]
  | cons y r ih =>
    rw [clipS]
    split
    · rw [tot_cons]
      omega
    · rw [tot_cons, tot_cons]
      have : (clipP f t y.pts).length ≤ y.pts.length := List.length_filter_le _ _
      dsimp only
      omega
theorem pickS_ok {ms : List Mat} {ss : List Ser} (h : OkL ss) : OkL (pickS ms ss) := ⟨⟨h.1.sort.filter _, fun s hs => h.1.rise s (List.mem_filter.1 hs).1, fun s hs => h.1.some s (List.mem_filter.1 hs).1⟩, fun s hs => h.2 s (List.mem_filter.1 hs).1⟩
theorem pickS_tot (ms : List Mat) (ss : List Ser) : tot (pickS ms ss) ≤ tot ss := by
  induction ss with
  | nil => simp [pickS]
  | cons y r ih =>
    unfold pickS at ih ⊢
    rw [List.filter_cons]
    split
    · rw [tot_cons, tot_cons]
      omega
    · rw [tot_cons]
      omega
/-- what stands at a place, of a clip and of a pick -/
theorem lookP_clip {f t : Int} {ps : List Ptn} (h : Rise ps) (x : Int) : lookP (clipP f t ps) x = if f ≤ x ∧ x ≤ t then lookP ps x else none := by
  have hc : Rise (clipP f t ps) := h.filter _
  have key : ∀ v, lookP (clipP f t ps) x = some v ↔ (if f ≤ x ∧ x ≤ t then lookP ps x else none) = some v := fun v => by
    rw [lookP_mem hc]
    unfold clipP
    rw [List.mem_filter]
    unfold okP
    rw [Bool.and_eq_true, decide_eq_true_iff, decide_eq_true_iff]
    dsimp only
    split
    · rename_i h1
      rw [lookP_mem h]
      simp [h1]
    · rename_i h1
      simp [h1]
  cases h1 : lookP (clipP f t ps) x with
  | some v => exact ((key v).1 h1).symm
  | none =>
    cases h2 : (if f ≤ x ∧ x ≤ t then lookP ps x else none) with
    | none => rfl
    | some v =>
      have := (key v).2 h2
      rw [h1] at this
      cases this
theorem atV_some {ss : List Ser} (h : Vs ss) {L : List Lab} {t : Int} {v : Nat} : atV ss L t = some v ↔ ∃ s ∈ ss, s.lbs = L ∧ (t, v) ∈ s.pts := by
  unfold atV
  constructor
  · intro h1
    cases h2 : lookS ss L with
    | none => rw [h2] at h1; cases h1
    | some s =>
      rw [h2] at h1
      obtain ⟨h3, h4⟩ := (lookS_mem h.sort).1 h2
      exact ⟨s, h3, h4, (lookP_mem (h.rise s h3)).1 h1⟩
  · rintro ⟨s, h1, h2, h3⟩
    rw [(lookS_mem h.sort).2 ⟨h1, h2⟩]
    exact (lookP_mem (h.rise s h1)).2 h3
theorem opt_ext {a b : Option Nat} (h : ∀ v, a = some v ↔ b = some v) : a = b := by
  cases a with
  | some v => exact ((h v).1 rfl).symm
  | none =>
    cases b with
    | none => rfl
    | some v => have := (h v).2 rfl; cases this
theorem atV_clip {f t : Int} {ss : List Ser} (h : OkL ss) (L : List Lab) (x : Int) : atV (clipS f t ss) L x = if f ≤ x ∧ x ≤ t then atV ss L x else none := opt_ext fun v => by
  rw [atV_some (clipS_ok h).1]
  constructor
  · rintro ⟨s, hs, h1, h2⟩
    obtain ⟨y, hy, rfl, _⟩ := clipS_mem.1 hs
    unfold clipP at h2
    rw [List.mem_filter] at h2
    obtain ⟨h2, h3⟩ := h2
    unfold okP at h3
    rw [Bool.and_eq_true, decide_eq_true_iff, decide_eq_true_iff] at h3
    rw [if_pos h3]
    exact (atV_some h.1).2 ⟨y, hy, h1, h2⟩
  · intro h1
    split at h1
    · rename_i h3
      obtain ⟨y, hy, h4, h5⟩ := (atV_some h.1).1 h1
      have hm : (x, v) ∈ clipP f t y.pts := List.mem_filter.2 ⟨h5, by unfold okP; rw [Bool.and_eq_true, decide_eq_true_iff, decide_eq_true_iff]; exact h3⟩
      exact ⟨⟨y.lbs, clipP f t y.pts⟩, clipS_mem.2 ⟨y, hy, rfl, List.ne_nil_of_mem hm⟩, h4, hm⟩
    · cases h1
theorem atV_pick {ms : List Mat} {ss : List Ser} (h : OkL ss) (L : List Lab) (x : Int) : atV (pickS ms ss) L x = if saysB ms L = true then atV ss L x else none := opt_ext fun v => by
  rw [atV_some (pickS_ok h).1]
  constructor
  · rintro ⟨s, hs, h1, h2⟩
    obtain ⟨h3, h4⟩ := List.mem_filter.1 hs
    rw [h1] at h4
    rw [if_pos h4]
    exact (atV_some h.1).2 ⟨s, h3, h1, h2⟩
  · intro h1
    split at h1
    · rename_i h3
      obtain ⟨y, hy, h4, h5⟩ := (atV_some h.1).1 h1
      exact ⟨y, List.mem_filter.2 ⟨hy, by rw [h4]; exact h3⟩, h4, h5⟩
    · cases h1
/-- clipping and picking a merge is merging the clips and picks -/
theorem apart_eq {a b m : List Ser} {ms : List Mat} {f t : Int} (ha : OkL a) (hb : OkL b) (hm : Mrg [a, b] m) : Mrg [pickS ms (clipS f t a), pickS ms (clipS f t b)] (pickS ms (clipS f t m)) := by
  have hmo : OkL m := hm.ok fun x hx => by
    simp only [List.mem_cons, List.not_mem_nil, or_false] at hx
    rcases hx with rfl | rfl
    · exact ha
    · exact hb
  refine ⟨(pickS_ok (clipS_ok hmo)).1, fun L x => ?_⟩
  have hat := hm.at_ L x
  simp only [maxL_cons, maxL_nil, maxO_none] at hat ⊢
  rw [atV_pick (clipS_ok hmo), atV_pick (clipS_ok ha), atV_pick (clipS_ok hb), atV_clip hmo, atV_clip ha, atV_clip hb, hat]
  split
  · split <;> rfl
  · rfl
end Go.Proofs.YtailooldnelecaaGreatDoor

namespace Go.Proofs.YtailooldnelecaaGreatDoor
open Go.RowKit

end Go.Proofs.YtailooldnelecaaGreatDoor

namespace Go.Proofs.YtailooldnelecaaGreatDoor
open Go.RowKit

theorem chkG_val : ∀ {prev : Option ByteArray} {L : List Lab}, chkG prev L = 0 → ∀ x ∈ L, x.2.size ≤ 256
  | _, [], _, x, hx => by cases hx
  | prev, l :: r, h, x, hx => by
    rw [chkG_cons] at h
    split at h
    · cases h
    · split at h
      · cases h
      · split at h
        · cases h
        · rename_i h2 _
          rcases List.mem_cons.1 hx with rfl | hx
          · unfold txtB at h2
            simp at h2
            exact h2.2.1
          · exact chkG_val h x hx
theorem chkL_val {L : List Lab} (h : chkL L = 0) : ∀ x ∈ L, x.2.size ≤ 16777216 := fun x hx => by
  unfold chkL at h
  split at h
  · cases h
  · have := chkG_val h x hx
    omega
/-- matchers that came in -/
structure InMa (w : World) (M : Option Addr) (n c : Nat) (mt : List Mat) : Prop where
  re : RE elMa w M n mt
  cap : n ≤ c ∧ c ≤ 9223372036854775807
  val : ∀ x ∈ mt, x.2.2.size ≤ 16777216
theorem InMa.grew {w w' : World} {M : Option Addr} {n c : Nat} {mt : List Mat} (h : InMa w M n c mt) (hg : Grew w w') : InMa w' M n c mt := ⟨h.re.grew hg, h.cap, h.val⟩
end Go.Proofs.YtailooldnelecaaGreatDoor

namespace Go.Proofs.YtailooldnelecaaGreatDoor
open Go.RowKit

/-- what the document's At answers -/
def AtRes (o : Option Nat) : Value := .tuple #[.int .u64 ((o.getD 0 : Nat) : Int), .bool o.isSome]
theorem atV_none {ss : List Ser} (h : Vs ss) {L : List Lab} {t : Int} (hn : ∀ s ∈ ss, s.lbs = L → ∀ p ∈ s.pts, p.1 ≠ t) : atV ss L t = none := opt_ext fun v => by
  rw [atV_some h]
  constructor
  · rintro ⟨s, h1, h2, h3⟩
    exact absurd rfl (hn s h1 h2 _ h3)
  · intro h
    cases h
end Go.Proofs.YtailooldnelecaaGreatDoor

namespace Go.Proofs.YtailooldnelecaaGreatDoor
open Go.RowKit

theorem two_of {oa ob : Option Nat} {v : Nat} (h : maxO oa ob = some v) : (oa = some v ∧ ob = none) ∨ (oa = none ∧ ob = some v) ∨ (∃ y, oa = some v ∧ ob = some y ∧ y ≤ v) ∨ ∃ x, oa = some x ∧ ob = some v ∧ x < v := by
  cases oa with
  | none =>
    cases ob with
    | none => cases h
    | some y => exact .inr (.inl ⟨rfl, h⟩)
  | some x =>
    cases ob with
    | none => exact .inl ⟨h, rfl⟩
    | some y =>
      have h1 : max x y = v := Option.some.inj h
      by_cases hxy : y ≤ x
      · exact .inr (.inr (.inl ⟨y, by rw [Nat.max_eq_left hxy] at h1; rw [h1], rfl, by omega⟩))
      · exact .inr (.inr (.inr ⟨x, rfl, by rw [Nat.max_eq_right (by omega)] at h1; rw [h1], by omega⟩))
theorem two_cases {oa ob : Option Nat} {v : Nat} (h : maxO oa ob = some v) : ∃ (x : Nat) (one : Bool) (y : Nat) (two : Bool), AtRes oa = .tuple #[.int .u64 (x : Int), .bool one] ∧ AtRes ob = .tuple #[.int .u64 (y : Int), .bool two] ∧
    ((one = true ∧ x = v ∧ two = false) ∨ (one = false ∧ two = true ∧ y = v) ∨ (one = true ∧ x = v ∧ two = true ∧ y ≤ v) ∨ (one = true ∧ x < v ∧ two = true ∧ y = v)) := by
  rcases two_of h with ⟨rfl, rfl⟩ | ⟨rfl, rfl⟩ | ⟨y, rfl, rfl, hy⟩ | ⟨x, rfl, rfl, hx⟩
  · exact ⟨v, true, 0, false, rfl, rfl, .inl ⟨rfl, rfl, rfl⟩⟩
  · exact ⟨0, false, v, true, rfl, rfl, .inr (.inl ⟨rfl, rfl, rfl⟩)⟩
  · exact ⟨v, true, y, true, rfl, rfl, .inr (.inr (.inl ⟨rfl, rfl, rfl, hy⟩))⟩
  · exact ⟨x, true, v, true, rfl, rfl, .inr (.inr (.inr ⟨rfl, hx, rfl, rfl⟩))⟩
theorem great_at {a b m : List Ser} (h : Mrg [a, b] m) {s : Ser} {p : Ptn} (hs : s ∈ m) (hp : p ∈ s.pts) : maxO (atV a s.lbs p.1) (atV b s.lbs p.1) = some p.2 := by
  have h1 := h.at_ s.lbs p.1
  simp only [maxL_cons, maxL_nil, maxO_none] at h1
  rw [← h1]
  exact (atV_some h.vs).2 ⟨s, hs, rfl, hp⟩
theorem great_in {a b m y : List Ser} (h : Mrg [a, b] m) (ha : Vs a) (hb : Vs b) (hy : y = a ∨ y = b) {s : Ser} {p : Ptn} (hs : s ∈ y) (hp : p ∈ s.pts) : ∃ v, atV m s.lbs p.1 = some v := by
  have h1 := h.at_ s.lbs p.1
  simp only [maxL_cons, maxL_nil, maxO_none] at h1
  rcases hy with rfl | rfl
  · have h2 : atV y s.lbs p.1 = some p.2 := (atV_some ha).2 ⟨s, hs, rfl, hp⟩
    rw [h2] at h1
    cases hb2 : atV b s.lbs p.1 with
    | none => rw [hb2] at h1; exact ⟨_, h1⟩
    | some z => rw [hb2] at h1; exact ⟨_, h1⟩
  · have h2 : atV y s.lbs p.1 = some p.2 := (atV_some hb).2 ⟨s, hs, rfl, hp⟩
    rw [h2] at h1
    cases ha2 : atV a s.lbs p.1 with
    | none => rw [ha2] at h1; exact ⟨_, h1⟩
    | some z => rw [ha2] at h1; exact ⟨_, h1⟩

end Go.Proofs.YtailooldnelecaaGreatDoor
