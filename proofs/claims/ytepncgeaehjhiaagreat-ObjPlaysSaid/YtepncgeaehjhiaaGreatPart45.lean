/-
  Several texts in one:
  Two stores side by side: slices, the arming, what is read, alike. Conditions: counts far from their ends.
  Two stores side by side: puts and deletions answered alike. Conditions: counts far from their ends.
-/
import Derived.Test.YtepncgeaehjhiaaGreatPart44

namespace Go.Proofs.YtepncgeaehjhiaaGreat
open Go.RowKit

section
variable {B B' : Nat → Prop} {S R : Nat → Prop} {w0 w w' : World} {d s wb sb m : Nat} {Ob : List OEnt} {E : List FEnt} {clock : Nat} {kp : Int} {n q : Nat} {armed up : Bool} {left leftR : Int} {t : Option ByteArray}

/-- both answer the same bytes, or none -/
theorem both_slice (h : Play B w d s wb sb q true) (x : ByteArray) (a z : Int) :
    ∃ (l : List UInt8) (er : Nat), l.length ≤ 1048576 ∧ Calls Tryz.prog 25 #[.pointer (some ⟨s, 0, none⟩), .string x, .int .i64 a, .int .i64 z] w fun e w1 => ∃ A c, e = .returned (.tuple #[.slice A l.length c, .int .i64 (er : Int)]) ∧ OB w1 w.heap.size 5 A l.length c l ∧ Grew w w1 ∧
      ∀ w2, Grew w1 w2 → Calls Tryz.prog 26 #[.pointer (some ⟨sb, 0, none⟩), .string x, .int .i64 a, .int .i64 z] w2 fun e w' => ∃ A c, e = .returned (.tuple #[.slice A l.length c, .int .i64 (er : Int)]) ∧ RB w' A l.length l ∧ Grew w2 w' := by
  obtain ⟨S, R, Ob, kp, n, hc, h1⟩ := h
  rw [if_pos rfl] at h1
  obtain ⟨armed, left, leftR, ⟨m, E, clock, hs⟩, ⟨V, hr0⟩, heq, l1, l2, hlen⟩ := h1
  have nilR : ∀ w', RB w' none 0 [] := fun w' => ⟨rfl, Rd.nil _ _⟩
  cases hx : keyB x with
  | false =>
    refine ⟨[], 110, Nat.zero_le _, (slice_no x hx _ a z w).mono ?_⟩
    rintro e w1 ⟨rfl, rfl⟩
    refine ⟨none, 0, rfl, Own.nil _ _ _ _, Chg.refl _ _, fun w2 g2 => (rSlice_bad x hx _ a z w2).mono ?_⟩
    rintro e w' ⟨rfl, g3⟩
    exact ⟨none, 0, rfl, nilR _, g3⟩
  | true =>
  cases hl : lookO Ob x with
  | none =>
    refine ⟨[], 111, Nat.zero_le _, (slice_none hs x hx hl a z).mono ?_⟩
    rintro e w1 ⟨rfl, rfl⟩
    refine ⟨none, 0, rfl, Own.nil _ _ _ _, Chg.refl _ _, fun w2 g2 => (rSlice_none (hr0.grew g2) x hx hl a z).mono ?_⟩
    rintro e w' ⟨rfl, g3⟩
    exact ⟨none, 0, rfl, nilR _, g3⟩
  | some o =>
  have ho := (hs.ok o (List.mem_of_find?_eq_some hl)).data
  cases hb : sliceB a z o.data.length with
  | false =>
    refine ⟨[], 113, Nat.zero_le _, (slice_out hs x hx hl a z hb).mono ?_⟩
    rintro e w1 ⟨rfl, g1⟩
    refine ⟨none, 0, rfl, Own.nil _ _ _ _, g1, fun w2 g2 => (rSlice_out (hr0.grew (g1.trans g2)) x hx hl a z hb).mono ?_⟩
    rintro e w' ⟨rfl, g3⟩
    exact ⟨none, 0, rfl, nilR _, g3⟩
  | true =>
    unfold sliceB at hb
    simp only [Bool.and_eq_true, decide_eq_true_eq] at hb
    obtain ⟨⟨h1, h2⟩, h3⟩ := hb
    obtain ⟨a', rfl⟩ := Int.eq_ofNat_of_zero_le h1
    obtain ⟨z', rfl⟩ := Int.eq_ofNat_of_zero_le (Int.le_trans h1 h2)
    have hll : ((o.data.drop a').take (z' - a')).length = z' - a' := by rw [List.length_take, List.length_drop]; omega
    refine ⟨(o.data.drop a').take (z' - a'), 0, by omega, ?_⟩
    rw [hll]
    refine (slice_ok hs x hx hl a' z' (by omega) (by omega)).mono ?_
    rintro e w1 ⟨A, c, rfl, h4, g1⟩
    refine ⟨A, c, rfl, h4, g1, fun w2 g2 => (rSlice_ok (hr0.grew (g1.trans g2)) x hx hl a' z' (by omega) (by omega) ho).mono ?_⟩
    rintro e w' ⟨A2, c2, rfl, h5, g3⟩
    exact ⟨A2, c2, rfl, h5, g3⟩

theorem both_arm (hc : Com B S R w0 d s wb sb Ob kp n q) (hu : UpS S R w0 d s wb sb Ob kp n armed left leftR) (k kp' : Int) (hk : Rng k) (hkp : kp' ≤ 9223372036854775807) (g : Grew w0 w) :
    Calls Tryz.prog 31 #[.pointer (some ⟨d, 0, none⟩), .int .i64 k, .int .i64 kp'] w fun e w1 => e = .returned (.tuple #[]) ∧ Chg S w w1 ∧
      ∀ w2, Grew w1 w2 → Calls Tryz.prog 32 #[.pointer (some ⟨wb, 0, none⟩), .int .i64 k, .int .i64 kp'] w2 fun e w' => e = .returned (.tuple #[]) ∧ Chg R w2 w' ∧ Play (More B w0 w) w' d s wb sb (q + 3) true := by
  obtain ⟨⟨m, E, clock, hs⟩, ⟨V, hr0⟩, heq, l1, l2, hlen⟩ := hu
  have hs0 := hs.grew g
  refine (arm_int hs0.fs.dsk k kp').mono ?_
  rintro e w1 ⟨rfl, hD, c1⟩
  have c1S := chg_d hs0.fs.dsk.od c1
  refine ⟨rfl, c1S, fun w2 g2 => ?_⟩
  have hrw : RSt R w2 sb wb Ob armed leftR kp n V := ((hr0.grew g).chg c1S hc.bS fun k e1 e2 => hc.ap k e2 e1).grew g2
  refine (rArm_any hrw.rf k kp').mono ?_
  rintro e w' ⟨rfl, hrc⟩
  have hU := hrw.up hrc hrw.so hrw.pe hrw.ok
  have hU0 := hU
  obtain ⟨R', V', _, _, _, h6⟩ := hU0
  exact ⟨rfl, h6, play_up (hc.old.grew g) (B' := More B w0 w) (fun k e => .inl e) (fun k e => .inr e) (S1 := S) (fun k e => .inl e) ⟨m, E, clock, ⟨hs0.st.chg c1S hc.sS, hs0.sn, hs0.fs.redo hD c1, hs0.vw, hs0.ok⟩⟩ c1S g2 hU hkp (by have := hc.nq; omega) (fun o ho => by have := hc.gen o ho; omega) (fun e => ⟨rfl, of_decide_eq_true e⟩) hk hk hlen⟩

/-! ### what is read -/
theorem both_get (h : Play B w d s wb sb q up) (x : ByteArray) :
    ∃ (l : List UInt8) (gn er : Nat), l.length ≤ 1048576 ∧ Calls Tryz.prog 33 #[.pointer (some ⟨s, 0, none⟩), .string x] w fun e w1 => ∃ A c, e = .returned (.tuple #[.slice A l.length c, .int .u64 (gn : Int), .int .i64 (er : Int)]) ∧ RB w1 A l.length l ∧ Grew w w1 ∧
      ∀ w2, Grew w1 w2 → Calls Tryz.prog 34 #[.pointer (some ⟨sb, 0, none⟩), .string x] w2 fun e w' => ∃ A c, e = .returned (.tuple #[.slice A l.length c, .int .u64 (gn : Int), .int .i64 (er : Int)]) ∧ RB w' A l.length l ∧ Grew w2 w' := by
  have nilR : ∀ w', RB w' none 0 [] := fun w' => ⟨rfl, Rd.nil _ _⟩
  cases hx : keyB x with
  | false =>
    refine ⟨[], 0, 110, Nat.zero_le _, (get_no x hx _ w).mono ?_⟩
    rintro e w1 ⟨rfl, rfl⟩
    refine ⟨none, 0, rfl, nilR _, Chg.refl _ _, fun w2 g2 => (rGet_bad x hx _ w2).mono ?_⟩
    rintro e w' ⟨rfl, g3⟩
    exact ⟨none, 0, rfl, nilR _, g3⟩
  | true =>
  obtain ⟨S, R, Ob, kp, n, hc, h1⟩ := h
  cases up with
  | false =>
    rw [if_neg (by simp)] at h1
    obtain ⟨t, ⟨m, E1, F, clock, left, hf, _⟩, ⟨V, lr, hr, _⟩, _, _⟩ := h1
    refine ⟨[], 0, 60, Nat.zero_le _, (get_off hf hc.st x hx).mono ?_⟩
    rintro e w1 ⟨rfl, rfl⟩
    refine ⟨none, 0, rfl, nilR _, Chg.refl _ _, fun w2 g2 => (rGet_off (hr.grew g2) (hc.rt.grew g2) x hx).mono ?_⟩
    rintro e w' ⟨rfl, g3⟩
    exact ⟨none, 0, rfl, nilR _, g3⟩
  | true =>
    rw [if_pos rfl] at h1
    obtain ⟨armed, left, leftR, ⟨m, E, clock, hs⟩, ⟨V, hr0⟩, heq, l1, l2, hlen⟩ := h1
    have hP := get_any hs x hx
    have hQ := fun w2 (g2 : Grew w w2) => rGet_any (hr0.grew g2) x hx
    unfold ReadTo at hP
    unfold GotR at hQ
    cases hl : lookO Ob x with
    | none =>
      rw [hl] at hP hQ
      simp only at hP hQ
      refine ⟨[], 0, 111, Nat.zero_le _, hP.mono ?_⟩
      rintro e w1 ⟨rfl, rfl⟩
      refine ⟨none, 0, rfl, nilR _, Chg.refl _ _, fun w2 g2 => (hQ w2 g2).mono ?_⟩
      rintro e w' ⟨rfl, g3⟩
      exact ⟨none, 0, rfl, nilR _, g3⟩
    | some o =>
      rw [hl] at hP hQ
      simp only at hP hQ
      refine ⟨o.data, o.gen, 0, (hs.ok o (List.mem_of_find?_eq_some hl)).data, hP.mono ?_⟩
      rintro e w1 ⟨A, c, rfl, hr, _, _, g1⟩
      refine ⟨A, c, rfl, hr, g1, fun w2 g2 => (hQ w2 (g1.trans g2)).mono ?_⟩
      rintro e w' ⟨A2, c2, rfl, hr2, g3⟩
      exact ⟨A2, c2, rfl, ⟨rfl, hr2.rd⟩, g3⟩
theorem both_list (h : Play B w d s wb sb q up) :
    ∃ K : List ByteArray, K.length ≤ 1048576 ∧ Calls Tryz.prog 36 #[.pointer (some ⟨s, 0, none⟩), .string ⟨#[]⟩] w fun e w1 => ∃ A c, e = .returned (.slice A K.length c) ∧ RE elNm w1 A K.length K ∧ Grew w w1 ∧
      ∀ w2, Grew w1 w2 → Calls Tryz.prog 37 #[.pointer (some ⟨sb, 0, none⟩), .string ⟨#[]⟩] w2 fun e w' => ∃ A c, e = .returned (.slice A K.length c) ∧ RE elNm w' A K.length K ∧ Grew w2 w' := by
  have nilR : ∀ w', RE elNm w' none 0 [] := fun w' => by
    have : OE elNm w' 0 9 none 0 0 [] := OE.nil _ _ _
    exact this.re (by decide)
  obtain ⟨S, R, Ob, kp, n, hc, h1⟩ := h
  cases up with
  | false =>
    rw [if_neg (by simp)] at h1
    obtain ⟨t, ⟨m, E1, F, clock, left, hf, _⟩, ⟨V, lr, hr, _⟩, _, _⟩ := h1
    refine ⟨[], by simp, (olist_off hf hc.st).mono ?_⟩
    rintro e w1 ⟨rfl, rfl⟩
    refine ⟨none, 0, rfl, nilR _, Chg.refl _ _, fun w2 g2 => (rStoreList_off (hr.grew g2) (hc.rt.grew g2)).mono ?_⟩
    rintro e w' ⟨rfl, g3⟩
    exact ⟨none, 0, rfl, nilR _, g3⟩
  | true =>
    rw [if_pos rfl] at h1
    obtain ⟨armed, left, leftR, ⟨m, E, clock, hs⟩, ⟨V, hr0⟩, heq, l1, l2, hlen⟩ := h1
    refine ⟨keysO Ob ⟨#[]⟩, Nat.le_trans (keysO_len Ob _) hlen, (olist_any hs (by rw [hs.len]; exact hlen) ⟨#[]⟩ (Nat.zero_le _)).mono ?_⟩
    rintro e w1 ⟨A, c, rfl, hr, g1⟩
    refine ⟨A, c, rfl, hr.re (by decide), g1, fun w2 g2 => (rStoreList (hr0.grew (g1.trans g2)) hlen).mono ?_⟩
    rintro e w' ⟨A2, c2, rfl, hr2, g3⟩
    exact ⟨A2, c2, rfl, hr2.re (by decide), g3⟩
theorem both_num (h : Play B w d s wb sb q up) :
    ∃ n : Nat, Calls Tryz.prog 7 #[.pointer (some ⟨d, 0, none⟩)] w (fun e w' => e = .returned (.bool up) ∧ w = w') ∧ Calls Tryz.prog 38 #[.pointer (some ⟨d, 0, none⟩)] w (fun e w' => e = .returned (.int .u64 (n : Int)) ∧ w = w') ∧
      w.cell? ⟨sb, 0, none⟩ = some (.pointer (some ⟨wb, 0, none⟩)) ∧ w.cell? ⟨wb, 1, none⟩ = some (.bool (!up)) ∧ w.cell? ⟨wb, 5, none⟩ = some (.int .u64 (n : Int)) := by
  obtain ⟨S, R, Ob, kp, n, hc, h1⟩ := h
  cases up with
  | false =>
    rw [if_neg (by simp)] at h1
    obtain ⟨t, ⟨m, E1, F, clock, left, hf, _⟩, ⟨V, lr, ⟨A, k, c, ms, hr⟩, _⟩, _, _⟩ := h1
    exact ⟨n, up_any hf.dsk, writes_any hf.dsk, hc.rt.cell 0, hr.hd.cell 1, hr.hd.cell 5⟩
  | true =>
    rw [if_pos rfl] at h1
    obtain ⟨armed, left, leftR, ⟨m, E, clock, hs⟩, ⟨V, hr0⟩, heq, l1, l2, hlen⟩ := h1
    obtain ⟨A, k, c, ms, hr⟩ := hr0.rf
    exact ⟨n, up_any hs.fs.dsk, writes_any hs.fs.dsk, hc.rt.cell 0, hr.hd.cell 1, hr.hd.cell 5⟩
end
end Go.Proofs.YtepncgeaehjhiaaGreat

namespace Go.Proofs.YtepncgeaehjhiaaGreat
open Go.RowKit

section
variable {B B' : Nat → Prop} {S R : Nat → Prop} {w0 w w' : World} {d s wb sb m : Nat} {Ob : List OEnt} {E : List FEnt} {clock : Nat} {kp : Int} {n q : Nat} {armed up : Bool} {left leftR : Int} {t : Option ByteArray}

/-- two calls, the program's and the document's, answered alike -/
def Two (S B : Nat → Prop) (w0 : World) (d s wb sb q : Nat) (f1 f2 : Nat) (x : ByteArray) (k : Nat) (data : List UInt8) (zs : List Value) : Prop :=
  ∃ g er : Nat, ∀ w A c, Grew w0 w → RB w A k data → Calls Tryz.prog f1 (#[.pointer (some ⟨s, 0, none⟩), .string x, .slice A k c] ++ zs.toArray) w fun e w1 => e = .returned (.tuple #[.int .u64 (g : Int), .int .i64 (er : Int)]) ∧ Chg S w w1 ∧
    ∀ w2 A2 c2, Grew w1 w2 → RB w2 A2 k data → Calls Tryz.prog f2 (#[.pointer (some ⟨sb, 0, none⟩), .string x, .slice A2 k c2] ++ zs.toArray) w2 fun e w' => e = .returned (.tuple #[.int .u64 (g : Int), .int .i64 (er : Int)]) ∧ Chg (fun j => B j ∧ j < w0.heap.size) w2 w' ∧ ∃ up, Play (More B w0 w) w' d s wb sb (q + 3) up
theorem Com.cS {T : Nat → Prop} (h : Com B S R w0 d s wb sb Ob kp n q) (hT : ∀ k, T k → S k) {w1 w2 : World} (c : Chg T w1 w2) : Chg (fun j => B j ∧ j < w0.heap.size) w1 w2 := c.mono fun k _ e => ⟨h.Sb k (hT k e), h.Sl k (hT k e)⟩
theorem Com.cR (h : Com B S R w0 d s wb sb Ob kp n q) {w1 w2 : World} (c : Chg R w1 w2) : Chg (fun j => B j ∧ j < w0.heap.size) w1 w2 := c.mono fun k _ e => ⟨h.Rb k e, h.Rl k e⟩
theorem chg_none {T : Nat → Prop} {w1 w2 : World} (c : Grew w1 w2) : Chg T w1 w2 := Chg.of_grew c
theorem may_split (x : ByteArray) (k : Nat) : 0 < mayC x k ∨ (keyB x = true ∧ k ≤ 1048576) := by
  unfold mayC
  cases h : keyB x with
  | false => left; simp
  | true =>
    by_cases h2 : k ≤ 1048576
    · exact .inr ⟨rfl, h2⟩
    · left
      rw [if_neg (by simp), if_pos (by omega)]
      omega
theorem set_len_lt {Ob : List OEnt} (o : OEnt) (h : Ob.length < 1048576) : (setO Ob o).length ≤ 1048576 := by have := setO_len Ob o; omega

theorem play_of (hc : Com B S R w0 d s wb sb Ob kp n q) (hu : UpS S R w0 d s wb sb Ob kp n armed left leftR) : Play B w0 d s wb sb q true := by
  refine ⟨S, R, Ob, kp, n, hc, ?_⟩
  rw [if_pos rfl]
  exact ⟨armed, left, leftR, hu⟩
theorem both_put_no {S : Nat → Prop} (h : Play B w0 d s wb sb q true) (x : ByteArray) (k : Nat) (data : List UInt8) (hm : 0 < mayC x k) :
    Two S B w0 d s wb sb q 20 21 x k data [] := by
  refine ⟨0, mayC x k, fun w A c g hr => (put_no x A k c hm _ w).mono ?_⟩
  rintro e w1 ⟨rfl, rfl⟩
  refine ⟨rfl, Chg.refl _ _, fun w2 A2 c2 g2 hr2 => (rPut_bad x A2 k c2 hm _ w2).mono ?_⟩
  rintro e w' ⟨rfl, g3⟩
  exact ⟨rfl, Chg.of_grew g3, true, h.stay (g.trans (g2.trans g3))⟩
theorem both_put (hc : Com B S R w0 d s wb sb Ob kp n q) (hu : UpS S R w0 d s wb sb Ob kp n armed left leftR) (hq : q ≤ 100000000000000000) (x : ByteArray) (k : Nat) (data : List UInt8) :
    Two S B w0 d s wb sb q 20 21 x k data [] := by
  rcases may_split x k with hm | ⟨hx, hk⟩
  · exact both_put_no (play_of hc hu) x k data hm
  have hu0 := play_of hc hu
  obtain ⟨⟨m, E, clock, hs⟩, ⟨V, hr0⟩, heq, l1, l2, hlen⟩ := hu
  have hnq := hc.nq
  have hg : genO Ob x ≤ q := by
    unfold genO
    cases hl : lookO Ob x with
    | none => exact Nat.zero_le _
    | some o => exact hc.gen o (List.mem_of_find?_eq_some hl)
  have ggo : ∀ o ∈ setO Ob ⟨x, data, genO Ob x + 1⟩, o.gen ≤ q + 3 := fun o ho => by
    rcases setO_mem ho with rfl | ho
    · show genO Ob x + 1 ≤ q + 3
      omega
    · have := hc.gen o ho
      omega
  by_cases hfull : 1048576 ≤ Ob.length
  · refine ⟨0, 63, fun w A c g hr => (put_full (hs.grew g) hfull (by omega) x hx (by omega) A k c data hr hk).mono ?_⟩
    rintro e w1 ⟨rfl, g1⟩
    refine ⟨rfl, Chg.of_grew g1, fun w2 A2 c2 g2 hr2 => (rPut_full (hr0.grew ((g.trans g1).trans g2)) l2 (by omega) hc.kl x hx (by omega) A2 k c2 data hr2 hk hfull).mono ?_⟩
    rintro e w' ⟨rfl, g3⟩
    have gg := ((g.trans g1).trans g2).trans g3
    exact ⟨rfl, Chg.of_grew g3, true, hu0.stay gg⟩
  have hfull : Ob.length < 1048576 := by omega
  by_cases hcut : armed = true ∧ left ≤ 2
  · obtain ⟨ha, hl2⟩ := hcut
    subst ha
    obtain ⟨hlr, hl0⟩ := heq rfl
    obtain ⟨L, rfl⟩ := Int.eq_ofNat_of_zero_le hl0
    have hL : L ≤ 2 := by omega
    refine ⟨0, 60, fun w A c g hr => (put_cut L (hs.grew g) hL (by omega) hc.kl hfull x hx (by omega) A k c data hr hk).mono ?_⟩
    rintro e w1 ⟨rfl, ⟨f, E1, cl1, n1, hfn, hF, hn1, hv1⟩, c1⟩
    refine ⟨rfl, c1, fun w2 A2 c2 g2 hr2 => ?_⟩
    have hrw : RSt R w2 sb wb Ob true leftR kp n V := ((hr0.grew g).chg c1 hc.bS fun k e1 e2 => hc.ap k e2 e1).grew g2
    have hpf : PF (Up S w) w1 d Ob kp (n + L + 1) false (some x) := ⟨m, E1, [f], cl1, 0, hn1 ▸ hF, hv1, by simp [hfn], by unfold Rng; omega⟩
    have fin : ∀ w', DownR R w2 wb Ob (some x) kp (n + L + 1) w' → Chg (fun j => B j ∧ j < w0.heap.size) w2 w' ∧ ∃ up, Play (More B w0 w) w' d s wb sb (q + 3) up := by
      intro w' hd
      have hd0 := hd
      obtain ⟨V', left', _, _, _, R', _, _, _, h6, _⟩ := hd0
      exact ⟨hc.cR h6, false, play_down (hc.old.grew g) (B' := More B w0 w) (fun k e => .inl e) (fun k e => .inr e) (S1 := Up S w) (fun k e => e) hpf c1 g2 hd hc.kl (by omega) (by omega) (fun y e => by injection e with e; rw [← e]; exact hx) (by simp; omega) rfl⟩
    rcases (show L = 0 ∨ L = 1 ∨ L = 2 by omega) with rfl | rfl | rfl
    · refine (rPut_cut0 hrw l2 (by omega) hc.kl x hx (by omega) A2 k c2 data hr2 hk hfull rfl hlr).mono ?_
      rintro e w' ⟨rfl, hd⟩
      exact ⟨rfl, fin w' hd⟩
    · refine (rPut_cut1 hrw l2 (by omega) hc.kl x hx (by omega) A2 k c2 data hr2 hk hfull rfl hlr).mono ?_
      rintro e w' ⟨rfl, hd⟩
      exact ⟨rfl, fin w' hd⟩
    · refine (rPut_cut2 hrw l2 (by omega) hc.kl x hx (by omega) A2 k c2 data hr2 hk hfull rfl hlr).mono ?_
      rintro e w' ⟨rfl, hd⟩
      exact ⟨rfl, fin w' hd⟩
  · have h3 : armed = true → 3 ≤ left := fun e => by
      have := Int.not_le.1 fun h => hcut ⟨e, h⟩
      omega
    refine ⟨genO Ob x + 1, 0, fun w A c g hr => (put_ok (hs.grew g) (fun j hj => ⟨fun e => ?_, dclN_rng l1 j, by omega⟩) hfull x hx (by omega) A k c data hr hk).mono ?_⟩
    · have h4 := h3 e
      have e1 := dcl_pos (z := left) (by omega)
      have e2 := dcl_pos (z := left - 1) (by omega)
      rcases (show j = 0 ∨ j = 1 ∨ j = 2 by omega) with rfl | rfl | rfl
      · show left ≠ 0
        omega
      · show dcl left ≠ 0
        omega
      · show dcl (dcl left) ≠ 0
        rw [e1]
        omega
    rintro e w1 ⟨rfl, ⟨E1, cl1, hS1⟩, c1⟩
    refine ⟨rfl, c1, fun w2 A2 c2 g2 hr2 => ?_⟩
    have hrw : RSt R w2 sb wb Ob armed leftR kp n V := ((hr0.grew g).chg c1 hc.bS fun k e1 e2 => hc.ap k e2 e1).grew g2
    refine (rPut_ok hrw l2 (by omega) hc.kl x hx (by omega) A2 k c2 data hr2 hk hfull fun e => by have := h3 e; have := (heq e).1; omega).mono ?_
    rintro e w' ⟨rfl, left', hl', hlr, hU⟩
    have hU0 := hU
    obtain ⟨R', V', _, _, _, h6⟩ := hU0
    refine ⟨rfl, hc.cR h6, true, play_up (hc.old.grew g) (B' := More B w0 w) (fun k e => .inl e) (fun k e => .inr e) (S1 := Up S w) (fun k e => e) ⟨m, E1, cl1, hS1⟩ c1 g2 hU hc.kl (by omega) ggo (fun e => ?_) (dcl_rng (dcl_rng (dcl_rng l1))) hlr (set_len_lt _ hfull)⟩
    have h4 := h3 e
    have h5 := hl' e
    have h6 := (heq e).1
    rw [dcl_pos (z := left) (by omega), dcl_pos (z := left - 1) (by omega), dcl_pos (z := left - 1 - 1) (by omega)]
    omega

theorem both_putIf (hc : Com B S R w0 d s wb sb Ob kp n q) (hu : UpS S R w0 d s wb sb Ob kp n armed left leftR) (hq : q ≤ 100000000000000000) (x : ByteArray) (k : Nat) (data : List UInt8) (gn : Nat) :
    Two S B w0 d s wb sb q 22 23 x k data [.int .u64 (gn : Int)] := by
  have hp := play_of hc hu
  rcases may_split x k with hm | ⟨hx, hk⟩
  · refine ⟨0, mayC x k, fun w A c g hr => (putIf_bad x A k c hm _ _ w).mono ?_⟩
    rintro e w1 ⟨rfl, rfl⟩
    refine ⟨rfl, Chg.refl _ _, fun w2 A2 c2 g2 hr2 => (rPutIf_bad x A2 k c2 hm _ _ w2).mono ?_⟩
    rintro e w' ⟨rfl, g3⟩
    exact ⟨rfl, Chg.of_grew g3, true, hp.stay (g.trans (g2.trans g3))⟩
  obtain ⟨g0, er, hP⟩ := both_put hc hu hq x k data
  obtain ⟨⟨m, E, clock, hs⟩, ⟨V, hr0⟩, heq, l1, l2, hlen⟩ := hu
  by_cases hg : genO Ob x = gn
  · subst hg
    refine ⟨g0, er, fun w A c g hr => (putIf_yes (r0 := .int .u64 (g0 : Int)) (r1 := .int .i64 (er : Int)) (hs.grew g) x hx A k c hk (Q := fun w1 w' => Chg S w1 w' ∧ ∀ w2 A2 c2, Grew w' w2 → RB w2 A2 k data → Calls Tryz.prog 21 #[.pointer (some ⟨sb, 0, none⟩), .string x, .slice A2 k c2] w2 fun e w' => e = .returned (.tuple #[.int .u64 (g0 : Int), .int .i64 (er : Int)]) ∧ Chg (fun j => B j ∧ j < w0.heap.size) w2 w' ∧ ∃ up, Play (More B w0 w1) w' d s wb sb (q + 3) up) fun w1 g1 => hP w1 A c (g.trans g1) (hr.grew g1)).mono ?_⟩
    rintro e w1 ⟨rfl, wa, ga, c1, hI⟩
    refine ⟨rfl, (Chg.of_grew ga).trans c1, fun w2 A2 c2 g2 hr2 => (rPutIf_yes (r0 := .int .u64 (g0 : Int)) (r1 := .int .i64 (er : Int)) (((hr0.grew (g.trans ga)).chg c1 hc.bS fun k e1 e2 => hc.ap k e2 e1).grew g2) x hx A2 k c2 hk (Q := fun w1 w' => Chg (fun j => B j ∧ j < w0.heap.size) w1 w' ∧ ∃ up, Play (More B w0 wa) w' d s wb sb (q + 3) up) fun w3 g3 => hI w3 A2 c2 (g2.trans g3) (hr2.grew g3)).mono ?_⟩
    rintro e w' ⟨rfl, w3, g3, c3, up, hu⟩
    exact ⟨rfl, (Chg.of_grew g3).trans c3, up, hu.mono fun k e1 _ => e1.imp id fun e => Nat.le_trans ga.size e⟩
  · refine ⟨genO Ob x, 112, fun w A c g hr => (putIf_no (hs.grew g) x hx A k c hk gn hg).mono ?_⟩
    rintro e w1 ⟨rfl, g1⟩
    refine ⟨rfl, Chg.of_grew g1, fun w2 A2 c2 g2 hr2 => (rPutIf_no (hr0.grew ((g.trans g1).trans g2)) x hx A2 k c2 hk gn hg).mono ?_⟩
    rintro e w' ⟨rfl, g3⟩
    exact ⟨rfl, Chg.of_grew g3, true, hp.stay (((g.trans g1).trans g2).trans g3)⟩
end
end Go.Proofs.YtepncgeaehjhiaaGreat
