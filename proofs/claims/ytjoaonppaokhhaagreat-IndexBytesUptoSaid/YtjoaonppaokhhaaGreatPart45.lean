/-
  Several texts in one:
  Rows of IDs written over. Conditions: lengths that memory bears.
  The document's (tidewrackref14.Mark) where it refuses. Conditions: lengths that a slice has.
  Arguments that came in, opened: an index, a block's meta. Conditions: none.
-/
import Derived.Test.YtjoaonppaokhhaaGreatPart44
import Derived.Test.YtjoaonppaokhhaaGreatPart3
import Derived.Test.YtjoaonppaokhhaaGreatPart2
import Derived.Test.YtjoaonppaokhhaaGreatPart32
import Derived.Test.YtjoaonppaokhhaaGreatPart14

namespace Go.Proofs.YtjoaonppaokhhaaGreat
open Go.RowKit

set_option maxHeartbeats 800000 in
theorem spoilIds_any (A : Option Addr) (n c : Nat) (l : List Nat) (base : Nat) (w : World) (h : OE elU w base 22 A n c l) (hbase : base ≤ w.heap.size) (hn : n ≤ 17592186043904) :
    Calls Tryz.prog 49 #[.slice A n c] w fun e w' => e = .returned (.tuple #[]) ∧ Chg (fun k => ∃ ad, A = some ad ∧ k = ad.block) w w' := by
  have hc := h.cap
  have h1 : OE elU (w.alloc (.cells #[.int .u64 7777777] 22)) base 22 A n c l := h.grew ((Chg.refl _ w).alloc _)
  have hr : RE elU (w.alloc (.cells #[.int .u64 7777777] 22)) (some ⟨w.heap.size, 0, none⟩) 1 [7777777] := RE.newAt rfl rfl rfl
  go_enter Tryz.func49, Tryz.ntmps49
  go_wp2_with (at_builtin; go_loud (refine wpList_appE rfl _ _ 26 22 infoU64 rfl Tryz.underlying26 rfl base A n c l rfl h1 (by simp; omega) _ 1 1 [7777777] rfl hr (by unfold maxLen; omega) (by omega) ?_); intro A2 c2 w2 h2; have hc2 := h2.oe.cap)
  have hw2 : Wr w2 A2 ((n + 1) * 1) := Own.wr h2.oe
  have hg2 : Chg (fun k => ∃ ad, A = some ad ∧ k = ad.block) w w2 := ((Chg.refl _ w).alloc _).trans h2.chg
  have hw1 : Wr w2 A (n * 1) := by
    rcases h2.2.2 with ⟨e1, _⟩ | ⟨_, e2, _⟩
    · rw [← e1]; exact hw2.mono (by omega)
    · exact (Own.wr h1).chg e2 (fun _ _ e => e)
  have hA2 : ∀ ad, A2 = some ad → w.heap.size ≤ ad.block ∨ ∃ bd, A = some bd ∧ ad.block = bd.block := by
    rintro ad rfl
    rcases h2.2.2 with ⟨e1, _⟩ | ⟨e1, _⟩
    · exact .inr ⟨ad, e1.symm, rfl⟩
    · injection e1 with e1
      subst e1
      exact .inl (by simp)
  obtain ⟨g2, rfl⟩ : ∃ g2, A2 = some ⟨g2, 0, none⟩ := (Own.at_ h2.oe (by omega)).imp fun _ h => h.1
  have hA : A = none ∨ ∃ g, A = some ⟨g, 0, none⟩ := by
    rcases Own.form h with ⟨e, _⟩ | ⟨g, e, _⟩
    · exact .inl e
    · exact .inr ⟨g, e⟩
  have HA := Lib.hid hA
  clear h2 h1 hr h hA
  go_loopw [3] (fun i wr => ∃ k : Nat, k ≤ n + 1 ∧ i = .int .i64 k ∧ Wr wr (some ⟨g2, 0, none⟩) ((n + 1) * 1) ∧ Wr wr A (n * 1) ∧ Chg (fun k => ∃ ad, A = some ad ∧ k = ad.block) w wr) (fun i _ => n + 1 - (intOf i).toNat)
  case atStart => exact ⟨0, Nat.zero_le _, rfl, hw2, hw1, hg2⟩
  case round =>
    clear hw2 hw1 hg2 w2
    obtain ⟨k, hk, rfl, hw2, hw1, hg2⟩ := hrel
    by_cases hlt : k < n + 1
    · obtain ⟨ad, u, he, hcell, hfr⟩ := hw2.at_ (j := k) (by omega)
      injection he with he
      subst he
      rw [add_head] at hcell hfr
      go_wp2
      go_roundw
      case rel => exact ⟨k + 1, by omega, by go_num, hw2.set _ _, hw1.set _ _, hg2.setCell (p := ⟨g2, k, none⟩) (hA2 ⟨g2, 0, none⟩ rfl) _⟩
      case measure => simp [intOf]; omega
    · go_wp2
      obtain ⟨wo, rfl⟩ : ∃ wo : World, wo = wr := ⟨_, rfl⟩
      go_loopw [4] (fun i wr => ∃ k : Nat, k ≤ n ∧ i = .int .i64 k ∧ Wr wr A (n * 1) ∧ Chg (fun k => ∃ ad, A = some ad ∧ k = ad.block) w wr) (fun i _ => n - (intOf i).toNat)
      case atStart => exact ⟨0, Nat.zero_le _, rfl, hw1, hg2⟩
      case round =>
        clear hw1 hw2 hg2
        obtain ⟨k2, hk2, rfl, hw1, hg2⟩ := hrel
        by_cases hlt2 : k2 < n
        · rcases HA.out with rfl | ⟨g, rfl⟩
          · obtain ⟨ad, u, he, _⟩ := hw1.at_ (j := k2) (by omega)
            cases he
          · obtain ⟨ad, u, he, hcell, hfr⟩ := hw1.at_ (j := k2) (by omega)
            injection he with he
            subst he
            rw [add_head] at hcell hfr
            go_wp2
            go_roundw
            case rel => exact ⟨k2 + 1, by omega, by go_num, hw1.set _ _, hg2.setCell (p := ⟨g, k2, none⟩) (.inr ⟨_, rfl, rfl⟩) _⟩
            case measure => simp [intOf]; omega
        · go_wp2
          go_end0
          exact ⟨by simp, hg2⟩
end Go.Proofs.YtjoaonppaokhhaaGreat

namespace Go.Proofs.YtjoaonppaokhhaaGreat
open Go.RowKit

set_option maxRecDepth 100000 in
set_option maxHeartbeats 4000000 in
theorem rmark_no (v : Nat) (fl : Int) (A : Option Addr) (n c : Nat) (es : List Ent) (t : Int) (w : World) (h : RX w A n es) (hn : n ≤ 9223372036854775807) (hck : chkI fl es = false) :
    Calls Tryz.prog 22 #[.agg #[.int .u64 (v : Int), .int .i64 fl, .slice A n c], .int .i64 t] w (IxR w 0 0 [] 140) := by
  have h3 := B2.mk2 w v fl A n c
  obtain ⟨W, hW⟩ : ∃ W, W = ((w.alloc (.cells #[.int .u64 (v : Int), .int .i64 fl, .slice A n c] 25)).alloc (.cells #[.int .u64 0, .int .i64 0, .slice none 0 0] 25)) := ⟨_, rfl⟩
  rw [← hW] at h3
  have hC := rcheck_any v fl A n c es W (h.grew h3.gr) hn
  unfold IxR
  rw [hck] at hC
  go_enter Tryz.func22, Tryz.ntmps22
  go_wp2_with fail
  rw [← hW]
  refine hC.mono ?_
  rintro e w1 ⟨rfl, hg1⟩
  unfold errI
  have h4 := h3.grew hg1
  have k0 := h4.br.cell 0
  have k1 := h4.br.cell 1
  have k2 := h4.br.cell 2
  have f0 := h4.br.frozen 0
  have f1 := h4.br.frozen 1
  have f2 := h4.br.frozen 2
  simp only [List.getElem?_toArray, List.getElem?_cons_succ, List.getElem?_cons_zero] at k0 k1 k2
  clear hC hck hW
  go_wp2
  refine bodyPost_ret (v := .tuple #[.agg #[.int .u64 0, .int .i64 0, .slice none 0 0], .int .i64 140]) ?_ rfl ⟨none, 0, rfl, NX.nil _ _, h4.gr.far3 (by omega) _ _ _⟩
  have q := h4.br.put3 (.int .u64 0) (.int .i64 0) (.slice none 0 0)
  have q0 := q.cell 0
  have q1 := q.cell 1
  have q2 := q.cell 2
  simp [results, Tryz.results22, go_sem, q0, q1, q2]
end Go.Proofs.YtjoaonppaokhhaaGreat

namespace Go.Proofs.YtjoaonppaokhhaaGreat
open Go.ChangeShapes Go.WideShapes Go.ChangeAt Go.RowKit Go.Deep

section
variable {H : Type} {enc : TypeId × Value → H} {P : Program} {W : World} {base : Nat} {spare : Nat → Bool} {held : Bool}
theorem weights_all {e : TypeId} {d : DataW H} {z : Nat} (hz : z ∈ d.weights P e) : ∀ {l : List (DataW H)}, d ∈ l → z ∈ DataW.weightsAll P e l
  | x :: r, h => by
    simp only [DataW.weightsAll, List.mem_append]
    rcases List.mem_cons.1 h with rfl | h
    · exact .inl hz
    · exact .inr (weights_all hz h)
theorem open_elemsW {α : Type} (E : El α) (Q : α → DataW H → Prop) {t e : TypeId} (ht : P.underlying t = some (.slice e)) (ce : P.cellsOf e = E.sz)
    (dec : ∀ n cs x, DataW.trod enc P W base spare held n e cs = some x → cs.length = P.cellsOf e → ∃ y, cs = E.cells y ∧ Q y x.1)
    {A : Option Addr} {n c : Nat} {d : DataW H} {p : List MemPlace} (h : DataW.Trod enc P W base spare held t (.slice A n c) d p) (hw : ∀ z ∈ d.weights P t, z ≤ reachBytes) :
    ∃ l : List α, RE E W A n l ∧ n * P.bytesOf e ≤ reachBytes ∧ (n ≤ c ∧ c ≤ 9223372036854775807) ∧ ∀ y ∈ l, ∃ dd, Q y dd ∧ ∀ z ∈ dd.weights P e, z ≤ reachBytes := by
  obtain ⟨fuel, hf⟩ := h
  rcases open_slice ht hf with ⟨hcs, _⟩ | ⟨a, len, cap, m, n', D, Pl, hcs, hb, hl, hm, hmm, hx, hel⟩
  · simp [Value.cells] at hcs
    obtain ⟨rfl, rfl, rfl⟩ := hcs
    exact ⟨[], RE.nil _ _, by simp, by omega, fun y hy => by cases hy⟩
  · simp [Value.cells] at hcs
    obtain ⟨rfl, rfl, rfl⟩ := hcs
    simp only [Prod.mk.injEq] at hx
    obtain ⟨rfl, _⟩ := hx
    have hlm : n ≤ m := by rw [hmm]; split <;> omega
    have key : ∀ i, i < n → ∃ y, (∀ j u, (E.cells y)[j]? = some u → W.cell? (a.add (i * E.sz + j)) = some u) ∧ Q y (D i) := fun i hi => by
      obtain ⟨cs', h1, h2⟩ := hel i (by omega)
      obtain ⟨_, hlen, hcell⟩ := World.cells?_some h1
      obtain ⟨y, rfl, hq⟩ := dec _ _ _ h2 hlen
      refine ⟨y, fun j u hu => ?_, hq⟩
      have hj : j < (E.cells y).length := (List.getElem?_eq_some_iff.1 hu).1
      have h3 := hcell j (by rw [← hlen]; exact hj)
      rw [add_add, ce] at h3
      rw [h3]
      exact hu
    obtain ⟨l, hll, hlp⟩ := list_of n _ key
    simp only [DataW.weights, ht] at hw
    refine ⟨l, ⟨hll, fun k u hu => ⟨a, rfl, ?_⟩⟩, ?_, by unfold maxLen at hm; omega, fun y hy => ?_⟩
    · have hk := (List.getElem?_eq_some_iff.1 hu).1
      rw [El.flat_length, hll] at hk
      have hs : 0 < E.sz := by
        rcases Nat.eq_zero_or_pos E.sz with e0 | e0
        · rw [e0] at hk; omega
        · exact e0
      obtain ⟨i, j, rfl, hj⟩ : ∃ i j, k = i * E.sz + j ∧ j < E.sz := ⟨k / E.sz, k % E.sz, by rw [Nat.mul_comm]; exact (Nat.div_add_mod k E.sz).symm, Nat.mod_lt _ hs⟩
      have hi : i < n := by
        rcases Nat.lt_or_ge i n with h1 | h1
        · exact h1
        · have := Nat.mul_le_mul_right E.sz h1; omega
      have hx : l[i]? = some l[i] := List.getElem?_eq_getElem (by omega)
      rw [E.flat_get l hx hj] at hu
      exact (hlp i _ hx).1 j u hu
    · have := hw _ (List.mem_cons_self)
      simp only [List.length_map, List.length_range] at this
      exact Nat.le_trans (Nat.mul_le_mul_right _ (Nat.le_add_right _ _)) this
    · obtain ⟨i, hi⟩ := List.mem_iff_getElem?.1 hy
      have hin : i < n := by have := (List.getElem?_eq_some_iff.1 hi).1; omega
      refine ⟨D i, (hlp i y hi).2, fun z hz => hw z (List.mem_cons_of_mem _ (List.mem_append_left _ (weights_all hz (List.mem_map.2 ⟨i, List.mem_range.2 hin, rfl⟩))))⟩
end

section
variable {H : Type} {enc : TypeId × Value → H} {W : World} {base : Nat} {spare : Nat → Bool} {held : Bool}
theorem cells_i64 : Tryz.prog.cellsOf 2 = 1 := by kernel_rfl
theorem cells_bool : Tryz.prog.cellsOf 4 = 1 := by kernel_rfl
theorem cells_u64s : Tryz.prog.cellsOf 26 = 1 := by kernel_rfl
theorem cells_met : Tryz.prog.cellsOf 28 = 7 := by kernel_rfl
theorem cells_ents : Tryz.prog.cellsOf 23 = 1 := by kernel_rfl
theorem bytes_u64 : Tryz.prog.bytesOf 22 = 8 := by kernel_rfl
theorem bytes_ent : Tryz.prog.bytesOf 51 = 88 := by kernel_rfl
theorem slice_o2 {t e : TypeId} (ht : Tryz.prog.underlying t = some (.slice e)) {k : Nat} {v : Value} {y : DataW H × List MemPlace} (h : DataW.trod enc Tryz.prog W base spare held k t [v] = some y) : ∃ A n c, v = .slice A n c := by
  rcases open_slice ht h with ⟨hcs, _⟩ | ⟨a, len, cap, m, n', D, Pl, hcs, _⟩
  · exact ⟨none, 0, 0, (List.cons.inj hcs).1⟩
  · exact ⟨some a, len, cap, (List.cons.inj hcs).1⟩
theorem u64s_bound {A : Option Addr} {n c : Nat} {d : DataW H} {p : List MemPlace} (h : DataW.Trod enc Tryz.prog W base spare held 26 (.slice A n c) d p) (hw : ∀ z ∈ d.weights Tryz.prog 26, z ≤ reachBytes) : n ≤ 17592186043904 := by
  obtain ⟨l, _, h2, _⟩ := open_elemsW elU (fun _ _ => True) Tryz.underlying26 (by kernel_rfl) (fun n cs x hx hl => by
    obtain ⟨v, rfl⟩ := one_cell (hl.trans cells_u64)
    obtain ⟨z, e0, d0, hz⟩ := DataW.trod_int Tryz.underlying22 hx
    obtain rfl := (List.cons.inj e0).1
    have hb := Go.bounds_u64 hz
    exact ⟨z.toNat, by simp [elU]; omega, trivial⟩) h hw
  rw [bytes_u64] at h2
  unfold reachBytes at h2
  omega
/-- a meta's cells -/
def metC (m : Met) (A : Option Addr) (k c : Nat) : List Value := [.int .u64 (m.id : Int), .int .i64 m.lo, .int .i64 m.hi, .int .i64 m.lv, .slice A k c, .int .i64 m.sr, .int .i64 m.pt]
set_option maxRecDepth 100000 in
theorem dec_met (n : Nat) (cs : List Value) (x : DataW H × List MemPlace) (h : DataW.trod enc Tryz.prog W base spare held n 28 cs = some x) :
    ∃ m A k c, cs = metC m A k c ∧ RE elU W A k m.src ∧ (k ≤ c ∧ c ≤ 9223372036854775807) ∧ MetW m ∧ ((∀ z ∈ x.1.weights Tryz.prog 28, z ≤ reachBytes) → k ≤ 17592186043904) := by
  obtain ⟨xs, k, _, rfl, hl, hxl, hf⟩ := DataW.trod_struct Tryz.underlying28 h
  have hl2 : cs.length = 7 := hl.trans cells_met
  match xs, hxl, cs, hl2 with
  | [y0, y1, y2, y3, y4, y5, y6], _, [v0, v1, v2, v3, v4, v5, v6], _ =>
    have g0' : DataW.trod enc Tryz.prog W base spare held k 22 (([v0, v1, v2, v3, v4, v5, v6].drop 0).take (Tryz.prog.cellsOf 22)) = some y0 := hf 0 _ rfl
    rw [cells_u64] at g0'
    have g0 : DataW.trod enc Tryz.prog W base spare held k 22 [v0] = some y0 := g0'
    have g1' : DataW.trod enc Tryz.prog W base spare held k 2 (([v0, v1, v2, v3, v4, v5, v6].drop 1).take (Tryz.prog.cellsOf 2)) = some y1 := hf 1 _ rfl
    rw [cells_i64] at g1'
    have g1 : DataW.trod enc Tryz.prog W base spare held k 2 [v1] = some y1 := g1'
    have g2' : DataW.trod enc Tryz.prog W base spare held k 2 (([v0, v1, v2, v3, v4, v5, v6].drop 2).take (Tryz.prog.cellsOf 2)) = some y2 := hf 2 _ rfl
    rw [cells_i64] at g2'
    have g2 : DataW.trod enc Tryz.prog W base spare held k 2 [v2] = some y2 := g2'
    have g3' : DataW.trod enc Tryz.prog W base spare held k 3 (([v0, v1, v2, v3, v4, v5, v6].drop 3).take (Tryz.prog.cellsOf 3)) = some y3 := hf 3 _ rfl
    rw [cells_int] at g3'
    have g3 : DataW.trod enc Tryz.prog W base spare held k 3 [v3] = some y3 := g3'
    have g4' : DataW.trod enc Tryz.prog W base spare held k 26 (([v0, v1, v2, v3, v4, v5, v6].drop 4).take (Tryz.prog.cellsOf 26)) = some y4 := hf 4 _ rfl
    rw [cells_u64s] at g4'
    have g4 : DataW.trod enc Tryz.prog W base spare held k 26 [v4] = some y4 := g4'
    have g5' : DataW.trod enc Tryz.prog W base spare held k 3 (([v0, v1, v2, v3, v4, v5, v6].drop 5).take (Tryz.prog.cellsOf 3)) = some y5 := hf 5 _ rfl
    rw [cells_int] at g5'
    have g5 : DataW.trod enc Tryz.prog W base spare held k 3 [v5] = some y5 := g5'
    have g6' : DataW.trod enc Tryz.prog W base spare held k 3 (([v0, v1, v2, v3, v4, v5, v6].drop 6).take (Tryz.prog.cellsOf 3)) = some y6 := hf 6 _ rfl
    rw [cells_int] at g6'
    have g6 : DataW.trod enc Tryz.prog W base spare held k 3 [v6] = some y6 := g6'
    obtain ⟨z0, e0, d0, hz0⟩ := DataW.trod_int Tryz.underlying22 g0
    obtain ⟨z1, e1, d1, hz1⟩ := DataW.trod_int Tryz.underlying2 g1
    obtain ⟨z2, e2, d2, hz2⟩ := DataW.trod_int Tryz.underlying2 g2
    obtain ⟨z3, e3, d3, hz3⟩ := DataW.trod_int Tryz.underlying3 g3
    obtain ⟨z5, e5, d5, hz5⟩ := DataW.trod_int Tryz.underlying3 g5
    obtain ⟨z6, e6, d6, hz6⟩ := DataW.trod_int Tryz.underlying3 g6
    obtain rfl := (List.cons.inj e0).1
    obtain rfl := (List.cons.inj e1).1
    obtain rfl := (List.cons.inj e2).1
    obtain rfl := (List.cons.inj e3).1
    obtain rfl := (List.cons.inj e5).1
    obtain rfl := (List.cons.inj e6).1
    obtain ⟨A, m, c, rfl⟩ := slice_o2 Tryz.underlying26 g4
    have b0 := Go.bounds_u64 hz0
    have b1 := Go.bounds_i64 hz1
    have b2 := Go.bounds_i64 hz2
    have hT : DataW.Trod enc Tryz.prog W base spare held 26 (.slice A m c) y4.1 y4.2 := ⟨k, g4⟩
    obtain ⟨l, r1, r2, r3⟩ := open_u64s0 hT
    refine ⟨⟨z0.toNat, z1, z2, z3, l, z5, z6⟩, A, m, c, ?_, r1, r2, ⟨by show z0.toNat < _; omega, b1, b2, r3⟩, fun hw => ?_⟩
    · show [Value.int .u64 z0, Value.int .i64 z1, Value.int .i64 z2, Value.int .i64 z3, Value.slice A m c, Value.int .i64 z5, Value.int .i64 z6] = [Value.int .u64 (z0.toNat : Int), Value.int .i64 z1, Value.int .i64 z2, Value.int .i64 z3, Value.slice A m c, Value.int .i64 z5, Value.int .i64 z6]
      rw [Int.toNat_of_nonneg (by omega)]
    · simp only [DataW.weights, Tryz.underlying28] at hw
      exact u64s_bound hT fun z hz => hw z (DataW.weights_mem_each (j := 4) rfl rfl z hz)
/-- what an entry's cells are -/
def EnQ (W : World) (y : EnM) (d : DataW H) : Prop := EnIs W y ∧ EntW y.e ∧ ((∀ z ∈ d.weights Tryz.prog 51, z ≤ reachBytes) → y.n ≤ 17592186043904)
set_option maxRecDepth 100000 in
theorem dec_ent (n : Nat) (cs : List Value) (x : DataW H × List MemPlace) (h : DataW.trod enc Tryz.prog W base spare held n 51 cs = some x) (_hl : cs.length = Tryz.prog.cellsOf 51) : ∃ y, cs = elEn.cells y ∧ EnQ W y x.1 := by
  obtain ⟨xs, k, _, rfl, hl, hxl, hf⟩ := DataW.trod_struct Tryz.underlying51 h
  have hl2 : cs.length = 9 := hl.trans (by kernel_rfl)
  match xs, hxl, cs, hl2 with
  | [y0, y1, y2], _, [v0, v1, v2, v3, v4, v5, v6, v7, v8], _ =>
    have g0' : DataW.trod enc Tryz.prog W base spare held k 28 (([v0, v1, v2, v3, v4, v5, v6, v7, v8].drop 0).take (Tryz.prog.cellsOf 28)) = some y0 := hf 0 _ rfl
    rw [cells_met] at g0'
    have g0 : DataW.trod enc Tryz.prog W base spare held k 28 [v0, v1, v2, v3, v4, v5, v6] = some y0 := g0'
    have g1' : DataW.trod enc Tryz.prog W base spare held k 4 (([v0, v1, v2, v3, v4, v5, v6, v7, v8].drop 7).take (Tryz.prog.cellsOf 4)) = some y1 := hf 1 _ rfl
    rw [cells_bool] at g1'
    have g1 : DataW.trod enc Tryz.prog W base spare held k 4 [v7] = some y1 := g1'
    have g2' : DataW.trod enc Tryz.prog W base spare held k 2 (([v0, v1, v2, v3, v4, v5, v6, v7, v8].drop 8).take (Tryz.prog.cellsOf 2)) = some y2 := hf 2 _ rfl
    rw [cells_i64] at g2'
    have g2 : DataW.trod enc Tryz.prog W base spare held k 2 [v8] = some y2 := g2'
    obtain ⟨m, A, q, c, e0, r1, r2, r3, r4⟩ := dec_met _ _ _ g0
    obtain ⟨b, e1, d1⟩ := DataW.trod_bool Tryz.underlying4 g1
    obtain ⟨z2, e2, d2, hz2⟩ := DataW.trod_int Tryz.underlying2 g2
    obtain rfl := (List.cons.inj e1).1
    obtain rfl := (List.cons.inj e2).1
    unfold metC at e0
    simp only [List.cons.injEq, and_true] at e0
    obtain ⟨rfl, rfl, rfl, rfl, rfl, rfl, rfl⟩ := e0
    refine ⟨⟨⟨m, b, z2⟩, A, q, c⟩, rfl, ⟨r1, r2⟩, ⟨r3, Go.bounds_i64 hz2⟩, fun hw => ?_⟩
    simp only [DataW.weights, Tryz.underlying51] at hw
    exact r4 fun z hz => hw z (DataW.weights_mem_each (j := 0) rfl rfl z hz)
theorem open_ents {A : Option Addr} {n c : Nat} {d : DataW H} {p : List MemPlace} (h : DataW.Trod enc Tryz.prog W base spare held 23 (.slice A n c) d p) (hw : ∀ z ∈ d.weights Tryz.prog 23, z ≤ reachBytes) :
    ∃ es : List Ent, RX W A n es ∧ Fit es ∧ (n ≤ c ∧ c ≤ 9223372036854775807) ∧ ∀ e ∈ es, EntW e := by
  obtain ⟨l, h1, h2, h3, h4⟩ := open_elemsW elEn (EnQ W) Tryz.underlying23 (by kernel_rfl) dec_ent h hw
  rw [bytes_ent] at h2
  unfold reachBytes at h2
  refine ⟨l.map EnM.e, ⟨l, h1, rfl, fun m hm => by obtain ⟨dd, q1, _⟩ := h4 m hm; exact q1.1⟩, ⟨by rw [List.length_map, h1.1]; omega, fun e he => ?_⟩, h3, fun e he => ?_⟩
  · obtain ⟨m, hm, rfl⟩ := List.mem_map.1 he
    obtain ⟨dd, q1, q2⟩ := h4 m hm
    rw [q1.1.row.1]
    exact q1.2.2 q2
  · obtain ⟨m, hm, rfl⟩ := List.mem_map.1 he
    obtain ⟨dd, q1, q2⟩ := h4 m hm
    exact q1.2.1
set_option maxRecDepth 100000 in
theorem open_index {b0 : Nat} {r : Reach} {v : Value} {d : DataW H} {p : List MemPlace} (hval : Value.okWide Tryz.prog W r b0 25 v) (h : DataW.Trod enc Tryz.prog W base spare held 25 v d p) (hw : ∀ z ∈ d.weights Tryz.prog 25, z ≤ reachBytes) :
    ∃ (ve : Nat) (fl : Int) (A : Option Addr) (n c : Nat) (es : List Ent), v = .agg #[.int .u64 (ve : Int), .int .i64 fl, .slice A n c] ∧ ve < 18446744073709551616 ∧ (-9223372036854775808 ≤ fl ∧ fl ≤ 9223372036854775807) ∧ RX W A n es ∧ Fit es ∧ (n ≤ c ∧ c ≤ 9223372036854775807) ∧ ∀ e ∈ es, EntW e := by
  obtain ⟨cs, rfl, _⟩ := okWide_struct Tryz.underlying25 hval
  obtain ⟨fuel, hf⟩ := h
  have hc : Value.cells (.agg cs) = cs := rfl
  rw [hc] at hf
  obtain ⟨xs, k, _, hx, hl, hxl, hff⟩ := DataW.trod_struct Tryz.underlying25 hf
  have hl2 : cs.toList.length = 3 := hl.trans (by kernel_rfl)
  obtain ⟨cl⟩ := cs
  match xs, hxl, cl, hl2 with
  | [y0, y1, y2], _, [v0, v1, v2], _ =>
    have g0' : DataW.trod enc Tryz.prog W base spare held k 22 (([v0, v1, v2].drop 0).take (Tryz.prog.cellsOf 22)) = some y0 := hff 0 _ rfl
    rw [cells_u64] at g0'
    have g0 : DataW.trod enc Tryz.prog W base spare held k 22 [v0] = some y0 := g0'
    have g1' : DataW.trod enc Tryz.prog W base spare held k 2 (([v0, v1, v2].drop 1).take (Tryz.prog.cellsOf 2)) = some y1 := hff 1 _ rfl
    rw [cells_i64] at g1'
    have g1 : DataW.trod enc Tryz.prog W base spare held k 2 [v1] = some y1 := g1'
    have g2' : DataW.trod enc Tryz.prog W base spare held k 23 (([v0, v1, v2].drop 2).take (Tryz.prog.cellsOf 23)) = some y2 := hff 2 _ rfl
    rw [cells_ents] at g2'
    have g2 : DataW.trod enc Tryz.prog W base spare held k 23 [v2] = some y2 := g2'
    obtain ⟨z0, e0, d0, hz0⟩ := DataW.trod_int Tryz.underlying22 g0
    obtain ⟨z1, e1, d1, hz1⟩ := DataW.trod_int Tryz.underlying2 g1
    obtain rfl := (List.cons.inj e0).1
    obtain rfl := (List.cons.inj e1).1
    obtain ⟨A, m, c, rfl⟩ := slice_o2 Tryz.underlying23 g2
    have b0 := Go.bounds_u64 hz0
    injection hx with hd hp
    subst hd
    simp only [DataW.weights, Tryz.underlying25] at hw
    obtain ⟨es, r1, r2, r3, r4⟩ := open_ents ⟨k, g2⟩ fun z hz => hw z (DataW.weights_mem_each (j := 2) rfl rfl z hz)
    exact ⟨z0.toNat, z1, A, m, c, es, by rw [Int.toNat_of_nonneg (by omega)], by omega, Go.bounds_i64 hz1, r1, r2, r3, r4⟩
set_option maxRecDepth 100000 in
theorem open_meta {b0 : Nat} {r : Reach} {v : Value} {d : DataW H} {p : List MemPlace} (hval : Value.okWide Tryz.prog W r b0 28 v) (h : DataW.Trod enc Tryz.prog W base spare held 28 v d p) (hw : ∀ z ∈ d.weights Tryz.prog 28, z ≤ reachBytes) :
    ∃ (m : Met) (A : Option Addr) (n c : Nat), v = .agg #[.int .u64 (m.id : Int), .int .i64 m.lo, .int .i64 m.hi, .int .i64 m.lv, .slice A n c, .int .i64 m.sr, .int .i64 m.pt] ∧ RE elU W A n m.src ∧ (n ≤ c ∧ c ≤ 9223372036854775807) ∧ MetW m ∧ n ≤ 17592186043904 := by
  obtain ⟨cs, rfl, _⟩ := okWide_struct Tryz.underlying28 hval
  obtain ⟨fuel, hf⟩ := h
  have hc : Value.cells (.agg cs) = cs := rfl
  rw [hc] at hf
  obtain ⟨m, A, k, c, e, r1, r2, r3, r4⟩ := dec_met _ _ _ hf
  obtain ⟨cl⟩ := cs
  simp only at e
  subst e
  exact ⟨m, A, k, c, rfl, r1, r2, r3, r4 hw⟩
end
end Go.Proofs.YtjoaonppaokhhaaGreat
