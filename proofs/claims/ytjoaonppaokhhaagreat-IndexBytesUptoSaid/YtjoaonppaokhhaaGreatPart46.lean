/-
  Several texts in one:
  Rows written over whatever is in them: rows of IDs, an index. Conditions: lengths that memory bears.
  A region with several orders of what acts, whose last operation, behind all others, may store into what was loaded. Conditions: a check of the region that the kernel runs; no program in sight.
-/
import Derived.Test.YtjoaonppaokhhaaGreatPart45
import Derived.Test.YtjoaonppaokhhaaGreatPart36
import Derived.Test.YtjoaonppaokhhaaGreatPart8

namespace Go.Proofs.YtjoaonppaokhhaaGreat
open Go.RowKit

/-- blocks keep their kind and their length -/
def Sh (w w' : World) : Prop := ∀ g cs t, Blk w g t cs → ∃ cs', Blk w' g t cs' ∧ cs'.size = cs.size
theorem Sh.refl (w : World) : Sh w w := fun _ cs _ h => ⟨cs, h, rfl⟩
theorem Sh.trans {a b c : World} (h : Sh a b) (h' : Sh b c) : Sh a c := fun g cs t hb => by
  obtain ⟨c1, k1, e1⟩ := h g cs t hb
  obtain ⟨c2, k2, e2⟩ := h' g c1 t k1
  exact ⟨c2, k2, e2.trans e1⟩
theorem Sh.of_grew {w w' : World} (h : Grew w w') : Sh w w' := fun _ cs _ hb => ⟨cs, hb.grew h, rfl⟩
theorem Sh.setCell {a b : World} (h : Sh a b) (g i : Nat) (u : Value) : Sh a (b.setCell ⟨g, i, none⟩ u) := fun k cs t hb => by
  obtain ⟨c1, k1, e1⟩ := h k cs t hb
  by_cases hk : k = g
  · subst hk
    exact ⟨_, k1.set i u, by rw [Array.size_setIfInBounds]; exact e1⟩
  · exact ⟨c1, k1.far (by exact hk) u, e1⟩
/-- a row of the call's own, whatever is in it -/
def OwX (w : World) (base : Nat) (t : TypeId) (sz : Nat) (A : Option Addr) (n c : Nat) : Prop := ∃ cs, Own w base t sz A n c cs
theorem Own.block {w : World} {base : Nat} {t : TypeId} {sz n c : Nat} {A : Option Addr} {cs : List Value} (h : Own w base t sz A n c cs) : ∀ ad, A = some ad → ∃ cur, Blk w ad.block t cur ∧ cur.size = c * sz := by
  rintro ad rfl
  rcases h.2 with ⟨e, _⟩ | ⟨g, cap, cur, e, _, hg, _, _, h5, _⟩
  · injection e with e1
    cases e1
  · injection e with e1 e2 e3
    injection e1 with e1
    subst e1
    exact ⟨cur, hg, by rw [h5, e3]⟩
theorem OwX.sh {w w' : World} {base : Nat} {t : TypeId} {sz n c : Nat} {A : Option Addr} (h : OwX w base t sz A n c) (hs : Sh w w') : OwX w' base t sz A n c := by
  obtain ⟨cs, h1, h2⟩ := h
  rcases h2 with h3 | ⟨g, cap, cur, e, hb, hg, h3, h4, h5, h6⟩
  · exact ⟨cs, h1, .inl h3⟩
  · obtain ⟨cur', k1, k2⟩ := hs g cur t hg
    exact ⟨cur'.toList.take (n * sz), by
      rw [List.length_take, Array.length_toList, k2, h5]
      exact Nat.min_eq_left (Nat.mul_le_mul_right _ h3), .inr ⟨g, cap, cur', e, hb, k1, h3, h4, by rw [k2, h5], rfl⟩⟩
theorem OwX.blk {w : World} {base : Nat} {t : TypeId} {sz n c : Nat} {A : Option Addr} (h : OwX w base t sz A n c) : ∀ ad, A = some ad → ∃ cur, Blk w ad.block t cur := fun ad e => by
  obtain ⟨cs, h⟩ := h
  obtain ⟨cur, k, _⟩ := h.block ad e
  exact ⟨cur, k⟩
theorem OwX.lo {w : World} {base : Nat} {t : TypeId} {sz n c : Nat} {A : Option Addr} (h : OwX w base t sz A n c) : ∀ ad, A = some ad → base ≤ ad.block ∧ ad.block < w.heap.size := fun ad e => by
  obtain ⟨cs, h⟩ := h
  exact h.blk_lt ad e
theorem Sh.of_app {w w' : World} {base : Nat} {t : TypeId} {sz n n' c c' : Nat} {A A' : Option Addr} {xs ys : List Value} (h : Own w base t sz A n c xs) (ha : Apped w base t sz A n' c ys A' c' w') : Sh w w' := fun g cs t' hb => by
  by_cases hg : ∃ ad, A = some ad ∧ g = ad.block
  · obtain ⟨ad, rfl, rfl⟩ := hg
    rcases ha.2.2 with ⟨e1, e2, _⟩ | ⟨_, e2, _⟩
    · subst e1
      subst e2
      obtain ⟨cur, k1, k2⟩ := h.block ad rfl
      obtain ⟨cur', q1, q2⟩ := ha.own.block ad rfl
      have := k1.symm.trans hb
      injection this with this
      injection this with this1 this2
      subst this1
      subst this2
      exact ⟨cur', q1, by rw [q2, k2]⟩
    · exact ⟨cs, hb.grew e2, rfl⟩
  · exact ⟨cs, hb.chg ha.chg hg, rfl⟩
theorem wpList_appXs {P : Program} {α : Type} {E : El α} {ops : Array Oper} {rest : List Oper} {o : Oper} {a : Act} {w : World} {Q : Exit → Act → World → Prop} (hgd : o.guard = none) (s x : Operand) (ts t : TypeId) {z : Value} {bytes : Nat}
    (hinfo : (P.info? t).map (fun i => (i.zero, i.size, i.bytes)) = some (some z, E.sz, bytes)) (hzs : z.cells.size = E.sz) (ht : P.underlying ts = some (.slice t))
    (ho : o.op = .call { callee := .builtin .append, args := #[s, x], argTypes := #[ts, ts] })
    (base : Nat) (A : Option Addr) (n c : Nat) (cs : List Value) (hs : a.eval s = .slice A n c) (hown : Own w base t E.sz A n c cs) (hbase : base ≤ w.heap.size)
    (B : Option Addr) (m d : Nat) (r : List α) (hx : a.eval x = .slice B m d) (hr : RE E w B m r) (h63 : n + m ≤ maxLen) (hbytes : (n + m) * bytes ≤ 140737488355328)
    (h : ∀ A' c' w', Apped w base t E.sz A (n + m) c (cs ++ E.flat r) A' c' w' → wpList P ops Q rest (a.put o.dst (.slice A' (n + m) c')) w') : wpList P ops Q (o :: rest) a w := by
  obtain ⟨i0, hi, hz0, hz1, hz2⟩ := info_parts hinfo
  exact wpList_app w hgd s x ts t ho i0 z E.sz bytes ht hi hz0 hz1 hz2 hzs base A n c _ hs hown hbase B m d _ hx (by rw [E.flat_length, hr.1]) hr.2 (E.flat_one' r) h63 hbytes h

set_option maxHeartbeats 1000000 in
theorem spoilIdsX (A : Option Addr) (n c base : Nat) (w : World) (hx : OwX w base 22 1 A n c) (hbase : base ≤ w.heap.size) (hn : n ≤ 17592186043904) :
    Calls Tryz.prog 49 #[.slice A n c] w fun e w' => e = .returned (.tuple #[]) ∧ Chg (fun k => ∃ ad, A = some ad ∧ k = ad.block) w w' ∧ Sh w w' := by
  obtain ⟨cs, h⟩ := hx
  have hc := Own.cap h
  have h1 : Own (w.alloc (.cells #[.int .u64 7777777] 22)) base 22 elU.sz A n c cs := Own.alloc h _
  have hs1 : Sh w (w.alloc (.cells #[.int .u64 7777777] 22)) := Sh.of_grew ((Chg.refl _ w).alloc _)
  have hr : RE elU (w.alloc (.cells #[.int .u64 7777777] 22)) (some ⟨w.heap.size, 0, none⟩) 1 [7777777] := RE.newAt rfl rfl rfl
  go_enter Tryz.func49, Tryz.ntmps49
  go_wp2_with (at_builtin; refine wpList_appXs (E := elU) rfl _ _ 26 22 infoU64 rfl Tryz.underlying26 rfl base A n c cs rfl h1 (by simp; omega) _ 1 1 [7777777] rfl hr (by unfold maxLen; omega) (by omega) ?_; intro A2 c2 w2 h2; have hc2 := Own.cap h2.own)
  have hw2 : Wr w2 A2 ((n + 1) * 1) := Own.wr h2.own
  have hg2 : Chg (fun k => ∃ ad, A = some ad ∧ k = ad.block) w w2 := ((Chg.refl _ w).alloc _).trans h2.chg
  have hs2 : Sh w w2 := hs1.trans (Sh.of_app h1 h2)
  have hw1 : Wr w2 A (n * 1) := by
    rcases h2.2.2 with ⟨e1, _⟩ | ⟨_, e2, _⟩
    · rw [← e1]; exact hw2.mono (by omega)
    · exact (Own.wr h1).chg e2 (fun _ _ e => e)
  have hA2 : ∀ ad, A2 = some ad → w.heap.size ≤ ad.block ∨ ∃ bd, A = some bd ∧ ad.block = bd.block := by
    rintro ad rfl
    rcases h2.2.2 with ⟨e1, _⟩ | ⟨e1, _⟩
    · exact .inr ⟨ad, e1.symm, rfl⟩
    · injection e1 with e1
      subst e1
      exact .inl (by simp)
  obtain ⟨g2, rfl⟩ : ∃ g2, A2 = some ⟨g2, 0, none⟩ := (Own.at_ h2.own (by omega)).imp fun _ h => h.1
  have hA : A = none ∨ ∃ g, A = some ⟨g, 0, none⟩ := by
    rcases Own.form h with ⟨e, _⟩ | ⟨g, e, _⟩
    · exact .inl e
    · exact .inr ⟨g, e⟩
  have HA := Lib.hid hA
  clear h2 h1 hr h hA hs1
  go_loopw [3] (fun i wr => ∃ k : Nat, k ≤ n + 1 ∧ i = .int .i64 k ∧ Wr wr (some ⟨g2, 0, none⟩) ((n + 1) * 1) ∧ Wr wr A (n * 1) ∧ Chg (fun k => ∃ ad, A = some ad ∧ k = ad.block) w wr ∧ Sh w wr) (fun i _ => n + 1 - (intOf i).toNat)
  case atStart => exact ⟨0, Nat.zero_le _, rfl, hw2, hw1, hg2, hs2⟩
  case round =>
    clear hw2 hw1 hg2 hs2 w2
    obtain ⟨k, hk, rfl, hw2, hw1, hg2, hs2⟩ := hrel
    by_cases hlt : k < n + 1
    · obtain ⟨ad, u, he, hcell, hfr⟩ := hw2.at_ (j := k) (by omega)
      injection he with he
      subst he
      rw [add_head] at hcell hfr
      go_wp2
      go_roundw
      case rel => exact ⟨k + 1, by omega, by go_num, hw2.set _ _, hw1.set _ _, hg2.setCell (p := ⟨g2, k, none⟩) (hA2 ⟨g2, 0, none⟩ rfl) _, hs2.setCell _ _ _⟩
      case measure => simp [intOf]; omega
    · go_wp2
      obtain ⟨wo, rfl⟩ : ∃ wo : World, wo = wr := ⟨_, rfl⟩
      go_loopw [4] (fun i wr => ∃ k : Nat, k ≤ n ∧ i = .int .i64 k ∧ Wr wr A (n * 1) ∧ Chg (fun k => ∃ ad, A = some ad ∧ k = ad.block) w wr ∧ Sh w wr) (fun i _ => n - (intOf i).toNat)
      case atStart => exact ⟨0, Nat.zero_le _, rfl, hw1, hg2, hs2⟩
      case round =>
        clear hw1 hw2 hg2 hs2
        obtain ⟨k2, hk2, rfl, hw1, hg2, hs2⟩ := hrel
        by_cases hlt2 : k2 < n
        · rcases HA.out with rfl | ⟨g, rfl⟩
          · obtain ⟨ad, u, he, _⟩ := hw1.at_ (j := k2) (by omega)
            cases he
          · obtain ⟨ad, u, he, hcell, hfr⟩ := hw1.at_ (j := k2) (by omega)
            injection he with he
            subst he
            rw [add_head] at hcell hfr
            go_wp2
            go_roundw
            case rel => exact ⟨k2 + 1, by omega, by go_num, hw1.set _ _, hg2.setCell (p := ⟨g, k2, none⟩) (.inr ⟨_, rfl, rfl⟩) _, hs2.setCell _ _ _⟩
            case measure => simp [intOf]; omega
        · go_wp2
          go_end0
          exact ⟨by simp, hg2, hs2⟩

theorem blk_ne {w : World} {g g' : Nat} {t t' : TypeId} {cs cs' : Array Value} (h : Blk w g t cs) (h' : Blk w g' t' cs') (hne : t ≠ t') : g ≠ g' := by
  rintro rfl
  unfold Blk at h h'
  rw [h] at h'
  injection h' with h'
  injection h' with _ ht
  exact hne ht
/-- an index in rows whose blocks lie from lo on, ahead of hi -/
def NR (W : World) (lo hi : Nat) (A : Option Addr) (n c : Nat) (es : List Ent) : Prop :=
  ∃ ms : List EnM, NXo W lo A n c ms ∧ ms.map EnM.e = es ∧ (∀ ad, A = some ad → ad.block < hi) ∧ ∀ m ∈ ms, ∀ ad, m.A = some ad → ad.block < hi
theorem NX.nr {W : World} {lo : Nat} {A : Option Addr} {n c : Nat} {es : List Ent} (h : NX W lo A n c es) : NR W lo W.heap.size A n c es := by
  obtain ⟨ms, h1, h2⟩ := h
  exact ⟨ms, h1, h2, fun ad e => (Own.blk_lt h1.row ad e).2, fun m hm ad e => (Own.blk_lt (h1.el m hm) ad e).2⟩
theorem NR.chg {S : Nat → Prop} {W W' : World} {lo hi : Nat} {A : Option Addr} {n c : Nat} {es : List Ent} (h : NR W lo hi A n c es) (hc : Chg S W W') (hS : ∀ k, lo ≤ k → k < hi → ¬ S k) : NR W' lo hi A n c es := by
  obtain ⟨ms, h1, h2, h3, h4⟩ := h
  exact ⟨ms, ⟨h1.row.chg hc fun ad e => hS _ (Own.blk_lt h1.row ad e).1 (h3 ad e), fun m hm => OE.chg (h1.el m hm) hc fun ad e => hS _ (Own.blk_lt (h1.el m hm) ad e).1 (h4 m hm ad e)⟩, h2, h3, h4⟩
theorem NR.grew {W W' : World} {lo hi : Nat} {A : Option Addr} {n c : Nat} {es : List Ent} (h : NR W lo hi A n c es) (hc : Grew W W') : NR W' lo hi A n c es := h.chg hc fun _ _ _ e => e
theorem NR.nx {W : World} {lo hi : Nat} {A : Option Addr} {n c : Nat} {es : List Ent} (h : NR W lo hi A n c es) : NX W lo A n c es := by
  obtain ⟨ms, h1, h2, _⟩ := h
  exact ⟨ms, h1, h2⟩
theorem NR.rx {W : World} {lo hi : Nat} {A : Option Addr} {n c : Nat} {es : List Ent} (h : NR W lo hi A n c es) : RX W A n es := h.nx.rx
/-- nine cells of a row written -/
abbrev st9o (w : World) (g o : Nat) (a0 a1 a2 a3 a4 a5 a6 a7 a8 : Value) : World := (((((((((w.setCell ⟨g, o, none⟩ a0).setCell ⟨g, o + 1, none⟩ a1).setCell ⟨g, o + 2, none⟩ a2).setCell ⟨g, o + 3, none⟩ a3).setCell ⟨g, o + 4, none⟩ a4).setCell ⟨g, o + 5, none⟩ a5).setCell ⟨g, o + 6, none⟩ a6).setCell ⟨g, o + 7, none⟩ a7).setCell ⟨g, o + 8, none⟩ a8)
theorem st9o_cell (w : World) (g o j : Nat) (a0 a1 a2 a3 a4 a5 a6 a7 a8 : Value) (h : ∀ i, i < 9 → j ≠ o + i) : (st9o w g o a0 a1 a2 a3 a4 a5 a6 a7 a8).cell? ⟨g, j, none⟩ = w.cell? ⟨g, j, none⟩ := by
  have ne : ∀ i, i < 9 → (⟨g, o + i, none⟩ : Addr) ≠ ⟨g, j, none⟩ := fun i hi e => by
    injection e with _ e2 _
    exact h i hi e2.symm
  unfold st9o
  rw [World.cell?_setCell_other _ _ _ _ (ne 8 (by omega)), World.cell?_setCell_other _ _ _ _ (ne 7 (by omega)), World.cell?_setCell_other _ _ _ _ (ne 6 (by omega)), World.cell?_setCell_other _ _ _ _ (ne 5 (by omega)),
    World.cell?_setCell_other _ _ _ _ (ne 4 (by omega)), World.cell?_setCell_other _ _ _ _ (ne 3 (by omega)), World.cell?_setCell_other _ _ _ _ (ne 2 (by omega)), World.cell?_setCell_other _ _ _ _ (ne 1 (by omega)), World.cell?_setCell_other _ _ _ _ (show (⟨g, o, none⟩ : Addr) ≠ ⟨g, j, none⟩ from ne 0 (by omega))]
theorem Chg.st9o {S : Nat → Prop} {w0 w : World} (h : Chg S w0 w) {g : Nat} (hg : S g) (o : Nat) (a0 a1 a2 a3 a4 a5 a6 a7 a8 : Value) : Chg S w0 (Go.Proofs.YtjoaonppaokhhaaGreat.st9o w g o a0 a1 a2 a3 a4 a5 a6 a7 a8) :=
  ((((((((h.setCell (p := ⟨g, o, none⟩) (.inr hg) a0).setCell (p := ⟨g, o + 1, none⟩) (.inr hg) a1).setCell (p := ⟨g, o + 2, none⟩) (.inr hg) a2).setCell (p := ⟨g, o + 3, none⟩) (.inr hg) a3).setCell (p := ⟨g, o + 4, none⟩) (.inr hg) a4).setCell (p := ⟨g, o + 5, none⟩) (.inr hg) a5).setCell (p := ⟨g, o + 6, none⟩) (.inr hg) a6).setCell (p := ⟨g, o + 7, none⟩) (.inr hg) a7).setCell (p := ⟨g, o + 8, none⟩) (.inr hg) a8
theorem Sh.st9o {w0 w : World} (h : Sh w0 w) (g o : Nat) (a0 a1 a2 a3 a4 a5 a6 a7 a8 : Value) : Sh w0 (Go.Proofs.YtjoaonppaokhhaaGreat.st9o w g o a0 a1 a2 a3 a4 a5 a6 a7 a8) :=
  ((((((((h.setCell g o a0).setCell g (o + 1) a1).setCell g (o + 2) a2).setCell g (o + 3) a3).setCell g (o + 4) a4).setCell g (o + 5) a5).setCell g (o + 6) a6).setCell g (o + 7) a7).setCell g (o + 8) a8
theorem Blk.st9o {w : World} {g g' : Nat} {t : TypeId} {cs : Array Value} (h : Blk w g' t cs) (hne : g' ≠ g) (o : Nat) (a0 a1 a2 a3 a4 a5 a6 a7 a8 : Value) : Blk (Go.Proofs.YtjoaonppaokhhaaGreat.st9o w g o a0 a1 a2 a3 a4 a5 a6 a7 a8) g' t cs :=
  ((((((((h.far (p := ⟨g, o, none⟩) hne a0).far (p := ⟨g, o + 1, none⟩) hne a1).far (p := ⟨g, o + 2, none⟩) hne a2).far (p := ⟨g, o + 3, none⟩) hne a3).far (p := ⟨g, o + 4, none⟩) hne a4).far (p := ⟨g, o + 5, none⟩) hne a5).far (p := ⟨g, o + 6, none⟩) hne a6).far (p := ⟨g, o + 7, none⟩) hne a7).far (p := ⟨g, o + 8, none⟩) hne a8

set_option maxRecDepth 100000 in
set_option maxHeartbeats 4000000 in
theorem spoilIx_any (v : Nat) (fl : Int) (A : Option Addr) (n c : Nat) (es : List Ent) (lo hi : Nat) (w : World) (h : NR w lo hi A n c es) (hlo : lo ≤ w.heap.size) (hf : Fit es) :
    Calls Tryz.prog 18 #[.agg #[.int .u64 (v : Int), .int .i64 fl, .slice A n c]] w fun e w' => e = .returned (.tuple #[]) ∧ Chg (fun k => lo ≤ k ∧ k < hi) w w' := by
  obtain ⟨ms, hxo, hmap, hA, hM⟩ := h
  have hml : ms.length = n := hxo.row.len (by decide)
  have hn : n ≤ 1599289640354 := by rw [← hml, ← List.length_map (f := EnM.e), hmap]; exact hf.n
  have hms : ∀ m ∈ ms, m.n ≤ 17592186043904 := fun m hm => by
    rw [← OE.len (by decide) (hxo.el m hm)]
    exact hf.el m.e (by rw [← hmap]; exact List.mem_map_of_mem hm)
  have hrow : OwX w lo 51 9 A n c := ⟨_, hxo.row⟩
  have hels : ∀ m ∈ ms, OwX w lo 22 1 m.A m.n m.c := fun m hm => ⟨_, hxo.el m hm⟩
  have hcl : ∀ j m, ms[j]? = some m → ∃ g, A = some ⟨g, 0, none⟩ ∧ w.cell? ⟨g, j * 9 + 4, none⟩ = some (.slice m.A m.n m.c) := fun j m hm => by
    have hj := (List.getElem?_eq_some_iff.1 hm).1
    obtain ⟨g, e, _, _, hc, _⟩ := Own.at_ hxo.row (by omega)
    exact ⟨g, e, by rw [hc _ (by show j * 9 + 4 < n * 9; omega)]; exact elEn.flat_get ms hm (j := 4) (by decide)⟩
  replace hml := Lib.hid hml
  replace hms := Lib.hid hms
  clear hxo hmap hf
  go_enter Tryz.func18, Tryz.ntmps18
  go_wp2
  go_loopw [2] (fun i wr => ∃ k : Nat, k ≤ n ∧ i = .int .i64 (k : Int) ∧ Blk wr w.heap.size 25 #[.int .u64 (v : Int), .int .i64 fl, .slice A n c] ∧ Sh w wr ∧ Chg (fun k => lo ≤ k ∧ k < hi) w wr ∧ (∀ j m, k ≤ j → ms[j]? = some m → ∃ g, A = some ⟨g, 0, none⟩ ∧ wr.cell? ⟨g, j * 9 + 4, none⟩ = some (.slice m.A m.n m.c))) (fun i _ => n - (intOf i).toNat)
  case atStart =>
    have gW : Grew w (w.alloc (.cells #[.int .u64 (v : Int), .int .i64 fl, .slice A n c] 25)) := (Chg.refl _ w).alloc _
    refine ⟨0, by omega, rfl, Blk.new w _ _, Sh.of_grew gW, Chg.of_grew gW, fun j m _ hm => ?_⟩
    obtain ⟨g, e, hc⟩ := hcl j m hm
    exact ⟨g, e, gW.cell hc fun e => e⟩
  case round =>
    clear hcl
    obtain ⟨k, hk, rfl, hb, hs, hc, hcl⟩ := hrel
    have b2 := hb.cell 2
    simp only [List.getElem?_toArray, List.getElem?_cons_succ, List.getElem?_cons_zero] at b2
    by_cases hlt : k < n
    · have hkm : k < ms.length := by rw [hml.out]; exact hlt
      obtain ⟨m, hm⟩ : ∃ m, ms[k]? = some m := ⟨_, List.getElem?_eq_getElem hkm⟩
      have hmem := List.mem_of_getElem? hm
      obtain ⟨g, rfl, x4⟩ := hcl k m (Nat.le_refl _) hm
      have hmX := (hels m hmem).sh hs
      have hrX := hrow.sh hs
      have hsz := hc.size
      have hmn := hms.out m hmem
      have hmhi := hM m hmem
      clear hm
      replace hkm := Lib.hid hkm
      go_wp2_with fail
      refine (spoilIdsX m.A m.n m.c lo _ hmX (by omega) hmn).mono ?_
      rintro e w2 ⟨rfl, hc2, hs2⟩
      obtain ⟨rc, hrc⟩ := hrX.blk ⟨g, 0, none⟩ rfl
      have hnb : ∀ g' t' cs', Blk wr g' t' cs' → t' ≠ 22 → ¬ ∃ ad, m.A = some ad ∧ g' = ad.block := fun g' t' cs' hb' hne ⟨ad, e, e2⟩ => by
        obtain ⟨cur, hcur⟩ := hmX.blk ad e
        exact blk_ne hb' hcur hne e2
      have hb2 := hb.chg hc2 (hnb _ _ _ hb (by decide))
      have hgn := hnb _ _ _ hrc (by decide)
      have hX2 := hrX.sh hs2
      obtain ⟨cs2, hO2⟩ := hX2
      have hW2 := Own.wr hO2
      have hgl := (Own.blk_lt hO2 _ rfl).1
      have hgh := hA _ rfl
      have hgb : w.heap.size ≠ g := blk_ne hb hrc (by decide)
      have hcR : Chg (fun k => lo ≤ k ∧ k < hi) w w2 := hc.step hc2 fun k' _ ⟨ad, e, e2⟩ => by
        have h1 := hmX.lo ad e
        have h2 := hmhi ad e
        rw [e2]
        exact ⟨h1.1, h2⟩
      have hs3 := hs.trans hs2
      have hcl2 : ∀ j m', k + 1 ≤ j → ms[j]? = some m' → w2.cell? ⟨g, j * 9 + 4, none⟩ = some (.slice m'.A m'.n m'.c) := fun j m' hj hm' => by
        obtain ⟨g', e, hx⟩ := hcl j m' (by omega) hm'
        injection e with e
        injection e with e _ _
        subst e
        exact hc2.cell hx hgn
      have wat := fun i (hi : i < 9) => hW2.at_ (j := k * 9 + i) (by omega)
      obtain ⟨_, u0, e0, y0, f0⟩ := wat 0 (by omega)
      injection e0 with e0
      subst e0
      obtain ⟨_, u1, e1, y1, f1⟩ := wat 1 (by omega)
      injection e1 with e1
      subst e1
      obtain ⟨_, u2, e2, y2, f2⟩ := wat 2 (by omega)
      injection e2 with e2
      subst e2
      obtain ⟨_, u3, e3, y3, f3⟩ := wat 3 (by omega)
      injection e3 with e3
      subst e3
      obtain ⟨_, u4, e4, y4, f4⟩ := wat 4 (by omega)
      injection e4 with e4
      subst e4
      obtain ⟨_, u5, e5, y5, f5⟩ := wat 5 (by omega)
      injection e5 with e5
      subst e5
      obtain ⟨_, u6, e6, y6, f6⟩ := wat 6 (by omega)
      injection e6 with e6
      subst e6
      obtain ⟨_, u7, e7, y7, f7⟩ := wat 7 (by omega)
      injection e7 with e7
      subst e7
      obtain ⟨_, u8, e8, y8, f8⟩ := wat 8 (by omega)
      injection e8 with e8
      subst e8
      rw [add_head] at y0 f0 y1 f1 y2 f2 y3 f3 y4 f4 y5 f5 y6 f6 y7 f7 y8 f8
      rw [Nat.add_zero] at y0 f0
      have b2' := hb2.cell 2
      simp only [List.getElem?_toArray, List.getElem?_cons_succ, List.getElem?_cons_zero] at b2'
      clear wat hW2 hO2 hcl x4 hc2 hs2 hnb hmX hrX hrc b2 hb hs hc
      go_wp2
      go_roundw
      case rel =>
        refine ⟨k + 1, by omega, by go_num, hb2.st9o hgb _ _ _ _ _ _ _ _ _ _, hs3.st9o _ _ _ _ _ _ _ _ _ _ _, hcR.st9o ⟨hgl, hgh⟩ _ _ _ _ _ _ _ _ _ _, fun j m' hj hm' => ⟨g, rfl, ?_⟩⟩
        exact (st9o_cell w2 g (k * 9) (j * 9 + 4) _ _ _ _ _ _ _ _ _ (fun i hi => by omega)).trans (hcl2 j m' hj hm')
      case measure => simp [intOf]; omega
    · go_wp2
      go_end0
      exact ⟨by simp, hc⟩
end Go.Proofs.YtjoaonppaokhhaaGreat

namespace Go.Proofs.YtjoaonppaokhhaaGreat

section
variable {P : Program} {Q : Exit → Act → World → Prop} {tys : List (Nat × Nat)} {S : World → Prop} {l : List Oper}

/-- it builds a slice or makes a place: its step is a function of the world -/
def isBldA (o : Oper) : Bool := match o.op with
  | .buildSlice _ _ _ => true
  | .alloc _ => true
  | .call c => match c.callee with
    | .builtin .append => true
    | _ => false
  | _ => false
def bldA (l : List Oper) (i : Nat) : Bool := match l[i]? with
  | some o => isBldA o
  | none => false
theorem Stp.and_bldA {ops : Array Oper} {o : Oper} {K1 K2 : Act → World → Prop} {a : Act} {w : World} (hb : isBldA o = true) (h1 : Stp P ops Q o K1 a w) (h2 : Stp P ops Q o K2 a w) : Stp P ops Q o (fun a w => K1 a w ∧ K2 a w) a w := by
  unfold Stp at *
  split
  · rename_i hw
    rw [if_pos hw] at h1 h2
    unfold Oper.wp at *
    have hm : ∃ m : Sem Value, (execOp a.eval o).run P w = (do pure (.value (← m)) : Sem Next).run P w := by
      unfold isBldA at hb
      cases ho : o.op with
      | buildSlice t n parts => exact ⟨_, by unfold execOp; rw [ho]⟩
      | alloc elem => exact ⟨_, by unfold execOp; rw [ho]⟩
      | call c =>
        rw [ho] at hb
        dsimp only at hb
        split at hb
        · rename_i hc
          refine ⟨Builtin.append_ c.argTypes o.type (c.args.map a.eval), ?_⟩
          unfold execOp
          simp only [ho, resolve, hc, invoke, builtin, Sem.run_bind, Sem.run_pure, Result.andThen_ok]
        · cases hb
      | _ => rw [ho] at hb; cases hb
    obtain ⟨m, he⟩ := hm
    rw [he] at h1 h2 ⊢
    rw [Sem.run_bind] at h1 h2 ⊢
    cases hr : m.run P w with
    | ok x w' =>
      rw [hr] at h1 h2
      exact ⟨h1, h2⟩
    | halt x w' =>
      rw [hr] at h1
      cases x <;> exact h1
  · rename_i hw
    rw [if_neg hw] at h1 h2
    exact ⟨h1, h2⟩
theorem Stp.all_bldA {β : Type} {ops : Array Oper} {o : Oper} {K0 : Act → World → Prop} {K : β → Act → World → Prop} {a : Act} {w : World} (hb : isBldA o = true) : ∀ {rs : List β}, rs ≠ [] → (∀ r ∈ rs, Stp P ops Q o (fun a w => K0 a w ∧ K r a w) a w) → Stp P ops Q o (fun a w => K0 a w ∧ ∀ r ∈ rs, K r a w) a w
  | [], h, _ => absurd rfl h
  | [x], _, h => (h x (by simp)).mono fun a w ⟨h1, h2⟩ => ⟨h1, fun r hr => by
      obtain rfl : r = x := by simpa using hr
      exact h2⟩
  | x :: y :: rs, _, h => by
    have h1 := h x (by simp)
    have h2 := Stp.all_bldA (K := K) hb (rs := y :: rs) (by simp) (fun r hr => h r (by simp [hr]))
    refine (Stp.and_bldA hb h1 h2).mono fun a w ⟨⟨h3, h4⟩, _, h5⟩ => ⟨h3, fun r hr => ?_⟩
    rcases List.mem_cons.1 hr with rfl | hr
    · exact h4
    · exact h5 r hr

/-- what holds on the way -/
structure FamL (P : Program) (Q : Exit → Act → World → Prop) (tys : List (Nat × Nat)) (S : World → Prop) (l : List Oper) (listed : Array Bool) (rs : List (List Nat)) (a : Act) (w : World) : Prop where
  mem : ∀ r ∈ rs, ∀ i, i ∈ r ↔ i ∈ rem l.length listed
  nodup : ∀ r ∈ rs, r.Nodup
  pw : ∀ r ∈ rs, r.Pairwise fun j i => okB P tys l (ancTab l #[]) j i = true
  cov : ∃ f, covD (bldA l) l.length (ancTab l #[]) f (rs.map (·.filter (actB P tys l))) = true ∧ ∀ r ∈ rs, (r.filter (actB P tys l)).length ≤ f
  wp : ∀ r ∈ rs, wpL P l.toArray Q tys S (opsOf l r) a w
  here : rem l.length listed = [] ∨ S w
  last : ∀ r ∈ rs, r = [] ∨ r.getLast? = some (l.length - 1)

theorem any_of_textsDL (hno : Region.noSelect l.toArray = true) (hed : edgeB 0 l = true) (hL : lastB l = true) : ∀ (fuel : Nat) (listed : Array Bool) (rs : List (List Nat)) (a : Act) (w : World), listed.size = l.length → Closed l.toArray listed → (rem l.length listed).length ≤ fuel →
    FamL P Q tys S l listed rs a w → wpAny P .any l.toArray (OnlyN Q) fuel listed a w := by
  have hedg := edgeB_spec l 0 hed
  simp only [Nat.zero_add] at hedg
  have hsel := Region.noSelect_spec hno
  have hselm : ∀ o : Oper, o ∈ l.toArray → ∀ cs b, o.op ≠ .select cs b := fun o ho cs b => by
    obtain ⟨i, hi, rfl⟩ := Array.mem_iff_getElem.1 ho
    exact hsel i _ cs b (Array.getElem?_eq_getElem hi)
  obtain ⟨hgood, hsz⟩ := ancTab_good (ops := l.toArray) l #[] (fun j => by simp) (fun i hi => by simp at hi)
  simp only [List.size_toArray, List.length_nil, Nat.zero_add] at hsz
  have ready_rem : ∀ {listed : Array Bool} {i : Nat}, i ∈ Region.ready .any l.toArray listed → i ∈ rem l.length listed := fun {listed i} h => by
    obtain ⟨h0, o, ho, _⟩ := mem_ready.1 h
    exact mem_rem.2 ⟨by simpa using (Array.getElem?_eq_some_iff.1 ho).1, h0⟩
  intro fuel
  induction fuel with
  | zero =>
    intro listed rs a w _ _ hlen F
    have h0 : rem l.length listed = [] := List.eq_nil_of_length_eq_zero (by omega)
    obtain ⟨f, hc, _⟩ := F.cov
    obtain ⟨r, hr⟩ := List.exists_mem_of_ne_nil rs (fun e => covD_ne hc (by rw [e]; rfl))
    have hr0 : r = [] := List.eq_nil_iff_forall_not_mem.2 fun i hi => by have := (F.mem r hr i).1 hi; rw [h0] at this; cases this
    subst hr0
    refine ⟨?_, F.wp [] hr⟩
    cases hx : Region.ready .any l.toArray listed with
    | nil => rfl
    | cons x xs =>
      have : x ∈ rem l.length listed := ready_rem (by rw [hx]; simp)
      rw [h0] at this
      cases this
  | succ fuel ih =>
    intro listed rs a w hls hcl hlen F
    obtain ⟨f, hc, hf⟩ := F.cov
    obtain ⟨r0, hr0⟩ := List.exists_mem_of_ne_nil rs (fun e => covD_ne hc (by rw [e]; rfl))
    refine ⟨fun hr => ?_, fun i hi => ?_⟩
    · cases hx : r0 with
      | nil => subst hx; exact F.wp [] hr0
      | cons i0 rest =>
        subst hx
        have hm := (F.mem _ hr0 i0).1 (by simp)
        obtain ⟨hlt, hun⟩ := mem_rem.1 hm
        have ho : l.toArray[i0]? = some l[i0] := by simp [hlt]
        have : i0 ∈ Region.ready .any l.toArray listed := mem_ready.2 ⟨hun, _, ho, fun e hee hb => by
          cases hv : listed.getD e.on false with
          | true => rfl
          | false =>
            exfalso
            have hp := List.pairwise_cons.1 (F.pw _ hr0)
            have h1 := hedg i0 _ (by simp [hlt]) e hee hb
            have hm2 : e.on ∈ rem l.length listed := mem_rem.2 ⟨by omega, getD_in (by omega) hv⟩
            have hm3 := (F.mem _ hr0 e.on).2 hm2
            rcases List.mem_cons.1 hm3 with e1 | e1
            · omega
            · have h5 := hp.1 _ e1
              simp only [okB, Bool.and_eq_true] at h5
              have h6 := h5.2
              rw [show l[i0]? = some l[i0] from by simp [hlt]] at h6
              have h7 := Array.all_eq_true_iff_forall_mem.1 h6 e hee
              simp [hb] at h7⟩
        rw [hr] at this
        cases this
    · have hir := ready_rem hi
      obtain ⟨hun, oi, hoi, hall⟩ := mem_ready.1 hi
      have hil : l[i]? = some oi := by simpa using hoi
      have hit : i < l.length := (List.getElem?_eq_some_iff.1 hil).1
      have hnanc : ∀ j ∈ rem l.length listed, ((ancTab l #[]).getD i 0).testBit j = false := fun j hj => by
        cases hb : ((ancTab l #[]).getD i 0).testBit j with
        | false => rfl
        | true =>
          have := anc_listed hgood hcl i oi (by omega) hoi (fun e hee => hall e (by simpa using hee)) hb
          rw [getD_both (mem_rem.1 hj).2] at this
          cases this
      have hcl' : Closed l.toArray (listed.setIfInBounds i true) := fun k ok hok hk e hee hb => by
        by_cases hik : i = k
        · subst hik
          obtain rfl : ok = oi := Option.some.inj (hok.symm.trans hoi)
          exact getD_set_true (hall e (by simpa using hee) hb)
        · rw [getD_set_ne false hik] at hk
          exact getD_set_true (hcl k ok hok hk e hee hb)
      have hrem : ∀ k, k ∈ rem l.length (listed.setIfInBounds i true) ↔ k ∈ rem l.length listed ∧ k ≠ i := fun k => by
        rw [mem_rem, mem_rem]
        by_cases hik : i = k
        · subst hik
          have hsz2 : i < listed.size := by omega
          simp [hsz2]
        · rw [getD_set_ne true hik]
          exact ⟨fun h => ⟨h, fun e => hik e.symm⟩, fun h => h.1⟩
      have hlen2 : (rem l.length (listed.setIfInBounds i true)).length ≤ fuel := by
        obtain ⟨l1, l2, he⟩ := List.append_of_mem hir
        rw [rem_set he]
        rw [he] at hlen
        simp at hlen ⊢
        omega
      have hS : S w := F.here.elim (fun e => by rw [e] at hir; cases hir) id
      -- one text, with i taken to its front
      have one : ∀ r ∈ rs, (actB P tys l i = true → (r.filter (actB P tys l)).head? = some i) → ∃ A B, r = A ++ i :: B ∧ r.erase i = A ++ B ∧ (actB P tys l i = true → A.filter (actB P tys l) = []) ∧ (B = [] → A = []) ∧ OkT P tys S l.toArray oi a ∧
          Stp P l.toArray Q oi (fun a' w' => (rem l.length (listed.setIfInBounds i true) = [] ∨ S w') ∧ wpL P l.toArray Q tys S (opsOf l (A ++ B)) a' w') a w := fun r hr hact => by
        obtain ⟨A, B, rfl⟩ := List.append_of_mem ((F.mem r hr i).2 hir)
        have hnd := F.nodup _ hr
        have hiA : i ∉ A := fun h => by
          rw [List.nodup_append] at hnd
          exact hnd.2.2 i h i (by simp) rfl
        have hA0 : actB P tys l i = true → A.filter (actB P tys l) = [] := fun h => by
          have h2 := hact h
          rw [List.filter_append] at h2
          cases hx : A.filter (actB P tys l) with
          | nil => rfl
          | cons y ys =>
            rw [hx] at h2
            simp at h2
            have hy : y ∈ A.filter (actB P tys l) := by rw [hx]; simp
            rw [h2] at hy
            exact (hiA (List.mem_filter.1 hy).1).elim
        have hBA : B = [] → A = [] := fun hB => by
          subst hB
          rcases F.last _ hr with e | e
          · simp at e
          · have hin : i = l.length - 1 := by simpa using e
            refine List.eq_nil_iff_forall_not_mem.2 fun j hj => ?_
            have hjr : j ∈ rem l.length listed := (F.mem _ hr j).1 (by simp [hj])
            have hjl : j < l.length := (mem_rem.1 hjr).1
            have hji : j ≠ i := fun e => hiA (e ▸ hj)
            have hbit : ((ancTab l #[]).getD i 0).testBit j = true := by rw [hin]; exact List.all_eq_true.1 hL j (List.mem_range.2 (by omega))
            rw [hnanc j hjr] at hbit
            cases hbit
        refine ⟨A, B, rfl, by rw [List.erase_append_right _ hiA]; simp, hA0, hBA, ?_⟩
        have hwp := F.wp _ hr
        have e1 : opsOf l (A ++ i :: B) = opsOf l A ++ oi :: opsOf l B := by
          unfold opsOf
          rw [List.filterMap_append, List.filterMap_cons_some hoi]
        rw [e1] at hwp
        by_cases hB : B = []
        · have hA := hBA hB
          subst hB
          subst hA
          have h9 : wpL P l.toArray Q tys S [oi] a w := hwp
          have hre : rem l.length (listed.setIfInBounds i true) = [] := List.eq_nil_iff_forall_not_mem.2 fun k hk => by
            obtain ⟨h1, h2⟩ := (hrem k).1 hk
            have := (F.mem _ hr k).2 h1
            simp at this
            exact h2 this
          exact ⟨h9.1, h9.2.mono fun a' w' ⟨_, h'⟩ => ⟨.inl hre, h'⟩⟩
        have hneB : opsOf l B ≠ [] := by
          cases B with
          | nil => exact absurd rfl hB
          | cons x xs =>
            have hx := (mem_rem.1 ((F.mem _ hr x).1 (by simp))).1
            unfold opsOf
            rw [List.filterMap_cons_some (b := l[x]'hx) (by simp [hx])]
            exact List.cons_ne_nil _ _
        have hfr := wpL.front hselm oi (Array.mem_of_getElem? hoi) (opsOf l B) hneB (opsOf l A) a w hS (fun oj hoj => by
          obtain ⟨j, hj, hjo⟩ := List.mem_filterMap.1 hoj
          have hjl : l[j]? = some oj := by simpa using hjo
          refine ⟨Array.mem_of_getElem? hjo, ?_⟩
          have hpw := F.pw _ hr
          rw [List.pairwise_append] at hpw
          have h5 := hpw.2.2 j hj i (by simp)
          simp only [okB, Bool.and_eq_true, Bool.or_eq_true] at h5
          have hjr : j ∈ rem l.length listed := (F.mem _ hr j).1 (by simp [hj])
          rcases h5.1 with (h6 | h6) | h6
          · rw [hnanc j hjr] at h6; cases h6
          · have := hA0 h6.2
            have hjf : j ∈ A.filter (actB P tys l) := List.mem_filter.2 ⟨hj, h6.1⟩
            rw [this] at hjf
            cases hjf
          · rw [hjl, hil] at h6
            simp only [pairT, Bool.and_eq_true, Bool.or_eq_true, decide_eq_true_eq] at h6
            exact ⟨h6.2, h6.1⟩) hwp
        refine ⟨hfr.1, hfr.2.mono fun a' w' ⟨h1, h2⟩ => ⟨.inr h1, ?_⟩⟩
        unfold opsOf
        rw [List.filterMap_append]
        exact h2
      -- the family behind i
      obtain ⟨rs', hne', hsub, hsing, hcov'⟩ : ∃ rs' : List (List Nat), rs' ≠ [] ∧ (∀ r' ∈ rs', ∃ r ∈ rs, r' = r.erase i ∧ (actB P tys l i = true → (r.filter (actB P tys l)).head? = some i)) ∧ (actB P tys l i = true → rs'.length ≤ 1 ∨ bldA l i = true) ∧
          ∃ f', covD (bldA l) l.length (ancTab l #[]) f' (rs'.map (·.filter (actB P tys l))) = true ∧ ∀ r' ∈ rs', (r'.filter (actB P tys l)).length ≤ f' := by
        cases hai : actB P tys l i with
        | false =>
          have hfe : ∀ r ∈ rs, (r.erase i).filter (actB P tys l) = r.filter (actB P tys l) := fun r hr => by
            obtain ⟨A, B, rfl⟩ := List.append_of_mem ((F.mem r hr i).2 hir)
            have hnd := F.nodup _ hr
            have hiA : i ∉ A := fun h => by
              rw [List.nodup_append] at hnd
              exact hnd.2.2 i h i (by simp) rfl
            rw [List.erase_append_right _ hiA, List.erase_cons_head, List.filter_append, List.filter_append, List.filter_cons, hai]
            simp
          refine ⟨List.map (fun r : List Nat => r.erase i) rs, (by intro e; rw [List.map_eq_nil_iff] at e; rw [e] at hr0; cases hr0), fun r' hr' => ?_, (fun h => by cases h), f, ?_, fun r' hr' => ?_⟩
          · obtain ⟨r, hr, rfl⟩ := List.mem_map.1 hr'
            exact ⟨r, hr, rfl, fun h => by cases h⟩
          · have e2 : (List.map (fun r : List Nat => r.erase i) rs).map (fun r => r.filter (actB P tys l)) = rs.map (fun r => r.filter (actB P tys l)) := by
              rw [List.map_map]
              exact List.map_congr_left fun r hr => hfe r hr
            rw [e2]
            exact hc
          · obtain ⟨r, hr, rfl⟩ := List.mem_map.1 hr'
            rw [hfe r hr]
            exact hf r hr
        | true =>
          have hmemf : ∀ r ∈ rs, i ∈ r.filter (actB P tys l) := fun r hr => List.mem_filter.2 ⟨(F.mem r hr i).2 hir, hai⟩
          cases f with
          | zero =>
            have := hf r0 hr0
            have h2 := hmemf r0 hr0
            rw [List.eq_nil_of_length_eq_zero (Nat.le_zero.1 this)] at h2
            cases h2
          | succ f =>
            simp only [covD, Bool.and_eq_true] at hc
            have h3 := List.all_eq_true.1 hc.2 i (List.mem_range.2 hit)
            have h4 : ((rs.map (·.filter (actB P tys l))).all fun r => r.contains i) = true := List.all_eq_true.2 fun x hx => by
              obtain ⟨r, hr, rfl⟩ := List.mem_map.1 hx
              exact List.contains_iff_mem.2 (hmemf r hr)
            have h5 : ((rs.map (·.filter (actB P tys l))).any fun r => r.any fun j => decide (j ≠ i) && ((ancTab l #[]).getD i 0).testBit j) = false := by
              rw [List.any_eq_false]
              intro x hx
              obtain ⟨r, hr, rfl⟩ := List.mem_map.1 hx
              rw [Bool.not_eq_true, List.any_eq_false]
              intro j hj
              rw [hnanc j ((F.mem r hr j).1 (List.mem_filter.1 hj).1)]
              simp
            rw [h4, h5] at h3
            simp only [Bool.not_true, Bool.or_self, Bool.false_or, Bool.and_eq_true, Bool.or_eq_true, decide_eq_true_eq] at h3
            obtain ⟨h30, h3⟩ := h3
            obtain ⟨pick, hpick⟩ : ∃ pick : List Nat → Option (List Nat), pick = fun r => if (r.filter (actB P tys l)).head? = some i then some (r.erase i) else none := ⟨_, rfl⟩
            have hstep : (rs.filterMap pick).map (·.filter (actB P tys l)) = (rs.map (·.filter (actB P tys l))).filterMap (stepR i) := by
              rw [List.map_filterMap, List.filterMap_map]
              refine fm_congr fun r hr => ?_
              simp only [Function.comp, hpick, stepR]
              split
              · rename_i hh
                obtain ⟨A, B, hAB, he, hA0, _, _, _⟩ := one r hr (fun _ => hh)
                simp only [Option.map_some]
                rw [he, List.filter_append, hA0 hai, List.nil_append, hAB, List.filter_append, hA0 hai, List.nil_append, List.filter_cons, hai]
                simp
              · rfl
            refine ⟨rs.filterMap pick, fun e => covD_ne h3 (by rw [← hstep, e]; rfl), fun r' hr' => ?_, fun _ => by rw [← hstep, List.length_map] at h30; exact h30, f, by rw [hstep]; exact h3, fun r' hr' => ?_⟩
            · obtain ⟨r, hr, hp⟩ := List.mem_filterMap.1 hr'
              rw [hpick] at hp
              simp only at hp
              split at hp
              · rename_i hh
                injection hp with hp
                exact ⟨r, hr, hp.symm, fun _ => hh⟩
              · cases hp
            · obtain ⟨r, hr, hp⟩ := List.mem_filterMap.1 hr'
              rw [hpick] at hp
              simp only at hp
              split at hp
              · rename_i hh
                injection hp with hp
                obtain ⟨A, B, hAB, he, hA0, _, _, _⟩ := one r hr (fun _ => hh)
                have h6 := hf r hr
                rw [← hp, he, List.filter_append, hA0 hai, List.nil_append]
                rw [hAB, List.filter_append, hA0 hai, List.nil_append, List.filter_cons, hai] at h6
                simp at h6
                omega
              · cases hp
      -- the step is taken in one of them; what follows holds for all
      have hst : Stp P l.toArray Q oi (fun a' w' => wpAny P .any l.toArray (OnlyN Q) fuel (listed.setIfInBounds i true) a' w') a w := by
        have all : Stp P l.toArray Q oi (fun a' w' => (rem l.length (listed.setIfInBounds i true) = [] ∨ S w') ∧ ∀ r' ∈ rs', wpL P l.toArray Q tys S (opsOf l r') a' w') a w := by
          have each : ∀ r' ∈ rs', OkT P tys S l.toArray oi a ∧ Stp P l.toArray Q oi (fun a' w' => (rem l.length (listed.setIfInBounds i true) = [] ∨ S w') ∧ wpL P l.toArray Q tys S (opsOf l r') a' w') a w := fun r' hr' => by
            obtain ⟨r, hr, rfl, hh⟩ := hsub r' hr'
            obtain ⟨A, B, hAB, he, hA0, _, h7, h8⟩ := one r hr hh
            rw [he]
            exact ⟨h7, h8⟩
          obtain ⟨r1, hr1⟩ := List.exists_mem_of_ne_nil rs' hne'
          cases hai : actB P tys l i with
          | true =>
            rcases hsing hai with h1 | h1
            rotate_left
            · have hb : isBldA oi = true := by
                unfold bldA at h1
                rw [hil] at h1
                exact h1
              exact Stp.all_bldA (K := fun r' a' w' => wpL P l.toArray Q tys S (opsOf l r') a' w') hb hne' fun r' hr' => (each r' hr').2
            refine (each r1 hr1).2.mono fun a' w' ⟨hS', h9⟩ => ⟨hS', fun r' hr' => ?_⟩
            match rs', h1, hr1, hr' with
            | [x], _, hr1, hr' =>
              simp only [List.mem_cons, List.not_mem_nil, or_false] at hr1 hr'
              subst hr1; subst hr'
              exact h9
          | false =>
            have hk : kindB P tys oi ≤ 1 := by
              unfold actB at hai
              rw [hil] at hai
              simp only [decide_eq_false_iff_not] at hai
              omega
            obtain ⟨v, hy⟩ := (each r1 hr1).1.yv hk hS (each r1 hr1).2
            exact (hy.stp hS).2 ⟨.inr hS, fun r' hr' => ((hy.stp hS).1 (each r' hr').2).2⟩
        refine all.mono fun a' w' ⟨hS', hw'⟩ => ih (listed.setIfInBounds i true) rs' a' w' (by simpa using hls) hcl' hlen2 ⟨fun r' hr' k => ?_, fun r' hr' => ?_, fun r' hr' => ?_, hcov', hw', hS', fun r' hr' => ?_⟩
        · obtain ⟨r, hr, rfl, hh⟩ := hsub r' hr'
          rw [(F.nodup r hr).mem_erase_iff, hrem, F.mem r hr k]
          exact And.comm
        · obtain ⟨r, hr, rfl, hh⟩ := hsub r' hr'
          exact (F.nodup r hr).erase i
        · obtain ⟨r, hr, rfl, hh⟩ := hsub r' hr'
          exact (F.pw r hr).sublist (List.erase_sublist)
        · obtain ⟨r, hr, rfl, hh⟩ := hsub r' hr'
          obtain ⟨A, B, hAB, he, _, hBA, _, _⟩ := one r hr hh
          rw [he]
          rcases F.last r hr with e | e
          · rw [hAB] at e
            simp at e
          · cases hB : B with
            | nil => exact .inl (by rw [hBA hB]; rfl)
            | cons x xs =>
              refine .inr ?_
              rw [hAB, hB] at e
              simp only [List.getLast?_append, List.getLast?_cons_cons] at e ⊢
              exact e
      unfold wpOp
      rw [hoi]
      unfold Stp at hst
      dsimp only
      split
      · rename_i hw; rw [if_pos hw] at hst; exact .inl hst
      · rename_i hw; rw [if_neg hw] at hst; exact hst

/-- The check that the kernel runs. -/
def textsDL (P : Program) (tys : List (Nat × Nat)) (l : List Oper) (ts : List (List Nat)) : Bool := (Region.noSelect l.toArray && edgeB 0 l && (l.all fun o => kindB P tys o == tagOf tys o) && (ts.all fun t => permB l.length t && pwB (okB P tys l (ancTab l #[])) t) && covD (bldA l) l.length (ancTab l #[]) l.length (ts.map (·.filter (actB P tys l)))) && lastB l && ts.all fun t => decide (t.getLast? = some (l.length - 1))
variable {bs : List Nat} {W : World}
/-- A region whose order is drawn, one walk for each order of those of its operations that act; the blocks bs, in which what is loaded lies, stay as they are but for the last operation, which is behind all others. -/
theorem wp_region_textsDL (tys : List (Nat × Nat)) (bs : List Nat) (ts : List (List Nat)) {id : Nat} {l : List Oper} {a : Act} {w : World} (hm : P.follows .mixedOrders = true) (hB : textsDL P tys l ts = true) (hc : CellsIn bs w)
    (h : ∀ t ∈ ts, wpUL P l.toArray Q tys bs w [] (opsOf l t) a w.drew) : (Code.region id l.toArray true).wp P Q a w := by
  simp only [textsDL, Bool.and_eq_true] at hB
  obtain ⟨⟨⟨⟨⟨⟨hno, hed⟩, hkd⟩, hts⟩, hcv⟩, hL⟩, hla⟩ := hB
  refine Code.wp_mono OnlyN.out (wp_region_any hm ?_)
  have hr : rem l.length (Array.replicate l.length false) = List.range l.length := List.filter_eq_self.2 fun i hi => by
    have := List.mem_range.1 hi
    simp [this]
  have hS : SameIn bs w { w with drawn := w.drawn + 1 } := fun k _ => rfl
  have hp : ∀ t ∈ ts, (t.length = l.length ∧ (∀ i, i < l.length → i ∈ t) ∧ (∀ i ∈ t, i < l.length) ∧ t.Nodup) ∧ pwB (okB P tys l (ancTab l #[])) t = true := fun t ht => by
    have := List.all_eq_true.1 hts t ht
    simp only [permB, Bool.and_eq_true, decide_eq_true_eq] at this
    obtain ⟨⟨⟨⟨h1, h2⟩, h3⟩, h4⟩, h5⟩ := this
    exact ⟨⟨h1, fun i hi => List.contains_iff_mem.1 (List.all_eq_true.1 h2 i (List.mem_range.2 hi)), fun i hi => by simpa using List.all_eq_true.1 h3 i hi, h4⟩, h5⟩
  refine any_of_textsDL (S := SameIn bs w) hno hed hL _ _ ts _ _ (by simp) ?_ ?_ ⟨fun t ht i => ?_, fun t ht => (hp t ht).1.2.2.2, fun t ht => pwB_spec (hp t ht).2, ⟨l.length, hcv, fun t ht => ?_⟩, fun t ht => ?_, .inr hS, fun t ht => .inr (by have := List.all_eq_true.1 hla t ht; simpa using this)⟩
  · intro i o _ hi
    simp only [List.size_toArray] at hi
    rw [getD_replicate_false] at hi
    cases hi
  · simp only [List.size_toArray]
    rw [hr]
    simp
  · simp only [List.size_toArray]
    rw [hr, List.mem_range]
    exact ⟨(hp t ht).1.2.2.1 i, (hp t ht).1.2.1 i⟩
  · exact Nat.le_trans (List.length_filter_le _ _) (by rw [(hp t ht).1.1]; exact Nat.le_refl _)
  · exact wpUL_sound hc (opsOf l t) none [] (fun o ho => by
      obtain ⟨j, hj, hjo⟩ := List.mem_filterMap.1 ho
      have : o ∈ l := by
        have h9 : l[j]? = some o := by simpa using hjo
        exact List.mem_of_getElem? h9
      have := List.all_eq_true.1 hkd o this
      simpa using this) (fun x hx => by cases hx) a _ (fun x hx => by cases hx) hS (h t ht)
end
end Go.Proofs.YtjoaonppaokhhaaGreat
