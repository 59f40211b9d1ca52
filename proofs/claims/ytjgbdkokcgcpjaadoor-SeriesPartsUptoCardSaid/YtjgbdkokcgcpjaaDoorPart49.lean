/-
  Several texts in one:
  Rows written over: labels, points, series. Conditions: lengths that memory bears.
  The document's merge of lists, and that it answers as the package's. Conditions: lengths that memory bears.
  The law SeriesMerges, walked. Conditions: lengths that memory bears; the longest text that the library takes is as it is set.
-/
import Derived.Test.YtjgbdkokcgcpjaaDoorPart23
import Derived.Test.YtjgbdkokcgcpjaaDoorPart38
import Derived.Test.YtjgbdkokcgcpjaaDoorPart47
import Derived.Test.YtjgbdkokcgcpjaaDoorPart48
import Derived.Test.YtjgbdkokcgcpjaaDoorPart40
import Derived.Test.YtjgbdkokcgcpjaaDoorPart41

namespace Go.Proofs.YtjgbdkokcgcpjaaDoor
open Go.RowKit

/-- blocks keep their kind and their length -/
def Sh (w w' : World) : Prop := ∀ g cs t, Blk w g t cs → ∃ cs', Blk w' g t cs' ∧ cs'.size = cs.size
theorem Sh.refl (w : World) : Sh w w := fun _ cs _ h => ⟨cs, h, rfl⟩
theorem Sh.trans {a b c : World} (h : Sh a b) (h' : Sh b c) : Sh a c := fun g cs t hb => by
  obtain ⟨c1, k1, e1⟩ := h g cs t hb
  obtain ⟨c2, k2, e2⟩ := h' g c1 t k1
  exact ⟨c2, k2, e2.trans e1⟩
theorem Sh.of_grew {w w' : World} (h : Grew w w') : Sh w w' := fun _ cs _ hb => ⟨cs, hb.grew h, rfl⟩
theorem Sh.setCell {a b : World} (h : Sh a b) (g i : Nat) (u : Value) : Sh a (b.setCell ⟨g, i, none⟩ u) := fun k cs t hb => by
  obtain ⟨c1, k1, e1⟩ := h k cs t hb
  by_cases hk : k = g
  · subst hk
    exact ⟨_, k1.set i u, by rw [Array.size_setIfInBounds]; exact e1⟩
  · exact ⟨c1, k1.far (by exact hk) u, e1⟩
/-- a row of the call's own, whatever is in it -/
def OwX (w : World) (base : Nat) (t : TypeId) (sz : Nat) (A : Option Addr) (n c : Nat) : Prop := ∃ cs, Own w base t sz A n c cs
theorem Own.block {w : World} {base : Nat} {t : TypeId} {sz n c : Nat} {A : Option Addr} {cs : List Value} (h : Own w base t sz A n c cs) : ∀ ad, A = some ad → ∃ cur, Blk w ad.block t cur ∧ cur.size = c * sz := by
  rintro ad rfl
  rcases h.2 with ⟨e, _⟩ | ⟨g, cap, cur, e, _, hg, _, _, h5, _⟩
  · injection e with e1
    cases e1
  · injection e with e1 e2 e3
    injection e1 with e1
    subst e1
    exact ⟨cur, hg, by rw [h5, e3]⟩
theorem OwX.sh {w w' : World} {base : Nat} {t : TypeId} {sz n c : Nat} {A : Option Addr} (h : OwX w base t sz A n c) (hs : Sh w w') : OwX w' base t sz A n c := by
  obtain ⟨cs, h1, h2⟩ := h
  rcases h2 with h3 | ⟨g, cap, cur, e, hb, hg, h3, h4, h5, h6⟩
  · exact ⟨cs, h1, .inl h3⟩
  · obtain ⟨cur', k1, k2⟩ := hs g cur t hg
    exact ⟨cur'.toList.take (n * sz), by
      rw [List.length_take, Array.length_toList, k2, h5]
      exact Nat.min_eq_left (Nat.mul_le_mul_right _ h3), .inr ⟨g, cap, cur', e, hb, k1, h3, h4, by rw [k2, h5], rfl⟩⟩
theorem OwX.blk {w : World} {base : Nat} {t : TypeId} {sz n c : Nat} {A : Option Addr} (h : OwX w base t sz A n c) : ∀ ad, A = some ad → ∃ cur, Blk w ad.block t cur := fun ad e => by
  obtain ⟨cs, h⟩ := h
  obtain ⟨cur, k, _⟩ := h.block ad e
  exact ⟨cur, k⟩
theorem OwX.lo {w : World} {base : Nat} {t : TypeId} {sz n c : Nat} {A : Option Addr} (h : OwX w base t sz A n c) : ∀ ad, A = some ad → base ≤ ad.block := fun ad e => by
  obtain ⟨cs, h⟩ := h
  exact (h.blk_lt ad e).1
theorem Sh.of_app {w w' : World} {base : Nat} {t : TypeId} {sz n n' c c' : Nat} {A A' : Option Addr} {xs ys : List Value} (h : Own w base t sz A n c xs) (ha : Apped w base t sz A n' c ys A' c' w') : Sh w w' := fun g cs t' hb => by
  by_cases hg : ∃ ad, A = some ad ∧ g = ad.block
  · obtain ⟨ad, rfl, rfl⟩ := hg
    rcases ha.2.2 with ⟨e1, e2, _⟩ | ⟨_, e2, _⟩
    · subst e1
      subst e2
      obtain ⟨cur, k1, k2⟩ := h.block ad rfl
      obtain ⟨cur', q1, q2⟩ := ha.own.block ad rfl
      have := k1.symm.trans hb
      injection this with this
      injection this with this1 this2
      subst this1
      subst this2
      exact ⟨cur', q1, by rw [q2, k2]⟩
    · exact ⟨cs, hb.grew e2, rfl⟩
  · exact ⟨cs, hb.chg ha.chg hg, rfl⟩
theorem wpList_appX {P : Program} {α : Type} {E : El α} {ops : Array Oper} {rest : List Oper} {o : Oper} {a : Act} {w : World} {Q : Exit → Act → World → Prop} (hgd : o.guard = none) (s x : Operand) (ts t : TypeId) {z : Value} {bytes : Nat}
    (hinfo : (P.info? t).map (fun i => (i.zero, i.size, i.bytes)) = some (some z, E.sz, bytes)) (hzs : z.cells.size = E.sz) (ht : P.underlying ts = some (.slice t))
    (ho : o.op = .call { callee := .builtin .append, args := #[s, x], argTypes := #[ts, ts] })
    (base : Nat) (A : Option Addr) (n c : Nat) (cs : List Value) (hs : a.eval s = .slice A n c) (hown : Own w base t E.sz A n c cs) (hbase : base ≤ w.heap.size)
    (B : Option Addr) (m d : Nat) (r : List α) (hx : a.eval x = .slice B m d) (hr : RE E w B m r) (h63 : n + m ≤ maxLen) (hbytes : (n + m) * bytes ≤ 140737488355328)
    (h : ∀ A' c' w', Apped w base t E.sz A (n + m) c (cs ++ E.flat r) A' c' w' → wpList P ops Q rest (a.put o.dst (.slice A' (n + m) c')) w') : wpList P ops Q (o :: rest) a w := by
  obtain ⟨i0, hi, hz0, hz1, hz2⟩ := info_parts hinfo
  exact wpList_app w hgd s x ts t ho i0 z E.sz bytes ht hi hz0 hz1 hz2 hzs base A n c _ hs hown hbase B m d _ hx (by rw [E.flat_length, hr.1]) hr.2 (E.flat_one' r) h63 hbytes h

set_option maxHeartbeats 1000000 in
theorem spoilPts (A : Option Addr) (n c base : Nat) (w : World) (hx : OwX w base 49 2 A n c) (hbase : base ≤ w.heap.size) (hn : n ≤ 1099511627776) :
    Calls Tryd.prog 41 #[.slice A n c] w fun e w' => e = .returned (.tuple #[]) ∧ Chg (fun k => ∃ ad, A = some ad ∧ k = ad.block) w w' ∧ Sh w w' := by
  obtain ⟨cs, h⟩ := hx
  have hc := Own.cap h
  have h1 : Own (w.alloc (.cells #[.int .i64 (-7), .int .u64 77] 49)) base 49 elPt.sz A n c cs := Own.alloc h _
  have hs1 : Sh w (w.alloc (.cells #[.int .i64 (-7), .int .u64 77] 49)) := Sh.of_grew ((Chg.refl _ w).alloc _)
  have hr : RE elPt (w.alloc (.cells #[.int .i64 (-7), .int .u64 77] 49)) (some ⟨w.heap.size, 0, none⟩) 1 [(-7, 77)] := RE.newAt rfl rfl rfl
  go_enter Tryd.func41, Tryd.ntmps41
  go_wp2_with (at_builtin; refine wpList_appX (E := elPt) rfl _ _ 44 49 infoPt rfl Tryd.underlying44 rfl base A n c cs rfl h1 (by simp; omega) _ 1 1 [(-7, 77)] rfl hr (by unfold maxLen; omega) (by omega) ?_; intro A2 c2 w2 h2; have hc2 := Own.cap h2.own)
  have hw2 : Wr w2 A2 ((n + 1) * 2) := Own.wr h2.own
  have hg2 : Chg (fun k => ∃ ad, A = some ad ∧ k = ad.block) w w2 := ((Chg.refl _ w).alloc _).trans h2.chg
  have hs2 : Sh w w2 := hs1.trans (Sh.of_app h1 h2)
  have hw1 : Wr w2 A (n * 2) := by
    rcases h2.2.2 with ⟨e1, _⟩ | ⟨_, e2, _⟩
    · rw [← e1]; exact hw2.mono (by omega)
    · exact (Own.wr h1).chg e2 (fun _ _ e => e)
  have hA2 : ∀ ad, A2 = some ad → w.heap.size ≤ ad.block ∨ ∃ bd, A = some bd ∧ ad.block = bd.block := by
    rintro ad rfl
    rcases h2.2.2 with ⟨e1, _⟩ | ⟨e1, _⟩
    · exact .inr ⟨ad, e1.symm, rfl⟩
    · injection e1 with e1
      subst e1
      exact .inl (by simp)
  obtain ⟨g2, rfl⟩ : ∃ g2, A2 = some ⟨g2, 0, none⟩ := (Own.at_ h2.own (by omega)).imp fun _ h => h.1
  have hA : A = none ∨ ∃ g, A = some ⟨g, 0, none⟩ := by
    rcases Own.form h with ⟨e, _⟩ | ⟨g, e, _⟩
    · exact .inl e
    · exact .inr ⟨g, e⟩
  have HA := Lib.hid hA
  clear h2 h1 hr h hA hs1
  go_loopw [3] (fun i wr => ∃ k : Nat, k ≤ n + 1 ∧ i = .int .i64 k ∧ Wr wr (some ⟨g2, 0, none⟩) ((n + 1) * 2) ∧ Wr wr A (n * 2) ∧ Chg (fun k => ∃ ad, A = some ad ∧ k = ad.block) w wr ∧ Sh w wr) (fun i _ => n + 1 - (intOf i).toNat)
  case atStart => exact ⟨0, Nat.zero_le _, rfl, hw2, hw1, hg2, hs2⟩
  case round =>
    clear hw2 hw1 hg2 hs2 w2
    obtain ⟨k, hk, rfl, hw2, hw1, hg2, hs2⟩ := hrel
    by_cases hlt : k < n + 1
    · obtain ⟨ad, u, he, hcell, hfr⟩ := hw2.at_ (j := k * 2) (by omega)
      injection he with he
      subst he
      obtain ⟨ad, u', he, hcell', hfr'⟩ := hw2.at_ (j := k * 2 + 1) (by omega)
      injection he with he
      subst he
      rw [add_head] at hcell hfr hcell' hfr'
      go_wp2
      go_roundw
      case rel => exact ⟨k + 1, by omega, by go_num, (hw2.set _ _).set _ _, (hw1.set _ _).set _ _, (hg2.setCell (p := ⟨g2, k * 2, none⟩) (hA2 ⟨g2, 0, none⟩ rfl) _).setCell (p := ⟨g2, k * 2 + 1, none⟩) (hA2 ⟨g2, 0, none⟩ rfl) _, (hs2.setCell _ _ _).setCell _ _ _⟩
      case measure => simp [intOf]; omega
    · go_wp2
      obtain ⟨wo, rfl⟩ : ∃ wo : World, wo = wr := ⟨_, rfl⟩
      go_loopw [4] (fun i wr => ∃ k : Nat, k ≤ n ∧ i = .int .i64 k ∧ Wr wr A (n * 2) ∧ Chg (fun k => ∃ ad, A = some ad ∧ k = ad.block) w wr ∧ Sh w wr) (fun i _ => n - (intOf i).toNat)
      case atStart => exact ⟨0, Nat.zero_le _, rfl, hw1, hg2, hs2⟩
      case round =>
        clear hw1 hw2 hg2 hs2
        obtain ⟨k2, hk2, rfl, hw1, hg2, hs2⟩ := hrel
        by_cases hlt2 : k2 < n
        · rcases HA.out with rfl | ⟨g, rfl⟩
          · obtain ⟨ad, u, he, _⟩ := hw1.at_ (j := k2 * 2) (by omega)
            cases he
          · obtain ⟨ad, u, he, hcell, hfr⟩ := hw1.at_ (j := k2 * 2) (by omega)
            injection he with he
            subst he
            obtain ⟨ad, u', he, hcell', hfr'⟩ := hw1.at_ (j := k2 * 2 + 1) (by omega)
            injection he with he
            subst he
            rw [add_head] at hcell hfr hcell' hfr'
            go_wp2
            go_roundw
            case rel => exact ⟨k2 + 1, by omega, by go_num, (hw1.set _ _).set _ _, (hg2.setCell (p := ⟨g, k2 * 2, none⟩) (.inr ⟨_, rfl, rfl⟩) _).setCell (p := ⟨g, k2 * 2 + 1, none⟩) (.inr ⟨_, rfl, rfl⟩) _, (hs2.setCell _ _ _).setCell _ _ _⟩
            case measure => simp [intOf]; omega
        · go_wp2
          go_end0
          exact ⟨by simp, hg2, hs2⟩

set_option maxHeartbeats 1000000 in
theorem spoilLbs (A : Option Addr) (n c base : Nat) (w : World) (hx : OwX w base 67 2 A n c) (hbase : base ≤ w.heap.size) (hn : n ≤ 1099511627776) :
    Calls Tryd.prog 40 #[.slice A n c] w fun e w' => e = .returned (.tuple #[]) ∧ Chg (fun k => ∃ ad, A = some ad ∧ k = ad.block) w w' ∧ Sh w w' := by
  obtain ⟨cs, h⟩ := hx
  have hc := Own.cap h
  have h1 : Own (w.alloc (.cells #[.string ⟨#[115, 112, 111, 105, 108, 116]⟩, .string ⟨#[115, 112, 111, 105, 108, 116]⟩] 67)) base 67 elLb.sz A n c cs := Own.alloc h _
  have hs1 : Sh w (w.alloc (.cells #[.string ⟨#[115, 112, 111, 105, 108, 116]⟩, .string ⟨#[115, 112, 111, 105, 108, 116]⟩] 67)) := Sh.of_grew ((Chg.refl _ w).alloc _)
  have hr : RE elLb (w.alloc (.cells #[.string ⟨#[115, 112, 111, 105, 108, 116]⟩, .string ⟨#[115, 112, 111, 105, 108, 116]⟩] 67)) (some ⟨w.heap.size, 0, none⟩) 1 [(⟨#[115, 112, 111, 105, 108, 116]⟩, ⟨#[115, 112, 111, 105, 108, 116]⟩)] := RE.newAt rfl rfl rfl
  go_enter Tryd.func40, Tryd.ntmps40
  go_wp2_with (at_builtin; refine wpList_appX (E := elLb) rfl _ _ 43 67 infoLab rfl Tryd.underlying43 rfl base A n c cs rfl h1 (by simp; omega) _ 1 1 [(⟨#[115, 112, 111, 105, 108, 116]⟩, ⟨#[115, 112, 111, 105, 108, 116]⟩)] rfl hr (by unfold maxLen; omega) (by omega) ?_; intro A2 c2 w2 h2; have hc2 := Own.cap h2.own)
  have hw2 : Wr w2 A2 ((n + 1) * 2) := Own.wr h2.own
  have hg2 : Chg (fun k => ∃ ad, A = some ad ∧ k = ad.block) w w2 := ((Chg.refl _ w).alloc _).trans h2.chg
  have hs2 : Sh w w2 := hs1.trans (Sh.of_app h1 h2)
  have hw1 : Wr w2 A (n * 2) := by
    rcases h2.2.2 with ⟨e1, _⟩ | ⟨_, e2, _⟩
    · rw [← e1]; exact hw2.mono (by omega)
    · exact (Own.wr h1).chg e2 (fun _ _ e => e)
  have hA2 : ∀ ad, A2 = some ad → w.heap.size ≤ ad.block ∨ ∃ bd, A = some bd ∧ ad.block = bd.block := by
    rintro ad rfl
    rcases h2.2.2 with ⟨e1, _⟩ | ⟨e1, _⟩
    · exact .inr ⟨ad, e1.symm, rfl⟩
    · injection e1 with e1
      subst e1
      exact .inl (by simp)
  obtain ⟨g2, rfl⟩ : ∃ g2, A2 = some ⟨g2, 0, none⟩ := (Own.at_ h2.own (by omega)).imp fun _ h => h.1
  have hA : A = none ∨ ∃ g, A = some ⟨g, 0, none⟩ := by
    rcases Own.form h with ⟨e, _⟩ | ⟨g, e, _⟩
    · exact .inl e
    · exact .inr ⟨g, e⟩
  have HA := Lib.hid hA
  clear h2 h1 hr h hA hs1
  go_loopw [3] (fun i wr => ∃ k : Nat, k ≤ n + 1 ∧ i = .int .i64 k ∧ Wr wr (some ⟨g2, 0, none⟩) ((n + 1) * 2) ∧ Wr wr A (n * 2) ∧ Chg (fun k => ∃ ad, A = some ad ∧ k = ad.block) w wr ∧ Sh w wr) (fun i _ => n + 1 - (intOf i).toNat)
  case atStart => exact ⟨0, Nat.zero_le _, rfl, hw2, hw1, hg2, hs2⟩
  case round =>
    clear hw2 hw1 hg2 hs2 w2
    obtain ⟨k, hk, rfl, hw2, hw1, hg2, hs2⟩ := hrel
    by_cases hlt : k < n + 1
    · obtain ⟨ad, u, he, hcell, hfr⟩ := hw2.at_ (j := k * 2) (by omega)
      injection he with he
      subst he
      obtain ⟨ad, u', he, hcell', hfr'⟩ := hw2.at_ (j := k * 2 + 1) (by omega)
      injection he with he
      subst he
      rw [add_head] at hcell hfr hcell' hfr'
      go_wp2
      go_roundw
      case rel => exact ⟨k + 1, by omega, by go_num, (hw2.set _ _).set _ _, (hw1.set _ _).set _ _, (hg2.setCell (p := ⟨g2, k * 2, none⟩) (hA2 ⟨g2, 0, none⟩ rfl) _).setCell (p := ⟨g2, k * 2 + 1, none⟩) (hA2 ⟨g2, 0, none⟩ rfl) _, (hs2.setCell _ _ _).setCell _ _ _⟩
      case measure => simp [intOf]; omega
    · go_wp2
      obtain ⟨wo, rfl⟩ : ∃ wo : World, wo = wr := ⟨_, rfl⟩
      go_loopw [4] (fun i wr => ∃ k : Nat, k ≤ n ∧ i = .int .i64 k ∧ Wr wr A (n * 2) ∧ Chg (fun k => ∃ ad, A = some ad ∧ k = ad.block) w wr ∧ Sh w wr) (fun i _ => n - (intOf i).toNat)
      case atStart => exact ⟨0, Nat.zero_le _, rfl, hw1, hg2, hs2⟩
      case round =>
        clear hw1 hw2 hg2 hs2
        obtain ⟨k2, hk2, rfl, hw1, hg2, hs2⟩ := hrel
        by_cases hlt2 : k2 < n
        · rcases HA.out with rfl | ⟨g, rfl⟩
          · obtain ⟨ad, u, he, _⟩ := hw1.at_ (j := k2 * 2) (by omega)
            cases he
          · obtain ⟨ad, u, he, hcell, hfr⟩ := hw1.at_ (j := k2 * 2) (by omega)
            injection he with he
            subst he
            obtain ⟨ad, u', he, hcell', hfr'⟩ := hw1.at_ (j := k2 * 2 + 1) (by omega)
            injection he with he
            subst he
            rw [add_head] at hcell hfr hcell' hfr'
            go_wp2
            go_roundw
            case rel => exact ⟨k2 + 1, by omega, by go_num, (hw1.set _ _).set _ _, (hg2.setCell (p := ⟨g, k2 * 2, none⟩) (.inr ⟨_, rfl, rfl⟩) _).setCell (p := ⟨g, k2 * 2 + 1, none⟩) (.inr ⟨_, rfl, rfl⟩) _, (hs2.setCell _ _ _).setCell _ _ _⟩
            case measure => simp [intOf]; omega
        · go_wp2
          go_end0
          exact ⟨by simp, hg2, hs2⟩

/-- a row of series whose rows are all of the call's own, from lo on, below hi -/
structure SpS (w : World) (lo hi : Nat) (A : Option Addr) (n c : Nat) (ms : List SerM) : Prop where
  row : OE elSr w lo 46 A n c ms
  top : ∀ ad, A = some ad → ad.block < hi
  lb : ∀ m ∈ ms, OwX w lo 67 2 m.la m.ln m.lc ∧ m.ln ≤ 1099511627776 ∧ ∀ ad, m.la = some ad → ad.block < hi
  pt : ∀ m ∈ ms, OwX w lo 49 2 m.pa m.pn m.pc ∧ m.pn ≤ 1099511627776 ∧ ∀ ad, m.pa = some ad → ad.block < hi
theorem NS.sps {w w1 : World} {base : Nat} {A : Option Addr} {n c : Nat} {ss : List Ser} (h : NS w base A n c ss) (hs : Small ss) (hg : Grew w w1) : ∃ ms, SpS w1 base w.heap.size A n c ms := by
  obtain ⟨ms, h1, h2, h3⟩ := h
  have hk : ∀ m ∈ ms, ∃ s ∈ ss, NsE w base m s := fun m hm => by
    obtain ⟨i, hi⟩ := List.getElem?_of_mem hm
    have hil := (List.getElem?_eq_some_iff.1 hi).1
    have hsi : ss[i]? = some (ss[i]'(by omega)) := List.getElem?_eq_getElem (by omega)
    exact ⟨_, List.mem_of_getElem? hsi, h3 i m _ hi hsi⟩
  refine ⟨ms, h1.grew hg, fun ad e => (Own.blk_lt h1 ad e).2, fun m hm => ?_, fun m hm => ?_⟩
  · obtain ⟨s, hs1, hN⟩ := hk m hm
    have hel := hs.el s hs1
    have hl := hN.lb.len (by decide)
    exact ⟨⟨_, hN.lb.grew hg⟩, by omega, fun ad e => (Own.blk_lt hN.lb ad e).2⟩
  · obtain ⟨s, hs1, hN⟩ := hk m hm
    have hel := hs.el s hs1
    have hl := hN.pt.len (by decide)
    exact ⟨⟨_, hN.pt.grew hg⟩, by omega, fun ad e => (Own.blk_lt hN.pt ad e).2⟩

theorem cell_two {w : World} {g i j k : Nat} {u v x : Value} (h : w.cell? ⟨g, i, none⟩ = some x) (h1 : i ≠ j) (h2 : i ≠ k) : ((w.setCell ⟨g, j, none⟩ u).setCell ⟨g, k, none⟩ v).cell? ⟨g, i, none⟩ = some x := by
  rw [World.cell?_setCell_other, World.cell?_setCell_other, h]
  · intro e
    injection e with _ e
    exact h1 e.symm
  · intro e
    injection e with _ e
    exact h2 e.symm
set_option maxHeartbeats 4000000 in
theorem spoilS_any (A : Option Addr) (n c lo hi : Nat) (ms : List SerM) (w : World) (h : SpS w lo hi A n c ms) (hlo : lo ≤ w.heap.size) (hn : n ≤ 1099511627776) :
    Calls Tryd.prog 15 #[.slice A n c] w fun e w' => e = .returned (.tuple #[]) ∧ Chg (fun k => lo ≤ k ∧ k < hi) w w' := by
  have hc := h.row.cap
  have hlen : ms.length = n := h.row.len (by decide)
  have hblk := Own.block h.row
  have hform : A = none ∧ n = 0 ∨ ∃ g, A = some ⟨g, 0, none⟩ := by
    rcases Own.form h.row with ⟨e, e2, _⟩ | ⟨g, e, _⟩
    · exact .inl ⟨e, e2⟩
    · exact .inr ⟨g, e⟩
  rcases hform with ⟨rfl, rfl⟩ | ⟨g, rfl⟩
  · clear hblk hlen h
    go_enter Tryd.func15, Tryd.ntmps15
    go_wp2
    go_loopw [2] (fun i wr => i = .int .i64 0 ∧ w = wr) (fun _ _ => 0)
    case atStart => exact ⟨rfl, rfl⟩
    case round =>
      obtain ⟨rfl, rfl⟩ := hrel
      go_wp2
      go_end0
      exact ⟨by simp, Chg.refl _ _⟩
  obtain ⟨cur, hbk, hcz⟩ := hblk _ rfl
  have hg1 : lo ≤ g ∧ g < hi := ⟨(Own.blk_lt h.row _ rfl).1, h.top _ rfl⟩
  have hre := h.row.re (by decide)
  have hcell : ∀ (k : Nat) (m : SerM), ms[k]? = some m → w.cell? ⟨g, k * 2, none⟩ = some (.slice m.la m.ln m.lc) ∧ w.cell? ⟨g, k * 2 + 1, none⟩ = some (.slice m.pa m.pn m.pc) := fun k m hm => by
    have hkn : k < n := by rw [← hlen]; exact (List.getElem?_eq_some_iff.1 hm).1
    obtain ⟨ad, m', e, hm', hcs⟩ := hre.at_ hkn (by decide)
    injection e with e
    subst e
    obtain rfl : m = m' := by rw [hm] at hm'; injection hm'
    have h0 := hcs 0 _ rfl
    have h1 := hcs 1 _ rfl
    rw [add_head] at h0 h1
    exact ⟨h0, h1⟩
  have hlb := h.lb
  have hpt := h.pt
  clear h hblk hre
  replace hlen := Lib.hid hlen
  replace hlb := Lib.hid hlb
  replace hpt := Lib.hid hpt
  replace hcell := Lib.hid hcell
  go_enter Tryd.func15, Tryd.ntmps15
  go_wp2
  go_loopw [2] (fun i wr => ∃ k : Nat, k ≤ n ∧ i = .int .i64 (k : Int) ∧ Hid (∀ (j : Nat) (m : SerM), k ≤ j → ms[j]? = some m → wr.cell? ⟨g, j * 2, none⟩ = some (.slice m.la m.ln m.lc) ∧ wr.cell? ⟨g, j * 2 + 1, none⟩ = some (.slice m.pa m.pn m.pc)) ∧ Sh w wr ∧ Chg (fun k => lo ≤ k ∧ k < hi) w wr) (fun i _ => n - (intOf i).toNat)
  case atStart => exact ⟨0, Nat.zero_le _, rfl, fun j m _ hm => hcell.out j m hm, Sh.refl _, Chg.refl _ _⟩
  case round =>
    obtain ⟨k, hk, rfl, hcl, hs, hg⟩ := hrel
    by_cases hlt : k < n
    · obtain ⟨m, hm⟩ : ∃ m, ms[k]? = some m := ⟨ms[k]'(by have := hlen.out; omega), List.getElem?_eq_getElem _⟩
      have hmem := List.mem_of_getElem? hm
      obtain ⟨l1, l2, l3⟩ := hlb.out m hmem
      obtain ⟨p1, p2, p3⟩ := hpt.out m hmem
      obtain ⟨x0, x1⟩ := hcl.out k m (Nat.le_refl _) hm
      have hsz := hg.size
      have oL := l1.sh hs
      have hL := spoilLbs m.la m.ln m.lc lo wr oL (by omega) l2
      have hcl1 := hcl.out
      obtain ⟨c1, hb1, _⟩ := hs _ _ _ hbk
      have neL : ∀ ad, m.la = some ad → ad.block ≠ g := fun ad e e2 => by
        obtain ⟨cu, kb⟩ := oL.blk ad e
        rw [e2] at kb
        exact Blk.ty_ne kb hb1 (by decide) rfl
      replace neL := Lib.hid neL
      replace hcl1 := Lib.hid hcl1
      have hsm := Lib.hid hm
      clear hcl hm hmem hb1
      go_wp2_with fail
      refine hL.mono ?_
      rintro e w1 ⟨rfl, hc1, hs1⟩
      have hs01 := hs.trans hs1
      have hg01 : Chg (fun k => lo ≤ k ∧ k < hi) w w1 := hg.step hc1 fun k hk ⟨ad, e, e2⟩ => by rw [e2]; exact ⟨l1.lo ad e, l3 ad e⟩
      have nS1 : ∀ ad, m.la = some ad → g ≠ ad.block := fun ad e e2 => neL.out ad e e2.symm
      have hgS1 : ¬ ∃ ad, m.la = some ad ∧ g = ad.block := fun ⟨ad, e, e2⟩ => nS1 ad e e2
      have y0 := hc1.cell x0 hgS1
      have y1 := hc1.cell x1 hgS1
      have oP := p1.sh hs01
      have hszw1 := hg01.size
      have hP := spoilPts m.pa m.pn m.pc lo w1 oP (by omega) p2
      obtain ⟨c2, hb2, _⟩ := hs01 _ _ _ hbk
      have hgS2 : ¬ ∃ ad, m.pa = some ad ∧ g = ad.block := fun ⟨ad, e, e2⟩ => by
        obtain ⟨cu, kb⟩ := oP.blk ad e
        rw [← e2] at kb
        exact Blk.ty_ne kb hb2 (by decide) rfl
      replace hgS2 := Lib.hid hgS2
      replace hgS1 := Lib.hid hgS1
      clear nS1 neL hb2 hL oL
      go_wp2_with fail
      refine hP.mono ?_
      rintro e w2 ⟨rfl, hc2, hs2⟩
      have hs02 := hs01.trans hs2
      have hg02 : Chg (fun k => lo ≤ k ∧ k < hi) w w2 := hg01.step hc2 fun k hk ⟨ad, e, e2⟩ => by rw [e2]; exact ⟨p1.lo ad e, p3 ad e⟩
      have z0 := hc2.cell y0 hgS2.out
      have z1 := hc2.cell y1 hgS2.out
      obtain ⟨c3, hb3, hcz3⟩ := hs02 _ _ _ hbk
      have f0 := hb3.frozen (k * 2)
      have f1 := hb3.frozen (k * 2 + 1)
      have hcl2 : Hid (∀ (j : Nat) (m : SerM), k + 1 ≤ j → ms[j]? = some m → w2.cell? ⟨g, j * 2, none⟩ = some (.slice m.la m.ln m.lc) ∧ w2.cell? ⟨g, j * 2 + 1, none⟩ = some (.slice m.pa m.pn m.pc)) := fun j m' hj hm' => by
        obtain ⟨q0, q1⟩ := hcl1.out j m' (by omega) hm'
        exact ⟨hc2.cell (hc1.cell q0 hgS1.out) hgS2.out, hc2.cell (hc1.cell q1 hgS1.out) hgS2.out⟩
      clear hP oP hcl1 hc1 hc2 hs1 hs2 hs01 hg01 y0 y1 x0 x1 hg hs l1 l3 p1 p3
      go_wp2
      go_roundw
      case rel => exact ⟨k + 1, by omega, by go_num, fun j m' hj hm' => by
        obtain ⟨q0, q1⟩ := hcl2.out j m' hj hm'
        exact ⟨cell_two q0 (by omega) (by omega), cell_two q1 (by omega) (by omega)⟩, (hs02.setCell _ _ _).setCell _ _ _, (hg02.setCell (p := ⟨g, k * 2, none⟩) (.inr hg1) _).setCell (p := ⟨g, k * 2 + 1, none⟩) (.inr hg1) _⟩
      case measure => simp [intOf]; omega
    · go_wp2
      go_end0
      exact ⟨by simp, hg⟩
end Go.Proofs.YtjgbdkokcgcpjaaDoor

namespace Go.Proofs.YtjgbdkokcgcpjaaDoor
open Go.RowKit

def foldM (L : List (List Ser)) : List Ser := L.foldl twoM []
theorem foldM_snoc (L : List (List Ser)) (a : List Ser) : foldM (L ++ [a]) = twoM (foldM L) a := by simp [foldM]
/-- what a merge leaves: a list of its own, and a code -/
def RP (w : World) (R : List Ser) (z : Int) (e : Ending) (w' : World) : Prop := ∃ A c, e = .returned (.tuple #[.slice A R.length c, .int .i64 z]) ∧ NS w' w.heap.size A R.length c R ∧ Grew w w'
theorem sss_take (ls : List Lst) (k : Nat) : sss (ls.take k) = (sss ls).take k := by simp [sss, List.map_take]
theorem sss_get {ls : List Lst} {k : Nat} {x : Lst} (h : ls[k]? = some x) : (sss ls)[k]? = some x.ss := by simp [sss, h]

set_option maxRecDepth 100000 in
set_option maxHeartbeats 4000000 in
theorem merge10_yes (La : Option Addr) (Ln Lc : Nat) (ls : List Lst) (w : World) (hls : RE elLs w La Ln ls) (hin : ∀ x ∈ ls, LsIn w x) (hok : ∀ x ∈ ls, OkL x.ss) (hn : Ln ≤ 1048576) (hsm : ∀ x ∈ ls, Small x.ss) (hsf : ∀ k, Small (foldM ((sss ls).take k))) :
    Calls Tryd.prog 9 #[.slice La Ln Lc] w (RP w (foldM (sss ls)) 0) := by
  have hlen := hls.1
  replace hlen := Lib.hid hlen
  replace hin := Lib.hid hin
  replace hok := Lib.hid hok
  replace hsm := Lib.hid hsm
  replace hsf := Lib.hid hsf
  go_enter Tryd.func9, Tryd.ntmps9
  go_wp2
  go_loopw [4] (fun i wr => ∃ k : Nat, k ≤ Ln ∧ i = .int .i64 (k : Int) ∧ Grew w wr) (fun i _ => Ln - (intOf i).toNat)
  case atStart => exact ⟨0, by omega, rfl, Chg.refl _ _⟩
  case round =>
    obtain ⟨k, hk, rfl, hg⟩ := hrel
    by_cases hlt : k < Ln
    · obtain ⟨ad, x, rfl, hx, x0⟩ := (hls.grew hg).ls hlt
      have hmem := List.mem_of_getElem? hx
      have hi := hin.out x hmem
      have hcap := hi.cap
      have hC := check10_any x.a x.n x.c x.ss wr (hi.rs.grew hg) (by omega)
      rw [errS_ok (hok.out x hmem)] at hC
      clear hx hmem
      go_wp2_with fail
      refine hC.mono ?_
      rintro e w1 ⟨rfl, hg1⟩
      have hgg := hg.trans hg1
      clear hC hg1
      go_wp2
      go_roundw
      case rel => exact ⟨k + 1, by omega, by go_num, hgg⟩
      case measure => simp [intOf]; omega
    · obtain rfl : k = Ln := by omega
      clear hlt
      go_wp2
      obtain ⟨wo, rfl⟩ : ∃ wo : World, wo = wr := ⟨_, rfl⟩
      go_loopw [6, 7] (fun o i wr => ∃ (j s0 e0 : Nat) (D : Option Addr), j ≤ k ∧ i = .int .i64 (j : Int) ∧ o = .slice D s0 e0 ∧ NS wr w.heap.size D s0 e0 (foldM ((sss ls).take j)) ∧ Grew w wr) (fun _ i _ => k - (intOf i).toNat)
      case atStart => exact ⟨0, 0, 0, none, by omega, rfl, rfl, NS.nil _ _, hg⟩
      case round =>
        clear hg
        obtain ⟨j, s0, e0, D, hj, rfl, rfl, ho, hg⟩ := hrel
        by_cases hlt : j < k
        · obtain ⟨ad, x, rfl, hx, x0⟩ := (hls.grew hg).ls hlt
          have hmem := List.mem_of_getElem? hx
          have hi := hin.out x hmem
          have hT := two10_any D x.a s0 e0 x.n x.c (foldM ((sss ls).take j)) x.ss wr ho.rs (hi.rs.grew hg) (hsf.out j) (hsm.out x hmem)
          rw [← foldM_snoc, ← take_snoc (sss_get hx)] at hT
          have hsz := hg.size
          clear hx hmem hi ho
          go_wp2_with fail
          refine hT.mono ?_
          rintro e w1 ⟨A2, c2, rfl, hN, hg1⟩
          have hN := NS.mono hN hsz
          have hgg := hg.trans hg1
          clear hT hg1
          go_wp2
          go_roundw
          case rel => exact ⟨j + 1, _, c2, A2, by omega, by go_num, rfl, hN, hgg⟩
          case measure => simp [intOf]; omega
        · obtain rfl : j = k := by omega
          have hl := ho.len
          rw [List.take_of_length_le (by rw [sss, List.length_map]; exact Nat.le_of_eq hlen.out)] at ho hl
          subst hl
          go_wp2
          refine bodyPost_ret (v := .tuple #[.slice D (foldM (sss ls)).length e0, .int .i64 0]) ?_ rfl ⟨D, e0, rfl, ho, hg⟩
          simp [results, Tryd.results9, go_sem]

set_option maxRecDepth 100000 in
set_option maxHeartbeats 4000000 in
theorem merge10_no (La : Option Addr) (Ln Lc : Nat) (ls : List Lst) (w : World) (hls : RE elLs w La Ln ls) (hin : ∀ x ∈ ls, LsIn w x) (hno : ¬ ∀ x ∈ ls, OkL x.ss) (hn : Ln ≤ 1048576) :
    Calls Tryd.prog 9 #[.slice La Ln Lc] w (RP w [] 100) := by
  have hlen := hls.1
  replace hlen := Lib.hid hlen
  replace hin := Lib.hid hin
  replace hno := Lib.hid hno
  go_enter Tryd.func9, Tryd.ntmps9
  go_wp2
  go_loopw [4] (fun i wr => ∃ k : Nat, k ≤ Ln ∧ i = .int .i64 (k : Int) ∧ Hid (∀ x ∈ ls.take k, OkL x.ss) ∧ Grew w wr) (fun i _ => Ln - (intOf i).toNat)
  case atStart => exact ⟨0, by omega, rfl, (fun x hx => by simp at hx), Chg.refl _ _⟩
  case round =>
    obtain ⟨k, hk, rfl, hall, hg⟩ := hrel
    by_cases hlt : k < Ln
    · obtain ⟨ad, x, rfl, hx, x0⟩ := (hls.grew hg).ls hlt
      have hmem := List.mem_of_getElem? hx
      have hi := hin.out x hmem
      have hcap := hi.cap
      have hC := check10_any x.a x.n x.c x.ss wr (hi.rs.grew hg) (by omega)
      have hsn := take_snoc hx
      replace hsn := Lib.hid hsn
      clear hx hmem
      by_cases hx : OkL x.ss
      · rw [errS_ok hx] at hC
        have hall2 : Hid (∀ x ∈ ls.take (k + 1), OkL x.ss) := fun y hy => by
          rw [hsn.out] at hy
          rcases List.mem_append.1 hy with hy | hy
          · exact hall.out y hy
          · obtain rfl : y = x := by simpa using hy
            exact hx
        clear hx
        go_wp2_with fail
        refine hC.mono ?_
        rintro e w1 ⟨rfl, hg1⟩
        have hgg := hg.trans hg1
        clear hC hg1
        go_wp2
        go_roundw
        case rel => exact ⟨k + 1, by omega, by go_num, hall2, hgg⟩
        case measure => simp [intOf]; omega
      · rw [errS_no hx] at hC
        clear hx
        go_wp2_with fail
        refine hC.mono ?_
        rintro e w1 ⟨rfl, hg1⟩
        have hgg := hg.trans hg1
        clear hC hg1
        go_wp2
        refine bodyPost_ret (v := .tuple #[.slice none 0 0, .int .i64 100]) ?_ rfl ⟨none, 0, rfl, NS.nil _ _, hgg⟩
        simp [results, Tryd.results9, go_sem]
    · exact absurd (fun x hx => hall.out x (by rw [List.take_of_length_le (by have := hlen.out; omega)]; exact hx)) hno.out

theorem twoM_len : ∀ (a b : List Ser), (twoM a b).length ≤ a.length + b.length ∧ tot (twoM a b) ≤ tot a + tot b
  | [], b => by rw [twoM]; simp [tot]
  | p :: a, [] => by rw [twoM]; simp [tot]
  | p :: a, q :: b => by
    rw [twoM]
    split
    · have := twoM_len a (q :: b)
      simp only [List.length_cons, tot_cons] at *
      omega
    · split
      · have := twoM_len (p :: a) b
        simp only [List.length_cons, tot_cons] at *
        omega
      · have := twoM_len a b
        have h2 := ptsM_len p.pts q.pts
        simp only [List.length_cons, tot_cons] at *
        omega
termination_by a b => a.length + b.length
theorem twoM_ok {a b : List Ser} (ha : OkL a) (hb : OkL b) : OkL (twoM a b) := ⟨twoM_vs a b ha.1 hb.1, fun s hs => by
  obtain ⟨y, hy, e⟩ := twoM_mem a b s hs
  rw [← e]
  rcases hy with hy | hy
  · exact ha.2 y hy
  · exact hb.2 y hy⟩
theorem okL_nil : OkL [] := ⟨Vs.nil, fun s hs => by cases hs⟩
/-- three lists: what both merges leave -/
theorem merges (a b c : List Ser) (ha : a.length ≤ 4194304 ∧ tot a ≤ 4194304) (hb : b.length ≤ 4194304 ∧ tot b ≤ 4194304) (hc : c.length ≤ 4194304 ∧ tot c ≤ 4194304) (hsa : Small a) (hsb : Small b) (hsc : Small c) :
    ∃ (R : List Ser) (z : Int), Small R ∧
      (∀ (La : Option Addr) (Lc : Nat) (ls : List Lst) (w : World), RE elLs w La 3 ls → (∀ x ∈ ls, LsIn w x) → sss ls = [a, b, c] → Calls Tryd.prog 11 #[.slice La 3 Lc] w (RP w R z)) ∧
      ∀ (La : Option Addr) (Lc : Nat) (ls : List Lst) (w : World), RE elLs w La 3 ls → (∀ x ∈ ls, LsIn w x) → sss ls = [a, b, c] → Calls Tryd.prog 9 #[.slice La 3 Lc] w (RP w R z) := by
  by_cases h : OkL a ∧ OkL b ∧ OkL c
  · obtain ⟨oa, ob, oc⟩ := h
    have e1 : twoM [] a = a := by rw [twoM]
    have o2 := twoM_ok oa ob
    have o3 := twoM_ok o2 oc
    have l2 := twoM_len a b
    have l3 := twoM_len (twoM a b) c
    have hf : foldM [a, b, c] = twoM (twoM a b) c := by simp [foldM, e1]
    have hin : ∀ {ls : List Lst}, sss ls = [a, b, c] → ∀ x ∈ ls, OkL x.ss ∧ Small x.ss := fun {ls} e x hx => by
      have hm : x.ss ∈ sss ls := List.mem_map.2 ⟨x, hx, rfl⟩
      rw [e] at hm
      simp only [List.mem_cons, List.not_mem_nil, or_false] at hm
      rcases hm with hm | hm | hm <;> rw [hm]
      · exact ⟨oa, hsa⟩
      · exact ⟨ob, hsb⟩
      · exact ⟨oc, hsc⟩
    refine ⟨twoM (twoM a b) c, 0, okL_small o3 (by omega) (by omega), fun La Lc ls w h1 h2 h3 => ?_, fun La Lc ls w h1 h2 h3 => ?_⟩
    · refine (merge_yes La 3 Lc ls w h1 h2 (fun x hx => (hin h3 x hx).1) (by decide) (by rw [h3]; simp; omega) (by rw [h3]; simp [tot_append]; omega)).mono ?_
      rintro e w' ⟨m, A, d, hM, _, rfl, hN, hg⟩
      rw [h3] at hM
      have hu := twoM_mrg oa.1 ob.1 oc.1
      rw [e1] at hu
      obtain rfl := hM.uniq hu
      exact ⟨A, d, rfl, hN, hg⟩
    · have hr := merge10_yes La 3 Lc ls w h1 h2 (fun x hx => (hin h3 x hx).1) (by decide) (fun x hx => (hin h3 x hx).2) fun k => by
        rw [h3]
        rcases k with _ | _ | _ | k
        · show Small []
          exact okL_small okL_nil (by decide) (by decide)
        · simp only [foldM, List.take_succ_cons, List.take_zero, List.foldl_cons, List.foldl_nil, e1]
          exact hsa
        · simp only [foldM, List.take_succ_cons, List.take_zero, List.foldl_cons, List.foldl_nil, e1]
          exact okL_small o2 (by omega) (by omega)
        · rw [List.take_of_length_le (by simp), hf]
          exact okL_small o3 (by omega) (by omega)
      rw [h3, hf] at hr
      exact hr
  · have hin : ∀ {ls : List Lst}, sss ls = [a, b, c] → ¬ ∀ x ∈ ls, OkL x.ss := fun {ls} e hx => h (by
      have hm : ∀ y ∈ sss ls, OkL y := fun y hy => by
        obtain ⟨x, hx1, rfl⟩ := List.mem_map.1 hy
        exact hx x hx1
      rw [e] at hm
      exact ⟨hm a (by simp), hm b (by simp), hm c (by simp)⟩)
    refine ⟨[], 100, okL_small okL_nil (by decide) (by decide), fun La Lc ls w h1 h2 h3 => ?_, fun La Lc ls w h1 h2 h3 => merge10_no La 3 Lc ls w h1 h2 (hin h3) (by decide)⟩
    refine (merge_no La 3 Lc ls w h1 h2 (hin h3) (by decide)).mono ?_
    rintro e w' ⟨rfl, hg⟩
    exact ⟨none, 0, rfl, NS.nil _ _, hg⟩
end Go.Proofs.YtjgbdkokcgcpjaaDoor

namespace Go.Proofs.YtjgbdkokcgcpjaaDoor
open Go.RowKit

theorem sameNS {w : World} {A B : Option Addr} {n m c d : Nat} {l r : List Ser} (ha : RS w A n l) (hb : RS w B m r) (hn : n ≤ 9223372036854775807) (hm : m ≤ 9223372036854775807) (he : l = r) : Calls Tryd.prog 13 #[.slice A n c, .slice B m d] w fun e w' => e = .returned (.bool true) ∧ Grew w w' := by
  have := sameS_any A B n m c d l r w ha hb hn hm
  rw [eqB_true he] at this
  exact this
theorem Chg.old {S : Nat → Prop} {a b c : World} (h : Grew a b) (h' : Chg S b c) (hs : ∀ k, S k → a.heap.size ≤ k) : Grew a c := h.step h' fun k hk e => by have := hs k e; omega
theorem Small.le {ss : List Ser} (h : Small ss) : ss.length ≤ 1099511627776 := by have := h.n; omega

set_option maxRecDepth 100000 in
set_option maxHeartbeats 16000000 in
theorem walk_seriesMerges (A : Option Addr) (n cn : Nat) (a : List Ser) (B : Option Addr) (m cm : Nat) (b : List Ser) (C : Option Addr) (k ck : Nat) (c : List Ser) (w : World) (ha : InS w A n cn a) (hb : InS w B m cm b) (hc : InS w C k ck c) (hm : MaxL w) :
    Calls Tryd.prog 3 #[.slice A n cn, .slice B m cm, .slice C k ck] w fun e w' => e = .returned (.bool true) ∧ Grew w w' := by
  obtain ⟨R, z, hR, hM, hD⟩ := merges a b c ⟨ha.len, ha.tot⟩ ⟨hb.len, hb.tot⟩ ⟨hc.len, hc.tot⟩ ha.small hb.small hc.small
  have hrl2 : R.length ≤ 1073741824 := hR.n
  obtain ⟨kz, hkz⟩ : ∃ kz : Int, (errS a : Int) = kz := ⟨_, rfl⟩
  replace hM := Lib.hid hM
  replace hD := Lib.hid hD
  replace hR := Lib.hid hR
  have han := ha.cap
  have hbn := hb.cap
  have hcn := hc.cap
  have hal := ha.rs.len
  have hbl := hb.rs.len
  have hcl := hc.rs.len
  subst hal
  subst hbl
  subst hcl
  have hEA := fun w' (hg : Grew w w') => checkS_any A a.length cn a w' (ha.rs.grew hg) (by omega)
  have hED := fun w' (hg : Grew w w') => check10_any A a.length cn a w' (ha.rs.grew hg) (by omega)
  rw [hkz] at hEA hED
  replace hED := Lib.hid hED
  clear hEA
  go_enter Tryd.func3, Tryd.ntmps3
  -- the document's
  go_wp2_with fail
  have gA0 : Grew w (w.alloc (.cells #[.slice A a.length cn, .slice B b.length cm, .slice C c.length ck] 22)) := (Chg.refl _ w).alloc _
  refine (hD.out _ _ [⟨A, a.length, cn, a⟩, ⟨B, b.length, cm, b⟩, ⟨C, c.length, ck, c⟩] _ (RE.newAt rfl rfl rfl) (all3 ⟨ha.rs.grew gA0, ha.cap⟩ ⟨hb.rs.grew gA0, hb.cap⟩ ⟨hc.rs.grew gA0, hc.cap⟩) rfl).mono ?_
  rintro e w1 ⟨Aw, cw, rfl, hW, g1⟩
  have g01 := gA0.trans g1
  have hWr := hW.rs
  clear hW gA0 g1
  -- copies
  go_wp2_with fail
  refine (copyIn w1 ha g01).mono ?_
  rintro e w2 ⟨A1, c1, rfl, h1, g2⟩
  have g02 := g01.trans g2
  go_wp2_with fail
  refine (copyIn w2 hb g02).mono ?_
  rintro e w3 ⟨A2, c2, rfl, h2, g3⟩
  have g03 := g02.trans g3
  go_wp2_with fail
  refine (copyIn w3 hc g03).mono ?_
  rintro e w4 ⟨A3, c3, rfl, h3, g4⟩
  have g04 := g03.trans g4
  have z1 := g2.size
  have z2 := g3.size
  have z3 := g4.size
  have h30 := h3
  have k1 := h1.cap
  have k2 := h2.cap
  have k3 := h3.cap
  -- the package's
  go_wp2_with fail
  have gB : Grew w4 (w4.alloc (.cells #[.slice A1 a.length c1, .slice A2 b.length c2, .slice A3 c.length c3] 22)) := (Chg.refl _ w4).alloc _
  refine (hM.out _ _ [⟨A1, a.length, c1, a⟩, ⟨A2, b.length, c2, b⟩, ⟨A3, c.length, c3, c⟩] _ (RE.newAt rfl rfl rfl) (all3 ⟨h1.rs.grew ((g3.trans g4).trans gB), h1.cap⟩ ⟨h2.rs.grew (g4.trans gB), h2.cap⟩ ⟨h3.rs.grew gB, h3.cap⟩) rfl).mono ?_
  rintro e w5 ⟨AM, cM, rfl, hN, g5⟩
  have hN := NS.mono hN gB.size
  have g45 := gB.trans g5
  clear gB g5
  have g05 := g04.trans g45
  have z4 := g45.size
  have kM := hN.cap
  -- its form
  go_wp2_with fail
  have hK := checkS_any A1 a.length c1 a w5 (h1.rs.grew ((g3.trans g4).trans g45)) (by omega)
  rw [hkz] at hK
  refine hK.mono ?_
  rintro e w6 ⟨rfl, g6⟩
  have g46 := g45.trans g6
  have g06 := g04.trans g46
  have hN6 := hN.grew g6
  clear hN hK g45 g05 g6 z4
  -- all stay
  go_wp2_with fail
  refine (sameNS (c := c1) (d := cn) (h1.rs.grew ((g3.trans g4).trans g46)) (ha.rs.grew g06) (by omega) (by omega) rfl).mono ?_
  rintro e w7 ⟨rfl, g7⟩
  have g47 := g46.trans g7
  have g07 := g04.trans g47
  have hN7 := hN6.grew g7
  clear hN6 g46 g06 g7
  go_wp2_with fail
  refine (sameNS (c := c2) (d := cm) (h2.rs.grew (g4.trans g47)) (hb.rs.grew g07) (by omega) (by omega) rfl).mono ?_
  rintro e w8 ⟨rfl, g8⟩
  have g48 := g47.trans g8
  have g08 := g04.trans g48
  have hN8 := hN7.grew g8
  clear hN7 g47 g07 g8
  go_wp2_with fail
  refine (sameNS (c := c3) (d := ck) (h3.rs.grew g48) (hc.rs.grew g08) (by omega) (by omega) rfl).mono ?_
  rintro e w9 ⟨rfl, g9⟩
  have g49 := g48.trans g9
  have g09 := g04.trans g49
  have hN9 := hN8.grew g9
  clear hN8 g48 g08 g9
  go_wp2_with fail
  refine (hED.out w9 g09).mono ?_
  rintro e w10 ⟨rfl, g10⟩
  have g4a := g49.trans g10
  have g0a := g04.trans g4a
  have hNa := hN9.grew g10
  clear hN9 g49 g09 g10
  have g1a : Grew w1 w10 := ((g2.trans g3).trans g4).trans g4a
  go_wp2_with fail
  refine (sameNS (c := cM) (d := cw) hNa.rs (hWr.grew g1a) (by omega) (by omega) rfl).mono ?_
  rintro e w11 ⟨rfl, g11⟩
  have g4b := g4a.trans g11
  have hNb := hNa.grew g11
  have g1b := g1a.trans g11
  have g0b := g0a.trans g11
  clear hNa g4a g0a g11 g1a
  -- the copies are written over
  obtain ⟨m1, s1⟩ := h1.sps ha.small ((g3.trans g4).trans g4b)
  have z5 := g1b.size
  have zz := ha.small.le
  go_wp2_with fail
  refine (spoilS_any A1 a.length c1 w1.heap.size w2.heap.size m1 w11 s1 z5 zz).mono ?_
  rintro e w12 ⟨rfl, c12⟩
  have g1c : Grew w1 w12 := Chg.old g1b c12 fun k hk => hk.1
  have g0c : Grew w w12 := Chg.old g0b c12 fun k hk => Nat.le_trans g01.size hk.1
  have h2c : NS w12 w2.heap.size A2 b.length c2 b := (h2.grew (g4.trans g4b)).chg c12 fun k hk e => by have := e.2; omega
  have h3c : NS w12 w3.heap.size A3 c.length c3 c := (h3.grew g4b).chg c12 fun k hk e => by have := e.2; omega
  have hNc := hNb.chg c12 fun k hk e => by have := e.2; omega
  have q4c : Chg (fun k => k < w3.heap.size) w4 w12 := (Chg.of_grew g4b).step c12 fun k hk e => by have := e.2; show k < _; omega
  have z6 := g1c.size
  have z6b := q4c.size
  have hcc : ∀ ad, A2 = some ad → ad.block < w3.heap.size := fun ad e => (h2.blk ad e).2
  obtain ⟨m2, s2⟩ : ∃ ms, SpS w12 w2.heap.size w3.heap.size A2 b.length c2 ms := by
    obtain ⟨ms, t1⟩ := h2.sps hb.small (Chg.refl _ w3)
    refine ⟨ms, ⟨?_, t1.top, fun m hm => ?_, fun m hm => ?_⟩⟩
    · exact (t1.row.grew (g4.trans g4b)).chg c12 fun ad e h => by have := (Own.blk_lt t1.row ad e).1; have := h.2; omega
    · obtain ⟨⟨cs, p1⟩, p2, p3⟩ := t1.lb m hm
      exact ⟨⟨cs, (Own.grew p1 (g4.trans g4b)).chg c12 fun ad e h => by have := (Own.blk_lt p1 ad e).1; have := h.2; omega⟩, p2, p3⟩
    · obtain ⟨⟨cs, p1⟩, p2, p3⟩ := t1.pt m hm
      exact ⟨⟨cs, (Own.grew p1 (g4.trans g4b)).chg c12 fun ad e h => by have := (Own.blk_lt p1 ad e).1; have := h.2; omega⟩, p2, p3⟩
  have zy := hb.small.le
  clear s1 h1 c12 g1b g0b hNb g4b h2 h3 hcc
  go_wp2_with fail
  refine (spoilS_any A2 b.length c2 w2.heap.size w3.heap.size m2 w12 s2 (by omega) zy).mono ?_
  rintro e w13 ⟨rfl, c13⟩
  have g1d : Grew w1 w13 := Chg.old g1c c13 fun k hk => Nat.le_trans z1 hk.1
  have g0d : Grew w w13 := Chg.old g0c c13 fun k hk => Nat.le_trans (Nat.le_trans g01.size z1) hk.1
  have h3d : NS w13 w3.heap.size A3 c.length c3 c := h3c.chg c13 fun k hk e => by have := e.2; omega
  have hNd := hNc.chg c13 fun k hk e => by have := e.2; omega
  have q4d : Chg (fun k => k < w3.heap.size) w4 w13 := q4c.step c13 fun k hk e => e.2
  clear s2 h2c h3c c13 g1c g0c hNc q4c
  go_wp2_with fail
  refine (sameNS (c := cM) (d := cw) hNd.rs (hWr.grew g1d) (by omega) (by omega) rfl).mono ?_
  rintro e w14 ⟨rfl, g14⟩
  have g1e := g1d.trans g14
  have g0e := g0d.trans g14
  have h3e := h3d.grew g14
  have hNe := hNd.grew g14
  have q4e := q4d.grow g14
  clear g1d g0d h3d hNd q4d g14
  -- once more, with the third as it came
  go_wp2_with fail
  refine (copyIn w14 ha g0e).mono ?_
  rintro e w15 ⟨A5, c5, rfl, h5, g15⟩
  have g0f := g0e.trans g15
  go_wp2_with fail
  refine (copyIn w15 hb g0f).mono ?_
  rintro e w16 ⟨A6, c6, rfl, h6, g16⟩
  have g16b := g15.trans g16
  go_wp2_with fail
  have gC : Grew w16 (w16.alloc (.cells #[.slice A5 a.length c5, .slice A6 b.length c6, .slice A3 c.length c3] 22)) := (Chg.refl _ w16).alloc _
  refine (hM.out _ _ [⟨A5, a.length, c5, a⟩, ⟨A6, b.length, c6, b⟩, ⟨A3, c.length, c3, c⟩] _ (RE.newAt rfl rfl rfl) (all3 ⟨h5.rs.grew (g16.trans gC), h5.cap⟩ ⟨h6.rs.grew gC, h6.cap⟩ ⟨h3e.rs.grew (g16b.trans gC), h3e.cap⟩) rfl).mono ?_
  rintro e w17 ⟨AN, cN, rfl, hP, g17⟩
  have hP := NS.mono hP (Nat.le_trans g16b.size gC.size)
  have g1417 := g16b.trans (gC.trans g17)
  have kN := hP.cap
  have g1g := g1e.trans g1417
  have g0g := g0e.trans g1417
  have h3g := h3e.grew g1417
  have q4g := q4e.grow g1417
  obtain ⟨m3, s3⟩ := hNe.sps hR.out g1417
  have z7 := g1417.size
  have z8 := q4g.size
  clear h5 h6 g15 g16 g16b gC g17 g1e g0e h3e q4e hNe g0f
  go_wp2_with fail
  refine (spoilS_any AM R.length cM w4.heap.size w14.heap.size m3 w17 s3 z8 (by omega)).mono ?_
  rintro e w18 ⟨rfl, c18⟩
  have g1h : Grew w1 w18 := Chg.old g1g c18 fun k hk => Nat.le_trans (Nat.le_trans (Nat.le_trans z1 z2) z3) hk.1
  have g0h : Grew w w18 := Chg.old g0g c18 fun k hk => Nat.le_trans g04.size hk.1
  have q4h : Chg (fun k => k < w3.heap.size) w4 w18 := q4g.step c18 fun k hk e => by have := e.1; omega
  have hPh := hP.chg c18 fun k hk e => by have := e.2; omega
  clear s3 hP c18 g1g g0g q4g
  go_wp2_with fail
  refine (sameNS (c := cN) (d := cw) hPh.rs (hWr.grew g1h) (by omega) (by omega) rfl).mono ?_
  rintro e w19 ⟨rfl, g19⟩
  have q4i := q4h.grow g19
  have g0i := g0h.trans g19
  have h3i : NS w19 w3.heap.size A3 c.length c3 c := h30.chg q4i fun k hk e => by omega
  go_wp2_with fail
  refine (sameNS (c := c3) (d := ck) h3i.rs (hc.rs.grew g0i) (by omega) (by omega) rfl).mono ?_
  rintro e w20 ⟨rfl, g20⟩
  have g0j := g0i.trans g20
  go_wp2_with fail
  refine (awake_any w20 (hm.grew g0j)).mono ?_
  rintro e w21 ⟨rfl, g21⟩
  go_wp2
  go_ret
  exact ⟨by simp, g0j.trans g21⟩
end Go.Proofs.YtjgbdkokcgcpjaaDoor
