/-
  Several texts in one:
  Rows written over: labels, points, series. Conditions: lengths that memory bears.
  Matchers lent and looked at again; the document's Get and Says. Conditions: lengths that memory bears.
-/
import Derived.Test.YtailooldnelecaaGreatDoorPart33
import Derived.Test.YtailooldnelecaaGreatDoorPart34
import Derived.Test.YtailooldnelecaaGreatDoorPart15

namespace Go.Proofs.YtailooldnelecaaGreatDoor
open Go.RowKit

/-- blocks keep their kind and their length -/
def Sh (w w' : World) : Prop := ∀ g cs t, Blk w g t cs → ∃ cs', Blk w' g t cs' ∧ cs'.size = cs.size
theorem Sh.refl (w : World) : Sh w w := fun _ cs _ h => ⟨cs, h, rfl⟩
theorem Sh.trans {a b c : World} (h : Sh a b) (h' : Sh b c) : Sh a c := fun g cs t hb => by
  obtain ⟨c1, k1, e1⟩ := h g cs t hb
  obtain ⟨c2, k2, e2⟩ := h' g c1 t k1
  exact ⟨c2, k2, e2.trans e1⟩
theorem Sh.of_grew {w w' : World} (h : Grew w w') : Sh w w' := fun _ cs _ hb => ⟨cs, hb.grew h, rfl⟩
theorem Sh.setCell {a b : World} (h : Sh a b) (g i : Nat) (u : Value) : Sh a (b.setCell ⟨g, i, none⟩ u) := fun k cs t hb => by
  obtain ⟨c1, k1, e1⟩ := h k cs t hb
  by_cases hk : k = g
  · subst hk
    exact ⟨_, k1.set i u, by rw [Array.size_setIfInBounds]; exact e1⟩
  · exact ⟨c1, k1.far (by exact hk) u, e1⟩
/-- a row of the call's own, whatever is in it -/
def OwX (w : World) (base : Nat) (t : TypeId) (sz : Nat) (A : Option Addr) (n c : Nat) : Prop := ∃ cs, Own w base t sz A n c cs
theorem Own.block {w : World} {base : Nat} {t : TypeId} {sz n c : Nat} {A : Option Addr} {cs : List Value} (h : Own w base t sz A n c cs) : ∀ ad, A = some ad → ∃ cur, Blk w ad.block t cur ∧ cur.size = c * sz := by
  rintro ad rfl
  rcases h.2 with ⟨e, _⟩ | ⟨g, cap, cur, e, _, hg, _, _, h5, _⟩
  · injection e with e1
    cases e1
  · injection e with e1 e2 e3
    injection e1 with e1
    subst e1
    exact ⟨cur, hg, by rw [h5, e3]⟩
theorem OwX.sh {w w' : World} {base : Nat} {t : TypeId} {sz n c : Nat} {A : Option Addr} (h : OwX w base t sz A n c) (hs : Sh w w') : OwX w' base t sz A n c := by
  obtain ⟨cs, h1, h2⟩ := h
  rcases h2 with h3 | ⟨g, cap, cur, e, hb, hg, h3, h4, h5, h6⟩
  · exact ⟨cs, h1, .inl h3⟩
  · obtain ⟨cur', k1, k2⟩ := hs g cur t hg
    exact ⟨cur'.toList.take (n * sz), by
      rw [List.length_take, Array.length_toList, k2, h5]
      exact Nat.min_eq_left (Nat.mul_le_mul_right _ h3), .inr ⟨g, cap, cur', e, hb, k1, h3, h4, by rw [k2, h5], rfl⟩⟩
theorem OwX.blk {w : World} {base : Nat} {t : TypeId} {sz n c : Nat} {A : Option Addr} (h : OwX w base t sz A n c) : ∀ ad, A = some ad → ∃ cur, Blk w ad.block t cur := fun ad e => by
  obtain ⟨cs, h⟩ := h
  obtain ⟨cur, k, _⟩ := h.block ad e
  exact ⟨cur, k⟩
theorem OwX.lo {w : World} {base : Nat} {t : TypeId} {sz n c : Nat} {A : Option Addr} (h : OwX w base t sz A n c) : ∀ ad, A = some ad → base ≤ ad.block := fun ad e => by
  obtain ⟨cs, h⟩ := h
  exact (h.blk_lt ad e).1
theorem Sh.of_app {w w' : World} {base : Nat} {t : TypeId} {sz n n' c c' : Nat} {A A' : Option Addr} {xs ys : List Value} (h : Own w base t sz A n c xs) (ha : Apped w base t sz A n' c ys A' c' w') : Sh w w' := fun g cs t' hb => by
  by_cases hg : ∃ ad, A = some ad ∧ g = ad.block
  · obtain ⟨ad, rfl, rfl⟩ := hg
    rcases ha.2.2 with ⟨e1, e2, _⟩ | ⟨_, e2, _⟩
    · subst e1
      subst e2
      obtain ⟨cur, k1, k2⟩ := h.block ad rfl
      obtain ⟨cur', q1, q2⟩ := ha.own.block ad rfl
      have := k1.symm.trans hb
      injection this with this
      injection this with this1 this2
      subst this1
      subst this2
      exact ⟨cur', q1, by rw [q2, k2]⟩
    · exact ⟨cs, hb.grew e2, rfl⟩
  · exact ⟨cs, hb.chg ha.chg hg, rfl⟩
theorem wpList_appX {P : Program} {α : Type} {E : El α} {ops : Array Oper} {rest : List Oper} {o : Oper} {a : Act} {w : World} {Q : Exit → Act → World → Prop} (hgd : o.guard = none) (s x : Operand) (ts t : TypeId) {z : Value} {bytes : Nat}
    (hinfo : (P.info? t).map (fun i => (i.zero, i.size, i.bytes)) = some (some z, E.sz, bytes)) (hzs : z.cells.size = E.sz) (ht : P.underlying ts = some (.slice t))
    (ho : o.op = .call { callee := .builtin .append, args := #[s, x], argTypes := #[ts, ts] })
    (base : Nat) (A : Option Addr) (n c : Nat) (cs : List Value) (hs : a.eval s = .slice A n c) (hown : Own w base t E.sz A n c cs) (hbase : base ≤ w.heap.size)
    (B : Option Addr) (m d : Nat) (r : List α) (hx : a.eval x = .slice B m d) (hr : RE E w B m r) (h63 : n + m ≤ maxLen) (hbytes : (n + m) * bytes ≤ 140737488355328)
    (h : ∀ A' c' w', Apped w base t E.sz A (n + m) c (cs ++ E.flat r) A' c' w' → wpList P ops Q rest (a.put o.dst (.slice A' (n + m) c')) w') : wpList P ops Q (o :: rest) a w := by
  obtain ⟨i0, hi, hz0, hz1, hz2⟩ := info_parts hinfo
  exact wpList_app w hgd s x ts t ho i0 z E.sz bytes ht hi hz0 hz1 hz2 hzs base A n c _ hs hown hbase B m d _ hx (by rw [E.flat_length, hr.1]) hr.2 (E.flat_one' r) h63 hbytes h

set_option maxHeartbeats 1000000 in
theorem spoilPts (A : Option Addr) (n c base : Nat) (w : World) (hx : OwX w base 69 2 A n c) (hbase : base ≤ w.heap.size) (hn : n ≤ 1099511627776) :
    Calls Tryz.prog 41 #[.slice A n c] w fun e w' => e = .returned (.tuple #[]) ∧ Chg (fun k => ∃ ad, A = some ad ∧ k = ad.block) w w' ∧ Sh w w' := by
  obtain ⟨cs, h⟩ := hx
  have hc := Own.cap h
  have h1 : Own (w.alloc (.cells #[.int .i64 (-7), .int .u64 77] 69)) base 69 elPt.sz A n c cs := Own.alloc h _
  have hs1 : Sh w (w.alloc (.cells #[.int .i64 (-7), .int .u64 77] 69)) := Sh.of_grew ((Chg.refl _ w).alloc _)
  have hr : RE elPt (w.alloc (.cells #[.int .i64 (-7), .int .u64 77] 69)) (some ⟨w.heap.size, 0, none⟩) 1 [(-7, 77)] := RE.newAt rfl rfl rfl
  go_enter Tryz.func41, Tryz.ntmps41
  go_wp2_with (at_builtin; refine wpList_appX (E := elPt) rfl _ _ 59 69 infoPt rfl Tryz.underlying59 rfl base A n c cs rfl h1 (by simp; omega) _ 1 1 [(-7, 77)] rfl hr (by unfold maxLen; omega) (by omega) ?_; intro A2 c2 w2 h2; have hc2 := Own.cap h2.own)
  have hw2 : Wr w2 A2 ((n + 1) * 2) := Own.wr h2.own
  have hg2 : Chg (fun k => ∃ ad, A = some ad ∧ k = ad.block) w w2 := ((Chg.refl _ w).alloc _).trans h2.chg
  have hs2 : Sh w w2 := hs1.trans (Sh.of_app h1 h2)
  have hw1 : Wr w2 A (n * 2) := by
    rcases h2.2.2 with ⟨e1, _⟩ | ⟨_, e2, _⟩
    · rw [← e1]; exact hw2.mono (by omega)
    · exact (Own.wr h1).chg e2 (fun _ _ e => e)
  have hA2 : ∀ ad, A2 = some ad → w.heap.size ≤ ad.block ∨ ∃ bd, A = some bd ∧ ad.block = bd.block := by
    rintro ad rfl
    rcases h2.2.2 with ⟨e1, _⟩ | ⟨e1, _⟩
    · exact .inr ⟨ad, e1.symm, rfl⟩
    · injection e1 with e1
      subst e1
      exact .inl (by simp)
  obtain ⟨g2, rfl⟩ : ∃ g2, A2 = some ⟨g2, 0, none⟩ := (Own.at_ h2.own (by omega)).imp fun _ h => h.1
  have hA : A = none ∨ ∃ g, A = some ⟨g, 0, none⟩ := by
    rcases Own.form h with ⟨e, _⟩ | ⟨g, e, _⟩
    · exact .inl e
    · exact .inr ⟨g, e⟩
  have HA := Lib.hid hA
  clear h2 h1 hr h hA hs1
  go_loopw [3] (fun i wr => ∃ k : Nat, k ≤ n + 1 ∧ i = .int .i64 k ∧ Wr wr (some ⟨g2, 0, none⟩) ((n + 1) * 2) ∧ Wr wr A (n * 2) ∧ Chg (fun k => ∃ ad, A = some ad ∧ k = ad.block) w wr ∧ Sh w wr) (fun i _ => n + 1 - (intOf i).toNat)
  case atStart => exact ⟨0, Nat.zero_le _, rfl, hw2, hw1, hg2, hs2⟩
  case round =>
    clear hw2 hw1 hg2 hs2 w2
    obtain ⟨k, hk, rfl, hw2, hw1, hg2, hs2⟩ := hrel
    by_cases hlt : k < n + 1
    · obtain ⟨ad, u, he, hcell, hfr⟩ := hw2.at_ (j := k * 2) (by omega)
      injection he with he
      subst he
      obtain ⟨ad, u', he, hcell', hfr'⟩ := hw2.at_ (j := k * 2 + 1) (by omega)
      injection he with he
      subst he
      rw [add_head] at hcell hfr hcell' hfr'
      go_wp2
      go_roundw
      case rel => exact ⟨k + 1, by omega, by go_num, (hw2.set _ _).set _ _, (hw1.set _ _).set _ _, (hg2.setCell (p := ⟨g2, k * 2, none⟩) (hA2 ⟨g2, 0, none⟩ rfl) _).setCell (p := ⟨g2, k * 2 + 1, none⟩) (hA2 ⟨g2, 0, none⟩ rfl) _, (hs2.setCell _ _ _).setCell _ _ _⟩
      case measure => simp [intOf]; omega
    · go_wp2
      obtain ⟨wo, rfl⟩ : ∃ wo : World, wo = wr := ⟨_, rfl⟩
      go_loopw [4] (fun i wr => ∃ k : Nat, k ≤ n ∧ i = .int .i64 k ∧ Wr wr A (n * 2) ∧ Chg (fun k => ∃ ad, A = some ad ∧ k = ad.block) w wr ∧ Sh w wr) (fun i _ => n - (intOf i).toNat)
      case atStart => exact ⟨0, Nat.zero_le _, rfl, hw1, hg2, hs2⟩
      case round =>
        clear hw1 hw2 hg2 hs2
        obtain ⟨k2, hk2, rfl, hw1, hg2, hs2⟩ := hrel
        by_cases hlt2 : k2 < n
        · rcases HA.out with rfl | ⟨g, rfl⟩
          · obtain ⟨ad, u, he, _⟩ := hw1.at_ (j := k2 * 2) (by omega)
            cases he
          · obtain ⟨ad, u, he, hcell, hfr⟩ := hw1.at_ (j := k2 * 2) (by omega)
            injection he with he
            subst he
            obtain ⟨ad, u', he, hcell', hfr'⟩ := hw1.at_ (j := k2 * 2 + 1) (by omega)
            injection he with he
            subst he
            rw [add_head] at hcell hfr hcell' hfr'
            go_wp2
            go_roundw
            case rel => exact ⟨k2 + 1, by omega, by go_num, (hw1.set _ _).set _ _, (hg2.setCell (p := ⟨g, k2 * 2, none⟩) (.inr ⟨_, rfl, rfl⟩) _).setCell (p := ⟨g, k2 * 2 + 1, none⟩) (.inr ⟨_, rfl, rfl⟩) _, (hs2.setCell _ _ _).setCell _ _ _⟩
            case measure => simp [intOf]; omega
        · go_wp2
          go_end0
          exact ⟨by simp, hg2, hs2⟩

set_option maxHeartbeats 1000000 in
theorem spoilLbs (A : Option Addr) (n c base : Nat) (w : World) (hx : OwX w base 72 2 A n c) (hbase : base ≤ w.heap.size) (hn : n ≤ 1099511627776) :
    Calls Tryz.prog 40 #[.slice A n c] w fun e w' => e = .returned (.tuple #[]) ∧ Chg (fun k => ∃ ad, A = some ad ∧ k = ad.block) w w' ∧ Sh w w' := by
  obtain ⟨cs, h⟩ := hx
  have hc := Own.cap h
  have h1 : Own (w.alloc (.cells #[.string ⟨#[115, 112, 111, 105, 108, 116]⟩, .string ⟨#[115, 112, 111, 105, 108, 116]⟩] 72)) base 72 elLb.sz A n c cs := Own.alloc h _
  have hs1 : Sh w (w.alloc (.cells #[.string ⟨#[115, 112, 111, 105, 108, 116]⟩, .string ⟨#[115, 112, 111, 105, 108, 116]⟩] 72)) := Sh.of_grew ((Chg.refl _ w).alloc _)
  have hr : RE elLb (w.alloc (.cells #[.string ⟨#[115, 112, 111, 105, 108, 116]⟩, .string ⟨#[115, 112, 111, 105, 108, 116]⟩] 72)) (some ⟨w.heap.size, 0, none⟩) 1 [(⟨#[115, 112, 111, 105, 108, 116]⟩, ⟨#[115, 112, 111, 105, 108, 116]⟩)] := RE.newAt rfl rfl rfl
  go_enter Tryz.func40, Tryz.ntmps40
  go_wp2_with (at_builtin; refine wpList_appX (E := elLb) rfl _ _ 28 72 infoLab rfl Tryz.underlying28 rfl base A n c cs rfl h1 (by simp; omega) _ 1 1 [(⟨#[115, 112, 111, 105, 108, 116]⟩, ⟨#[115, 112, 111, 105, 108, 116]⟩)] rfl hr (by unfold maxLen; omega) (by omega) ?_; intro A2 c2 w2 h2; have hc2 := Own.cap h2.own)
  have hw2 : Wr w2 A2 ((n + 1) * 2) := Own.wr h2.own
  have hg2 : Chg (fun k => ∃ ad, A = some ad ∧ k = ad.block) w w2 := ((Chg.refl _ w).alloc _).trans h2.chg
  have hs2 : Sh w w2 := hs1.trans (Sh.of_app h1 h2)
  have hw1 : Wr w2 A (n * 2) := by
    rcases h2.2.2 with ⟨e1, _⟩ | ⟨_, e2, _⟩
    · rw [← e1]; exact hw2.mono (by omega)
    · exact (Own.wr h1).chg e2 (fun _ _ e => e)
  have hA2 : ∀ ad, A2 = some ad → w.heap.size ≤ ad.block ∨ ∃ bd, A = some bd ∧ ad.block = bd.block := by
    rintro ad rfl
    rcases h2.2.2 with ⟨e1, _⟩ | ⟨e1, _⟩
    · exact .inr ⟨ad, e1.symm, rfl⟩
    · injection e1 with e1
      subst e1
      exact .inl (by simp)
  obtain ⟨g2, rfl⟩ : ∃ g2, A2 = some ⟨g2, 0, none⟩ := (Own.at_ h2.own (by omega)).imp fun _ h => h.1
  have hA : A = none ∨ ∃ g, A = some ⟨g, 0, none⟩ := by
    rcases Own.form h with ⟨e, _⟩ | ⟨g, e, _⟩
    · exact .inl e
    · exact .inr ⟨g, e⟩
  have HA := Lib.hid hA
  clear h2 h1 hr h hA hs1
  go_loopw [3] (fun i wr => ∃ k : Nat, k ≤ n + 1 ∧ i = .int .i64 k ∧ Wr wr (some ⟨g2, 0, none⟩) ((n + 1) * 2) ∧ Wr wr A (n * 2) ∧ Chg (fun k => ∃ ad, A = some ad ∧ k = ad.block) w wr ∧ Sh w wr) (fun i _ => n + 1 - (intOf i).toNat)
  case atStart => exact ⟨0, Nat.zero_le _, rfl, hw2, hw1, hg2, hs2⟩
  case round =>
    clear hw2 hw1 hg2 hs2 w2
    obtain ⟨k, hk, rfl, hw2, hw1, hg2, hs2⟩ := hrel
    by_cases hlt : k < n + 1
    · obtain ⟨ad, u, he, hcell, hfr⟩ := hw2.at_ (j := k * 2) (by omega)
      injection he with he
      subst he
      obtain ⟨ad, u', he, hcell', hfr'⟩ := hw2.at_ (j := k * 2 + 1) (by omega)
      injection he with he
      subst he
      rw [add_head] at hcell hfr hcell' hfr'
      go_wp2
      go_roundw
      case rel => exact ⟨k + 1, by omega, by go_num, (hw2.set _ _).set _ _, (hw1.set _ _).set _ _, (hg2.setCell (p := ⟨g2, k * 2, none⟩) (hA2 ⟨g2, 0, none⟩ rfl) _).setCell (p := ⟨g2, k * 2 + 1, none⟩) (hA2 ⟨g2, 0, none⟩ rfl) _, (hs2.setCell _ _ _).setCell _ _ _⟩
      case measure => simp [intOf]; omega
    · go_wp2
      obtain ⟨wo, rfl⟩ : ∃ wo : World, wo = wr := ⟨_, rfl⟩
      go_loopw [4] (fun i wr => ∃ k : Nat, k ≤ n ∧ i = .int .i64 k ∧ Wr wr A (n * 2) ∧ Chg (fun k => ∃ ad, A = some ad ∧ k = ad.block) w wr ∧ Sh w wr) (fun i _ => n - (intOf i).toNat)
      case atStart => exact ⟨0, Nat.zero_le _, rfl, hw1, hg2, hs2⟩
      case round =>
        clear hw1 hw2 hg2 hs2
        obtain ⟨k2, hk2, rfl, hw1, hg2, hs2⟩ := hrel
        by_cases hlt2 : k2 < n
        · rcases HA.out with rfl | ⟨g, rfl⟩
          · obtain ⟨ad, u, he, _⟩ := hw1.at_ (j := k2 * 2) (by omega)
            cases he
          · obtain ⟨ad, u, he, hcell, hfr⟩ := hw1.at_ (j := k2 * 2) (by omega)
            injection he with he
            subst he
            obtain ⟨ad, u', he, hcell', hfr'⟩ := hw1.at_ (j := k2 * 2 + 1) (by omega)
            injection he with he
            subst he
            rw [add_head] at hcell hfr hcell' hfr'
            go_wp2
            go_roundw
            case rel => exact ⟨k2 + 1, by omega, by go_num, (hw1.set _ _).set _ _, (hg2.setCell (p := ⟨g, k2 * 2, none⟩) (.inr ⟨_, rfl, rfl⟩) _).setCell (p := ⟨g, k2 * 2 + 1, none⟩) (.inr ⟨_, rfl, rfl⟩) _, (hs2.setCell _ _ _).setCell _ _ _⟩
            case measure => simp [intOf]; omega
        · go_wp2
          go_end0
          exact ⟨by simp, hg2, hs2⟩

/-- a row of series whose rows are all of the call's own, from lo on, below hi -/
structure SpS (w : World) (lo hi : Nat) (A : Option Addr) (n c : Nat) (ms : List SerM) : Prop where
  row : OE elSr w lo 61 A n c ms
  top : ∀ ad, A = some ad → ad.block < hi
  lb : ∀ m ∈ ms, OwX w lo 72 2 m.la m.ln m.lc ∧ m.ln ≤ 1099511627776 ∧ ∀ ad, m.la = some ad → ad.block < hi
  pt : ∀ m ∈ ms, OwX w lo 69 2 m.pa m.pn m.pc ∧ m.pn ≤ 1099511627776 ∧ ∀ ad, m.pa = some ad → ad.block < hi
theorem NS.sps {w w1 : World} {base : Nat} {A : Option Addr} {n c : Nat} {ss : List Ser} (h : NS w base A n c ss) (hs : Small ss) (hg : Grew w w1) : ∃ ms, SpS w1 base w.heap.size A n c ms := by
  obtain ⟨ms, h1, h2, h3⟩ := h
  have hk : ∀ m ∈ ms, ∃ s ∈ ss, NsE w base m s := fun m hm => by
    obtain ⟨i, hi⟩ := List.getElem?_of_mem hm
    have hil := (List.getElem?_eq_some_iff.1 hi).1
    have hsi : ss[i]? = some (ss[i]'(by omega)) := List.getElem?_eq_getElem (by omega)
    exact ⟨_, List.mem_of_getElem? hsi, h3 i m _ hi hsi⟩
  refine ⟨ms, h1.grew hg, fun ad e => (Own.blk_lt h1 ad e).2, fun m hm => ?_, fun m hm => ?_⟩
  · obtain ⟨s, hs1, hN⟩ := hk m hm
    have hel := hs.el s hs1
    have hl := hN.lb.len (by decide)
    exact ⟨⟨_, hN.lb.grew hg⟩, by omega, fun ad e => (Own.blk_lt hN.lb ad e).2⟩
  · obtain ⟨s, hs1, hN⟩ := hk m hm
    have hel := hs.el s hs1
    have hl := hN.pt.len (by decide)
    exact ⟨⟨_, hN.pt.grew hg⟩, by omega, fun ad e => (Own.blk_lt hN.pt ad e).2⟩

theorem cell_two {w : World} {g i j k : Nat} {u v x : Value} (h : w.cell? ⟨g, i, none⟩ = some x) (h1 : i ≠ j) (h2 : i ≠ k) : ((w.setCell ⟨g, j, none⟩ u).setCell ⟨g, k, none⟩ v).cell? ⟨g, i, none⟩ = some x := by
  rw [World.cell?_setCell_other, World.cell?_setCell_other, h]
  · intro e
    injection e with _ e
    exact h1 e.symm
  · intro e
    injection e with _ e
    exact h2 e.symm
set_option maxHeartbeats 4000000 in
theorem spoilS_any (A : Option Addr) (n c lo hi : Nat) (ms : List SerM) (w : World) (h : SpS w lo hi A n c ms) (hlo : lo ≤ w.heap.size) (hn : n ≤ 1099511627776) :
    Calls Tryz.prog 19 #[.slice A n c] w fun e w' => e = .returned (.tuple #[]) ∧ Chg (fun k => lo ≤ k ∧ k < hi) w w' := by
  have hc := h.row.cap
  have hlen : ms.length = n := h.row.len (by decide)
  have hblk := Own.block h.row
  have hform : A = none ∧ n = 0 ∨ ∃ g, A = some ⟨g, 0, none⟩ := by
    rcases Own.form h.row with ⟨e, e2, _⟩ | ⟨g, e, _⟩
    · exact .inl ⟨e, e2⟩
    · exact .inr ⟨g, e⟩
  rcases hform with ⟨rfl, rfl⟩ | ⟨g, rfl⟩
  · clear hblk hlen h
    go_enter Tryz.func19, Tryz.ntmps19
    go_wp2
    go_loopw [2] (fun i wr => i = .int .i64 0 ∧ w = wr) (fun _ _ => 0)
    case atStart => exact ⟨rfl, rfl⟩
    case round =>
      obtain ⟨rfl, rfl⟩ := hrel
      go_wp2
      go_end0
      exact ⟨by simp, Chg.refl _ _⟩
  obtain ⟨cur, hbk, hcz⟩ := hblk _ rfl
  have hg1 : lo ≤ g ∧ g < hi := ⟨(Own.blk_lt h.row _ rfl).1, h.top _ rfl⟩
  have hre := h.row.re (by decide)
  have hcell : ∀ (k : Nat) (m : SerM), ms[k]? = some m → w.cell? ⟨g, k * 2, none⟩ = some (.slice m.la m.ln m.lc) ∧ w.cell? ⟨g, k * 2 + 1, none⟩ = some (.slice m.pa m.pn m.pc) := fun k m hm => by
    have hkn : k < n := by rw [← hlen]; exact (List.getElem?_eq_some_iff.1 hm).1
    obtain ⟨ad, m', e, hm', hcs⟩ := hre.at_ hkn (by decide)
    injection e with e
    subst e
    obtain rfl : m = m' := by rw [hm] at hm'; injection hm'
    have h0 := hcs 0 _ rfl
    have h1 := hcs 1 _ rfl
    rw [add_head] at h0 h1
    exact ⟨h0, h1⟩
  have hlb := h.lb
  have hpt := h.pt
  clear h hblk hre
  replace hlen := Lib.hid hlen
  replace hlb := Lib.hid hlb
  replace hpt := Lib.hid hpt
  replace hcell := Lib.hid hcell
  go_enter Tryz.func19, Tryz.ntmps19
  go_wp2
  go_loopw [2] (fun i wr => ∃ k : Nat, k ≤ n ∧ i = .int .i64 (k : Int) ∧ Hid (∀ (j : Nat) (m : SerM), k ≤ j → ms[j]? = some m → wr.cell? ⟨g, j * 2, none⟩ = some (.slice m.la m.ln m.lc) ∧ wr.cell? ⟨g, j * 2 + 1, none⟩ = some (.slice m.pa m.pn m.pc)) ∧ Sh w wr ∧ Chg (fun k => lo ≤ k ∧ k < hi) w wr) (fun i _ => n - (intOf i).toNat)
  case atStart => exact ⟨0, Nat.zero_le _, rfl, fun j m _ hm => hcell.out j m hm, Sh.refl _, Chg.refl _ _⟩
  case round =>
    obtain ⟨k, hk, rfl, hcl, hs, hg⟩ := hrel
    by_cases hlt : k < n
    · obtain ⟨m, hm⟩ : ∃ m, ms[k]? = some m := ⟨ms[k]'(by have := hlen.out; omega), List.getElem?_eq_getElem _⟩
      have hmem := List.mem_of_getElem? hm
      obtain ⟨l1, l2, l3⟩ := hlb.out m hmem
      obtain ⟨p1, p2, p3⟩ := hpt.out m hmem
      obtain ⟨x0, x1⟩ := hcl.out k m (Nat.le_refl _) hm
      have hsz := hg.size
      have oL := l1.sh hs
      have hL := spoilLbs m.la m.ln m.lc lo wr oL (by omega) l2
      have hcl1 := hcl.out
      obtain ⟨c1, hb1, _⟩ := hs _ _ _ hbk
      have neL : ∀ ad, m.la = some ad → ad.block ≠ g := fun ad e e2 => by
        obtain ⟨cu, kb⟩ := oL.blk ad e
        rw [e2] at kb
        exact Blk.ty_ne kb hb1 (by decide) rfl
      replace neL := Lib.hid neL
      replace hcl1 := Lib.hid hcl1
      have hsm := Lib.hid hm
      clear hcl hm hmem hb1
      go_wp2_with fail
      refine hL.mono ?_
      rintro e w1 ⟨rfl, hc1, hs1⟩
      have hs01 := hs.trans hs1
      have hg01 : Chg (fun k => lo ≤ k ∧ k < hi) w w1 := hg.step hc1 fun k hk ⟨ad, e, e2⟩ => by rw [e2]; exact ⟨l1.lo ad e, l3 ad e⟩
      have nS1 : ∀ ad, m.la = some ad → g ≠ ad.block := fun ad e e2 => neL.out ad e e2.symm
      have hgS1 : ¬ ∃ ad, m.la = some ad ∧ g = ad.block := fun ⟨ad, e, e2⟩ => nS1 ad e e2
      have y0 := hc1.cell x0 hgS1
      have y1 := hc1.cell x1 hgS1
      have oP := p1.sh hs01
      have hszw1 := hg01.size
      have hP := spoilPts m.pa m.pn m.pc lo w1 oP (by omega) p2
      obtain ⟨c2, hb2, _⟩ := hs01 _ _ _ hbk
      have hgS2 : ¬ ∃ ad, m.pa = some ad ∧ g = ad.block := fun ⟨ad, e, e2⟩ => by
        obtain ⟨cu, kb⟩ := oP.blk ad e
        rw [← e2] at kb
        exact Blk.ty_ne kb hb2 (by decide) rfl
      replace hgS2 := Lib.hid hgS2
      replace hgS1 := Lib.hid hgS1
      clear nS1 neL hb2 hL oL
      go_wp2_with fail
      refine hP.mono ?_
      rintro e w2 ⟨rfl, hc2, hs2⟩
      have hs02 := hs01.trans hs2
      have hg02 : Chg (fun k => lo ≤ k ∧ k < hi) w w2 := hg01.step hc2 fun k hk ⟨ad, e, e2⟩ => by rw [e2]; exact ⟨p1.lo ad e, p3 ad e⟩
      have z0 := hc2.cell y0 hgS2.out
      have z1 := hc2.cell y1 hgS2.out
      obtain ⟨c3, hb3, hcz3⟩ := hs02 _ _ _ hbk
      have f0 := hb3.frozen (k * 2)
      have f1 := hb3.frozen (k * 2 + 1)
      have hcl2 : Hid (∀ (j : Nat) (m : SerM), k + 1 ≤ j → ms[j]? = some m → w2.cell? ⟨g, j * 2, none⟩ = some (.slice m.la m.ln m.lc) ∧ w2.cell? ⟨g, j * 2 + 1, none⟩ = some (.slice m.pa m.pn m.pc)) := fun j m' hj hm' => by
        obtain ⟨q0, q1⟩ := hcl1.out j m' (by omega) hm'
        exact ⟨hc2.cell (hc1.cell q0 hgS1.out) hgS2.out, hc2.cell (hc1.cell q1 hgS1.out) hgS2.out⟩
      clear hP oP hcl1 hc1 hc2 hs1 hs2 hs01 hg01 y0 y1 x0 x1 hg hs l1 l3 p1 p3
      go_wp2
      go_roundw
      case rel => exact ⟨k + 1, by omega, by go_num, fun j m' hj hm' => by
        obtain ⟨q0, q1⟩ := hcl2.out j m' hj hm'
        exact ⟨cell_two q0 (by omega) (by omega), cell_two q1 (by omega) (by omega)⟩, (hs02.setCell _ _ _).setCell _ _ _, (hg02.setCell (p := ⟨g, k * 2, none⟩) (.inr hg1) _).setCell (p := ⟨g, k * 2 + 1, none⟩) (.inr hg1) _⟩
      case measure => simp [intOf]; omega
    · go_wp2
      go_end0
      exact ⟨by simp, hg⟩
end Go.Proofs.YtailooldnelecaaGreatDoor

namespace Go.Proofs.YtailooldnelecaaGreatDoor
open Go.RowKit

set_option maxHeartbeats 2000000 in
theorem sameMa_yes (A B : Option Addr) (n c d : Nat) (l : List Mat) (w : World) (ha : RE elMa w A n l) (hb : RE elMa w B n l) (hn : n ≤ 9223372036854775807) :
    Calls Tryz.prog 38 #[.slice A n c, .slice B n d] w fun e w' => e = .returned (.bool true) ∧ ∃ k, w' = w.drewN k := by
  go_enter Tryz.func38, Tryz.ntmps38
  go_wp2
  go_loopw [5] (fun i wr => ∃ k : Nat, k ≤ n ∧ i = .int .i64 k ∧ ∃ j, wr = w.drewN j) (fun i _ => n - (intOf i).toNat)
  case atStart => exact ⟨0, Nat.zero_le _, rfl, 0, rfl⟩
  case round =>
    obtain ⟨k, hk, rfl, j, rfl⟩ := hrel
    by_cases hlt : k < n
    · obtain ⟨ad, x, rfl, hx, x0, x1, x2⟩ := ha.ma hlt
      obtain ⟨bd, y, rfl, hy, y0, y1, y2⟩ := hb.ma hlt
      obtain rfl : x = y := by
        rw [hx] at hy
        injection hy
      clear hx hy
      go_wp2
      refine wp_region_text [(3, 1)] (by kernel_rfl) (by kernel_rfl) ?_
      simp only [instr, chk, look, Nat.reduceBEq, Bool.false_eq_true, if_true, if_false, Nat.reduceEqDiff, List.nil_append]
      go_wp2
      refine OnlyN.normal ?_
      go_wp2
      go_roundw
      case rel => exact ⟨k + 1, by omega, by go_num, _, rfl⟩
      case measure => simp [intOf]; omega
    · go_wp2
      go_ret
      exact ⟨by simp, _, rfl⟩

/-- a mark -/
def maX : Mat := (77, ⟨#[]⟩, ⟨#[]⟩)
def LentMa (w : World) (n : Nat) (l : List Mat) (e : Ending) (w' : World) : Prop := ∃ A c, e = .returned (.slice A n c) ∧ OE elMa w' w.heap.size 82 A (n + 2) c (l ++ [maX, maX]) ∧ Grew w w'

set_option maxHeartbeats 400000 in
theorem lendMa_any (A : Option Addr) (n c : Nat) (l : List Mat) (w : World) (h : RE elMa w A n l) (hn : n ≤ 3298534883320) :
    Calls Tryz.prog 16 #[.slice A n c] w (LentMa w n l) := by
  go_enter Tryz.func16, Tryz.ntmps16
  go_wp2_with fail
  refine (copyMatchers_any A n c l _ h (by omega)).mono ?_
  rintro e w1 ⟨A1, c1, rfl, h1, hg1⟩
  have h1a := h1.grew ((Chg.refl _ w1).alloc (.cells #[.int .i64 77, .string ⟨#[]⟩, .string ⟨#[]⟩, .int .i64 77, .string ⟨#[]⟩, .string ⟨#[]⟩] 82))
  have hr : RE elMa (w1.alloc (.cells #[.int .i64 77, .string ⟨#[]⟩, .string ⟨#[]⟩, .int .i64 77, .string ⟨#[]⟩, .string ⟨#[]⟩] 82)) (some ⟨w1.heap.size, 0, none⟩) 2 [maX, maX] := RE.newAt rfl rfl rfl
  have hs1 := hg1.size
  go_wp2_with (at_builtin; refine wpList_appE rfl _ _ 32 82 infoMa rfl Tryz.underlying32 rfl w.heap.size A1 n c1 l rfl h1a (by simp; omega) _ 2 2 [maX, maX] rfl hr (by unfold maxLen; omega) (by omega) ?_; intro A2 c2 w2 h2; have hc2 := h2.oe.cap)
  go_ret
  refine ⟨A2, c2, by simp, h2.oe, ?_⟩
  exact h2.grew (hg1.alloc _) fun ad e => (Own.blk_lt h1 ad e).1

set_option maxHeartbeats 1000000 in
theorem keptMa_any (A : Option Addr) (n c : Nat) (l : List Mat) (B : Option Addr) (d : Nat) (base : Nat) (w : World) (h : OE elMa w base 82 A (n + 2) c (l ++ [maX, maX])) (hb : RE elMa w B n l) (hn : n ≤ 3298534883320) :
    Calls Tryz.prog 17 #[.slice A n c, .slice B n d] w fun e w' => e = .returned (.bool true) ∧ Chg (fun k => ∃ ad, A = some ad ∧ k = ad.block) w w' := by
  have hc := h.cap
  obtain ⟨g, rfl, hbg, hg, _⟩ := Own.at_ h (by omega)
  have hl : l.length = n := hb.1
  have hre := h.re (by decide)
  have ha : RE elMa w (some ⟨g, 0, none⟩) n l := by have := hre.take (i := n) (by omega); rwa [List.take_left' hl] at this
  have hz : RE elMa w (some ⟨g, n * 3, none⟩) 2 [maX, maX] := by
    have := hre.drop n
    rw [List.drop_left' hl, add_head] at this
    simpa [elMa] using this
  clear hre
  go_enter Tryz.func17, Tryz.ntmps17
  go_wp2_with fail
  refine (sameMa_yes _ _ n c d l _ ha hb (by omega)).mono ?_
  rintro e w1 ⟨rfl, k1, rfl⟩
  go_wp2_with fail
  refine (sameMa_yes _ _ 2 _ _ [maX, maX] _ (by exact (hz.drewN k1).grew ((Chg.refl _ _).alloc _)) (by exact RE.newAt (by simp) rfl rfl) (by omega)).mono ?_
  rintro e w2 ⟨rfl, k2, rfl⟩
  have hw : Wr (((w.drewN k1).alloc (.cells #[.int .i64 77, .string ⟨#[]⟩, .string ⟨#[]⟩, .int .i64 77, .string ⟨#[]⟩, .string ⟨#[]⟩] 82)).drewN k2) (some ⟨g, 0, none⟩) ((n + 2) * 3) := by
    have := (Own.wr h).chg ((((Chg.refl (fun _ => False) w).drewN k1).alloc (.cells #[.int .i64 77, .string ⟨#[]⟩, .string ⟨#[]⟩, .int .i64 77, .string ⟨#[]⟩, .string ⟨#[]⟩] 82)).drewN k2) (fun _ _ e => e)
    exact this
  have hcg : Chg (fun k => ∃ ad, some (⟨g, 0, none⟩ : Addr) = some ad ∧ k = ad.block) w (((w.drewN k1).alloc (.cells #[.int .i64 77, .string ⟨#[]⟩, .string ⟨#[]⟩, .int .i64 77, .string ⟨#[]⟩, .string ⟨#[]⟩] 82)).drewN k2) := (((Chg.refl _ w).drewN k1).alloc _).drewN k2
  generalize (((w.drewN k1).alloc (.cells #[.int .i64 77, .string ⟨#[]⟩, .string ⟨#[]⟩, .int .i64 77, .string ⟨#[]⟩, .string ⟨#[]⟩] 82)).drewN k2) = w2 at hw hcg ⊢
  clear h hb ha hz
  go_wp2
  go_loopw [7] (fun i wr => ∃ k : Nat, k ≤ n + 2 ∧ i = .int .i64 k ∧ Wr wr (some ⟨g, 0, none⟩) ((n + 2) * 3) ∧ Chg (fun k => ∃ ad, some (⟨g, 0, none⟩ : Addr) = some ad ∧ k = ad.block) w wr) (fun i _ => n + 2 - (intOf i).toNat)
  case atStart => exact ⟨0, Nat.zero_le _, rfl, hw, hcg⟩
  case round =>
    clear hw hcg w2
    obtain ⟨k, hk, rfl, hw, hcg⟩ := hrel
    by_cases hlt : k < n + 2
    · obtain ⟨ad, u, he, hcell, hfr⟩ := hw.at_ (j := k * 3) (by omega)
      injection he with he
      subst he
      obtain ⟨ad, u', he, hcell', hfr'⟩ := hw.at_ (j := k * 3 + 1) (by omega)
      injection he with he
      subst he
      obtain ⟨ad, u2, he, hcell2, hfr2⟩ := hw.at_ (j := k * 3 + 2) (by omega)
      injection he with he
      subst he
      rw [add_head] at hcell hfr hcell' hfr' hcell2 hfr2
      go_wp2
      go_roundw
      case rel => exact ⟨k + 1, by omega, by go_num, ((hw.set _ _).set _ _).set _ _, ((hcg.setCell (p := ⟨g, k * 3, none⟩) (.inr ⟨_, rfl, rfl⟩) _).setCell (p := ⟨g, k * 3 + 1, none⟩) (.inr ⟨_, rfl, rfl⟩) _).setCell (p := ⟨g, k * 3 + 2, none⟩) (.inr ⟨_, rfl, rfl⟩) _⟩
      case measure => simp [intOf]; omega
    · go_wp2
      go_ret
      exact ⟨by simp, hcg⟩

set_option maxHeartbeats 1000000 in
theorem get3_any (A : Option Addr) (n c : Nat) (ls : List (ByteArray × ByteArray)) (nm : ByteArray) (w : World) (h : RE elLb w A n ls) (hn : n ≤ 9223372036854775807) :
    Calls Tryz.prog 68 #[.slice A n c, .string nm] w fun e w' => e = .returned (.string (getB ls nm)) ∧ Grew w w' := by
  have Hlen := Lib.hid h.1
  go_enter Tryz.func68, Tryz.ntmps68
  go_wp2
  go_loopw [5] (fun i wr => ∃ (j : Nat), i = .int .i64 (j : Int) ∧ j ≤ n ∧ Hid (getB (ls.drop j) nm = getB ls nm) ∧ Grew w wr) (fun i _ => n - (intOf i).toNat)
  case atStart => exact ⟨0, rfl, by omega, rfl, Chg.refl _ _⟩
  case round =>
    obtain ⟨j, rfl, hj, Hj, hg⟩ := hrel
    by_cases hlt : j < n
    · obtain ⟨ad, x, rfl, hx, c0, c1⟩ := (h.grew hg).lb hlt
      have hjj := Hj.out
      rw [getB_drop hx] at hjj
      cases hb : lst x.1 == lst nm
      · have hb2 : (x.1.toList == nm.toList) = false := by rw [ByteArray.toList_eq, ByteArray.toList_eq]; exact hb
        rw [hb, if_neg (by simp)] at hjj
        replace hjj := Lib.hid hjj
        clear hb hx Hj
        go_wp2
        go_roundw
        case rel => exact ⟨j + 1, by go_num, by omega, hjj, hg⟩
        case measure => simp [intOf]; omega
      · have hb2 : (x.1.toList == nm.toList) = true := by rw [ByteArray.toList_eq, ByteArray.toList_eq]; exact hb
        rw [hb, if_pos rfl] at hjj
        replace hjj := Lib.hid hjj
        clear hb hx Hj
        go_wp2
        go_ret
        exact ⟨by rw [← hjj.out]; simp, hg⟩
    · obtain rfl : j = n := by omega
      have Hf : Hid (getB ls nm = ⟨#[]⟩) := by
        show _ = _
        rw [← Hj.out, ← Hlen.out, List.drop_length]
        rfl
      clear Hj
      go_wp2
      go_ret
      exact ⟨by rw [Hf.out]; simp, hg⟩

set_option maxRecDepth 100000 in
set_option maxHeartbeats 8000000 in
theorem says4_any (A : Option Addr) (n c : Nat) (ms : List Mat) (L : Option Addr) (m d : Nat) (ls : List (ByteArray × ByteArray)) (w : World) (h : RE elMa w A n ms) (hl : RE elLb w L m ls) (hn : n ≤ 9223372036854775807) (hm : m ≤ 9223372036854775807)
    (hms : ∀ x ∈ ms, x.2.2.size ≤ 16777216) (hls : ∀ x ∈ ls, x.2.size ≤ 16777216) :
    Calls Tryz.prog 55 #[.slice A n c, .slice L m d] w fun e w' => e = .returned (.bool (saysB ms ls)) ∧ Grew w w' := by
  have Hlen := Lib.hid h.1
  have Hms := Lib.hid hms
  have Hgs := Lib.hid (fun nm => getB_size (nm := nm) hls)
  clear hms hls
  go_enter Tryz.func55, Tryz.ntmps55
  go_wp2
  go_loopw [5] (fun i wr => ∃ (j : Nat), i = .int .i64 (j : Int) ∧ j ≤ n ∧ Hid ((ms.take j).all (fun x => oneB x ls) = true) ∧ Grew w wr) (fun i _ => n - (intOf i).toNat)
  case atStart => exact ⟨0, rfl, by omega, by rw [List.take_zero]; rfl, Chg.refl _ _⟩
  case round =>
    obtain ⟨j, rfl, hj, Hall, hg⟩ := hrel
    by_cases hlt : j < n
    · obtain ⟨ad, ⟨k, nm, v⟩, rfl, hx, c0, c1, c2⟩ := (h.grew hg).ma hlt
      have hvs := Hms.out _ (List.mem_of_getElem? hx)
      have hgs := Hgs.out nm
      have hgt := get3_any L m d ls nm wr (hl.grew hg) hm
      have hLk := fun w' => rLike_any v (getB ls nm) w' hvs hgs
      replace hLk := Lib.hid hLk
      obtain ⟨o, ho⟩ : ∃ o, oneB (k, nm, v) ls = o := ⟨_, rfl⟩
      have hoD : o = if k = 1 then lst (getB ls nm) == lst v else if k = 2 then !(lst (getB ls nm) == lst v) else if k = 3 then likeB (lst v) (lst (getB ls nm)) else if k = 4 then !likeB (lst v) (lst (getB ls nm)) else false := by
        rw [← ho]
        rfl
      have hno : Hid (o = false → saysB ms ls = false) := fun e => all_hit hx (ho.trans e)
      have hyes : Hid (o = true → ((ms.take (j + 1)).all (fun x => oneB x ls) = true)) := fun e => all_take Hall.out hx (ho.trans e)
      have heq : ((getB ls nm).toList == v.toList) = (lst (getB ls nm) == lst v) := by rw [ByteArray.toList_eq, ByteArray.toList_eq]
      generalize getB ls nm = gv at *
      generalize (lst gv == lst v) = q at *
      generalize likeB (lst v) (lst gv) = lk at *
      clear ho hx Hall
      go_wp2_with fail
      refine hgt.mono ?_
      rintro e w1 ⟨rfl, hg1⟩
      have hg2 := hg.trans hg1
      have c0 := hg1.cell c0 (fun e => e)
      have c2 := hg1.cell c2 (fun e => e)
      clear hgt hg c1
      by_cases h1 : k = 1
      · subst h1
        rw [if_pos rfl] at hoD
        subst hoD
        clear hLk
        cases o
        · have hs := Lib.hid (hno.out rfl)
          go_wp2
          go_ret
          exact ⟨by rw [hs.out]; simp, hg2⟩
        · have hs := Lib.hid (hyes.out rfl)
          go_wp2
          go_roundw
          case rel => exact ⟨j + 1, by go_num, by omega, hs, hg2⟩
          case measure => simp [intOf]; omega
      have e1 : (k == 1) = false := by simpa using h1
      rw [if_neg h1] at hoD
      by_cases h2 : k = 2
      · subst h2
        rw [if_pos rfl] at hoD
        clear hLk
        cases q
        · have hs := Lib.hid (hyes.out hoD)
          clear hoD
          go_wp2
          go_roundw
          case rel => exact ⟨j + 1, by go_num, by omega, hs, hg2⟩
          case measure => simp [intOf]; omega
        · have hs := Lib.hid (hno.out hoD)
          clear hoD
          go_wp2
          go_ret
          exact ⟨by rw [hs.out]; simp, hg2⟩
      have e2 : (k == 2) = false := by simpa using h2
      rw [if_neg h2] at hoD
      by_cases h3 : k = 3
      · subst h3
        rw [if_pos rfl] at hoD
        subst hoD
        go_wp2_with fail
        refine (hLk.out _).mono ?_
        rintro e w3 ⟨rfl, hg3⟩
        have hg4 := hg2.trans hg3
        cases o
        · have hs := Lib.hid (hno.out rfl)
          go_wp2
          go_ret
          exact ⟨by rw [hs.out]; simp, hg4⟩
        · have hs := Lib.hid (hyes.out rfl)
          go_wp2
          go_roundw
          case rel => exact ⟨j + 1, by go_num, by omega, hs, hg4⟩
          case measure => simp [intOf]; omega
      have e3 : (k == 3) = false := by simpa using h3
      rw [if_neg h3] at hoD
      by_cases h4 : k = 4
      · subst h4
        rw [if_pos rfl] at hoD
        go_wp2_with fail
        refine (hLk.out _).mono ?_
        rintro e w3 ⟨rfl, hg3⟩
        have hg4 := hg2.trans hg3
        cases lk
        · have hs := Lib.hid (hyes.out hoD)
          clear hoD
          go_wp2
          go_roundw
          case rel => exact ⟨j + 1, by go_num, by omega, hs, hg4⟩
          case measure => simp [intOf]; omega
        · have hs := Lib.hid (hno.out hoD)
          clear hoD
          go_wp2
          go_ret
          exact ⟨by rw [hs.out]; simp, hg4⟩
      have e4 : (k == 4) = false := by simpa using h4
      rw [if_neg h4] at hoD
      have hs := Lib.hid (hno.out hoD)
      clear hoD hLk
      go_wp2
      go_ret
      exact ⟨by rw [hs.out]; simp, hg2⟩
    · obtain rfl : j = n := by omega
      have hs : Hid (saysB ms ls = true) := by
        have := Hall.out
        rwa [List.take_of_length_le (by have := Hlen.out; omega)] at this
      go_wp2
      go_ret
      exact ⟨by rw [hs.out]; simp, hg⟩
end Go.Proofs.YtailooldnelecaaGreatDoor
