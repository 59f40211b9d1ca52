/-
  Several texts in one:
  The statements' own helpers on lists of bytes: SameBytes, CopyBytes, LendBytes, KeptBytes, SpoilBytes: what each call does. Conditions: lengths that memory bears.
  Lists of points: CopyPoints, SamePoints, LendPoints, KeptPoints, SpoilPoints: what each call does. Conditions: lengths that memory bears.
-/
import Derived.Test.YtjgbdkokcgcpjaaDoorPart1
import Derived.Test.YtjgbdkokcgcpjaaDoorRows
import Derived.Test.YtjgbdkokcgcpjaaDoorPart4
import Derived.Test.YtjgbdkokcgcpjaaDoorPart8

namespace Go.Proofs.YtjgbdkokcgcpjaaDoor
open Go.RowKit

theorem infoU8 : (Tryd.prog.info? 5).map (fun i => (i.zero, i.size, i.bytes)) = some (some (.int .u8 0), 1, 1) := by kernel_rfl

/-- what an append of bytes leaves -/
def ApB (w : World) (base : Nat) (A : Option Addr) (n c : Nat) (l : List UInt8) (A' : Option Addr) (c' : Nat) (w' : World) : Prop := Apped w base 5 1 A n c (l.map byt) A' c' w'
theorem ApB.ob {w w' : World} {base : Nat} {A A' : Option Addr} {n c c' : Nat} {l : List UInt8} (h : ApB w base A n c l A' c' w') : OB w' base 5 A' n c' l := h.1
theorem ApB.chg {w w' : World} {base : Nat} {A A' : Option Addr} {n c c' : Nat} {l : List UInt8} (h : ApB w base A n c l A' c' w') : Chg (fun k => ∃ ad, A = some ad ∧ k = ad.block) w w' := h.2.1
/-- .. onto a row that was made just now: nothing older has turned -/
theorem ApB.grew {w0 w w' : World} {base : Nat} {A A' : Option Addr} {n c c' : Nat} {l : List UInt8} (h : ApB w base A n c l A' c' w') (hg : Grew w0 w) (hA : ∀ ad, A = some ad → w0.heap.size ≤ ad.block) : Grew w0 w' :=
  hg.step h.chg fun k hk ⟨ad, e, he⟩ => by have := hA ad e; omega

/-- new memory that holds these bytes; nothing that was there has turned -/
def NewB (w : World) (n : Nat) (l : List UInt8) (e : Ending) (w' : World) : Prop := ∃ A c, e = .returned (.slice A n c) ∧ OB w' w.heap.size 5 A n c l ∧ Grew w w'

theorem head_ge {w : World} {B : Nat} (h : B ≤ w.heap.size) : ∀ ad, (some ⟨w.heap.size, 0, none⟩ : Option Addr) = some ad → B ≤ ad.block := by
  rintro ad e
  injection e with e
  subst e
  exact h

/-- new bytes, laid by the walk -/
theorem RB.new (w : World) (l : List UInt8) (n : Nat) (cs : Array Value) (t : TypeId) (hn : l.length = n) (hc : cs = (l.map byt).toArray) : RB (w.alloc (.cells cs t)) (some ⟨w.heap.size, 0, none⟩) n l :=
  ⟨hn, by subst hc; exact Rd.new w (l.map byt).toArray t⟩
theorem RB.newAt {w : World} {B : Nat} {l : List UInt8} {n : Nat} {cs : Array Value} {t : TypeId} (hB : B = w.heap.size) (hn : l.length = n) (hc : cs = (l.map byt).toArray) : RB (w.alloc (.cells cs t)) (some ⟨B, 0, none⟩) n l := by
  subst hB
  exact RB.new w l n cs t hn hc
theorem RB.drop {w : World} {ad : Addr} {n : Nat} {l : List UInt8} (h : RB w (some ad) n l) (i : Nat) : RB w (some (ad.add i)) (n - i) (l.drop i) := by
  refine ⟨by rw [List.length_drop, h.1], ?_⟩
  rw [List.map_drop]
  exact h.2.drop i
theorem RB.take {w : World} {A : Option Addr} {n : Nat} {l : List UInt8} (h : RB w A n l) {i : Nat} (hi : i ≤ n) : RB w A i (l.take i) := by
  refine ⟨by rw [List.length_take, h.1]; omega, ?_⟩
  rw [List.map_take]
  exact h.2.take i

/-- a list of bytes lent: a copy of them in new memory, two marks behind it -/
def LentB (w : World) (n : Nat) (l : List UInt8) (e : Ending) (w' : World) : Prop := ∃ A c, e = .returned (.slice A n c) ∧ OB w' w.heap.size 5 A (n + 2) c (l ++ [201, 201]) ∧ Grew w w'

end Go.Proofs.YtjgbdkokcgcpjaaDoor

namespace Go.Proofs.YtjgbdkokcgcpjaaDoor
open Go.RowKit

/-- a point in cells -/
def elPt : El (Int × Nat) := ⟨fun p => [.int .i64 p.1, .int .u64 (p.2 : Int)], 2, fun _ => rfl, by
  intro x u hu
  simp only [List.mem_cons, List.not_mem_nil, or_false] at hu
  rcases hu with rfl | rfl <;> rfl⟩

theorem infoPt : (Tryd.prog.info? 49).map (fun i => (i.zero, i.size, i.bytes)) = some (some (.agg #[.int .i64 0, .int .u64 0]), 2, 16) := by kernel_rfl

theorem RE.pt {w : World} {A : Option Addr} {n : Nat} {l : List (Int × Nat)} (h : RE elPt w A n l) {k : Nat} (hk : k < n) :
    ∃ ad p, A = some ad ∧ l[k]? = some p ∧ w.cell? (ad.add (k * 2)) = some (.int .i64 p.1) ∧ w.cell? ⟨(ad.add (k * 2)).block, (ad.add (k * 2)).off + 1, none⟩ = some (.int .u64 (p.2 : Int)) := by
  obtain ⟨ad, p, e, hp, hc⟩ := h.at_ hk (by decide)
  exact ⟨ad, p, e, hp, hc 0 _ rfl, cell_off (by decide) (hc 1 _ rfl)⟩

theorem RE.pt0 {w : World} {A : Option Addr} {n : Nat} {l : List (Int × Nat)} (h : RE elPt w A n l) (hn : 0 < n) :
    ∃ ad p, A = some ad ∧ l[0]? = some p ∧ w.cell? ad = some (.int .i64 p.1) ∧ w.cell? ⟨ad.block, ad.off + 1, none⟩ = some (.int .u64 (p.2 : Int)) := by
  obtain ⟨ad, p, e, hp, h1, h2⟩ := h.pt hn
  have e0 : ad.add (0 * 2) = ad := rfl
  rw [e0] at h1 h2
  exact ⟨ad, p, e, hp, h1, h2⟩

set_option maxHeartbeats 400000 in
theorem samePoints_any (A B : Option Addr) (n m c d : Nat) (l r : List (Int × Nat)) (w : World) (ha : RE elPt w A n l) (hb : RE elPt w B m r) (hn : n ≤ 9223372036854775807) (hm : m ≤ 9223372036854775807) :
    Calls Tryd.prog 37 #[.slice A n c, .slice B m d] w fun e w' => e = .returned (.bool (decide (l = r))) ∧ ∃ k, w' = w.drewN k := by
  by_cases hnm : n = m
  · subst hnm
    go_enter Tryd.func37, Tryd.ntmps37
    go_wp2
    go_loopw [5] (fun i wr => ∃ k : Nat, k ≤ n ∧ i = .int .i64 k ∧ l.take k = r.take k ∧ ∃ j, wr = w.drewN j) (fun i _ => n - (intOf i).toNat)
    case atStart => exact ⟨0, Nat.zero_le _, rfl, rfl, 0, rfl⟩
    case round =>
      obtain ⟨k, hk, rfl, ht, j, rfl⟩ := hrel
      by_cases hlt : k < n
      · obtain ⟨ad, x, rfl, hx, hcx1, hcx2⟩ := ha.pt hlt
        obtain ⟨bd, y, rfl, hy, hcy1, hcy2⟩ := hb.pt hlt
        by_cases hxy : x = y
        · subst hxy
          have hst := Lib.hid (take_step ht hx hy)
          clear ht hx hy
          go_wp2
          refine wp_region_text [(3, 1)] (by kernel_rfl) (by kernel_rfl) ?_
          simp only [instr, chk, look, Nat.reduceBEq, Bool.false_eq_true, if_true, if_false, Nat.reduceEqDiff, List.nil_append]
          go_wp2
          refine OnlyN.normal ?_
          go_wp2
          go_roundw
          case rel => exact ⟨k + 1, by omega, by go_num, hst.out, _, rfl⟩
          case measure => simp [intOf]; omega
        · have hne := Lib.hid (ne_at hx hy hxy)
          have hd : ¬ x.1 = y.1 ∨ (x.1 = y.1 ∧ ¬ ((x.2 : Int) = (y.2 : Int))) := by
            by_cases h1 : x.1 = y.1
            · exact .inr ⟨h1, fun h2 => hxy (Prod.ext h1 (by omega))⟩
            · exact .inl h1
          clear ht hx hy hxy
          rcases hd with h1 | ⟨h1, h2⟩
          all_goals
            go_wp2
            refine wp_region_text [(3, 1)] (by kernel_rfl) (by kernel_rfl) ?_
            simp only [instr, chk, look, Nat.reduceBEq, Bool.false_eq_true, if_true, if_false, Nat.reduceEqDiff, List.nil_append]
            go_wp2
            refine OnlyN.normal ?_
            go_wp2
            go_ret
            exact ⟨by simp [hne.out], _, rfl⟩
      · have hkn : k = n := by omega
        subst hkn
        have h1 : l.take k = l := List.take_of_length_le (by rw [ha.1]; omega)
        have h2 : r.take k = r := List.take_of_length_le (by rw [hb.1]; omega)
        rw [h1, h2] at ht
        have ht := Lib.hid ht
        go_wp2
        go_ret
        exact ⟨by simp [ht.out], _, rfl⟩
  · have hlr : Hid (l ≠ r) := by
      show l ≠ r
      have h1 := ha.1
      have h2 := hb.1
      rintro rfl
      omega
    go_enter Tryd.func37, Tryd.ntmps37
    go_wp2
    go_ret
    exact ⟨by simp [hlr.out], 0, rfl⟩

theorem samePoints_yes (A B : Option Addr) (n m c d : Nat) (l : List (Int × Nat)) (w : World) (ha : RE elPt w A n l) (hb : RE elPt w B m l) (hn : n ≤ 9223372036854775807) (hm : m ≤ 9223372036854775807) :
    Calls Tryd.prog 37 #[.slice A n c, .slice B m d] w fun e w' => e = .returned (.bool true) ∧ ∃ k, w' = w.drewN k := by
  have := samePoints_any A B n m c d l l w ha hb hn hm
  simpa using this

/-- new memory that holds these points; nothing that was there has turned -/
def NewPt (w : World) (n : Nat) (l : List (Int × Nat)) (e : Ending) (w' : World) : Prop := ∃ A c, e = .returned (.slice A n c) ∧ OE elPt w' w.heap.size 49 A n c l ∧ Grew w w'

set_option maxHeartbeats 400000 in
theorem copyPoints_any (A : Option Addr) (n c : Nat) (l : List (Int × Nat)) (w : World) (h : RE elPt w A n l) (hn : n ≤ 8796093022208) :
    Calls Tryd.prog 29 #[.slice A n c] w (NewPt w n l) := by
  have hown : OE elPt (w.alloc (.cells #[] 49)) w.heap.size 49 (some ⟨w.heap.size, 0, none⟩) 0 0 [] := OE.made w w.heap.size 49 (Nat.le_refl _)
  have hr : RE elPt (w.alloc (.cells #[] 49)) A n l := h.grew ((Chg.refl _ w).alloc _)
  go_enter Tryd.func29, Tryd.ntmps29
  go_wp2_with (at_builtin; refine wpList_appE rfl _ _ 44 49 infoPt rfl Tryd.underlying44 rfl w.heap.size _ 0 0 [] rfl hown (by simp) A n c l rfl hr (by unfold maxLen; omega) (by omega) ?_; intro A' c' w' h1)
  go_ret
  simp only [Nat.zero_add, List.nil_append] at h1
  exact ⟨A', c', by simp, h1.oe, h1.grew ((Chg.refl _ w).alloc _) (head_ge (Nat.le_refl _))⟩

/-- a list lent: a copy of it in new memory, two marks behind it -/
def LentPt (w : World) (n : Nat) (l : List (Int × Nat)) (e : Ending) (w' : World) : Prop := ∃ A c, e = .returned (.slice A n c) ∧ OE elPt w' w.heap.size 49 A (n + 2) c (l ++ [(-7, 77), (-7, 77)]) ∧ Grew w w'

set_option maxHeartbeats 400000 in
theorem spoilPoints_any (A : Option Addr) (n c : Nat) (l : List (Int × Nat)) (base : Nat) (w : World) (h : OE elPt w base 49 A n c l) (hbase : base ≤ w.heap.size) (hn : n ≤ 8796093022200) :
    Calls Tryd.prog 41 #[.slice A n c] w fun e w' => e = .returned (.tuple #[]) ∧ Chg (fun k => ∃ ad, A = some ad ∧ k = ad.block) w w' := by
  have hc := h.cap
  have h1 : OE elPt (w.alloc (.cells #[.int .i64 (-7), .int .u64 77] 49)) base 49 A n c l := h.grew ((Chg.refl _ w).alloc _)
  have hr : RE elPt (w.alloc (.cells #[.int .i64 (-7), .int .u64 77] 49)) (some ⟨w.heap.size, 0, none⟩) 1 [(-7, 77)] := RE.newAt rfl rfl rfl
  go_enter Tryd.func41, Tryd.ntmps41
  go_wp2_with (at_builtin; refine wpList_appE rfl _ _ 44 49 infoPt rfl Tryd.underlying44 rfl base A n c l rfl h1 (by simp; omega) _ 1 1 [(-7, 77)] rfl hr (by unfold maxLen; omega) (by omega) ?_; intro A2 c2 w2 h2; have hc2 := h2.oe.cap)
  have hw2 : Wr w2 A2 ((n + 1) * 2) := Own.wr h2.oe
  have hg2 : Chg (fun k => ∃ ad, A = some ad ∧ k = ad.block) w w2 := ((Chg.refl _ w).alloc _).trans h2.chg
  have hw1 : Wr w2 A (n * 2) := by
    rcases h2.2.2 with ⟨e1, _⟩ | ⟨_, e2, _⟩
    · rw [← e1]; exact hw2.mono (by omega)
    · exact (Own.wr h1).chg e2 (fun _ _ e => e)
  have hA2 : ∀ ad, A2 = some ad → w.heap.size ≤ ad.block ∨ ∃ bd, A = some bd ∧ ad.block = bd.block := by
    rintro ad rfl
    rcases h2.2.2 with ⟨e1, _⟩ | ⟨e1, _⟩
    · exact .inr ⟨ad, e1.symm, rfl⟩
    · injection e1 with e1
      subst e1
      exact .inl (by simp)
  obtain ⟨g2, rfl⟩ : ∃ g2, A2 = some ⟨g2, 0, none⟩ := (Own.at_ h2.oe (by omega)).imp fun _ h => h.1
  have hA : A = none ∨ ∃ g, A = some ⟨g, 0, none⟩ := by
    rcases Own.form h with ⟨e, _⟩ | ⟨g, e, _⟩
    · exact .inl e
    · exact .inr ⟨g, e⟩
  have HA := Lib.hid hA
  clear h2 h1 hr h hA
  go_loopw [3] (fun i wr => ∃ k : Nat, k ≤ n + 1 ∧ i = .int .i64 k ∧ Wr wr (some ⟨g2, 0, none⟩) ((n + 1) * 2) ∧ Wr wr A (n * 2) ∧ Chg (fun k => ∃ ad, A = some ad ∧ k = ad.block) w wr) (fun i _ => n + 1 - (intOf i).toNat)
  case atStart => exact ⟨0, Nat.zero_le _, rfl, hw2, hw1, hg2⟩
  case round =>
    clear hw2 hw1 hg2 w2
    obtain ⟨k, hk, rfl, hw2, hw1, hg2⟩ := hrel
    by_cases hlt : k < n + 1
    · obtain ⟨ad, u, he, hcell, hfr⟩ := hw2.at_ (j := k * 2) (by omega)
      injection he with he
      subst he
      obtain ⟨ad, u', he, hcell', hfr'⟩ := hw2.at_ (j := k * 2 + 1) (by omega)
      injection he with he
      subst he
      rw [add_head] at hcell hfr hcell' hfr'
      go_wp2
      go_roundw
      case rel => exact ⟨k + 1, by omega, by go_num, (hw2.set _ _).set _ _, (hw1.set _ _).set _ _, (hg2.setCell (p := ⟨g2, k * 2, none⟩) (hA2 ⟨g2, 0, none⟩ rfl) _).setCell (p := ⟨g2, k * 2 + 1, none⟩) (hA2 ⟨g2, 0, none⟩ rfl) _⟩
      case measure => simp [intOf]; omega
    · go_wp2
      obtain ⟨wo, rfl⟩ : ∃ wo : World, wo = wr := ⟨_, rfl⟩
      go_loopw [4] (fun i wr => ∃ k : Nat, k ≤ n ∧ i = .int .i64 k ∧ Wr wr A (n * 2) ∧ Chg (fun k => ∃ ad, A = some ad ∧ k = ad.block) w wr) (fun i _ => n - (intOf i).toNat)
      case atStart => exact ⟨0, Nat.zero_le _, rfl, hw1, hg2⟩
      case round =>
        clear hw1 hw2 hg2
        obtain ⟨k2, hk2, rfl, hw1, hg2⟩ := hrel
        by_cases hlt2 : k2 < n
        · rcases HA.out with rfl | ⟨g, rfl⟩
          · obtain ⟨ad, u, he, _⟩ := hw1.at_ (j := k2 * 2) (by omega)
            cases he
          · obtain ⟨ad, u, he, hcell, hfr⟩ := hw1.at_ (j := k2 * 2) (by omega)
            injection he with he
            subst he
            obtain ⟨ad, u', he, hcell', hfr'⟩ := hw1.at_ (j := k2 * 2 + 1) (by omega)
            injection he with he
            subst he
            rw [add_head] at hcell hfr hcell' hfr'
            go_wp2
            go_roundw
            case rel => exact ⟨k2 + 1, by omega, by go_num, (hw1.set _ _).set _ _, (hg2.setCell (p := ⟨g, k2 * 2, none⟩) (.inr ⟨_, rfl, rfl⟩) _).setCell (p := ⟨g, k2 * 2 + 1, none⟩) (.inr ⟨_, rfl, rfl⟩) _⟩
            case measure => simp [intOf]; omega
        · go_wp2
          go_end0
          exact ⟨by simp, hg2⟩
end Go.Proofs.YtjgbdkokcgcpjaaDoor
