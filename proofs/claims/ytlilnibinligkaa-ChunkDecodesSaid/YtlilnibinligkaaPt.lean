/-
  Lists of points: CopyPoints, SamePoints, LendPoints, KeptPoints, SpoilPoints: what each call does. Conditions: lengths that memory bears.
-/
import Derived.Test.YtlilnibinligkaaRw
import Derived.Test.YtlilnibinligkaaTs
import Derived.Test.YtlilnibinligkaaLa
namespace Go.Proofs.Ytlilnibinligkaa
open Go.RowKit

/-- a point in cells -/
def elPt : El (Int × Nat) := ⟨fun p => [.int .i64 p.1, .int .u64 (p.2 : Int)], 2, fun _ => rfl, by
  intro x u hu
  simp only [List.mem_cons, List.not_mem_nil, or_false] at hu
  rcases hu with rfl | rfl <;> rfl⟩

theorem infoPt : (Try.prog.info? 41).map (fun i => (i.zero, i.size, i.bytes)) = some (some (.agg #[.int .i64 0, .int .u64 0]), 2, 16) := by kernel_rfl

theorem RE.pt {w : World} {A : Option Addr} {n : Nat} {l : List (Int × Nat)} (h : RE elPt w A n l) {k : Nat} (hk : k < n) :
    ∃ ad p, A = some ad ∧ l[k]? = some p ∧ w.cell? (ad.add (k * 2)) = some (.int .i64 p.1) ∧ w.cell? ⟨(ad.add (k * 2)).block, (ad.add (k * 2)).off + 1, none⟩ = some (.int .u64 (p.2 : Int)) := by
  obtain ⟨ad, p, e, hp, hc⟩ := h.at_ hk (by decide)
  exact ⟨ad, p, e, hp, hc 0 _ rfl, cell_off (by decide) (hc 1 _ rfl)⟩

theorem RE.pt0 {w : World} {A : Option Addr} {n : Nat} {l : List (Int × Nat)} (h : RE elPt w A n l) (hn : 0 < n) :
    ∃ ad p, A = some ad ∧ l[0]? = some p ∧ w.cell? ad = some (.int .i64 p.1) ∧ w.cell? ⟨ad.block, ad.off + 1, none⟩ = some (.int .u64 (p.2 : Int)) := by
  obtain ⟨ad, p, e, hp, h1, h2⟩ := h.pt hn
  have e0 : ad.add (0 * 2) = ad := rfl
  rw [e0] at h1 h2
  exact ⟨ad, p, e, hp, h1, h2⟩

set_option maxHeartbeats 400000 in
theorem samePoints_any (A B : Option Addr) (n m c d : Nat) (l r : List (Int × Nat)) (w : World) (ha : RE elPt w A n l) (hb : RE elPt w B m r) (hn : n ≤ 9223372036854775807) (hm : m ≤ 9223372036854775807) :
    Calls Try.prog 23 #[.slice A n c, .slice B m d] w fun e w' => e = .returned (.bool (decide (l = r))) ∧ ∃ k, w' = w.drewN k := by
  by_cases hnm : n = m
  · subst hnm
    go_enter Try.func23, Try.ntmps23
    go_wp2
    go_loopw [5] (fun i wr => ∃ k : Nat, k ≤ n ∧ i = .int .i64 k ∧ l.take k = r.take k ∧ ∃ j, wr = w.drewN j) (fun i _ => n - (intOf i).toNat)
    case atStart => exact ⟨0, Nat.zero_le _, rfl, rfl, 0, rfl⟩
    case round =>
      obtain ⟨k, hk, rfl, ht, j, rfl⟩ := hrel
      by_cases hlt : k < n
      · obtain ⟨ad, x, rfl, hx, hcx1, hcx2⟩ := ha.pt hlt
        obtain ⟨bd, y, rfl, hy, hcy1, hcy2⟩ := hb.pt hlt
        by_cases hxy : x = y
        · subst hxy
          have hst := Lib.hid (take_step ht hx hy)
          clear ht hx hy
          go_wp2
          refine wp_region_text [(3, 1)] (by kernel_rfl) (by kernel_rfl) ?_
          simp only [instr, chk, look, Nat.reduceBEq, Bool.false_eq_true, if_true, if_false, Nat.reduceEqDiff, List.nil_append]
          go_wp2
          refine OnlyN.normal ?_
          go_wp2
          go_roundw
          case rel => exact ⟨k + 1, by omega, by go_num, hst.out, _, rfl⟩
          case measure => simp [intOf]; omega
        · have hne := Lib.hid (ne_at hx hy hxy)
          have hd : ¬ x.1 = y.1 ∨ (x.1 = y.1 ∧ ¬ ((x.2 : Int) = (y.2 : Int))) := by
            by_cases h1 : x.1 = y.1
            · exact .inr ⟨h1, fun h2 => hxy (Prod.ext h1 (by omega))⟩
            · exact .inl h1
          clear ht hx hy hxy
          rcases hd with h1 | ⟨h1, h2⟩
          all_goals
            go_wp2
            refine wp_region_text [(3, 1)] (by kernel_rfl) (by kernel_rfl) ?_
            simp only [instr, chk, look, Nat.reduceBEq, Bool.false_eq_true, if_true, if_false, Nat.reduceEqDiff, List.nil_append]
            go_wp2
            refine OnlyN.normal ?_
            go_wp2
            go_ret
            exact ⟨by simp [hne.out], _, rfl⟩
      · have hkn : k = n := by omega
        subst hkn
        have h1 : l.take k = l := List.take_of_length_le (by rw [ha.1]; omega)
        have h2 : r.take k = r := List.take_of_length_le (by rw [hb.1]; omega)
        rw [h1, h2] at ht
        have ht := Lib.hid ht
        go_wp2
        go_ret
        exact ⟨by simp [ht.out], _, rfl⟩
  · have hlr : Hid (l ≠ r) := by
      show l ≠ r
      have h1 := ha.1
      have h2 := hb.1
      rintro rfl
      omega
    go_enter Try.func23, Try.ntmps23
    go_wp2
    go_ret
    exact ⟨by simp [hlr.out], 0, rfl⟩

theorem samePoints_yes (A B : Option Addr) (n m c d : Nat) (l : List (Int × Nat)) (w : World) (ha : RE elPt w A n l) (hb : RE elPt w B m l) (hn : n ≤ 9223372036854775807) (hm : m ≤ 9223372036854775807) :
    Calls Try.prog 23 #[.slice A n c, .slice B m d] w fun e w' => e = .returned (.bool true) ∧ ∃ k, w' = w.drewN k := by
  have := samePoints_any A B n m c d l l w ha hb hn hm
  simpa using this

/-- new memory that holds these points; nothing that was there has turned -/
def NewPt (w : World) (n : Nat) (l : List (Int × Nat)) (e : Ending) (w' : World) : Prop := ∃ A c, e = .returned (.slice A n c) ∧ OE elPt w' w.heap.size 41 A n c l ∧ Grew w w'

set_option maxHeartbeats 400000 in
theorem copyPoints_any (A : Option Addr) (n c : Nat) (l : List (Int × Nat)) (w : World) (h : RE elPt w A n l) (hn : n ≤ 8796093022208) :
    Calls Try.prog 14 #[.slice A n c] w (NewPt w n l) := by
  have hown : OE elPt (w.alloc (.cells #[] 41)) w.heap.size 41 (some ⟨w.heap.size, 0, none⟩) 0 0 [] := OE.made w w.heap.size 41 (Nat.le_refl _)
  have hr : RE elPt (w.alloc (.cells #[] 41)) A n l := h.grew ((Chg.refl _ w).alloc _)
  go_enter Try.func14, Try.ntmps14
  go_wp2_with (at_builtin; refine wpList_appE rfl _ _ 22 41 infoPt rfl Try.underlying22 rfl w.heap.size _ 0 0 [] rfl hown (by simp) A n c l rfl hr (by unfold maxLen; omega) (by omega) ?_; intro A' c' w' h1)
  go_ret
  simp only [Nat.zero_add, List.nil_append] at h1
  exact ⟨A', c', by simp, h1.oe, h1.grew ((Chg.refl _ w).alloc _) (head_ge (Nat.le_refl _))⟩

/-- a list lent: a copy of it in new memory, two marks behind it -/
def LentPt (w : World) (n : Nat) (l : List (Int × Nat)) (e : Ending) (w' : World) : Prop := ∃ A c, e = .returned (.slice A n c) ∧ OE elPt w' w.heap.size 41 A (n + 2) c (l ++ [(-7, 77), (-7, 77)]) ∧ Grew w w'

set_option maxHeartbeats 400000 in
theorem lendPoints_any (A : Option Addr) (n c : Nat) (l : List (Int × Nat)) (w : World) (h : RE elPt w A n l) (hn : n ≤ 8796093022200) :
    Calls Try.prog 11 #[.slice A n c] w (LentPt w n l) := by
  go_enter Try.func11, Try.ntmps11
  go_wp2_with fail
  refine (copyPoints_any A n c l _ h (by omega)).mono ?_
  rintro e w1 ⟨A1, c1, rfl, h1, hg1⟩
  have h1a := h1.grew ((Chg.refl _ w1).alloc (.cells #[.int .i64 (-7), .int .u64 77, .int .i64 (-7), .int .u64 77] 41))
  have hr : RE elPt (w1.alloc (.cells #[.int .i64 (-7), .int .u64 77, .int .i64 (-7), .int .u64 77] 41)) (some ⟨w1.heap.size, 0, none⟩) 2 [(-7, 77), (-7, 77)] := RE.newAt rfl rfl rfl
  have hs1 := hg1.size
  go_wp2_with (at_builtin; refine wpList_appE rfl _ _ 22 41 infoPt rfl Try.underlying22 rfl w.heap.size A1 n c1 l rfl h1a (by simp; omega) _ 2 2 [(-7, 77), (-7, 77)] rfl hr (by unfold maxLen; omega) (by omega) ?_; intro A2 c2 w2 h2; have hc2 := h2.oe.cap)
  go_ret
  refine ⟨A2, c2, by simp, h2.oe, ?_⟩
  exact h2.grew (hg1.alloc _) fun ad e => (Own.blk_lt h1 ad e).1

set_option maxHeartbeats 400000 in
theorem keptPoints_any (A : Option Addr) (n c : Nat) (l : List (Int × Nat)) (B : Option Addr) (d : Nat) (base : Nat) (w : World) (h : OE elPt w base 41 A (n + 2) c (l ++ [(-7, 77), (-7, 77)])) (hb : RE elPt w B n l) (hn : n ≤ 8796093022200) :
    Calls Try.prog 13 #[.slice A n c, .slice B n d] w fun e w' => e = .returned (.bool true) ∧ Chg (fun k => ∃ ad, A = some ad ∧ k = ad.block) w w' := by
  have hc := h.cap
  obtain ⟨g, rfl, hbg, hg, _⟩ := Own.at_ h (by omega)
  have hl : l.length = n := hb.1
  have hre := h.re (by decide)
  have ha : RE elPt w (some ⟨g, 0, none⟩) n l := by have := hre.take (i := n) (by omega); rwa [List.take_left' hl] at this
  have hz : RE elPt w (some ⟨g, n * 2, none⟩) 2 [(-7, 77), (-7, 77)] := by
    have := hre.drop n
    rw [List.drop_left' hl, add_head] at this
    simpa [elPt] using this
  clear hre
  go_enter Try.func13, Try.ntmps13
  go_wp2_with fail
  refine (samePoints_yes _ _ n n c d l _ ha hb (by omega) (by omega)).mono ?_
  rintro e w1 ⟨rfl, k1, rfl⟩
  go_wp2_with fail
  refine (samePoints_yes _ _ 2 2 _ _ [(-7, 77), (-7, 77)] _ (by exact (hz.drewN k1).grew ((Chg.refl _ _).alloc _)) (by exact RE.newAt (by simp) rfl rfl) (by omega) (by omega)).mono ?_
  rintro e w2 ⟨rfl, k2, rfl⟩
  have hw : Wr (((w.drewN k1).alloc (.cells #[.int .i64 (-7), .int .u64 77, .int .i64 (-7), .int .u64 77] 41)).drewN k2) (some ⟨g, 0, none⟩) ((n + 2) * 2) := by
    have := (Own.wr h).chg ((((Chg.refl (fun _ => False) w).drewN k1).alloc (.cells #[.int .i64 (-7), .int .u64 77, .int .i64 (-7), .int .u64 77] 41)).drewN k2) (fun _ _ e => e)
    exact this
  have hcg : Chg (fun k => ∃ ad, some (⟨g, 0, none⟩ : Addr) = some ad ∧ k = ad.block) w (((w.drewN k1).alloc (.cells #[.int .i64 (-7), .int .u64 77, .int .i64 (-7), .int .u64 77] 41)).drewN k2) := (((Chg.refl _ w).drewN k1).alloc _).drewN k2
  generalize (((w.drewN k1).alloc (.cells #[.int .i64 (-7), .int .u64 77, .int .i64 (-7), .int .u64 77] 41)).drewN k2) = w2 at hw hcg ⊢
  clear h hb ha hz
  go_wp2
  go_loopw [7] (fun i wr => ∃ k : Nat, k ≤ n + 2 ∧ i = .int .i64 k ∧ Wr wr (some ⟨g, 0, none⟩) ((n + 2) * 2) ∧ Chg (fun k => ∃ ad, some (⟨g, 0, none⟩ : Addr) = some ad ∧ k = ad.block) w wr) (fun i _ => n + 2 - (intOf i).toNat)
  case atStart => exact ⟨0, Nat.zero_le _, rfl, hw, hcg⟩
  case round =>
    clear hw hcg w2
    obtain ⟨k, hk, rfl, hw, hcg⟩ := hrel
    by_cases hlt : k < n + 2
    · obtain ⟨ad, u, he, hcell, hfr⟩ := hw.at_ (j := k * 2) (by omega)
      injection he with he
      subst he
      obtain ⟨ad, u', he, hcell', hfr'⟩ := hw.at_ (j := k * 2 + 1) (by omega)
      injection he with he
      subst he
      rw [add_head] at hcell hfr hcell' hfr'
      go_wp2
      go_roundw
      case rel => exact ⟨k + 1, by omega, by go_num, (hw.set _ _).set _ _, (hcg.setCell (p := ⟨g, k * 2, none⟩) (.inr ⟨_, rfl, rfl⟩) _).setCell (p := ⟨g, k * 2 + 1, none⟩) (.inr ⟨_, rfl, rfl⟩) _⟩
      case measure => simp [intOf]; omega
    · go_wp2
      go_ret
      exact ⟨by simp, hcg⟩

set_option maxHeartbeats 400000 in
theorem spoilPoints_any (A : Option Addr) (n c : Nat) (l : List (Int × Nat)) (base : Nat) (w : World) (h : OE elPt w base 41 A n c l) (hbase : base ≤ w.heap.size) (hn : n ≤ 8796093022200) :
    Calls Try.prog 24 #[.slice A n c] w fun e w' => e = .returned (.tuple #[]) ∧ Chg (fun k => ∃ ad, A = some ad ∧ k = ad.block) w w' := by
  have hc := h.cap
  have h1 : OE elPt (w.alloc (.cells #[.int .i64 (-7), .int .u64 77] 41)) base 41 A n c l := h.grew ((Chg.refl _ w).alloc _)
  have hr : RE elPt (w.alloc (.cells #[.int .i64 (-7), .int .u64 77] 41)) (some ⟨w.heap.size, 0, none⟩) 1 [(-7, 77)] := RE.newAt rfl rfl rfl
  go_enter Try.func24, Try.ntmps24
  go_wp2_with (at_builtin; refine wpList_appE rfl _ _ 22 41 infoPt rfl Try.underlying22 rfl base A n c l rfl h1 (by simp; omega) _ 1 1 [(-7, 77)] rfl hr (by unfold maxLen; omega) (by omega) ?_; intro A2 c2 w2 h2; have hc2 := h2.oe.cap)
  have hw2 : Wr w2 A2 ((n + 1) * 2) := Own.wr h2.oe
  have hg2 : Chg (fun k => ∃ ad, A = some ad ∧ k = ad.block) w w2 := ((Chg.refl _ w).alloc _).trans h2.chg
  have hw1 : Wr w2 A (n * 2) := by
    rcases h2.2.2 with ⟨e1, _⟩ | ⟨_, e2, _⟩
    · rw [← e1]; exact hw2.mono (by omega)
    · exact (Own.wr h1).chg e2 (fun _ _ e => e)
  have hA2 : ∀ ad, A2 = some ad → w.heap.size ≤ ad.block ∨ ∃ bd, A = some bd ∧ ad.block = bd.block := by
    rintro ad rfl
    rcases h2.2.2 with ⟨e1, _⟩ | ⟨e1, _⟩
    · exact .inr ⟨ad, e1.symm, rfl⟩
    · injection e1 with e1
      subst e1
      exact .inl (by simp)
  obtain ⟨g2, rfl⟩ : ∃ g2, A2 = some ⟨g2, 0, none⟩ := (Own.at_ h2.oe (by omega)).imp fun _ h => h.1
  have hA : A = none ∨ ∃ g, A = some ⟨g, 0, none⟩ := by
    rcases Own.form h with ⟨e, _⟩ | ⟨g, e, _⟩
    · exact .inl e
    · exact .inr ⟨g, e⟩
  have HA := Lib.hid hA
  clear h2 h1 hr h hA
  go_loopw [3] (fun i wr => ∃ k : Nat, k ≤ n + 1 ∧ i = .int .i64 k ∧ Wr wr (some ⟨g2, 0, none⟩) ((n + 1) * 2) ∧ Wr wr A (n * 2) ∧ Chg (fun k => ∃ ad, A = some ad ∧ k = ad.block) w wr) (fun i _ => n + 1 - (intOf i).toNat)
  case atStart => exact ⟨0, Nat.zero_le _, rfl, hw2, hw1, hg2⟩
  case round =>
    clear hw2 hw1 hg2 w2
    obtain ⟨k, hk, rfl, hw2, hw1, hg2⟩ := hrel
    by_cases hlt : k < n + 1
    · obtain ⟨ad, u, he, hcell, hfr⟩ := hw2.at_ (j := k * 2) (by omega)
      injection he with he
      subst he
      obtain ⟨ad, u', he, hcell', hfr'⟩ := hw2.at_ (j := k * 2 + 1) (by omega)
      injection he with he
      subst he
      rw [add_head] at hcell hfr hcell' hfr'
      go_wp2
      go_roundw
      case rel => exact ⟨k + 1, by omega, by go_num, (hw2.set _ _).set _ _, (hw1.set _ _).set _ _, (hg2.setCell (p := ⟨g2, k * 2, none⟩) (hA2 ⟨g2, 0, none⟩ rfl) _).setCell (p := ⟨g2, k * 2 + 1, none⟩) (hA2 ⟨g2, 0, none⟩ rfl) _⟩
      case measure => simp [intOf]; omega
    · go_wp2
      obtain ⟨wo, rfl⟩ : ∃ wo : World, wo = wr := ⟨_, rfl⟩
      go_loopw [4] (fun i wr => ∃ k : Nat, k ≤ n ∧ i = .int .i64 k ∧ Wr wr A (n * 2) ∧ Chg (fun k => ∃ ad, A = some ad ∧ k = ad.block) w wr) (fun i _ => n - (intOf i).toNat)
      case atStart => exact ⟨0, Nat.zero_le _, rfl, hw1, hg2⟩
      case round =>
        clear hw1 hw2 hg2
        obtain ⟨k2, hk2, rfl, hw1, hg2⟩ := hrel
        by_cases hlt2 : k2 < n
        · rcases HA.out with rfl | ⟨g, rfl⟩
          · obtain ⟨ad, u, he, _⟩ := hw1.at_ (j := k2 * 2) (by omega)
            cases he
          · obtain ⟨ad, u, he, hcell, hfr⟩ := hw1.at_ (j := k2 * 2) (by omega)
            injection he with he
            subst he
            obtain ⟨ad, u', he, hcell', hfr'⟩ := hw1.at_ (j := k2 * 2 + 1) (by omega)
            injection he with he
            subst he
            rw [add_head] at hcell hfr hcell' hfr'
            go_wp2
            go_roundw
            case rel => exact ⟨k2 + 1, by omega, by go_num, (hw1.set _ _).set _ _, (hg2.setCell (p := ⟨g, k2 * 2, none⟩) (.inr ⟨_, rfl, rfl⟩) _).setCell (p := ⟨g, k2 * 2 + 1, none⟩) (.inr ⟨_, rfl, rfl⟩) _⟩
            case measure => simp [intOf]; omega
        · go_wp2
          go_end0
          exact ⟨by simp, hg2⟩
end Go.Proofs.Ytlilnibinligkaa
