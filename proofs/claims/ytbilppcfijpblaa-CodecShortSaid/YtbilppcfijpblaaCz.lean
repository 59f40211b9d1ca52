/-
  The codec's reference: frames read; the statements' awake. Conditions: lengths that memory bears.
-/
import Derived.Test.YtbilppcfijpblaaCu
import Derived.Deep.RegionWith
import Derived.Deep.DrawnRows
namespace Go.Proofs.Ytbilppcfijpblaa
open Go.RowKit

set_option maxHeartbeats 1000000 in
theorem same_any (A B : Option Addr) (n m c d : Nat) (l r : List UInt8) (w : World) (ha : RB w A n l) (hb : RB w B m r) :
    Calls Try.prog 40 #[.slice A n c, .slice B m d] w fun e w' => e = .returned (.bool (l == r)) ∧ w' = w := by
  have h1 := run_conv_RB (P := Try.prog) (c := c) Try.underlying22 Try.underlying5 Try.underlying9 ha
  have h2 := run_conv_RB (P := Try.prog) (c := d) Try.underlying22 Try.underlying5 Try.underlying9 hb
  clear ha hb
  go_enter Try.func40, Try.ntmps40
  go_wp2
  go_ret
  exact ⟨by simp, rfl⟩

theorem four_inj (rec : List UInt8) (l4 : List UInt8) (h : l4.length = 4) : (four (crc rec) == l4) = decide (crc rec = beN l4) := by
  rw [Bool.eq_iff_iff]
  simp only [beq_iff_eq, decide_eq_true_eq]
  constructor
  · rintro rfl
    exact (beN_four _ (crc_lt rec)).symm
  · intro e
    rw [e, four_beN l4 h]

set_option maxRecDepth 100000 in
set_option maxHeartbeats 2000000 in
theorem refUnframe_any (A : Option Addr) (m c : Nat) (l : List UInt8) (at_ : Int) (w : World) (h : RB w A m l) (hm : m ≤ 140737488355328) (hc : m ≤ c ∧ c ≤ 9223372036854775807) :
    Calls Try.prog 31 #[.slice A m c, .int .i64 at_] w (UnfPost w (unfR l at_)) := by
  have hU := refUint_any A m c l at_ w h hm
  have hto := uintR_to l at_
  have hlt := uintR_lt l at_
  have hbad := uintR_bad l at_
  rw [h.1] at hto
  show Calls _ _ _ _ (UnfPost w (unfOf l (uintR l at_)))
  generalize uintR l at_ = r at hU hto hlt hbad ⊢
  obtain ⟨v, nx, er⟩ := r
  simp only at hto hlt hbad
  have HU := Lib.hid hU
  clear hU
  unfold UintPost uintEnd at HU
  simp only at HU
  by_cases he : er = 0
  · subst he
    clear hbad
    by_cases hv : 65536 < v
    · have h1 : Hid (unfOf l (v, nx, 0) = ([], 0, 23)) := by
        show _ = _
        have : lenE (v, nx, 0) = 23 := by unfold lenE; rw [if_neg (by simp), if_pos hv]
        unfold unfOf
        rw [this, if_pos (by omega)]
      go_enter Try.func31, Try.ntmps31
      go_wp2_with fail
      refine HU.out.mono ?_
      rintro e w2 ⟨rfl, rfl⟩
      go_wp2
      go_ret3
      rw [h1.out]
      exact ⟨none, 0, 0, by simp, Own.nil _ _ _ _, Chg.refl _ _⟩
    · have hv2 : v ≤ 65536 := by omega
      have hlen : lenE (v, nx, 0) = 0 := by unfold lenE; rw [if_neg (by simp), if_neg hv]
      clear hv
      by_cases hs : m - nx < v + 4
      · have h1 : Hid (unfOf l (v, nx, 0) = ([], 0, 20)) := by
          show _ = _
          have : recOf l nx v = ([], nx, 20) := by unfold recOf; rw [if_pos (by rw [h.1]; omega)]
          unfold unfOf
          rw [hlen, if_neg (by omega), this]
          rfl
        have hs2 : (m : Int) - nx < v + 4 := by omega
        clear hs hlen
        go_enter Try.func31, Try.ntmps31
        go_wp2_with fail
        refine HU.out.mono ?_
        rintro e w2 ⟨rfl, rfl⟩
        go_wp2
        go_ret3
        rw [h1.out]
        exact ⟨none, 0, 0, by simp, Own.nil _ _ _ _, Chg.refl _ _⟩
      · have hs2 : (v : Int) + 4 ≤ (m : Int) - nx := by omega
        have hmp : 0 < m := by omega
        obtain ⟨ad, x, rfl, _, _⟩ := h.at_ (k := 0) hmp
        have h1 : Hid (unfOf l (v, nx, 0) = if crc ((l.drop (nx + 4)).take v) ≠ beN ((l.drop nx).take 4) then ([], 0, 22) else ((l.drop (nx + 4)).take v, nx + 4 + v, 0)) := by
          show _ = _
          unfold unfOf
          rw [hlen, if_neg (by omega)]
          have : recOf l nx v = (if crc ((l.drop (nx + 4)).take v) ≠ beN ((l.drop nx).take 4) then ([], nx + 4 + v, 22) else ((l.drop (nx + 4)).take v, nx + 4 + v, 0)) := by
            unfold recOf
            rw [if_neg (by rw [h.1]; omega)]
          by_cases hq : crc ((l.drop (nx + 4)).take v) ≠ beN ((l.drop nx).take 4)
          · simp only [this, if_pos hq]
            rfl
          · simp only [this, if_neg hq]
            rfl
        have hrec : RB w (some (ad.add (nx + 4))) v ((l.drop (nx + 4)).take v) := (h.drop (nx + 4)).take (by omega)
        have h4 : RB w (some (ad.add nx)) 4 ((l.drop nx).take 4) := (h.drop nx).take (by omega)
        have hl4 := h4.1
        have hfi := four_inj ((l.drop (nx + 4)).take v) _ hl4
        generalize (l.drop (nx + 4)).take v = rec at h1 hrec hfi ⊢
        generalize (l.drop nx).take 4 = l4 at h1 h4 hfi ⊢
        have hcn : ¬ c = nx := by omega
        have Hfi := Lib.hid hfi
        have hv0 : ∀ B : Option Addr, v = 0 → RB w B v rec := fun B h0 => ⟨hrec.1, by
          have : rec = [] := List.eq_nil_of_length_eq_zero (by rw [hrec.1, h0])
          subst this
          exact Rd.nil _ _⟩
        have Hv0 := Lib.hid hv0
        clear hs hlen hl4 hfi hv0
        have hown : OB (w.alloc (.cells #[] 5)) w.heap.size 5 (some ⟨w.heap.size, 0, none⟩) 0 0 [] := Own.made w w.heap.size 5 1 (Nat.le_refl _)
        have e1 : nx + 4 + v - (nx + 4) = v := by omega
        have hr6 : RB (w.alloc (.cells #[] 5)) (some (ad.add (nx + 4))) (nx + 4 + v - (nx + 4)) rec := by rw [e1]; exact hrec.grew ((Chg.refl _ w).alloc (.cells #[] 5))
        have e2 : nx + 4 - nx = 4 := by omega
        go_enter Try.func31, Try.ntmps31
        go_wp2_with fail
        refine HU.out.mono ?_
        rintro e w2 ⟨rfl, rfl⟩
        by_cases hc4 : c = nx + 4
        · have hv0 : v = 0 := by omega
          subst hv0
          have hr7 : RB (w2.alloc (.cells #[] 5)) (some ad) 0 rec := RB.grew (Hv0.out (some ad) rfl) ((Chg.refl _ w2).alloc _)
          subst hc4
          go_wp2_with (at_builtin; go_loud (refine wpList_appB rfl _ _ rfl w2.heap.size _ 0 0 [] rfl hown (by simp) (some ad) 0 _ rec rfl hr7 (by omega) ?_); intro A3 c3 w3 h3; simp only [Nat.zero_add, List.nil_append] at h3 ⊢)
          have ho3 := h3.ob
          have hg3 : Grew w2 w3 := h3.grew ((Chg.refl _ w2).alloc _) (head_ge (Nat.le_refl _))
          have h43 := h4.grew hg3
          clear h3 hown hr6 h4 hrec
          have hcl := crc_lt rec
          have s3 := hg3.size
          have i1 : IntKind.i64.wrap ((nx : Int) + 4) = (nx : Int) + 4 := IntWalk.i64_in _ (by omega)
          have i2 : (0 : Int) ≤ (nx : Int) := by omega
          have i3 : (nx : Int) ≤ (nx : Int) + 4 := by omega
          have i4 : (nx : Int) + 4 ≤ ((nx + 4 : Nat) : Int) := by omega
          have i5 : ((nx : Int) + 4).toNat = nx + 4 := by omega
          have i6 : (0 : Int) ≤ (nx : Int) + 4 := by omega
          go_region_with (first
            | (go_at_call 20; refine (refSum_any A3 0 c3 rec _ (by exact ho3.rb) (by omega)).mono ?_; rintro e w4 ⟨rfl, rfl⟩)
            | (go_at_call 36; refine (four_any (crc rec) _ hcl).mono ?_; rintro e w5 ⟨A5, c5, rfl, ho5, hg5⟩)
            | (go_at_call 40; refine (same_any A5 _ 4 _ _ _ (four (crc rec)) l4 _ (by exact ho5.rb) (by first | exact RB.grew (w := w3.drew) h43 hg5 | exact h43.grew hg5)).mono ?_; rintro e w6 ⟨rfl, rfl⟩))
          all_goals
            have hg35 : Grew w2 w6 := (hg3.drew).trans hg5
            have hb35 : OB w6 w2.heap.size 5 A3 0 c3 rec := OB.grew (w := w3.drew) ho3 hg5
            rw [Hfi.out]
            by_cases hq : crc rec = beN l4
            · have hd : decide (crc rec = beN l4) = true := by simpa using hq
              have hres : Hid (unfOf l (0, nx, 0) = (rec, nx + 4 + 0, 0)) := by
                show _ = _
                rw [h1.out, if_neg (by simpa using hq)]
              rw [hd]
              clear hq hd
              go_wp2
              go_ret3
              rw [hres.out]
              exact ⟨A3, 0, c3, by simp, hb35, hg35⟩
            · have hd : decide (crc rec = beN l4) = false := by simpa using hq
              have hres : Hid (unfOf l (0, nx, 0) = ([], 0, 22)) := by
                show _ = _
                rw [h1.out, if_pos hq]
              rw [hd]
              clear hq hd
              go_wp2
              go_ret3
              rw [hres.out]
              exact ⟨none, 0, 0, by simp, Own.nil _ _ _ _, hg35⟩
        · go_wp2_with (at_builtin; refine wpList_appB rfl _ _ rfl w2.heap.size _ 0 0 [] rfl hown (by simp) (some (ad.add (nx + 4))) _ _ rec rfl hr6 (by omega) ?_; intro A3 c3 w3 h3; simp only [Nat.zero_add, List.nil_append, e1] at h3 ⊢)
          have ho3 := h3.ob
          have hg3 : Grew w2 w3 := h3.grew ((Chg.refl _ w2).alloc _) (head_ge (Nat.le_refl _))
          have h43 := h4.grew hg3
          clear h3 hown hr6 h4 hrec
          have hcl := crc_lt rec
          have s3 := hg3.size
          have i1 : IntKind.i64.wrap ((nx : Int) + 4) = (nx : Int) + 4 := IntWalk.i64_in _ (by omega)
          have i2 : (0 : Int) ≤ (nx : Int) := by omega
          have i3 : (nx : Int) ≤ (nx : Int) + 4 := by omega
          have i4 : (nx : Int) + 4 ≤ (c : Int) := by omega
          have i5 : ((nx : Int) + 4).toNat = nx + 4 := by omega
          have i6 : (0 : Int) ≤ (nx : Int) + 4 := by omega
          go_region_with (first
            | (go_at_call 20; refine (refSum_any A3 v c3 rec _ (by exact ho3.rb) (by omega)).mono ?_; rintro e w4 ⟨rfl, rfl⟩)
            | (go_at_call 36; refine (four_any (crc rec) _ hcl).mono ?_; rintro e w5 ⟨A5, c5, rfl, ho5, hg5⟩)
            | (go_at_call 40; refine (same_any A5 _ 4 _ _ _ (four (crc rec)) l4 _ (by exact ho5.rb) (by first | exact RB.grew (w := w3.drew) h43 hg5 | exact h43.grew hg5)).mono ?_; rintro e w6 ⟨rfl, rfl⟩))
          all_goals
            have hg35 : Grew w2 w6 := (hg3.drew).trans hg5
            have hb35 : OB w6 w2.heap.size 5 A3 v c3 rec := OB.grew (w := w3.drew) ho3 hg5
            rw [Hfi.out]
            by_cases hq : crc rec = beN l4
            · have hd : decide (crc rec = beN l4) = true := by simpa using hq
              have hres : Hid (unfOf l (v, nx, 0) = (rec, nx + 4 + v, 0)) := by
                show _ = _
                rw [h1.out, if_neg (by simpa using hq)]
              rw [hd]
              clear hq hd
              go_wp2
              go_ret3
              rw [hres.out]
              exact ⟨A3, v, c3, by simp, hb35, hg35⟩
            · have hd : decide (crc rec = beN l4) = false := by simpa using hq
              have hres : Hid (unfOf l (v, nx, 0) = ([], 0, 22)) := by
                show _ = _
                rw [h1.out, if_pos hq]
              rw [hd]
              clear hq hd
              go_wp2
              go_ret3
              rw [hres.out]
              exact ⟨none, 0, 0, by simp, Own.nil _ _ _ _, hg35⟩
  · have h1 : Hid (unfOf l (v, nx, er) = ([], 0, er)) := by
      show _ = _
      have : lenE (v, nx, er) = er := by unfold lenE; rw [if_pos he]
      unfold unfOf
      rw [this, if_pos he]
    have hq : ((er : Int) != 0) = true := by simp; omega
    clear he hbad
    go_enter Try.func31, Try.ntmps31
    go_wp2_with fail
    refine HU.out.mono ?_
    rintro e w2 ⟨rfl, rfl⟩
    go_wp2
    go_ret3
    rw [h1.out]
    exact ⟨none, 0, 0, by simp, Own.nil _ _ _ _, Chg.refl _ _⟩
end Go.Proofs.Ytbilppcfijpblaa
