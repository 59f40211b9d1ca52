/-
  The law DiskSynced, walked. Conditions: none but what memory bears.
-/
import Derived.Test.YtddgkfheoldjkaaDk
import Derived.OpenShut
namespace Go.Proofs.Ytddgkfheoldjkaa
open Go.RowKit

/-- append onto a row of bytes of the call's own, where the operation has a guard that holds -/
theorem wpList_appBw {ops : Array Oper} {rest : List Oper} {o : Oper} {a : Act} {w : World} {Q : Exit → Act → World → Prop} (hw : Region.wanted o (yielded ops a.tmps) = true) (s x : Operand)
    (ho : o.op = .call { callee := .builtin .append, args := #[s, x], argTypes := #[22, 22] })
    (base : Nat) (A : Option Addr) (n c : Nat) (l : List UInt8) (hs : a.eval s = .slice A n c) (hown : OB w base 5 A n c l) (hbase : base ≤ w.heap.size)
    (B : Option Addr) (m d : Nat) (r : List UInt8) (hx : a.eval x = .slice B m d) (hr : RB w B m r) (hbytes : n + m ≤ 140737488355328)
    (h : ∀ A' c' w', ApB w base A (n + m) c (l ++ r) A' c' w' → wpList Try.prog ops Q rest (a.put o.dst (.slice A' (n + m) c')) w') : wpList Try.prog ops Q (o :: rest) a w := by
  obtain ⟨i0, hi, hz0, hz1, hz2⟩ := info_parts infoU8
  refine wpList_step fun K hK => ?_
  rw [if_pos hw]
  refine wp_app w s x 22 5 ho i0 (.int .u8 0) 1 1 Try.underlying22 hi hz0 hz1 hz2 rfl base A n c _ hs hown hbase B m d _ hx (by simpa using hr.1) hr.2 (byt_one r) (by unfold maxLen; omega) (by omega) ?_
  intro A' c' w' h1
  exact hK _ _ (h A' c' w' (by unfold ApB; rw [List.map_append]; exact h1))

theorem stay_none {a b : Nat} {kp : Int} (h : ¬ 0 < kp) : stayN (a + b) a kp = a := by
  unfold stayN
  split
  · have : kp = 0 := by omega
    subst this
    simp
  · rfl
theorem stay_some {a b k : Nat} : stayN (a + b) a (k : Int) = a + k % (b + 1) := by
  unfold stayN
  rw [if_pos (by omega)]
  have : a + b - a + 1 = b + 1 := by omega
  rw [this]
  rfl
theorem take_both {α : Type} (a b : List α) (k : Nat) : (a ++ b).take (a.length + k) = a ++ b.take k := by
  rw [List.take_append, List.take_of_length_le (by omega), Nat.add_sub_cancel_left]

set_option maxRecDepth 100000 in
set_option maxHeartbeats 8000000 in
theorem walk_diskSynced (A : Option Addr) (n ca : Nat) (la : List UInt8) (B : Option Addr) (m cb : Nat) (lb : List UInt8) (kp : Int) (arm : Bool) (w : World) (ha : RB w A n la) (hn : n ≤ 140737488351232) (_ : n ≤ ca ∧ ca ≤ 9223372036854775807) (hb : RB w B m lb) (hm : m ≤ 140737488351232) (hcb : m ≤ cb ∧ cb ≤ 9223372036854775807) (hkp : (Lit.int .i64 kp).wf = true) :
    Calls Try.prog 3 #[.slice A n ca, .slice B m cb, .int .i64 kp, .bool arm] w fun e w' => e = .returned (.bool true) ∧ Grew w w' := by
  have hkb := Go.bounds_i64 hkp
  clear hkp
  go_enter Try.func3, Try.ntmps3
  go_wp2_with fail
  refine (new_any w).mono ?_
  rintro e w1 ⟨d, mm, rfl, hD, hg⟩
  by_cases hbig : 10000 < n + m
  · have e1 : decide ((10000 : Int) < (n : Int) + (m : Int)) = true := decide_eq_true (by omega)
    clear hbig
    go_wp2_with fail
    refine (awake_any _).mono ?_
    rintro e w2 ⟨rfl, hg2⟩
    go_wp2
    go_ret
    exact ⟨by simp, hg.trans hg2⟩
  · have e1 : decide ((10000 : Int) < (n : Int) + (m : Int)) = false := decide_eq_false (by omega)
    have hlen : n + m ≤ 10000 := by omega
    have hla := ha.1
    have hlb := hb.1
    clear hbig
    go_wp2_with fail
    refine (copyBytes_any A n ca la _ (by exact ha.grew hg) (by omega)).mono ?_
    rintro e w2 ⟨X, cx, rfl, hX, hg2⟩
    have hG2 := hg.trans hg2
    have hXb := Own.blk_lt hX
    have hdl := hD.hd.lt
    go_wp2_with fail
    refine (append_new (O := fun k => w.heap.size ≤ k) (fun k hk => by have := hG2.size; omega) (hD.grew hg2) (by simp) (by omega) (by omega) 102 (.inr (.inr (.inr (.inl rfl)))) (find_none _) (by simp) X n cx la hX.rb (by omega) (fun ad e _ => by have := (hXb ad e).1; omega)).mono ?_
    rintro e w3 ⟨rfl, g, A3, c3, hD3', hF3, hc3, _, _⟩
    have hD3 : Dsk (fun k => w.heap.size ≤ k) w3 d mm #[entF ⟨#[102]⟩ g 0] 1 true false (-1) 0 1 := hD3'
    have hG3 : Grew w w3 := grow2 hG2 hc3 hD.od hD.om
    clear hD3' hc3 hD hg hg2 hX hXb hdl
    go_wp2_with fail
    refine (sync_ok hD3 (by simp) (by omega) (by omega) 102 (.inr (.inr (.inr (.inl rfl)))) (find_here _ _ _) hF3).mono ?_
    rintro e w4 ⟨rfl, hD4, hF4, hc4⟩
    have hG4 : Grew w w4 := grow2 hG3 hc4 hD3.od hF3.og
    clear hD3 hF3 hc4
    cases arm
    · go_wp2_with fail
      refine (copyBytes_any B m cb lb _ (by exact hb.grew hG4) (by omega)).mono ?_
      rintro e w5 ⟨Y, cy, rfl, hY, hg5⟩
      have hG5 := hG4.trans hg5
      have hYb := Own.blk_lt hY
      have hdl := hD4.hd.lt
      go_wp2_with fail
      refine (append_old (O := fun k => w.heap.size ≤ k) (fun k hk => by have := hG5.size; omega) (hD4.grew hg5) (by simp) (by omega) (by omega) 102 (.inr (.inr (.inr (.inl rfl)))) (find_here _ _ _) (hF4.grew hg5) Y m cy lb hY.rb (by omega) (fun ad e _ => by have := (hYb ad e).1; omega)).mono ?_
      rintro e w6 ⟨rfl, A6, c6, hD6, hF6, hc6⟩
      have hG6 : Grew w w6 := grow3 hG5 hc6 hD4.od hF4.og hF4.oA
      clear hD4 hF4 hc6 hg5 hY hYb hdl
      go_wp2_with fail
      refine (off_any hD6 (by omega) hF6 (by simp) (by simp; omega) kp (by omega)).mono ?_
      rintro e w7 ⟨rfl, hD7, hF7, hc7⟩
      have hG7 : Grew w w7 := grow2 hG6 hc7 hF6.og hD6.od
      clear hD6 hF6 hc7
      go_wp2_with fail
      refine (read_off hD7 _).mono ?_
      rintro e w8 ⟨rfl, rfl⟩
      go_wp2_with fail
      refine (on_any hD7).mono ?_
      rintro e w9 ⟨rfl, hD9, hc9⟩
      have hF9 := hF7.chg hc9 (hF7.hg.ne_type hD7.hd (by decide)) (hF7.hA.ne_blk hD7.hd (by decide))
      have hG9 : Grew w w9 := grow1 hG7 hc9 hD7.od
      clear hD7 hF7 hc9 hG7
      obtain ⟨nn, hnn, hst, hd⟩ : ∃ nn, nn ≤ m ∧ stayN (la ++ lb).length la.length kp = la.length + nn ∧ ((0 < kp ∧ ∃ kn : Nat, kp = kn ∧ (kn : Int) % ((m : Int) + 1) = nn) ∨ (¬ 0 < kp ∧ nn = 0)) := by
        by_cases hpos : 0 < kp
        · obtain ⟨kn, rfl⟩ := Int.eq_ofNat_of_zero_le (show 0 ≤ kp by omega)
          have := Nat.mod_lt kn (show 0 < m + 1 by omega)
          exact ⟨kn % (m + 1), by omega, by rw [List.length_append, stay_some, hlb], .inl ⟨hpos, kn, rfl, by simp⟩⟩
        · exact ⟨0, by omega, by rw [List.length_append, stay_none hpos]; rfl, .inr ⟨hpos, rfl⟩⟩
      rw [hst, take_both] at hF9
      obtain ⟨lz, hlz⟩ : ∃ lz, lz = la ++ lb.take nn := ⟨_, rfl⟩
      have hzl : lz.length = n + nn := by rw [hlz, List.length_append, List.length_take]; omega
      rw [← hlz] at hF9
      have Hlz := Lib.hid hlz
      clear hlz hst
      go_wp2_with fail
      refine (read_ok hD9 102 (.inr (.inr (.inr (.inl rfl)))) (find_here _ _ _) hF9 (by omega)).mono ?_
      rintro e w10 ⟨P, cp, rfl, hP, hg10⟩
      have hG10 := hG9.trans hg10
      rw [hzl] at hP ⊢
      have hPl : lz.length = n + nn := hzl
      clear hzl hD9 hF9 hg10 hG9
      rcases hd with ⟨hpos, kn, rfl, hkz⟩ | ⟨hpos, rfl⟩
      · go_wp2_with fail
        refine wp_region_text [(26, 1)] (by kernel_rfl) (by kernel_rfl) ?_
        simp only [instr, chk, look, Nat.reduceBEq, if_true, if_false, Nat.reduceEqDiff, List.cons_append, List.nil_append]
        go_wp2_with fail
        refine (copyBytes_any A n ca la _ (by exact ha.grew hG10.drew) (by omega)).mono ?_
        rintro e w11 ⟨C, cC, rfl, hC, hg11⟩
        have hG11 := hG10.drew.trans hg11
        have hCb := Own.blk_lt hC
        have hbt := (hb.grew hG11).take (i := nn) (by omega)
        go_wp2_with (at_builtin; refine wpList_appBw rfl _ _ rfl w10.drew.heap.size C n cC la rfl (by exact hC) hg11.size B nn cb (lb.take nn) rfl (by exact hbt) (by omega) ?_; intro D cD w12 h12)
        have hg12 : Grew w10 w12 := (Chg.refl _ w10).drew.trans (h12.grew hg11 (fun ad e => (hCb ad e).1))
        have hD12 := h12.ob.rb
        have hP12 := (hP.grew hg12).rb
        rw [← Hlz.out] at hD12
        have hG12 := hG10.trans hg12
        clear hC hg11 hG11 hCb hbt h12 hg12 hP hG10 Hlz
        go_wp2_with fail
        refine (sameBytes_yes P D (n + nn) (n + nn) cp cD lz _ (by exact hP12) (by exact hD12) (by omega) (by omega)).mono ?_
        rintro e w13 ⟨rfl, k13, rfl⟩
        go_wp2_with fail
        refine (awake_any _).mono ?_
        rintro e w14 ⟨rfl, hg14⟩
        go_wp2_with fail
        refine OnlyN.normal ?_
        go_wp2
        go_ret
        exact ⟨by simp, (hG12.drewN _).trans hg14⟩
      · go_wp2_with fail
        refine wp_region_text [(26, 1)] (by kernel_rfl) (by kernel_rfl) ?_
        simp only [instr, chk, look, Nat.reduceBEq, if_true, if_false, Nat.reduceEqDiff, List.cons_append, List.nil_append]
        go_wp2_with fail
        refine (copyBytes_any A n ca la _ (by exact ha.grew hG10.drew) (by omega)).mono ?_
        rintro e w11 ⟨C, cC, rfl, hC, hg11⟩
        have hG11 := hG10.drew.trans hg11
        have hCb := Own.blk_lt hC
        have hbt := (hb.grew hG11).take (i := 0) (by omega)
        go_wp2_with (at_builtin; refine wpList_appBw rfl _ _ rfl w10.drew.heap.size C n cC la rfl (by exact hC) hg11.size B 0 cb (lb.take 0) rfl (by exact hbt) (by omega) ?_; intro D cD w12 h12)
        have hg12 : Grew w10 w12 := (Chg.refl _ w10).drew.trans (h12.grew hg11 (fun ad e => (hCb ad e).1))
        have hD12 := h12.ob.rb
        have hP12 := (hP.grew hg12).rb
        rw [← Hlz.out] at hD12
        have hG12 := hG10.trans hg12
        clear hC hg11 hG11 hCb hbt h12 hg12 hP hG10 Hlz
        go_wp2_with fail
        refine (sameBytes_yes P D (n) (n) cp cD lz _ (by exact hP12) (by exact hD12) (by omega) (by omega)).mono ?_
        rintro e w13 ⟨rfl, k13, rfl⟩
        go_wp2_with fail
        refine (awake_any _).mono ?_
        rintro e w14 ⟨rfl, hg14⟩
        go_wp2_with fail
        refine OnlyN.normal ?_
        go_wp2
        go_ret
        exact ⟨by simp, (hG12.drewN _).trans hg14⟩
    · go_wp2_with fail
      refine (arm_any hD4 0 kp).mono ?_
      rintro e w5 ⟨rfl, hD5, hc5⟩
      have hF5 := hF4.chg hc5 (hF4.hg.ne_type hD4.hd (by decide)) (hF4.hA.ne_blk hD4.hd (by decide))
      have hG5 : Grew w w5 := grow1 hG4 hc5 hD4.od
      clear hD4 hF4 hc5
      go_wp2_with fail
      refine (copyBytes_any B m cb lb _ (by exact hb.grew hG5) (by omega)).mono ?_
      rintro e w6 ⟨Y, cy, rfl, hY, hg6⟩
      have hG6 := hG5.trans hg6
      have hYb := Own.blk_lt hY
      have hdl := hD5.hd.lt
      go_wp2_with fail
      refine (append_cut (O := fun k => w.heap.size ≤ k) (fun k hk => by have := hG6.size; omega) (hD5.grew hg6) (by omega) (by omega) (by omega) (.inr (.inr (.inr (.inl rfl)))) (hF5.grew hg6) (by omega) Y m cy lb hY.rb (by omega) (fun ad e _ => by have := (hYb ad e).1; omega)).mono ?_
      rintro e w7 ⟨rfl, A7, c7, hD7, hF7, hc7⟩
      have hG7 : Grew w w7 := grow3 hG6 hc7 hD5.od hF5.og hF5.oA
      clear hD5 hF5 hc7 hg6 hY hYb hdl
      go_wp2_with fail
      refine (read_off hD7 _).mono ?_
      rintro e w8 ⟨rfl, rfl⟩
      go_wp2_with fail
      refine (on_any hD7).mono ?_
      rintro e w9 ⟨rfl, hD9, hc9⟩
      have hF9 := hF7.chg hc9 (hF7.hg.ne_type hD7.hd (by decide)) (hF7.hA.ne_blk hD7.hd (by decide))
      have hG9 : Grew w w9 := grow1 hG7 hc9 hD7.od
      clear hD7 hF7 hc9 hG7
      obtain ⟨nn, hnn, hst, hd⟩ : ∃ nn, nn ≤ m ∧ stayN (la ++ lb).length la.length kp = la.length + nn ∧ ((0 < kp ∧ ∃ kn : Nat, kp = kn ∧ (kn : Int) % ((m : Int) + 1) = nn) ∨ (¬ 0 < kp ∧ nn = 0)) := by
        by_cases hpos : 0 < kp
        · obtain ⟨kn, rfl⟩ := Int.eq_ofNat_of_zero_le (show 0 ≤ kp by omega)
          have := Nat.mod_lt kn (show 0 < m + 1 by omega)
          exact ⟨kn % (m + 1), by omega, by rw [List.length_append, stay_some, hlb], .inl ⟨hpos, kn, rfl, by simp⟩⟩
        · exact ⟨0, by omega, by rw [List.length_append, stay_none hpos]; rfl, .inr ⟨hpos, rfl⟩⟩
      rw [hst, take_both] at hF9
      obtain ⟨lz, hlz⟩ : ∃ lz, lz = la ++ lb.take nn := ⟨_, rfl⟩
      have hzl : lz.length = n + nn := by rw [hlz, List.length_append, List.length_take]; omega
      rw [← hlz] at hF9
      have Hlz := Lib.hid hlz
      clear hlz hst
      go_wp2_with fail
      refine (read_ok hD9 102 (.inr (.inr (.inr (.inl rfl)))) (find_here _ _ _) hF9 (by omega)).mono ?_
      rintro e w10 ⟨P, cp, rfl, hP, hg10⟩
      have hG10 := hG9.trans hg10
      rw [hzl] at hP ⊢
      have hPl : lz.length = n + nn := hzl
      clear hzl hD9 hF9 hg10 hG9
      rcases hd with ⟨hpos, kn, rfl, hkz⟩ | ⟨hpos, rfl⟩
      · go_wp2_with fail
        refine wp_region_text [(26, 1)] (by kernel_rfl) (by kernel_rfl) ?_
        simp only [instr, chk, look, Nat.reduceBEq, if_true, if_false, Nat.reduceEqDiff, List.cons_append, List.nil_append]
        go_wp2_with fail
        refine (copyBytes_any A n ca la _ (by exact ha.grew hG10.drew) (by omega)).mono ?_
        rintro e w11 ⟨C, cC, rfl, hC, hg11⟩
        have hG11 := hG10.drew.trans hg11
        have hCb := Own.blk_lt hC
        have hbt := (hb.grew hG11).take (i := nn) (by omega)
        go_wp2_with (at_builtin; refine wpList_appBw rfl _ _ rfl w10.drew.heap.size C n cC la rfl (by exact hC) hg11.size B nn cb (lb.take nn) rfl (by exact hbt) (by omega) ?_; intro D cD w12 h12)
        have hg12 : Grew w10 w12 := (Chg.refl _ w10).drew.trans (h12.grew hg11 (fun ad e => (hCb ad e).1))
        have hD12 := h12.ob.rb
        have hP12 := (hP.grew hg12).rb
        rw [← Hlz.out] at hD12
        have hG12 := hG10.trans hg12
        clear hC hg11 hG11 hCb hbt h12 hg12 hP hG10 Hlz
        go_wp2_with fail
        refine (sameBytes_yes P D (n + nn) (n + nn) cp cD lz _ (by exact hP12) (by exact hD12) (by omega) (by omega)).mono ?_
        rintro e w13 ⟨rfl, k13, rfl⟩
        go_wp2_with fail
        refine (awake_any _).mono ?_
        rintro e w14 ⟨rfl, hg14⟩
        go_wp2_with fail
        refine OnlyN.normal ?_
        go_wp2
        go_ret
        exact ⟨by simp, (hG12.drewN _).trans hg14⟩
      · go_wp2_with fail
        refine wp_region_text [(26, 1)] (by kernel_rfl) (by kernel_rfl) ?_
        simp only [instr, chk, look, Nat.reduceBEq, if_true, if_false, Nat.reduceEqDiff, List.cons_append, List.nil_append]
        go_wp2_with fail
        refine (copyBytes_any A n ca la _ (by exact ha.grew hG10.drew) (by omega)).mono ?_
        rintro e w11 ⟨C, cC, rfl, hC, hg11⟩
        have hG11 := hG10.drew.trans hg11
        have hCb := Own.blk_lt hC
        have hbt := (hb.grew hG11).take (i := 0) (by omega)
        go_wp2_with (at_builtin; refine wpList_appBw rfl _ _ rfl w10.drew.heap.size C n cC la rfl (by exact hC) hg11.size B 0 cb (lb.take 0) rfl (by exact hbt) (by omega) ?_; intro D cD w12 h12)
        have hg12 : Grew w10 w12 := (Chg.refl _ w10).drew.trans (h12.grew hg11 (fun ad e => (hCb ad e).1))
        have hD12 := h12.ob.rb
        have hP12 := (hP.grew hg12).rb
        rw [← Hlz.out] at hD12
        have hG12 := hG10.trans hg12
        clear hC hg11 hG11 hCb hbt h12 hg12 hP hG10 Hlz
        go_wp2_with fail
        refine (sameBytes_yes P D (n) (n) cp cD lz _ (by exact hP12) (by exact hD12) (by omega) (by omega)).mono ?_
        rintro e w13 ⟨rfl, k13, rfl⟩
        go_wp2_with fail
        refine (awake_any _).mono ?_
        rintro e w14 ⟨rfl, hg14⟩
        go_wp2_with fail
        refine OnlyN.normal ?_
        go_wp2
        go_ret
        exact ⟨by simp, (hG12.drewN _).trans hg14⟩
end Go.Proofs.Ytddgkfheoldjkaa
