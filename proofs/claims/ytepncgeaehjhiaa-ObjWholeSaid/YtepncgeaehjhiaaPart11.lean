/-
  Several texts in one:
  The law ObjWhole, walked. Conditions: none but what memory bears.
-/
import Derived.Test.YtepncgeaehjhiaaPart10

namespace Go.Proofs.Ytepncgeaehjhiaa
open Go.RowKit

def kO : ByteArray := ⟨#[111, 116, 104, 101, 114]⟩
theorem key_o : keyB ⟨#[111, 116, 104, 101, 114]⟩ = true := by decide
theorem ne_oa : (⟨#[111, 116, 104, 101, 114]⟩ : ByteArray) ≠ ⟨#[97]⟩ := by decide
theorem key_a' : keyB kA = true := key_a
theorem ext_lt {S S' : Nat → Prop} {w : World} (h : Ext S S' w) : ∀ k, S' k → S k ∨ w.heap.size ≤ k := h

/-- what is known of the two objects ahead of the put at which the power may go -/
structure TwoO (Ob : List OEnt) (ra : Option OEnt) : Prop where
  o : lookO Ob ⟨#[111, 116, 104, 101, 114]⟩ = some ⟨⟨#[111, 116, 104, 101, 114]⟩, [7], 1⟩
  a : lookO Ob ⟨#[97]⟩ = ra
  len : Ob.length ≤ 3
theorem TwoO.put {Ob : List OEnt} {ra : Option OEnt} (h : TwoO Ob ra) (hl : Ob.length ≤ 2) (l : List UInt8) (g : Nat) : TwoO (setO Ob ⟨⟨#[97]⟩, l, g⟩) (some ⟨⟨#[97]⟩, l, g⟩) :=
  ⟨by rw [look_set, if_neg ne_oa.symm]; exact h.o, by rw [look_set, if_pos rfl], Nat.le_trans (setO_len _ _) (by omega)⟩
def genOf : Option OEnt → Nat
  | some o => o.gen
  | none => 0
theorem TwoO.gen {Ob : List OEnt} {ra : Option OEnt} (h : TwoO Ob ra) : genO Ob ⟨#[97]⟩ = genOf ra := by
  unfold genO
  rw [h.a]
  cases ra <;> rfl
theorem two_one : TwoO [⟨⟨#[111, 116, 104, 101, 114]⟩, [7], 1⟩] none := ⟨look_one _, by unfold lookO; rw [List.find?_cons, decide_eq_false ne_oa]; rfl, by simp⟩

set_option maxRecDepth 100000 in
set_option maxHeartbeats 16000000 in
theorem walk_objWhole (A : Option Addr) (n ca : Nat) (la : List UInt8) (B : Option Addr) (m cb : Nat) (lb : List UInt8) (wz kp : Int) (first : Bool) (w : World) (ha : RB w A n la) (hn : n ≤ 140737488351232) (hb : RB w B m lb) (hm : m ≤ 140737488351232) (_ : (Lit.int .i64 wz).wf = true) (hkp : (Lit.int .i64 kp).wf = true) :
    Calls Try.prog 6 #[.slice A n ca, .slice B m cb, .int .i64 wz, .int .i64 kp, .bool first] w fun e w' => e = .returned (.bool true) ∧ Grew w w' := by
  have hkb := (Go.bounds_i64 hkp).2
  clear hkp
  go_enter Try.func6, Try.ntmps6
  go_wp2_with fail
  refine (fs_new w).mono ?_
  rintro e w1 ⟨d, mm, rfl, hF, hg1⟩
  go_wp2_with fail
  refine (open_clean hF (by simp) rfl).mono ?_
  rintro e w2 ⟨s, rfl, hbk, hs, hg2⟩
  obtain ⟨S2, L2, hS2⟩ := livd_start hF hbk hs hg2
  have G2 := hg1.trans hg2
  clear hF hbk hg1 hg2
  by_cases hbig : 5000 < n
  · have e1 : decide ((5000 : Int) < (n : Int)) = true := decide_eq_true (by omega)
    clear hbig
    go_wp2_with fail
    refine (awake_any _).mono ?_
    rintro e w3 ⟨rfl, hg3⟩
    go_wp2
    go_ret
    exact ⟨by simp, G2.trans hg3⟩
  have e1 : decide ((5000 : Int) < (n : Int)) = false := decide_eq_false (by omega)
  by_cases hbig2 : 5000 < m
  · have e2 : decide ((5000 : Int) < (m : Int)) = true := decide_eq_true (by omega)
    clear hbig hbig2
    go_wp2_with fail
    refine (awake_any _).mono ?_
    rintro e w3 ⟨rfl, hg3⟩
    go_wp2
    go_ret
    exact ⟨by simp, G2.trans hg3⟩
  have e2 : decide ((5000 : Int) < (m : Int)) = false := decide_eq_false (by omega)
  have hn5 : n ≤ 5000 := by omega
  have hm5 : m ≤ 5000 := by omega
  clear hbig hbig2
  go_wp2_with fail
  refine (livd_put (L2.out.grew ((Chg.refl _ w2).alloc (.cells #[.int .u8 7] 5))) (by omega) (by simp) ⟨#[111, 116, 104, 101, 114]⟩ key_o (by decide) _ 1 1 [7] (RB.newAt rfl rfl rfl) (by omega)).mono ?_
  rintro e w3 ⟨rfl, ⟨S3, L3, x3⟩, hc3⟩
  have G3 : Grew w w3 := liv_grow (G2.alloc (.cells #[.int .u8 7] 5)) hc3 hS2.out
  have hS3 : Hid (∀ k, S3 k → w.heap.size ≤ k) := ext_ge x3 hS2.out (G2.alloc (.cells #[.int .u8 7] 5)).size
  have L3 : Hid (LivD S3 w3 s d mm [⟨⟨#[111, 116, 104, 101, 114]⟩, [7], 1⟩] 3) := L3
  have T3 := Lib.hid two_one
  have hl3 : Hid ([(⟨⟨#[111, 116, 104, 101, 114]⟩, [7], 1⟩ : OEnt)].length ≤ 1) := Nat.le_refl 1
  generalize [(⟨⟨#[111, 116, 104, 101, 114]⟩, [7], 1⟩ : OEnt)] = Ob at *
  clear x3 hc3 L2 hS2 G2 e1 e2
  cases first
  · go_wp2_with fail
    refine (copyBytes_any A n ca la _ (by exact ha.grew G3) (by omega)).mono ?_
    rintro e w4 ⟨X, cx, rfl, hX, hg4⟩
    have hP := livd_put (L3.out.grew hg4) (by omega) (by have := hl3.out; omega) ⟨#[97]⟩ key_a (by rw [T3.out.gen]; show 0 + 1 < 18446744073709551616; omega) X n cx la hX.rb (by omega)
    rw [T3.out.gen, show genOf none = 0 from rfl] at hP
    go_wp2_with fail
    refine hP.mono ?_
    rintro e w5 ⟨rfl, ⟨S5, L5, x5⟩, hc5⟩
    have G5 : Grew w w5 := liv_grow (G3.trans hg4) hc5 hS3.out
    have hS5 : Hid (∀ k, S5 k → w.heap.size ≤ k) := ext_ge x5 hS3.out (G3.trans hg4).size
    have L5 : Hid (LivD S5 w5 s d mm (setO Ob ⟨⟨#[97]⟩, la, 1⟩) 6) := L5
    have T5 : Hid (TwoO (setO Ob ⟨⟨#[97]⟩, la, 1⟩) (some ⟨⟨#[97]⟩, la, 1⟩)) := T3.out.put (by have := hl3.out; omega) la 1
    have hl5 : Hid ((setO Ob ⟨⟨#[97]⟩, la, 1⟩).length ≤ 2) := Nat.le_trans (setO_len _ _) (Nat.succ_le_succ hl3.out)
    generalize setO Ob ⟨⟨#[97]⟩, la, 1⟩ = Ob5 at *
    clear x5 hc5 L3 hS3 G3 hg4 hP T3 hl3 hX
    go_wp2_with fail
    refine (low_any wz _).mono ?_
    rintro e w6 ⟨r0, hr0, rfl, rfl⟩
    obtain ⟨r, hr⟩ : ∃ r, r0 % 5 = r := ⟨_, rfl⟩
    have hri : (r0 : Int) % 5 = (r : Int) := by omega
    have hr5 : r < 5 := by omega
    clear hr
    go_wp2_with fail
    refine (arm_d L5.out r kp).mono ?_
    rintro e w7 ⟨rfl, A7, hc7⟩
    have G7 : Grew w w7 := liv_grow G5 hc7 hS5.out
    have A7 := Lib.hid A7
    clear hc7 L5 G5 hri hr0
    go_wp2_with fail
    refine (copyBytes_any B m cb lb _ (by exact hb.grew G7) (by omega)).mono ?_
    rintro e w8 ⟨Y, cy, rfl, hY, hg8⟩
    have G8 := G7.trans hg8
    by_cases hr2 : r ≤ 2
    · have hP := put_d_cut (A7.out.grew hg8) hr2 (by omega) hkb (by have := hl5.out; omega) ⟨#[97]⟩ key_a (by rw [T5.out.gen]; show 1 + 1 < 18446744073709551616; omega) Y m cy lb hY.rb (by omega)
      go_wp2_with fail
      refine hP.mono ?_
      rintro e w9 ⟨rfl, ⟨S9, R9, x9, hS9l⟩, hc9⟩
      have G9 : Grew w w9 := liv_grow G8 hc9 hS5.out
      have hS9 : Hid (∀ k, S9 k → w.heap.size ≤ k) := ext_ge x9 hS5.out G8.size
      have R9 := Lib.hid R9
      have hS9l := Lib.hid hS9l
      clear x9 hc9 hP A7 hY
      go_wp2_with fail
      refine (off_d_down R9.out kp).mono ?_
      rintro e w10 ⟨rfl, rfl⟩
      go_wp2_with fail
      refine (on_d R9.out).mono ?_
      rintro e w11 ⟨rfl, R11, hc11⟩
      have G11 : Grew w w11 := liv_grow G9 hc11 hS9.out
      have hs11 := hc11.size
      have R11 := Lib.hid R11
      clear R9 hc11
      go_wp2_with fail
      refine (open_d R11.out (fun k e => by have := hS9l.out k e; omega) (by omega) (by have := hl5.out; omega)).mono ?_
      rintro e w12 ⟨t, rfl, L12, hc12⟩
      have G12 : Grew w w12 := liv_grow G11 hc12 hS9.out
      have L12 := Lib.hid L12
      clear hc12 R11
      have hGa := liv_get L12.out.liv ⟨#[97]⟩ key_a
      rw [T5.out.a] at hGa
      have hGo := fun w' (h : Grew w12 w') => liv_get (L12.out.liv.grew h) ⟨#[111, 116, 104, 101, 114]⟩ key_o
      rw [T5.out.o] at hGo
      have hGo := Lib.hid hGo
      have hLt := fun w' (h : Grew w12 w') => list_t (L12.out.grew h) (by have := hl5.out; omega)
      unfold tN at hLt
      have hLt := Lib.hid hLt
      unfold ReadTo at hGa
      go_wp2_with fail
      refine hGa.mono ?_
      unfold GotO
      rintro e w13 ⟨X, cx, rfl, hX, hXc, _, hg13⟩
      have hX : RB w13 X n la := ha.1 ▸ hX
      have hXl : la.length = n := ha.1
      clear hGa
      go_wp2_with fail
      refine (hGo.out _ hg13).mono ?_
      unfold ReadTo GotO
      rintro e w14 ⟨Z, cz, rfl, hZ, hZc, _, hg14⟩
      have hZ : RB w14 Z 1 [7] := hZ
      have hZc : 1 ≤ cz ∧ cz ≤ 9223372036854775807 := hZc
      have hg214 := hg13.trans hg14
      go_wp2_with fail
      refine (sameBytes_yes Z _ 1 1 cz 1 [7] _ (by exact hZ.grew ((Chg.refl _ w14).alloc _)) (by exact RB.newAt rfl rfl rfl) (by omega) (by omega)).mono ?_
      rintro e w15 ⟨rfl, k1, rfl⟩
      have hg15 : Grew w14 ((w14.alloc (.cells #[.int .u8 7] 5)).drewN k1) := ((Chg.refl _ w14).alloc _).drewN k1
      go_wp2_with fail
      refine (hLt.out _ (hg214.trans hg15)).mono ?_
      rintro e w16 ⟨P, cp, rfl, hg16⟩
      have hg1416 := hg15.trans hg16
      go_wp2_with fail
      refine (sameTexts_any P none 0 0 cp 0 [] [] _ (RE.nil _ _) (RE.nil _ _) (by omega) (by omega)).mono ?_
      rintro e w17 ⟨rfl, k2, rfl⟩
      have hg17 := (hg14.trans hg1416).drewN k2
      simp only [decide_true]
      go_wp2_with fail
      refine (sameBytes_yes X A n n cx ca la _ (by exact hX.grew hg17) (by exact ha.grew ((G12.trans hg13).trans hg17)) (by omega) (by omega)).mono ?_
      rintro e w18 ⟨rfl, k3, rfl⟩
      go_wp2_with fail
      refine (awake_any _).mono ?_
      rintro e w19 ⟨rfl, hg19⟩
      go_wp2
      go_ret
      exact ⟨by simp, (((G12.trans hg13).trans hg17).drewN k3).trans (by simpa using hg19)⟩
    · have hP := put_d_ok (A7.out.grew hg8) (by omega) (by omega) (by omega) (by have := hl5.out; omega) ⟨#[97]⟩ key_a (by rw [T5.out.gen]; show 1 + 1 < 18446744073709551616; omega) Y m cy lb hY.rb (by omega)
      rw [T5.out.gen, show genOf (some ⟨⟨#[97]⟩, la, 1⟩) = 1 from rfl] at hP
      go_wp2_with fail
      refine hP.mono ?_
      rintro e w9 ⟨rfl, ⟨S9, r9, hr9, A9, x9⟩, hc9⟩
      have G9 : Grew w w9 := liv_grow G8 hc9 hS5.out
      have hS9 : Hid (∀ k, S9 k → w.heap.size ≤ k) := ext_ge x9 hS5.out G8.size
      have A9 : Hid (ArmD S9 w9 s d mm (setO Ob5 ⟨⟨#[97]⟩, lb, 1 + 1⟩) r9 kp 9) := A9
      have T9 : Hid (TwoO (setO Ob5 ⟨⟨#[97]⟩, lb, 1 + 1⟩) (some ⟨⟨#[97]⟩, lb, 1 + 1⟩)) := T5.out.put hl5.out lb (1 + 1)
      generalize setO Ob5 ⟨⟨#[97]⟩, lb, 1 + 1⟩ = Ob9 at *
      clear x9 hc9 hP A7 hY
      go_wp2_with fail
      refine (off_d A9.out hr9 (by omega) kp hkb).mono ?_
      rintro e w10 ⟨rfl, R10, hc10⟩
      have G10 : Grew w w10 := liv_grow G9 hc10 hS9.out
      have hs10 := hc10.size
      have R10 := Lib.hid R10
      clear hc10
      go_wp2_with fail
      refine (on_d R10.out).mono ?_
      rintro e w11 ⟨rfl, R11, hc11⟩
      have G11 : Grew w w11 := liv_grow G10 hc11 hS9.out
      have hs11 := hc11.size
      have R11 := Lib.hid R11
      clear R10 hc11
      go_wp2_with fail
      refine (open_d R11.out (fun k e => by have := A9.out.lt k e; omega) (by omega) (by have := T9.out.len; omega)).mono ?_
      rintro e w12 ⟨t, rfl, L12, hc12⟩
      have G12 : Grew w w12 := liv_grow G11 hc12 hS9.out
      have L12 := Lib.hid L12
      clear hc12 R11 A9
      have hGa := liv_get L12.out.liv ⟨#[97]⟩ key_a
      rw [T9.out.a] at hGa
      have hGo := fun w' (h : Grew w12 w') => liv_get (L12.out.liv.grew h) ⟨#[111, 116, 104, 101, 114]⟩ key_o
      rw [T9.out.o] at hGo
      have hGo := Lib.hid hGo
      have hLt := fun w' (h : Grew w12 w') => list_t (L12.out.grew h) (by have := T9.out.len; omega)
      unfold tN at hLt
      have hLt := Lib.hid hLt
      unfold ReadTo at hGa
      go_wp2_with fail
      refine hGa.mono ?_
      unfold GotO
      rintro e w13 ⟨X, cx, rfl, hX, hXc, _, hg13⟩
      have hX : RB w13 X m lb := hb.1 ▸ hX
      have hXl : lb.length = m := hb.1
      clear hGa
      go_wp2_with fail
      refine (hGo.out _ hg13).mono ?_
      unfold ReadTo GotO
      rintro e w14 ⟨Z, cz, rfl, hZ, hZc, _, hg14⟩
      have hZ : RB w14 Z 1 [7] := hZ
      have hZc : 1 ≤ cz ∧ cz ≤ 9223372036854775807 := hZc
      have hg214 := hg13.trans hg14
      go_wp2_with fail
      refine (sameBytes_yes Z _ 1 1 cz 1 [7] _ (by exact hZ.grew ((Chg.refl _ w14).alloc _)) (by exact RB.newAt rfl rfl rfl) (by omega) (by omega)).mono ?_
      rintro e w15 ⟨rfl, k1, rfl⟩
      have hg15 : Grew w14 ((w14.alloc (.cells #[.int .u8 7] 5)).drewN k1) := ((Chg.refl _ w14).alloc _).drewN k1
      go_wp2_with fail
      refine (hLt.out _ (hg214.trans hg15)).mono ?_
      rintro e w16 ⟨P, cp, rfl, hg16⟩
      have hg1416 := hg15.trans hg16
      go_wp2_with fail
      refine (sameTexts_any P none 0 0 cp 0 [] [] _ (RE.nil _ _) (RE.nil _ _) (by omega) (by omega)).mono ?_
      rintro e w17 ⟨rfl, k2, rfl⟩
      have hg17 := (hg14.trans hg1416).drewN k2
      simp only [decide_true]
      go_wp2_with fail
      refine (sameBytes_yes X B m m cx cb lb _ (by exact hX.grew hg17) (by exact hb.grew ((G12.trans hg13).trans hg17)) (by omega) (by omega)).mono ?_
      rintro e w18 ⟨rfl, k3, rfl⟩
      go_wp2_with fail
      refine (awake_any _).mono ?_
      rintro e w19 ⟨rfl, hg19⟩
      go_wp2
      go_ret
      exact ⟨by simp, (((G12.trans hg13).trans hg17).drewN k3).trans (by simpa using hg19)⟩
  · have w5e : ∃ w5, w3 = w5 := ⟨_, rfl⟩
    obtain ⟨w5, rfl⟩ := w5e
    have L5 : Hid (LivD S3 w3 s d mm Ob 6) := by
      obtain ⟨E, clock, left, kp', n', h1, h2, h3, h4⟩ := L3.out.body
      exact ⟨⟨E, clock, left, kp', n', h1, by omega, by omega, by omega⟩, L3.out.lt⟩
    have hl5 : Hid (Ob.length ≤ 2) := Nat.le_succ_of_le hl3.out
    have T5 := T3
    clear L3 hl3 T3
    go_wp2_with fail
    refine (low_any wz _).mono ?_
    rintro e w6 ⟨r0, hr0, rfl, rfl⟩
    obtain ⟨r, hr⟩ : ∃ r, r0 % 5 = r := ⟨_, rfl⟩
    have hri : (r0 : Int) % 5 = (r : Int) := by omega
    have hr5 : r < 5 := by omega
    clear hr
    go_wp2_with fail
    refine (arm_d L5.out r kp).mono ?_
    rintro e w7 ⟨rfl, A7, hc7⟩
    have G7 : Grew w w7 := liv_grow G3 hc7 hS3.out
    have A7 := Lib.hid A7
    clear hc7 L5 G3 hri hr0
    go_wp2_with fail
    refine (copyBytes_any B m cb lb _ (by exact hb.grew G7) (by omega)).mono ?_
    rintro e w8 ⟨Y, cy, rfl, hY, hg8⟩
    have G8 := G7.trans hg8
    by_cases hr2 : r ≤ 2
    · have hP := put_d_cut (A7.out.grew hg8) hr2 (by omega) hkb (by have := hl5.out; omega) ⟨#[97]⟩ key_a (by rw [T5.out.gen]; show 0 + 1 < 18446744073709551616; omega) Y m cy lb hY.rb (by omega)
      go_wp2_with fail
      refine hP.mono ?_
      rintro e w9 ⟨rfl, ⟨S9, R9, x9, hS9l⟩, hc9⟩
      have G9 : Grew w w9 := liv_grow G8 hc9 hS3.out
      have hS9 : Hid (∀ k, S9 k → w.heap.size ≤ k) := ext_ge x9 hS3.out G8.size
      have R9 := Lib.hid R9
      have hS9l := Lib.hid hS9l
      clear x9 hc9 hP A7 hY
      go_wp2_with fail
      refine (off_d_down R9.out kp).mono ?_
      rintro e w10 ⟨rfl, rfl⟩
      go_wp2_with fail
      refine (on_d R9.out).mono ?_
      rintro e w11 ⟨rfl, R11, hc11⟩
      have G11 : Grew w w11 := liv_grow G9 hc11 hS9.out
      have hs11 := hc11.size
      have R11 := Lib.hid R11
      clear R9 hc11
      go_wp2_with fail
      refine (open_d R11.out (fun k e => by have := hS9l.out k e; omega) (by omega) (by have := hl5.out; omega)).mono ?_
      rintro e w12 ⟨t, rfl, L12, hc12⟩
      have G12 : Grew w w12 := liv_grow G11 hc12 hS9.out
      have L12 := Lib.hid L12
      clear hc12 R11
      have hGa := liv_get L12.out.liv ⟨#[97]⟩ key_a
      rw [T5.out.a] at hGa
      have hGo := fun w' (h : Grew w12 w') => liv_get (L12.out.liv.grew h) ⟨#[111, 116, 104, 101, 114]⟩ key_o
      rw [T5.out.o] at hGo
      have hGo := Lib.hid hGo
      have hLt := fun w' (h : Grew w12 w') => list_t (L12.out.grew h) (by have := hl5.out; omega)
      unfold tN at hLt
      have hLt := Lib.hid hLt
      unfold ReadTo at hGa
      go_wp2_with fail
      refine hGa.mono ?_
      rintro e w13 ⟨rfl, rfl⟩
      have hg13 : Grew w12 w12 := Chg.refl _ _
      clear hGa
      go_wp2_with fail
      refine (hGo.out _ hg13).mono ?_
      unfold ReadTo GotO
      rintro e w14 ⟨Z, cz, rfl, hZ, hZc, _, hg14⟩
      have hZ : RB w14 Z 1 [7] := hZ
      have hZc : 1 ≤ cz ∧ cz ≤ 9223372036854775807 := hZc
      have hg214 := hg13.trans hg14
      go_wp2_with fail
      refine (sameBytes_yes Z _ 1 1 cz 1 [7] _ (by exact hZ.grew ((Chg.refl _ w14).alloc _)) (by exact RB.newAt rfl rfl rfl) (by omega) (by omega)).mono ?_
      rintro e w15 ⟨rfl, k1, rfl⟩
      have hg15 : Grew w14 ((w14.alloc (.cells #[.int .u8 7] 5)).drewN k1) := ((Chg.refl _ w14).alloc _).drewN k1
      go_wp2_with fail
      refine (hLt.out _ (hg214.trans hg15)).mono ?_
      rintro e w16 ⟨P, cp, rfl, hg16⟩
      have hg1416 := hg15.trans hg16
      go_wp2_with fail
      refine (sameTexts_any P none 0 0 cp 0 [] [] _ (RE.nil _ _) (RE.nil _ _) (by omega) (by omega)).mono ?_
      rintro e w17 ⟨rfl, k2, rfl⟩
      have hg17 := (hg14.trans hg1416).drewN k2
      simp only [decide_true]
      go_wp2_with fail
      refine (awake_any _).mono ?_
      rintro e w18 ⟨rfl, hg18⟩
      go_wp2
      go_ret
      exact ⟨by simp, (G12.trans hg17).trans hg18⟩
    · have hP := put_d_ok (A7.out.grew hg8) (by omega) (by omega) (by omega) (by have := hl5.out; omega) ⟨#[97]⟩ key_a (by rw [T5.out.gen]; show 0 + 1 < 18446744073709551616; omega) Y m cy lb hY.rb (by omega)
      rw [T5.out.gen, show genOf none = 0 from rfl] at hP
      go_wp2_with fail
      refine hP.mono ?_
      rintro e w9 ⟨rfl, ⟨S9, r9, hr9, A9, x9⟩, hc9⟩
      have G9 : Grew w w9 := liv_grow G8 hc9 hS3.out
      have hS9 : Hid (∀ k, S9 k → w.heap.size ≤ k) := ext_ge x9 hS3.out G8.size
      have A9 : Hid (ArmD S9 w9 s d mm (setO Ob ⟨⟨#[97]⟩, lb, 0 + 1⟩) r9 kp 9) := A9
      have T9 : Hid (TwoO (setO Ob ⟨⟨#[97]⟩, lb, 0 + 1⟩) (some ⟨⟨#[97]⟩, lb, 0 + 1⟩)) := T5.out.put hl5.out lb (0 + 1)
      generalize setO Ob ⟨⟨#[97]⟩, lb, 0 + 1⟩ = Ob9 at *
      clear x9 hc9 hP A7 hY
      go_wp2_with fail
      refine (off_d A9.out hr9 (by omega) kp hkb).mono ?_
      rintro e w10 ⟨rfl, R10, hc10⟩
      have G10 : Grew w w10 := liv_grow G9 hc10 hS9.out
      have hs10 := hc10.size
      have R10 := Lib.hid R10
      clear hc10
      go_wp2_with fail
      refine (on_d R10.out).mono ?_
      rintro e w11 ⟨rfl, R11, hc11⟩
      have G11 : Grew w w11 := liv_grow G10 hc11 hS9.out
      have hs11 := hc11.size
      have R11 := Lib.hid R11
      clear R10 hc11
      go_wp2_with fail
      refine (open_d R11.out (fun k e => by have := A9.out.lt k e; omega) (by omega) (by have := T9.out.len; omega)).mono ?_
      rintro e w12 ⟨t, rfl, L12, hc12⟩
      have G12 : Grew w w12 := liv_grow G11 hc12 hS9.out
      have L12 := Lib.hid L12
      clear hc12 R11 A9
      have hGa := liv_get L12.out.liv ⟨#[97]⟩ key_a
      rw [T9.out.a] at hGa
      have hGo := fun w' (h : Grew w12 w') => liv_get (L12.out.liv.grew h) ⟨#[111, 116, 104, 101, 114]⟩ key_o
      rw [T9.out.o] at hGo
      have hGo := Lib.hid hGo
      have hLt := fun w' (h : Grew w12 w') => list_t (L12.out.grew h) (by have := T9.out.len; omega)
      unfold tN at hLt
      have hLt := Lib.hid hLt
      unfold ReadTo at hGa
      go_wp2_with fail
      refine hGa.mono ?_
      unfold GotO
      rintro e w13 ⟨X, cx, rfl, hX, hXc, _, hg13⟩
      have hX : RB w13 X m lb := hb.1 ▸ hX
      have hXl : lb.length = m := hb.1
      clear hGa
      go_wp2_with fail
      refine (hGo.out _ hg13).mono ?_
      unfold ReadTo GotO
      rintro e w14 ⟨Z, cz, rfl, hZ, hZc, _, hg14⟩
      have hZ : RB w14 Z 1 [7] := hZ
      have hZc : 1 ≤ cz ∧ cz ≤ 9223372036854775807 := hZc
      have hg214 := hg13.trans hg14
      go_wp2_with fail
      refine (sameBytes_yes Z _ 1 1 cz 1 [7] _ (by exact hZ.grew ((Chg.refl _ w14).alloc _)) (by exact RB.newAt rfl rfl rfl) (by omega) (by omega)).mono ?_
      rintro e w15 ⟨rfl, k1, rfl⟩
      have hg15 : Grew w14 ((w14.alloc (.cells #[.int .u8 7] 5)).drewN k1) := ((Chg.refl _ w14).alloc _).drewN k1
      go_wp2_with fail
      refine (hLt.out _ (hg214.trans hg15)).mono ?_
      rintro e w16 ⟨P, cp, rfl, hg16⟩
      have hg1416 := hg15.trans hg16
      go_wp2_with fail
      refine (sameTexts_any P none 0 0 cp 0 [] [] _ (RE.nil _ _) (RE.nil _ _) (by omega) (by omega)).mono ?_
      rintro e w17 ⟨rfl, k2, rfl⟩
      have hg17 := (hg14.trans hg1416).drewN k2
      simp only [decide_true]
      go_wp2_with fail
      refine (sameBytes_yes X B m m cx cb lb _ (by exact hX.grew hg17) (by exact hb.grew ((G12.trans hg13).trans hg17)) (by omega) (by omega)).mono ?_
      rintro e w18 ⟨rfl, k3, rfl⟩
      go_wp2_with fail
      refine (awake_any _).mono ?_
      rintro e w19 ⟨rfl, hg19⟩
      go_wp2
      go_ret
      exact ⟨by simp, (((G12.trans hg13).trans hg17).drewN k3).trans (by simpa using hg19)⟩
end Go.Proofs.Ytepncgeaehjhiaa
