/-
  The statements' awake over the codec: it returns true and leaves what was there. Conditions: none.
-/
import Derived.Test.YtbilppcfijpblaaCz
import Derived.Lib.SlBytesConst
namespace Go.Proofs.Ytbilppcfijpblaa
open Go.RowKit

theorem RB.newF {w : World} {B : Nat} {l : List UInt8} {n : Nat} {cs : Array Value} {t : TypeId} {fr : Nat × Nat} (hB : B = w.heap.size) (hn : l.length = n) (hc : cs = (l.map byt).toArray) : RB (w.alloc (.cells cs t fr)) (some ⟨B, 0, none⟩) n l := by
  subst hB; subst hc
  refine ⟨hn, fun k u hu => ⟨_, rfl, ?_⟩⟩
  rw [add_head]
  have : (w.alloc (.cells (l.map byt).toArray t fr)).heap[w.heap.size]? = some (.cells (l.map byt).toArray t fr) := heap_alloc_new w _
  rw [cell_of_row _ _ _ _ _ _ this]
  simpa using hu

theorem wpList_convB {ops : Array Oper} {rest : List Oper} {o : Oper} {a : Act} {W : World} {Q : Exit → Act → World → Prop} (hw : Region.wanted o (yielded ops a.tmps) = true) (x : Operand) (ho : o.op = .convert 22 22 x)
    (B n c : Nat) (l : List UInt8) (C : Array Value) (hx : a.eval x = .slice (some ⟨B, 0, none⟩) n c) (hB : B = W.heap.size) (hl : l.length = n) (hc : C = (l.map byt).toArray)
    (h : ∀ w', RB w' (some ⟨B, 0, none⟩) n l → Grew W w' → wpList Try.prog ops Q rest (a.put o.dst (.slice (some ⟨B, 0, none⟩) n c)) w') : wpList Try.prog ops Q (o :: rest) a (W.alloc (.cells C 5)) := by
  refine wpList_step fun K hK => ?_
  rw [if_pos hw]
  unfold Oper.wp execOp
  subst hB
  have hr := Lib.run_convert_bytes_const (P := Try.prog) W 22 5 C n c Try.underlying22 Try.underlying5
  simp only [ho, Sem.run_bind, Sem.run_pure, Result.andThen_ok, hx, hr]
  exact hK _ _ (h _ (RB.newF rfl hl hc) ((Chg.refl _ W).alloc _))

theorem upon_convB {o : Oper} {a : Act} {W : World} {K : Act → World → Prop} {Q : Exit → Act → World → Prop}
    (B n c : Nat) (l : List UInt8) (C : Array Value) (hB : B = W.heap.size) (hl : l.length = n) (hc : C = (l.map byt).toArray)
    (h : ∀ w', RB w' (some ⟨B, 0, none⟩) n l → Grew W w' → K (a.put o.dst (.slice (some ⟨B, 0, none⟩) n c)) w') :
    Oper.upon Try.prog o a K Q ((Sem.run Try.prog (convert 22 22 (.slice (some ⟨B, 0, none⟩) n c)) (W.alloc (.cells C 5))).andThen fun v w' => Result.ok (Next.value v) w') := by
  subst hB
  have hr := Lib.run_convert_bytes_const (P := Try.prog) W 22 5 C n c Try.underlying22 Try.underlying5
  rw [hr]
  exact h _ (RB.newF rfl hl hc) ((Chg.refl _ W).alloc _)

def digits9 : List UInt8 := [49, 50, 51, 52, 53, 54, 55, 56, 57]
def frame9 : List UInt8 := [9, 203, 244, 57, 38, 49, 50, 51, 52, 53, 54, 55, 56, 57]

set_option maxRecDepth 100000 in
set_option maxHeartbeats 4000000 in
theorem awake_any (w : World) : Calls Try.prog 23 #[] w fun e w' => e = .returned (.bool true) ∧ Grew w w' := by
  have u300 : uv 300 = [172, 2] := by rw [uv_big (by decide), uv_small (by decide)]; rfl
  have u1 : uv 1 = [1] := by rw [uv_small (by decide)]; rfl
  have u9 : uv 9 = [9] := by rw [uv_small (by decide)]; rfl
  have c9 : crc digits9 = 3421780262 := by decide +kernel
  have f9 : frameB digits9 = frame9 := by
    unfold frameB
    rw [show digits9.length = 9 from rfl, u9, c9]
    decide +kernel
  have a1 : ∀ A c w, RB w A 2 [172, 2] → Calls Try.prog 24 #[.slice A 2 c, .int .i64 0] w fun e w' => e = .returned (.tuple #[.int .u64 300, .int .i64 2, .int .i64 0]) ∧ w' = w := fun A c w h => by
    have := uint_any A 2 c [172, 2] 0 w h (by omega)
    unfold UintPost uintEnd at this
    rwa [show uintR [172, 2] 0 = (300, 2, 0) from by decide +kernel] at this
  have a2 : ∀ A c w, RB w A 1 [1] → Calls Try.prog 25 #[.slice A 1 c, .int .i64 0] w fun e w' => e = .returned (.tuple #[.int .i64 (-1), .int .i64 1, .int .i64 0]) ∧ w' = w := fun A c w h => by
    have := int_any A 1 c [1] 0 w h (by omega)
    unfold IntPost at this
    rwa [show uintR [1] 0 = (1, 1, 0) from by decide +kernel] at this
  have a3 : ∀ A c w, RB w A 2 [1, 97] → 2 ≤ c ∧ c ≤ 9223372036854775807 → Calls Try.prog 26 #[.slice A 2 c, .int .i64 0] w fun e w' => e = .returned (.tuple #[.string ⟨#[97]⟩, .int .i64 2, .int .i64 0]) ∧ w' = w := fun A c w h hc => by
    have := text_any A 2 c [1, 97] 0 w h (by omega) hc
    unfold TextPost textEnd at this
    rwa [show textR [1, 97] 0 = ([97], 2, 0) from by decide +kernel] at this
  have a4 : ∀ A c w, RB w A 9 digits9 → Calls Try.prog 14 #[.slice A 9 c] w (BytesE w 14 frame9 0) := fun A c w h => by
    have := frame_any A 9 c digits9 w h (by omega)
    rw [u9, f9] at this
    exact this
  have a5 : ∀ A c w, RB w A 14 frame9 → 14 ≤ c ∧ c ≤ 9223372036854775807 → Calls Try.prog 27 #[.slice A 14 c, .int .i64 0] w (UnfPost w (digits9, 14, 0)) := fun A c w h hc => by
    have := unframe_any A 14 c frame9 0 w h (by omega) hc
    rwa [show unfR frame9 0 = (digits9, 14, 0) from by decide +kernel] at this
  have a6 : ∀ A c w, RB w A 9 digits9 → Calls Try.prog 13 #[.slice A 9 c] w fun e w' => e = .returned (.int .u32 3421780262) ∧ Grew w w' := fun A c w h => by
    have := sum_any A 9 c digits9 w h (by omega)
    rwa [c9] at this
  have a7 : ∀ w, Calls Try.prog 10 #[.slice none 0 0, .int .u64 300] w (NewB w 2 [172, 2]) := fun w => by
    have := putUint_any none 0 0 [] 300 300 w ⟨rfl, Rd.nil _ _⟩ rfl (by omega) (by omega)
    rwa [u300] at this
  have a8 : ∀ w, Calls Try.prog 11 #[.slice none 0 0, .int .i64 (-1)] w (NewB w 1 [1]) := fun w => by
    have := putInt_any none 0 0 [] (-1) w ⟨rfl, Rd.nil _ _⟩ (by omega) (by omega) (by omega)
    rwa [show zz (-1) = 1 from rfl, u1] at this
  have a9 : ∀ w, Calls Try.prog 12 #[.slice none 0 0, .string ⟨#[97]⟩] w (NewB w 2 [1, 97]) := fun w => by
    have := putText_any none 0 0 [] ⟨#[97]⟩ w ⟨rfl, Rd.nil _ _⟩ (by decide)
    rwa [show (⟨#[97]⟩ : ByteArray).size = 1 from rfl, u1] at this
  have A1 := Lib.hid a1
  have A2 := Lib.hid a2
  have A3 := Lib.hid a3
  have A4 := Lib.hid a4
  have A5 := Lib.hid a5
  have A6 := Lib.hid a6
  have A7 := Lib.hid a7
  have A8 := Lib.hid a8
  have A9 := Lib.hid a9
  clear a1 a2 a3 a4 a5 a6 a7 a8 a9 u300 u1 u9 c9 f9
  go_enter Try.func23, Try.ntmps23
  go_wp2_with fail
  refine (A1.out _ _ _ ?_).mono ?_
  · exact RB.newAt rfl rfl rfl
  rintro e w1 ⟨rfl, rfl⟩
  go_wp2_with fail
  refine (A2.out _ _ _ ?_).mono ?_
  · exact RB.newAt (by simp) rfl rfl
  rintro e w1 ⟨rfl, rfl⟩
  go_wp2_with fail
  refine (A3.out _ _ _ ?_ (by omega)).mono ?_
  · exact RB.newAt (by simp) rfl rfl
  rintro e w1 ⟨rfl, rfl⟩
  go_wp2_with (refine wpList_convB (by rfl) _ rfl _ 9 _ digits9 _ rfl (by simp) rfl rfl ?_; intro w2 hr2 hg2)
  have hg2' : Grew w w2 := (((Chg.refl _ w).alloc _).alloc _).alloc _ |>.trans hg2
  refine (A4.out _ _ _ hr2).mono ?_
  rintro e w3 ⟨B3, c3, rfl, ho3, hg3⟩
  have hc3 := ho3.cap
  go_wp2_with fail
  refine (A5.out _ _ _ ho3.rb hc3).mono ?_
  rintro e w4 ⟨B4, n4, c4, rfl, ho4, hg4⟩
  have hn4 := ho4.len
  simp [digits9] at hn4
  subst hn4
  have hg24 : Grew w w4 := (hg2'.trans hg3).trans hg4
  clear hg2 hr2 hg2' hg3 hg4
  go_wp2_with fail
  refine upon_convB _ 9 _ digits9 _ (by simp) rfl rfl ?_
  intro w5 hr5 hg5
  rename_i hK5
  refine hK5 _ _ ?_
  clear hK5
  go_wp2_with fail
  have ho5 := ho4.grew hg5
  have hg25 := hg24.trans hg5
  refine (A6.out _ _ _ hr5).mono ?_
  rintro e w6 ⟨rfl, hg6⟩
  have ho6 := ho5.grew hg6
  have hg26 := hg25.trans hg6
  clear hg5 hg6 hr5 hg24 hg25 ho5 ho4
  go_wp2_with fail
  refine upon_convB _ 9 _ digits9 _ (by simp) rfl rfl ?_
  intro w7 hr7 hg7
  rename_i hK7
  refine hK7 _ _ ?_
  clear hK7
  go_wp2_with fail
  refine (sameBytes_yes _ _ 9 9 _ _ digits9 _ (ho6.grew hg7).rb hr7 (by omega) (by omega)).mono ?_
  rintro e w8 ⟨rfl, k8, rfl⟩
  have hg28 : Grew w (w7.drewN k8) := (hg26.trans hg7).drewN k8
  clear hg26 hg7 ho6 hr7
  go_wp2_with fail
  refine (A7.out _).mono ?_
  rintro e w9 ⟨B9, c9, rfl, ho9, hg9⟩
  go_wp2_with fail
  refine (sameBytes_yes _ _ 2 2 _ _ [172, 2] _ ?_ ?_ (by omega) (by omega)).mono ?_
  · exact (ho9.grew ((Chg.refl _ w9).alloc _)).rb
  · exact RB.newAt rfl rfl rfl
  rintro e w10 ⟨rfl, k10, rfl⟩
  go_wp2_with fail
  refine (A8.out _).mono ?_
  rintro e w11 ⟨B11, c11, rfl, ho11, hg11⟩
  go_wp2_with fail
  refine (sameBytes_yes _ _ 1 1 _ _ [1] _ ?_ ?_ (by omega) (by omega)).mono ?_
  · exact (ho11.grew ((Chg.refl _ w11).alloc _)).rb
  · exact RB.newAt rfl rfl rfl
  rintro e w12 ⟨rfl, k12, rfl⟩
  go_wp2_with fail
  refine (A9.out _).mono ?_
  rintro e w13 ⟨B13, c13, rfl, ho13, hg13⟩
  go_wp2_with fail
  refine (sameBytes_yes _ _ 2 2 _ _ [1, 97] _ ?_ ?_ (by omega) (by omega)).mono ?_
  · exact (ho13.grew ((Chg.refl _ w13).alloc _)).rb
  · exact RB.newAt rfl rfl rfl
  rintro e w14 ⟨rfl, k14, rfl⟩
  go_wp2
  go_ret
  refine ⟨by simp, ?_⟩
  exact ((((((((hg28.trans hg9).alloc _).drewN k10).trans hg11).alloc _).drewN k12).trans hg13).alloc _).drewN k14
end Go.Proofs.Ytbilppcfijpblaa
