/-
  Several texts in one:
  Arguments that came in, opened: rows of whole numbers, of numbers without a sign, of texts. Conditions: none.
  What every store answers, call by call (awake); the law ObjIfs, walked. Conditions: none but what memory bears.
  The reference's word on keys; whether a text is in a list. Conditions: none.
-/
import Derived.Test.YtepncgeaehjhiaaGreatPart34
import Derived.Test.YtepncgeaehjhiaaGreatPart2

namespace Go.Proofs.YtepncgeaehjhiaaGreat
open Go.ChangeShapes Go.WideShapes Go.ChangeAt Go.RowKit Go.Deep

def elI : El Int := ⟨fun z => [.int .i64 z], 1, fun _ => rfl, by
  intro x u hu
  simp at hu
  subst hu
  rfl⟩
def elU : El Nat := ⟨fun z => [.int .u64 (z : Int)], 1, fun _ => rfl, by
  intro x u hu
  simp at hu
  subst hu
  rfl⟩

section
variable {H : Type} {enc : TypeId × Value → H} {W : World} {base : Nat} {spare : Nat → Bool} {held : Bool}
theorem cells_str : Tryz.prog.cellsOf 9 = 1 := by kernel_rfl
theorem cells_int : Tryz.prog.cellsOf 3 = 1 := by kernel_rfl
theorem cells_u64 : Tryz.prog.cellsOf 27 = 1 := by kernel_rfl
theorem one_cell {cs : List Value} (h : cs.length = 1) : ∃ v, cs = [v] := by
  match cs, h with
  | [v], _ => exact ⟨v, rfl⟩

theorem open_texts0 {A : Option Addr} {n c : Nat} {d : DataW H} {p : List MemPlace} (h : DataW.Trod enc Tryz.prog W base spare held 47 (.slice A n c) d p) :
    ∃ l : List ByteArray, RE elNm W A n l ∧ (n ≤ c ∧ c ≤ 9223372036854775807) := by
  obtain ⟨l, h1, h2, h3, h4⟩ := open_elems elNm (fun _ _ => True) Tryz.underlying47 (by kernel_rfl) (fun n cs x hx hl => by
    obtain ⟨v, rfl⟩ := one_cell (hl.trans cells_str)
    obtain ⟨s0, e0, d0, _⟩ := DataW.trod_string Tryz.underlying9 hx
    obtain rfl := (List.cons.inj e0).1
    exact ⟨s0, rfl, trivial⟩) h
  exact ⟨l, h1, h3⟩
end
end Go.Proofs.YtepncgeaehjhiaaGreat

namespace Go.Proofs.YtepncgeaehjhiaaGreat
open Go.RowKit

theorem liv_list {S : Nat → Prop} {w : World} {s j : Nat} {Ob : List OEnt} (h : Liv S w s Ob j) (hE : Ob.length ≤ 1048576) (p : ByteArray) (hp : p.size ≤ 140737488355328) :
    Calls Tryz.prog 36 #[.pointer (some ⟨s, 0, none⟩), .string p] w fun e w' => ∃ A c, e = .returned (.slice A (keysO Ob p).length c) ∧ OE elNm w' w.heap.size 9 A (keysO Ob p).length c (keysO Ob p) ∧ Grew w w' := by
  obtain ⟨d, m, E, clock, left, kp, n, h1, h2, h3, h4⟩ := h.body
  exact olist_any h1 (by rw [h1.len]; exact hE) p hp
theorem start_ex {w0 w1 w2 : World} {d m s : Nat} (h : FS (fun k => w0.heap.size ≤ k) w1 d m [] 0 true false 0 0 0) (hb : Blk w2 s 51 #[.pointer (some ⟨d, 0, none⟩)]) (hs : w1.heap.size ≤ s) (hg : Grew w1 w2) :
    ∃ S, Hid (Liv S w2 s [] 0) ∧ Hid (∀ k, S k → w0.heap.size ≤ k) := ⟨_, Liv.start h hb hs hg, fun _ e => e.1⟩
theorem look_one (o : OEnt) : lookO [o] o.key = some o := by simp [lookO, List.find?]
theorem gen_one (o : OEnt) : genO [o] o.key = o.gen := by rw [genO, look_one]
theorem set_one (o p : OEnt) (h : o.key = p.key) : setO [o] p = [p] := by rw [setO, if_pos h]
theorem keys_one (o : OEnt) : keysO [o] ⟨#[]⟩ = [o.key] := by
  have : hasP o.key ⟨#[]⟩ = true := by unfold hasP Lib.hasPrefix; rfl
  simp [keysO, sortT, this]
def kA : ByteArray := ⟨#[97]⟩
def kK : ByteArray := ⟨#[107]⟩
theorem key_a : keyB ⟨#[97]⟩ = true := by decide
theorem key_k : keyB ⟨#[107]⟩ = true := by decide
/-- what a change of the store's own blocks leaves of what was there at first -/
theorem liv_grow {S : Nat → Prop} {w w1 w2 : World} (hg : Grew w w1) (hc : Chg S w1 w2) (hS : ∀ k, S k → w.heap.size ≤ k) : Grew w w2 := hg.step hc fun k hk h => absurd (hS k h) (by omega)
theorem ext_ge {S S' : Nat → Prop} {b : Nat} {w1 : World} (h : Ext S S' w1) (hS : ∀ k, S k → b ≤ k) (hb : b ≤ w1.heap.size) : ∀ k, S' k → b ≤ k := fun k e => (h k e).elim (hS k) fun e => Nat.le_trans hb e

set_option maxRecDepth 100000 in
set_option maxHeartbeats 4000000 in
theorem awake_any (w : World) : Calls Tryz.prog 13 #[] w fun e w' => e = .returned (.bool true) ∧ Grew w w' := by
  go_enter Tryz.func13, Tryz.ntmps13
  go_wp2_with fail
  refine (fs_new w).mono ?_
  rintro e w1 ⟨d, m, rfl, hF, hg1⟩
  go_wp2_with fail
  refine (open_clean hF (by simp) rfl).mono ?_
  rintro e w2 ⟨s, rfl, hb, hs, hg2⟩
  obtain ⟨S2, L2, hS2⟩ := start_ex hF hb hs hg2
  have G2 := hg1.trans hg2
  clear hF hb hg1 hg2
  go_wp2_with fail
  refine (liv_put (L2.out.grew ((Chg.refl _ w2).alloc (.cells #[.int .u8 1, .int .u8 2] 5))) (by omega) (by simp) ⟨#[97]⟩ key_a (by decide) _ 2 2 [1, 2] (RB.newAt rfl rfl rfl) (by omega)).mono ?_
  rintro e w3 ⟨rfl, ⟨S3, L3, x3⟩, hc3⟩
  have G3 : Grew w w3 := liv_grow (G2.alloc (.cells #[.int .u8 1, .int .u8 2] 5)) hc3 hS2.out
  have hS3 : Hid (∀ k, S3 k → w.heap.size ≤ k) := ext_ge x3 hS2.out (G2.alloc (.cells #[.int .u8 1, .int .u8 2] 5)).size
  have L3 : Hid (Liv S3 w3 s [⟨⟨#[97]⟩, [1, 2], 1⟩] 3) := L3
  clear x3 hc3 L2 hS2 G2
  have hP := liv_putIf (L3.out.grew ((Chg.refl _ w3).alloc (.cells #[.int .u8 3, .int .u8 4] 5))) (by omega) (by simp) ⟨#[97]⟩ key_a (by decide) (some ⟨w3.heap.size, 0, none⟩) 2 2 [3, 4] (RB.newAt rfl rfl rfl) (by omega)
  rw [show genO [(⟨⟨#[97]⟩, [1, 2], 1⟩ : OEnt)] ⟨#[97]⟩ = 1 from gen_one _] at hP
  go_wp2_with fail
  refine hP.mono ?_
  rintro e w4 ⟨rfl, ⟨S4, L4, x4⟩, hc4⟩
  have G4 : Grew w w4 := liv_grow (G3.alloc (.cells #[.int .u8 3, .int .u8 4] 5)) hc4 hS3.out
  have hS4 : Hid (∀ k, S4 k → w.heap.size ≤ k) := ext_ge x4 hS3.out (G3.alloc (.cells #[.int .u8 3, .int .u8 4] 5)).size
  have L4 : Hid (Liv S4 w4 s [⟨⟨#[97]⟩, [3, 4], 2⟩] 6) := by
    have e : setO [(⟨⟨#[97]⟩, [1, 2], 1⟩ : OEnt)] ⟨⟨#[97]⟩, [3, 4], 1 + 1⟩ = [⟨⟨#[97]⟩, [3, 4], 2⟩] := set_one _ _ rfl
    rw [e] at L4
    exact L4
  clear x4 hc4 L3 hS3 G3 hP
  have hN := liv_putIf_no L4.out ⟨#[97]⟩ key_a none 0 0 (by omega) 1 (by rw [show genO [(⟨⟨#[97]⟩, [3, 4], 2⟩ : OEnt)] ⟨#[97]⟩ = 2 from gen_one _]; decide)
  rw [show genO [(⟨⟨#[97]⟩, [3, 4], 2⟩ : OEnt)] ⟨#[97]⟩ = 2 from gen_one _] at hN
  go_wp2_with fail
  refine hN.mono ?_
  rintro e w5 ⟨rfl, g5⟩
  have L5 := Lib.hid (L4.out.grew g5)
  have G5 := G4.trans g5
  clear hN L4 G4 g5
  have hG := liv_get L5.out ⟨#[97]⟩ key_a
  rw [show lookO [(⟨⟨#[97]⟩, [3, 4], 2⟩ : OEnt)] ⟨#[97]⟩ = some ⟨⟨#[97]⟩, [3, 4], 2⟩ from look_one _] at hG
  go_wp2_with fail
  refine hG.mono ?_
  rintro e w6 ⟨X, cx, rfl, hX, _, hXb, g6⟩
  have hX : RB w6 X 2 [3, 4] := hX
  have L6 := Lib.hid (L5.out.grew g6)
  have G6 := G5.trans g6
  have hSl := liv_slice L6.out ⟨#[97]⟩ key_a (show lookO [(⟨⟨#[97]⟩, [3, 4], 2⟩ : OEnt)] ⟨#[97]⟩ = some ⟨⟨#[97]⟩, [3, 4], 2⟩ from look_one _) 1 2 (by omega) (by decide)
  clear hG L5
  go_wp2_with fail
  refine hSl.mono ?_
  rintro e w7 ⟨Y, cy, rfl, hY, g7⟩
  have hY : RB w7 Y 1 [4] := hY.rb
  have hX := hX.grew g7
  have L7 := Lib.hid (L6.out.grew g7)
  have G7 := G6.trans g7
  have hLi := liv_list L7.out (by simp) ⟨#[]⟩ (by decide)
  rw [show keysO [(⟨⟨#[97]⟩, [3, 4], 2⟩ : OEnt)] ⟨#[]⟩ = [⟨#[97]⟩] from keys_one _] at hLi
  clear hSl L6
  go_wp2_with fail
  refine hLi.mono ?_
  rintro e w8 ⟨Z, cz, rfl, hZ, g8⟩
  have hZ : RE elNm w8 Z 1 [⟨#[97]⟩] := hZ.re (by decide)
  have hX := hX.grew g8
  have hY := hY.grew g8
  have L8 := Lib.hid (L7.out.grew g8)
  have G8 := G7.trans g8
  clear hLi L7
  go_wp2_with fail
  refine (sameBytes_yes X _ 2 2 cx 2 [3, 4] _ (by exact hX.grew ((Chg.refl _ w8).alloc _)) (by exact RB.newAt rfl rfl rfl) (by omega) (by omega)).mono ?_
  rintro e w9 ⟨rfl, k, rfl⟩
  have g9 : Grew w8 ((w8.alloc (.cells #[.int .u8 3, .int .u8 4] 5)).drewN k) := ((Chg.refl _ w8).alloc _).drewN k
  generalize ((w8.alloc (.cells #[.int .u8 3, .int .u8 4] 5)).drewN k) = w9 at *
  go_wp2_with fail
  refine (sameBytes_yes Y _ 1 1 cy 1 [4] _ (by exact (hY.grew g9).grew ((Chg.refl _ w9).alloc _)) (by exact RB.newAt rfl rfl rfl) (by omega) (by omega)).mono ?_
  rintro e w10 ⟨rfl, k2, rfl⟩
  have g10 : Grew w8 ((w9.alloc (.cells #[.int .u8 4] 5)).drewN k2) := (g9.alloc _).drewN k2
  generalize ((w9.alloc (.cells #[.int .u8 4] 5)).drewN k2) = w10 at *
  go_wp2_with fail
  refine (sameTexts_any Z _ 1 1 cz 1 [⟨#[97]⟩] [⟨#[97]⟩] _ (by exact (hZ.grew g10).grew ((Chg.refl _ w10).alloc _)) (by exact RE.newAt rfl rfl rfl) (by omega) (by omega)).mono ?_
  rintro e w11 ⟨rfl, k3, rfl⟩
  have g11 : Grew w8 ((w10.alloc (.cells #[.string ⟨#[97]⟩] 9)).drewN k3) := (g10.alloc _).drewN k3
  generalize ((w10.alloc (.cells #[.string ⟨#[97]⟩] 9)).drewN k3) = w11 at *
  have L11 := L8.out.grew g11
  have hD := liv_delete L11 (by omega) (i := 0) (o := ⟨⟨#[97]⟩, [3, 4], 2⟩) rfl
  have L11 := Lib.hid L11
  simp only [decide_true]
  go_wp2_with fail
  refine hD.mono ?_
  rintro e w12 ⟨rfl, L12, hc12⟩
  have G12 : Grew w w12 := liv_grow (G8.trans g11) hc12 hS4.out
  have hE := liv_delete_none L12 ⟨#[97]⟩ key_a (by simp)
  clear hD
  have L12 := Lib.hid L12
  go_wp2_with fail
  refine hE.mono ?_
  rintro e w13 ⟨rfl, rfl⟩
  go_wp2
  go_ret
  exact ⟨by simp, G12⟩
end Go.Proofs.YtepncgeaehjhiaaGreat

namespace Go.Proofs.YtepncgeaehjhiaaGreat
open Go.RowKit

set_option maxHeartbeats 4000000 in
theorem rName_any (x : ByteArray) (w : World) : Calls Tryz.prog 69 #[.string x] w fun e w' => e = .returned (.bool (nameB x)) ∧ w = w' := by
  obtain ⟨n, hn⟩ : ∃ n, x.size = n := ⟨_, rfl⟩
  by_cases h0 : n < 1
  · have hF : nameB x = false := by
      unfold nameB
      rw [hn, decide_eq_false (by omega)]
      rfl
    rw [hF]
    have e0 : decide ((n : Int) < 1) = true := decide_eq_true (by omega)
    clear hF h0
    go_enter Tryz.func69, Tryz.ntmps69
    go_wp2
    go_ret
    exact ⟨by simp, rfl⟩
  have e0 : decide ((n : Int) < 1) = false := decide_eq_false (by omega)
  by_cases h64 : 64 < n
  · have hF : nameB x = false := by
      unfold nameB
      rw [hn, decide_eq_false (p := n ≤ 64) (by omega)]
      simp
    rw [hF]
    have e64 : decide ((64 : Int) < (n : Int)) = true := decide_eq_true (by omega)
    clear hF h0 h64
    go_enter Tryz.func69, Tryz.ntmps69
    go_wp2
    go_ret
    exact ⟨by simp, rfl⟩
  have e64 : decide ((64 : Int) < (n : Int)) = false := decide_eq_false (by omega)
  have h64' : n ≤ 64 := by omega
  have hB : Hid (nameB x = true ↔ ∀ (i : Nat) (h : i < x.size), okc (x[i]'h).toNat) := by
    constructor
    · intro h
      exact ((nameB_iff x).1 h).2.2
    · intro h
      exact (nameB_iff x).2 ⟨by omega, by omega, h⟩
  obtain ⟨b, hb⟩ : ∃ b, nameB x = b := ⟨_, rfl⟩
  rw [hb] at hB ⊢
  clear h0 h64 hb
  go_enter Tryz.func69, Tryz.ntmps69
  go_wp2
  go_loopw [3] (fun si wr => ∃ j : Nat, si = .int .i64 (j : Int) ∧ j ≤ n ∧ w = wr ∧ Hid (∀ (i : Nat) (h : i < x.size), i < j → okc (x[i]'h).toNat)) (fun si _ => n - (intOf si).toNat)
  case atStart => exact ⟨0, rfl, by omega, rfl, fun i h h' => by omega⟩
  case round =>
    obtain ⟨j, rfl, hj, rfl, Hok⟩ := hrel
    by_cases hlt : j < n
    · obtain ⟨zn, hzn⟩ : ∃ zn : Nat, (x[j]'(by omega)).toNat = zn := ⟨_, rfl⟩
      have hzb : zn ≤ 255 := by
        have := (x[j]'(by omega)).toNat_lt
        omega
      have hz : ∀ h, ((x[j]'h).toNat : Int) = (zn : Int) := fun h => by rw [← hzn]
      by_cases hc : okc zn
      · have Hok' : Hid (∀ (i : Nat) (h : i < x.size), i < j + 1 → okc (x[i]'h).toNat) := fun i h h' => by
          by_cases hij : i = j
          · subst hij
            rw [hzn]
            exact hc
          · exact Hok.out i h (by omega)
        unfold okc at hc
        clear hzn
        rcases hc with ⟨k1, k2⟩ | ⟨k1, k2⟩ | rfl | rfl | rfl
        · have t1 : decide ((97 : Int) ≤ (zn : Int)) = true := decide_eq_true (by omega)
          have t2 : decide ((zn : Int) ≤ 122) = true := decide_eq_true (by omega)
          go_wp2
          go_roundw
          case rel => exact ⟨j + 1, by go_num, by omega, trivial, Hok'⟩
          case measure => simp [intOf]; omega
        · have t1 : decide ((97 : Int) ≤ (zn : Int)) = false := decide_eq_false (by omega)
          have t2 : decide ((48 : Int) ≤ (zn : Int)) = true := decide_eq_true (by omega)
          have t3 : decide ((zn : Int) ≤ 57) = true := decide_eq_true (by omega)
          go_wp2
          go_roundw
          case rel => exact ⟨j + 1, by go_num, by omega, trivial, Hok'⟩
          case measure => simp [intOf]; omega
        all_goals
          go_wp2
          go_roundw
          case rel => exact ⟨j + 1, by go_num, by omega, trivial, Hok'⟩
          case measure => simp [intOf]; omega
      · have hbf : b = false := by
          cases b with
          | false => rfl
          | true => exact absurd (hzn ▸ hB.out.1 rfl j (by omega)) hc
        subst hbf
        unfold okc at hc
        have u1 : ((zn : Int) == 47) = false := by simp; omega
        have u2 : ((zn : Int) == 46) = false := by simp; omega
        have u3 : ((zn : Int) == 45) = false := by simp; omega
        clear hzn
        by_cases k1 : zn < 97
        · have t1 : decide ((97 : Int) ≤ (zn : Int)) = false := decide_eq_false (by omega)
          by_cases k2 : zn < 48
          · have t2 : decide ((48 : Int) ≤ (zn : Int)) = false := decide_eq_false (by omega)
            clear hc k1 k2
            go_wp2
            go_ret
            exact ⟨by simp, rfl⟩
          · have t2 : decide ((48 : Int) ≤ (zn : Int)) = true := decide_eq_true (by omega)
            have t3 : decide ((zn : Int) ≤ 57) = false := decide_eq_false (by omega)
            clear hc k1 k2
            go_wp2
            go_ret
            exact ⟨by simp, rfl⟩
        · have t1 : decide ((97 : Int) ≤ (zn : Int)) = true := decide_eq_true (by omega)
          have t2 : decide ((zn : Int) ≤ 122) = false := decide_eq_false (by omega)
          have t3 : decide ((48 : Int) ≤ (zn : Int)) = true := decide_eq_true (by omega)
          have t4 : decide ((zn : Int) ≤ 57) = false := decide_eq_false (by omega)
          clear hc k1
          go_wp2
          go_ret
          exact ⟨by simp, rfl⟩
    · obtain rfl : j = n := by omega
      have hbt : b = true := hB.out.2 fun i h => Hok.out i h (by omega)
      subst hbt
      go_wp2
      go_ret
      exact ⟨by simp, rfl⟩

theorem pre2 (x p : ByteArray) (hp : p.size = 2) (_h : 2 ≤ x.size) : Lib.hasPrefix (lst x) (lst p) = decide (x.extract 0 2 = p) := by
  have h1 : lst (x.extract 0 2) = (lst x).take 2 := by
    show (x.extract 0 2).data.toList = _
    rw [Lib.extract_data]
    rfl
  have h2 : x.extract 0 2 = p ↔ (lst x).take 2 = lst p := by rw [← lst_inj, h1]
  have hl := lst_length p
  have hx := lst_length x
  unfold Lib.hasPrefix
  rw [Bool.eq_iff_iff, List.isPrefixOf_iff_prefix, decide_eq_true_iff, h2, List.prefix_iff_eq_take, hl, hp]
  exact eq_comm
theorem pre_short (x p : ByteArray) (hp : p.size = 2) (h : x.size < 2) : Lib.hasPrefix (lst x) (lst p) = false := by
  cases hb : Lib.hasPrefix (lst x) (lst p) with
  | false => rfl
  | true =>
    unfold Lib.hasPrefix at hb
    have := (List.isPrefixOf_iff_prefix.1 hb).length_le
    rw [lst_length, lst_length] at this
    omega

set_option maxHeartbeats 2000000 in
theorem rKey_any (x : ByteArray) (w : World) : Calls Tryz.prog 56 #[.string x] w fun e w' => e = .returned (.bool (keyB x)) ∧ w = w' := by
  have hN := rName_any x
  obtain ⟨n, hn⟩ : ∃ n, x.size = n := ⟨_, rfl⟩
  unfold keyB
  rw [hn]
  by_cases h56 : 56 < n
  · have e0 : decide ((56 : Int) < (n : Int)) = true := decide_eq_true (by omega)
    rw [decide_eq_false (p := n ≤ 56) (by omega)]
    clear h56 hN
    go_enter Tryz.func56, Tryz.ntmps56
    go_wp2
    go_ret
    exact ⟨by simp, rfl⟩
  have e0 : decide ((56 : Int) < (n : Int)) = false := decide_eq_false (by omega)
  rw [decide_eq_true (p := n ≤ 56) (by omega)]
  generalize nameB x = b at *
  by_cases h2 : n < 2
  · have e2 : decide ((n : Int) < 2) = true := decide_eq_true (by omega)
    rw [pre_short x oN rfl (by omega), pre_short x tN rfl (by omega)]
    clear h56
    go_enter Tryz.func56, Tryz.ntmps56
    go_wp2_with fail
    refine (hN _).mono ?_
    rintro e w1 ⟨rfl, rfl⟩
    cases b
    · go_wp2
      go_ret
      exact ⟨by simp, rfl⟩
    · go_wp2
      go_ret
      exact ⟨by simp, rfl⟩
  · have e2 : decide ((n : Int) < 2) = false := decide_eq_false (by omega)
    have hn2 : 2 ≤ n := by omega
    rw [pre2 x oN rfl (by omega), pre2 x tN rfl (by omega)]
    clear h56 h2
    unfold oN tN
    by_cases p1 : x.extract 0 2 = ⟨#[111, 47]⟩
    · rw [decide_eq_true p1]
      go_enter Tryz.func56, Tryz.ntmps56
      go_wp2_with fail
      refine (hN _).mono ?_
      rintro e w1 ⟨rfl, rfl⟩
      clear hN
      cases b
      · go_wp2
        go_ret
        exact ⟨by simp, rfl⟩
      · go_wp2
        go_ret
        exact ⟨by simp, rfl⟩
    · rw [decide_eq_false p1]
      have q1 : ((x.extract 0 2).toList == [111, 47]) = false := by
        rw [beq_eq_false_iff_ne]
        intro h
        exact p1 (lst_inj.1 (by rw [ByteArray.toList_eq] at h; exact h))
      have q2 : ((x.extract 0 2).toList == [116, 47]) = decide (x.extract 0 2 = ⟨#[116, 47]⟩) := by
        rw [Bool.eq_iff_iff, beq_iff_eq, decide_eq_true_iff, ByteArray.toList_eq]
        exact lst_inj (b := ⟨#[116, 47]⟩)
      generalize decide (x.extract 0 2 = ⟨#[116, 47]⟩) = b2 at *
      clear p1
      go_enter Tryz.func56, Tryz.ntmps56
      go_wp2_with fail
      refine (hN _).mono ?_
      rintro e w1 ⟨rfl, rfl⟩
      clear hN
      cases b
      · go_wp2
        go_ret
        exact ⟨by simp, rfl⟩
      · cases b2
        · go_wp2
          go_ret
          exact ⟨by simp, rfl⟩
        · go_wp2
          go_ret
          exact ⟨by simp, rfl⟩

end Go.Proofs.YtepncgeaehjhiaaGreat
