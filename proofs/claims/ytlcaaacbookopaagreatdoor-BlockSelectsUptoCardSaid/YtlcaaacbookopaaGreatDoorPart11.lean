/-
  Several texts in one:
  Plain laws of the sum of bytes: step by step, four at a time, and that a turned bit turns it. Conditions: none; no program in sight.
  Package codec and its reference: the sum of bytes. Conditions: lengths that memory bears.
  Package codec and its reference: frames laid. Conditions: lengths that memory bears.
  Package codec and its reference: frames read. Conditions: lengths that memory bears.
  The codec's reference: frames read; the statements' awake. Conditions: lengths that memory bears.
  bytes.Equal: whether two rows of bytes are alike. Conditions: none.
-/
import Derived.Laws.BitsAllLaws
import Derived.Test.YtlcaaacbookopaaGreatDoorPart8
import Derived.Deep.MidRow
import Derived.Test.YtlcaaacbookopaaGreatDoorPart10
import Derived.Deep.CutRange
import Derived.Deep.RegionWith
import Derived.Deep.DrawnRows

namespace Go.Proofs.YtlcaaacbookopaaGreatDoor

/-- one step of the sum -/
def cs (c : Nat) : Nat := if c % 2 = 1 then (c / 2) ^^^ 3988292384 else c / 2
def cs4 (c : Nat) : Nat := cs (cs (cs (cs c)))
/-- a byte more -/
def crcB (c x : Nat) : Nat := cs4 (cs4 (c ^^^ x))
def crcL (c : Nat) (l : List UInt8) : Nat := l.foldl (fun c x => crcB c x.toNat) c
/-- the sum of bytes -/
def crc (l : List UInt8) : Nat := crcL 4294967295 l ^^^ 4294967295

theorem cs_lt {c : Nat} (h : c < 4294967296) : cs c < 4294967296 := by
  unfold cs
  split
  · exact Nat.xor_lt_two_pow (n := 32) (by omega) (by decide)
  · omega
theorem cs4_lt {c : Nat} (h : c < 4294967296) : cs4 c < 4294967296 := cs_lt (cs_lt (cs_lt (cs_lt h)))
theorem xor_lt32 {a b : Nat} (h : a < 4294967296) (h2 : b < 4294967296) : a ^^^ b < 4294967296 := Nat.xor_lt_two_pow (n := 32) h h2
theorem crcB_lt {c x : Nat} (h : c < 4294967296) (h2 : x < 4294967296) : crcB c x < 4294967296 := cs4_lt (cs4_lt (xor_lt32 h h2))
theorem crcL_lt (l : List UInt8) : ∀ {c : Nat}, c < 4294967296 → crcL c l < 4294967296 := by
  induction l with
  | nil => intro c h; exact h
  | cons x l ih => intro c h; exact ih (crcB_lt h (by have := x.toNat_lt; omega))
theorem crc_lt (l : List UInt8) : crc l < 4294967296 := xor_lt32 (crcL_lt l (by decide)) (by decide)
theorem xor_half (a b : Nat) : (a ^^^ b) / 2 = (a / 2) ^^^ (b / 2) := by
  apply Nat.eq_of_testBit_eq
  intro i
  rw [Nat.testBit_div_two, Nat.testBit_xor, Nat.testBit_xor, Nat.testBit_div_two, Nat.testBit_div_two]
theorem xor_par (a b : Nat) : (a ^^^ b) % 2 = (a + b) % 2 := by
  have h : (a ^^^ b).testBit 0 = ((a.testBit 0) ^^ (b.testBit 0)) := Nat.testBit_xor a b 0
  rw [Nat.testBit_zero, Nat.testBit_zero, Nat.testBit_zero] at h
  rcases Nat.mod_two_eq_zero_or_one a with h1 | h1 <;> rcases Nat.mod_two_eq_zero_or_one b with h2 | h2 <;> rcases Nat.mod_two_eq_zero_or_one (a ^^^ b) with h3 | h3 <;>
    first
      | omega
      | (rw [h1, h2, h3] at h; exact absurd h (by decide))
theorem cs_xor (a b : Nat) : cs (a ^^^ b) = cs a ^^^ cs b := by
  unfold cs
  rw [xor_par, xor_half]
  rcases Nat.mod_two_eq_zero_or_one a with h1 | h1 <;> rcases Nat.mod_two_eq_zero_or_one b with h2 | h2
  · rw [if_neg (by omega), if_neg (by omega), if_neg (by omega)]
  · rw [if_pos (by omega), if_neg (by omega), if_pos (by omega), Nat.xor_assoc]
  · rw [if_pos (by omega), if_pos (by omega), if_neg (by omega), Nat.xor_assoc, Nat.xor_assoc, Nat.xor_comm (b / 2)]
  · rw [if_neg (by omega), if_pos (by omega), if_pos (by omega)]
    have : ∀ p q r : Nat, (p ^^^ r) ^^^ (q ^^^ r) = p ^^^ q := fun p q r => by
      rw [Nat.xor_assoc, ← Nat.xor_assoc r q r, Nat.xor_comm r q, Nat.xor_assoc q r r, Nat.xor_self, Nat.xor_zero]
    rw [this]
theorem cs4_xor (a b : Nat) : cs4 (a ^^^ b) = cs4 a ^^^ cs4 b := by unfold cs4; simp only [cs_xor]
theorem cs_double (q : Nat) : cs (2 * q) = q := by unfold cs; rw [if_neg (by omega)]; omega
theorem cs4_16 (q : Nat) : cs4 (16 * q) = q := by
  unfold cs4
  rw [show 16 * q = 2 * (2 * (2 * (2 * q))) from by omega]
  simp only [cs_double]
/-- four steps at once, by a table of sixteen -/
theorem cs4_tab (c : Nat) : cs4 c = (c / 16) ^^^ cs4 (c % 16) := by
  have h : c = (16 * (c / 16)) ^^^ (c % 16) := by
    have h1 := nat_join 4 (16 * (c / 16)) (c % 16) (by omega) (by omega)
    have h2 : (16 * (c / 16)) ^^^ (c % 16) = (16 * (c / 16)) ||| (c % 16) := by
      apply Nat.eq_of_testBit_eq
      intro i
      rw [Nat.testBit_xor, Nat.testBit_or]
      by_cases hi : i < 4
      · have : (16 * (c / 16)).testBit i = false := by
          rw [show 16 * (c / 16) = (c / 16) * 2 ^ 4 from by omega, Nat.testBit_mul_two_pow]
          simp; omega
        simp [this]
      · have : (c % 16).testBit i = false := Nat.testBit_lt_two_pow (Nat.lt_of_lt_of_le (Nat.mod_lt _ (by omega)) (Nat.pow_le_pow_right (show 2 > 0 by omega) (show 4 ≤ i by omega)))
        simp [this]
    rw [h2, h1]
    omega
  conv => lhs; rw [h]
  rw [cs4_xor, cs4_16]

theorem cs_zero {c : Nat} (h : c < 4294967296) (h0 : cs c = 0) : c = 0 := by
  unfold cs at h0
  split at h0
  · have : c / 2 = 3988292384 := by
      have h1 := congrArg (· ^^^ 3988292384) h0
      simp only [Nat.xor_assoc, Nat.xor_self, Nat.xor_zero, Nat.zero_xor] at h1
      exact h1
    omega
  · omega
theorem cs4_zero {c : Nat} (h : c < 4294967296) (h0 : cs4 c = 0) : c = 0 :=
  cs_zero h (cs_zero (cs_lt h) (cs_zero (cs_lt (cs_lt h)) (cs_zero (cs_lt (cs_lt (cs_lt h))) h0)))
theorem xor_eq_zero {a b : Nat} (h : a ^^^ b = 0) : a = b := by
  have h1 := congrArg (· ^^^ b) h
  simp only [Nat.xor_assoc, Nat.xor_self, Nat.xor_zero, Nat.zero_xor] at h1
  exact h1
theorem crcB_diff (c d x y : Nat) : crcB c x ^^^ crcB d y = cs4 (cs4 ((c ^^^ d) ^^^ (x ^^^ y))) := by
  unfold crcB
  rw [← cs4_xor, ← cs4_xor]
  congr 2
  rw [Nat.xor_assoc, ← Nat.xor_assoc x d y, Nat.xor_comm x d, Nat.xor_assoc d x y, ← Nat.xor_assoc]
theorem crcB_inj {c d x : Nat} (hc : c < 4294967296) (hd : d < 4294967296) (h : crcB c x = crcB d x) : c = d := by
  have h1 := crcB_diff c d x x
  rw [h, Nat.xor_self, Nat.xor_self, Nat.xor_zero] at h1
  exact xor_eq_zero (cs4_zero (xor_lt32 hc hd) (cs4_zero (cs4_lt (xor_lt32 hc hd)) h1.symm))
theorem crcB_inj2 {c x y : Nat} (hx : x < 4294967296) (hy : y < 4294967296) (h : crcB c x = crcB c y) : x = y := by
  have h1 := crcB_diff c c x y
  rw [h, Nat.xor_self, Nat.xor_self, Nat.zero_xor] at h1
  exact xor_eq_zero (cs4_zero (xor_lt32 hx hy) (cs4_zero (cs4_lt (xor_lt32 hx hy)) h1.symm))
theorem crcL_inj (l : List UInt8) : ∀ {c d : Nat}, c < 4294967296 → d < 4294967296 → crcL c l = crcL d l → c = d := by
  induction l with
  | nil => intro c d _ _ h; exact h
  | cons x l ih =>
    intro c d hc hd h
    have hx := x.toNat_lt
    exact crcB_inj hc hd (ih (crcB_lt hc (by omega)) (crcB_lt hd (by omega)) h)
theorem crcL_append (c : Nat) (a b : List UInt8) : crcL c (a ++ b) = crcL (crcL c a) b := by unfold crcL; rw [List.foldl_append]
/-- one byte that differs makes another sum -/
theorem crc_turned (a b : List UInt8) (x y : UInt8) (h : x ≠ y) : crc (a ++ x :: b) ≠ crc (a ++ y :: b) := by
  intro e
  unfold crc at e
  have e1 : crcL 4294967295 (a ++ x :: b) = crcL 4294967295 (a ++ y :: b) := by
    have h1 := congrArg (· ^^^ 4294967295) e
    simp only [Nat.xor_assoc, Nat.xor_self, Nat.xor_zero] at h1
    exact h1
  rw [crcL_append, crcL_append] at e1
  have hc := crcL_lt a (c := 4294967295) (by decide)
  generalize crcL 4294967295 a = c at e1 hc
  have hx := x.toNat_lt
  have hy := y.toNat_lt
  have e2 : crcB c x.toNat = crcB c y.toNat := crcL_inj b (crcB_lt hc (by omega)) (crcB_lt hc (by omega)) e1
  exact h (UInt8.toNat_inj.1 (crcB_inj2 (by omega) (by omega) e2))
end Go.Proofs.YtlcaaacbookopaaGreatDoor

namespace Go.Proofs.YtlcaaacbookopaaGreatDoor
open Go.RowKit

theorem and1u32 (v : Nat) (h : v < 4294967296) : bits .and .u32 (v : Int) 1 = ((v % 2 : Nat) : Int) := by
  have := u32_and_nat v 1 h (by omega)
  rw [show ((1 : Nat) : Int) = 1 from rfl] at this
  rw [this, nat_mask1]
theorem and15u32 (v : Nat) (h : v < 4294967296) : bits .and .u32 (v : Int) 15 = ((v % 16 : Nat) : Int) := by
  have := u32_and_nat v 15 h (by omega)
  rw [show ((15 : Nat) : Int) = 15 from rfl] at this
  rw [this, nat_mask4]
theorem xorP (v : Nat) (h : v < 4294967296) : bits .xor .u32 ((v : Int) / 2) 3988292384 = ((v / 2 ^^^ 3988292384 : Nat) : Int) := by
  have := u32_xor_nat (v / 2) 3988292384 (by omega) (by omega)
  rw [show ((3988292384 : Nat) : Int) = 3988292384 from rfl] at this
  rw [← this]
  simp

/-- so many steps -/
def csN : Nat → Nat → Nat
  | 0, x => x
  | n + 1, x => csN n (cs x)
/-- the table: a word's four steps, of each number below sixteen -/
def tabV (n : Nat) : Value := .int .u32 (cs4 n : Int)
def tabA : Array Value := #[tabV 0, tabV 1, tabV 2, tabV 3, tabV 4, tabV 5, tabV 6, tabV 7, tabV 8, tabV 9, tabV 10, tabV 11, tabV 12, tabV 13, tabV 14, tabV 15]

/-- the table as it is filled: the first n words, then noughts -/
def tabN (n : Nat) : Array Value := ((List.range 16).map fun i => if i < n then tabV i else .int .u32 0).toArray
theorem tabN_set (n : Nat) (_ : n < 16) : (tabN n).setIfInBounds n (tabV n) = tabN (n + 1) := by
  apply Array.ext
  · simp [tabN]
  · intro i h1 h2
    have h0 : i < (tabN n).size := by simpa using h1
    simp only [tabN, List.size_toArray, List.length_map, List.length_range] at h2
    rw [Array.getElem_setIfInBounds h0]
    split
    · rename_i e
      subst e
      simp [tabN]
    · rename_i e
      simp only [tabN, List.getElem_toArray, List.getElem_map, List.getElem_range]
      by_cases h3 : i < n
      · rw [if_pos h3, if_pos (by omega)]
      · rw [if_neg h3, if_neg (by omega)]

theorem Blk.newAt {w : World} {B : Nat} {cs cs' : Array Value} {t : TypeId} (hB : B = w.heap.size) (hc : cs' = cs) : Blk (w.alloc (.cells cs' t)) B t cs := by
  subst hB; subst hc
  exact Blk.new w t _
theorem Blk.there {w : World} {g : Nat} {t : TypeId} {cs : Array Value} (h : Blk w g t cs) : w.there g 0 cs.size := fun j hj => by
  rw [Nat.zero_add]
  exact ⟨by rw [h.cell, Array.getElem?_eq_getElem hj]; rfl, h.frozen j⟩
def setAll (cs : Array Value) (o : Nat) : List Value → Array Value
  | [] => cs
  | v :: vs => setAll (cs.setIfInBounds o v) (o + 1) vs
theorem Blk.setCells {g : Nat} {t : TypeId} (vs : List Value) : ∀ {w : World} {cs : Array Value} (o : Nat), Blk w g t cs → Blk (w.setCells g o vs) g t (setAll cs o vs) := by
  induction vs with
  | nil => intro w cs o h; exact h
  | cons v vs ih => intro w cs o h; exact ih (o + 1) (h.set o v)
theorem Chg.setCells {S : Nat → Prop} {a : World} {g : Nat} (hg : a.heap.size ≤ g ∨ S g) (vs : List Value) : ∀ {b : World} (o : Nat), Chg S a b → Chg S a (b.setCells g o vs) := by
  induction vs with
  | nil => intro b o h; exact h
  | cons v vs ih => intro b o h; exact ih (o + 1) (h.setCell (p := ⟨g, o, none⟩) hg v)

/-- a whole row stored over a block known whole; the world behind it is a name -/
theorem wpList_store_blk {P : Program} {ops : Array Oper} {rest : List Oper} {op : Oper} {a : Act} {w : World} {Q : Exit → Act → World → Prop} (hgd : op.guard = none) (ty : TypeId) (x y : Operand) (ho : op.op = .store ty x y)
    (g : Nat) (cells old : Array Value) (t : TypeId) (hx : a.eval x = .pointer (some ⟨g, 0, none⟩)) (hy : a.eval y = .agg cells) (hb : Blk w g t old) (hsz : old.size = cells.size)
    (hall : setAll old 0 cells.toList = cells) (hi : (P.info? ty).map (·.size) = some cells.size) (h1 : cells.all (·.oneCell') = true)
    (h : ∀ w', Blk w' g t cells → Chg (fun k => k = g) w w' → wpList P ops Q rest (a.put op.dst undef) w') : wpList P ops Q (op :: rest) a w := by
  refine wpList_store_mid hgd ty x y ho g 0 cells hx hy (by rw [← hsz]; exact hb.there) hi h1 (h _ ?_ (Chg.setCells (S := fun k => k = g) (.inr rfl) _ _ (Chg.refl _ w)))
  have := Blk.setCells cells.toList 0 hb
  rwa [hall] at this

set_option maxRecDepth 100000 in
set_option maxHeartbeats 1000000 in
theorem table_any (w : World) : Calls Tryz.prog 101 #[] w fun e w' => e = .returned (.agg tabA) ∧ Grew w w' := by
  go_enter Tryz.func101, Tryz.ntmps101
  go_wp2
  go_loopw [5] (fun si wr => ∃ i : Nat, si = .int .i64 (i : Int) ∧ i ≤ 16 ∧ Blk wr (w.heap.size + 1) 150 (tabN i) ∧ Blk wr w.heap.size 150 (tabN 0) ∧ Grew w wr) (fun si _ => 16 - (intOf si).toNat)
  case atStart => exact ⟨0, rfl, by omega, by refine Blk.newAt (w := w.alloc (.cells (tabN 0) 150)) ?_ rfl; simp, (Blk.newAt (w := w) (cs' := tabN 0) rfl rfl).alloc (.cells (tabN 0) 150), ((Chg.refl _ w).alloc _).alloc _⟩
  case round =>
    obtain ⟨i, rfl, hi, hb, hb0, hg⟩ := hrel
    by_cases hlt : i < 16
    · go_wp2
      obtain ⟨wo, rfl⟩ : ∃ wo : World, wo = wr := ⟨_, rfl⟩
      go_loop [3, 4] (fun sc sk => ∃ (k u : Nat), sk = .int .i64 (k : Int) ∧ sc = .int .u32 (u : Int) ∧ k ≤ 4 ∧ u < 4294967296 ∧ Hid (csN (4 - k) u = cs4 i)) (fun _ sk => 4 - (intOf sk).toNat)
      case atStart => exact ⟨0, i, rfl, by simp, by omega, by omega, rfl⟩
      case round =>
        obtain ⟨k, u, rfl, rfl, hk, hu, Hu⟩ := hrel
        by_cases hlt2 : k < 4
        · have Hu2 : Hid (csN (4 - (k + 1)) (cs u) = cs4 i) := by
            show _ = _
            rw [← Hu.out, show 4 - k = (4 - (k + 1)) + 1 from by omega]
            rfl
          have hcs := cs_lt hu
          have ha := and1u32 u hu
          have Ha := Lib.hid ha
          clear ha Hu
          by_cases h2 : u % 2 = 1
          · have h3 : (bits .and .u32 (u : Int) 1 == 0) = false := by rw [Ha.out, h2]; rfl
            have he : bits .xor .u32 ((u : Int) / 2) 3988292384 = (cs u : Int) := by rw [xorP u hu]; unfold cs; rw [if_pos h2]
            clear h2 Ha
            go_wp2
            go_round
            case rel => exact ⟨k + 1, cs u, by go_num, by simp, by omega, hcs, Hu2⟩
            case measure => simp [intOf]; omega
          · have h3 : (bits .and .u32 (u : Int) 1 == 0) = true := by rw [Ha.out, show u % 2 = 0 from by omega]; rfl
            have he : cs u = u / 2 := by unfold cs; rw [if_neg h2]
            have He := Lib.hid he
            clear h2 Ha he
            go_wp2
            go_round
            case rel => exact ⟨k + 1, cs u, by go_num, by rw [He.out]; simp, by omega, hcs, Hu2⟩
            case measure => simp [intOf]; omega
        · obtain rfl : k = 4 := by omega
          have hu8 := Hu.out
          have Hu4 : Hid (u = cs4 i) := hu8
          have hci : wo.cell? ⟨w.heap.size + 1, i, none⟩ = some (.int .u32 0) := by
            rw [hb.cell]
            simp [tabN, hlt]
          have hfi := hb.frozen i
          clear Hu hu8
          have hbs := hb.set i (tabV i)
          rw [tabN_set i hlt] at hbs
          unfold tabV at hbs
          rw [← Hu4.out] at hbs
          have hb0s := hb0.far (p := ⟨w.heap.size + 1, i, none⟩) (show w.heap.size ≠ w.heap.size + 1 by omega) (.int .u32 (u : Int))
          have hgs := hg.setCell (p := ⟨w.heap.size + 1, i, none⟩) (.inl (show w.heap.size ≤ w.heap.size + 1 by omega)) (.int .u32 (u : Int))
          have Hbs := Lib.hid hbs
          have Hb0s := Lib.hid hb0s
          clear hbs hb0s Hu4
          go_wp2
          go_roundw
          case rel => exact ⟨i + 1, by go_num, by omega, Hbs.out, Hb0s.out, hgs⟩
          case measure => simp [intOf]; omega
    · obtain rfl : i = 16 := by omega
      rw [show tabN 16 = tabA from rfl] at hb
      have ht := hb0.there
      go_wp2_with (first | (refine wpList_load_row rfl 150 _ rfl (w.heap.size + 1) rfl 150 tabA (0, 0) _ hb Tryz.underlying150 rfl (by kernel_rfl) ?_) | (refine wpList_store_mid rfl 150 _ _ rfl w.heap.size 0 tabA rfl rfl (by exact ht) (by kernel_rfl) (by kernel_rfl) ?_))
      have hbr := Blk.setCells tabA.toList 0 hb0
      rw [show setAll (tabN 0) 0 tabA.toList = tabA from rfl] at hbr
      exact bodyPost_ret (results_cell_row rfl _ _ w.heap.size 150 tabA (0, 0) _ rfl hbr Tryz.underlying150 rfl (by kernel_rfl)) rfl ⟨rfl, Chg.setCells (.inl (Nat.le_refl _)) _ _ hg⟩

set_option maxRecDepth 100000 in
set_option maxHeartbeats 1000000 in
theorem sum_any (A : Option Addr) (m c : Nat) (l : List UInt8) (w : World) (h : RB w A m l) (hm : m ≤ 140737488355328) :
    Calls Tryz.prog 71 #[.slice A m c] w fun e w' => e = .returned (.int .u32 (crc l : Int)) ∧ Grew w w' := by
  go_enter Tryz.func71, Tryz.ntmps71
  go_wp2_with fail
  refine (table_any _).mono ?_
  rintro e w1 ⟨rfl, hg1⟩
  have h1 := h.grew hg1
  have hb0 : Blk (w1.alloc (.cells (tabN 0) 150)) w1.heap.size 150 (tabN 0) := Blk.newAt rfl rfl
  have ht := hb0.there
  go_wp2_with (refine wpList_store_blk rfl 150 _ _ rfl w1.heap.size tabA (tabN 0) 150 rfl rfl (by exact hb0) rfl rfl (by kernel_rfl) (by kernel_rfl) ?_; intro w2 hb hc2)
  have hg2 : Grew w1 w2 := ((Chg.refl _ w1).alloc (.cells (tabN 0) 150)).step hc2 (by rintro k hk rfl; omega)
  have h2 := h1.grew hg2
  have hg := hg1.trans hg2
  clear hg1 hg2 hc2 h1 hb0 ht h
  generalize w1.heap.size = g at hb ⊢
  go_loop [4, 10] (fun sc si => ∃ (i x : Nat), si = .int .i64 (i : Int) ∧ sc = .int .u32 (x : Int) ∧ i ≤ m ∧ x < 4294967296 ∧ Hid (crcL x (l.drop i) = crcL 4294967295 l)) (fun _ si => m - (intOf si).toNat)
  case atStart => exact ⟨0, 4294967295, rfl, rfl, by omega, by omega, rfl⟩
  case round =>
    obtain ⟨i, x, rfl, rfl, hi, hx, Hx⟩ := hrel
    by_cases hlt : i < m
    · obtain ⟨ad, y, rfl, hy, hc⟩ := h2.at_ hlt
      have hy8 := y.toNat_lt
      have hdr : l.drop i = y :: l.drop (i + 1) := by
        have h3 := List.getElem?_eq_some_iff.1 hy
        rw [← h3.2, List.getElem_cons_drop]
      have hx2 := Hx.out
      rw [hdr] at hx2
      have Hx2 := Lib.hid hx2
      clear hx2 hdr hy Hx
      have hxor : bits .xor .u32 (x : Int) (y.toNat : Int) = ((x ^^^ y.toNat : Nat) : Int) := u32_xor_nat _ _ hx (by omega)
      have hz : x ^^^ y.toNat < 4294967296 := xor_lt32 hx (by omega)
      have Hz : Hid (crcL (cs4 (cs4 (x ^^^ y.toNat))) (l.drop (i + 1)) = crcL 4294967295 l) := Hx2.out
      generalize x ^^^ y.toNat = z at hxor hz Hz
      clear Hx2
      have four : ∀ z : Nat, z < 4294967296 → ∃ q p r : Nat, q < 16 ∧ bits .and .u32 (z : Int) 15 = (q : Int) ∧ w2.cell? ⟨g, q, none⟩ = some (.int .u32 (p : Int)) ∧ bits .xor .u32 ((z : Int) / 16) (p : Int) = (r : Int) ∧ r < 4294967296 ∧ r = cs4 z := by
        intro z hz
        have hp : cs4 (z % 16) < 4294967296 := cs4_lt (by omega)
        refine ⟨z % 16, cs4 (z % 16), cs4 z, by omega, and15u32 z hz, ?_, ?_, cs4_lt hz, rfl⟩
        · rw [hb.cell]
          have hall : ∀ q, q < 16 → tabA[q]? = some (tabV q) := by
            intro q hq
            have : q = 0 ∨ q = 1 ∨ q = 2 ∨ q = 3 ∨ q = 4 ∨ q = 5 ∨ q = 6 ∨ q = 7 ∨ q = 8 ∨ q = 9 ∨ q = 10 ∨ q = 11 ∨ q = 12 ∨ q = 13 ∨ q = 14 ∨ q = 15 := by omega
            rcases this with rfl | rfl | rfl | rfl | rfl | rfl | rfl | rfl | rfl | rfl | rfl | rfl | rfl | rfl | rfl | rfl <;> rfl
          exact hall _ (by omega)
        · have h5 := u32_xor_nat (z / 16) (cs4 (z % 16)) (by omega) hp
          rw [← cs4_tab] at h5
          rw [← h5]
          simp
      obtain ⟨q1, p1, r1, hq1, ha1, hc1, hx1, hr1, e1⟩ := four z hz
      obtain ⟨q2, p2, r2, hq2, ha2, hc2, hx2, hr2, e2⟩ := four r1 hr1
      have Hz2 : Hid (crcL r2 (l.drop (i + 1)) = crcL 4294967295 l) := by
        show _ = _
        rw [e2, e1]
        exact Hz.out
      clear four e1 e2 Hz
      go_wp2
      go_round
      case rel => exact ⟨i + 1, r2, by go_num, by simp, by omega, hr2, Hz2⟩
      case measure => simp [intOf]; omega
    · have hd : l.drop i = [] := List.drop_of_length_le (by have := h2.1; omega)
      have hx2 := Hx.out
      rw [hd] at hx2
      have hfin : Hid (bits .xor .u32 IntKind.u32.max (x : Int) = (crc l : Int)) := by
        show _ = _
        have := u32_xor_nat 4294967295 x (by omega) hx
        rw [show ((4294967295 : Nat) : Int) = IntKind.u32.max from rfl, Nat.xor_comm] at this
        rw [this]
        unfold crc
        rw [← hx2]
        rfl
      clear hx2 hd Hx
      go_wp2
      go_ret
      exact ⟨by simp [hfin.out], hg⟩

set_option maxRecDepth 100000 in
set_option maxHeartbeats 1000000 in
theorem refSum_any (A : Option Addr) (m c : Nat) (l : List UInt8) (w : World) (h : RB w A m l) (hm : m ≤ 140737488355328) :
    Calls Tryz.prog 66 #[.slice A m c] w fun e w' => e = .returned (.int .u32 (crc l : Int)) ∧ w' = w := by
  go_enter Tryz.func66, Tryz.ntmps66
  go_wp2
  go_loop [3, 4] (fun sc si => ∃ (i x : Nat), si = .int .i64 (i : Int) ∧ sc = .int .u32 (x : Int) ∧ i ≤ m ∧ x < 4294967296 ∧ Hid (crcL x (l.drop i) = crcL 4294967295 l)) (fun _ si => m - (intOf si).toNat)
  case atStart => exact ⟨0, 4294967295, rfl, rfl, by omega, by omega, rfl⟩
  case round =>
    obtain ⟨i, x, rfl, rfl, hi, hx, Hx⟩ := hrel
    by_cases hlt : i < m
    · obtain ⟨ad, y, rfl, hy, hc⟩ := h.at_ hlt
      have hy8 := y.toNat_lt
      have hdr : l.drop i = y :: l.drop (i + 1) := by
        have h3 := List.getElem?_eq_some_iff.1 hy
        rw [← h3.2, List.getElem_cons_drop]
      have hx2 := Hx.out
      rw [hdr] at hx2
      have Hx2 := Lib.hid hx2
      clear hx2 hdr hy Hx
      have hxor : bits .xor .u32 (x : Int) (y.toNat : Int) = ((x ^^^ y.toNat : Nat) : Int) := u32_xor_nat _ _ hx (by omega)
      have hz : x ^^^ y.toNat < 4294967296 := xor_lt32 hx (by omega)
      have Hz : Hid (crcL (cs4 (cs4 (x ^^^ y.toNat))) (l.drop (i + 1)) = crcL 4294967295 l) := Hx2.out
      generalize x ^^^ y.toNat = z at hxor hz Hz
      clear Hx2
      go_wp2
      go_loop [3, 5] (fun sc sk => ∃ (k x : Nat), sk = .int .i64 (k : Int) ∧ sc = .int .u32 (x : Int) ∧ k ≤ 8 ∧ x < 4294967296 ∧ Hid (csN (8 - k) x = cs4 (cs4 z))) (fun _ sk => 8 - (intOf sk).toNat)
      case atStart => exact ⟨0, z, rfl, by simp, by omega, hz, rfl⟩
      case round =>
        obtain ⟨k, u, rfl, rfl, hk, hu, Hu⟩ := hrel
        by_cases hlt2 : k < 8
        · have Hu2 : Hid (csN (8 - (k + 1)) (cs u) = cs4 (cs4 z)) := by
            show _ = _
            rw [← Hu.out, show 8 - k = (8 - (k + 1)) + 1 from by omega]
            rfl
          have hcs := cs_lt hu
          have ha := and1u32 u hu
          have Ha := Lib.hid ha
          clear ha Hu
          by_cases h2 : u % 2 = 1
          · have h3 : (bits .and .u32 (u : Int) 1 == 1) = true := by rw [Ha.out, h2]; rfl
            have he : bits .xor .u32 ((u : Int) / 2) 3988292384 = (cs u : Int) := by rw [xorP u hu]; unfold cs; rw [if_pos h2]
            clear h2 Ha
            go_wp2
            go_round
            case rel => exact ⟨k + 1, cs u, by go_num, by simp, by omega, hcs, Hu2⟩
            case measure => simp [intOf]; omega
          · have h3 : (bits .and .u32 (u : Int) 1 == 1) = false := by rw [Ha.out, show u % 2 = 0 from by omega]; rfl
            have he : cs u = u / 2 := by unfold cs; rw [if_neg h2]
            have He := Lib.hid he
            clear h2 Ha he
            go_wp2
            go_round
            case rel => exact ⟨k + 1, cs u, by go_num, by rw [He.out]; simp, by omega, hcs, Hu2⟩
            case measure => simp [intOf]; omega
        · obtain rfl : k = 8 := by omega
          have hu8 := Hu.out
          have Hz2 : Hid (crcL u (l.drop (i + 1)) = crcL 4294967295 l) := by
            show _ = _
            rw [← Hz.out, ← hu8]
            rfl
          clear Hu hu8
          go_wp2
          go_round
          case rel => exact ⟨i + 1, u, by go_num, rfl, by omega, hu, Hz2⟩
          case measure => simp [intOf]; omega
    · have hd : l.drop i = [] := List.drop_of_length_le (by have := h.1; omega)
      have hx2 := Hx.out
      rw [hd] at hx2
      have hfin : Hid (bits .xor .u32 (x : Int) 4294967295 = (crc l : Int)) := by
        show _ = _
        have := u32_xor_nat x 4294967295 hx (by omega)
        rw [show ((4294967295 : Nat) : Int) = 4294967295 from rfl] at this
        rw [this]
        unfold crc
        rw [← hx2]
        rfl
      clear hx2 hd Hx
      go_wp2
      go_ret
      refine ⟨?_, rfl⟩
      rw [← hfin.out]
      simp
end Go.Proofs.YtlcaaacbookopaaGreatDoor

namespace Go.Proofs.YtlcaaacbookopaaGreatDoor
open Go.RowKit

/-- a sum's bytes -/
def four (s : Nat) : List UInt8 := [UInt8.ofNat (s / 16777216), UInt8.ofNat (s / 65536), UInt8.ofNat (s / 256), UInt8.ofNat s]
theorem byt_ofNat (n : Nat) : byt (UInt8.ofNat n) = .int .u8 ((n : Int) % 256) := by
  unfold byt
  rw [UInt8.toNat_ofNat']
  simp

/-- a sum's bytes as the walk lays them -/
def fourC (s : Nat) : Array Value := #[.int .u8 ((s : Int) / 16777216), .int .u8 ((s : Int) / 65536 % 256), .int .u8 ((s : Int) / 256 % 256), .int .u8 ((s : Int) % 256)]
theorem fourC_eq (s : Nat) (h : s < 4294967296) : fourC s = ((four s).map byt).toArray := by
  show _ = #[byt (UInt8.ofNat (s / 16777216)), byt (UInt8.ofNat (s / 65536)), byt (UInt8.ofNat (s / 256)), byt (UInt8.ofNat s)]
  rw [byt_ofNat, byt_ofNat, byt_ofNat, byt_ofNat]
  have e1 : (((s / 16777216 : Nat)) : Int) % 256 = (s : Int) / 16777216 := by omega
  have e2 : (((s / 65536 : Nat)) : Int) % 256 = (s : Int) / 65536 % 256 := by omega
  have e3 : (((s / 256 : Nat)) : Int) % 256 = (s : Int) / 256 % 256 := by omega
  rw [e1, e2, e3]
  rfl

theorem four_any (s : Nat) (w : World) (hs : s < 4294967296) : Calls Tryz.prog 65 #[.int .u32 (s : Int)] w fun e w' => ∃ A c, e = .returned (.slice A 4 c) ∧ OB w' w.heap.size 5 A 4 c (four s) ∧ Grew w w' := by
  have hf4 : OB (w.alloc (.cells (fourC s) 5)) w.heap.size 5 (some ⟨w.heap.size, 0, none⟩) 4 4 (four s) := by
    have := Own.lit w w.heap.size 5 1 4 (fourC s) (Nat.le_refl _) (by unfold maxLen; omega) rfl
    rw [fourC_eq s hs] at this ⊢
    exact this
  unfold fourC at hf4
  go_enter Tryz.func65, Tryz.ntmps65
  go_wp2
  go_ret
  exact ⟨_, _, by simp, hf4, (Chg.refl _ w).alloc _⟩

end Go.Proofs.YtlcaaacbookopaaGreatDoor

namespace Go.Proofs.YtlcaaacbookopaaGreatDoor
open Go.RowKit

end Go.Proofs.YtlcaaacbookopaaGreatDoor

namespace Go.Proofs.YtlcaaacbookopaaGreatDoor
open Go.RowKit

end Go.Proofs.YtlcaaacbookopaaGreatDoor

namespace Go.Proofs.YtlcaaacbookopaaGreatDoor
open Go.RowKit

set_option maxHeartbeats 400000 in
theorem bytesEqual_any (A B : Option Addr) (n m c d : Nat) (l r : List UInt8) (w : World) (ha : RB w A n l) (hb : RB w B m r) :
    Calls Tryz.prog 73 #[.slice A n c, .slice B m d] w fun e w' => e = .returned (.bool (l == r)) ∧ w = w' := by
  have h1 := run_conv_RB (P := Tryz.prog) (c := c) Tryz.underlying26 Tryz.underlying5 Tryz.underlying9 ha
  have h2 := run_conv_RB (P := Tryz.prog) (c := d) Tryz.underlying26 Tryz.underlying5 Tryz.underlying9 hb
  clear ha hb
  go_enter Tryz.func73, Tryz.ntmps73
  go_wp2
  go_ret
  exact ⟨by simp, rfl⟩
end Go.Proofs.YtlcaaacbookopaaGreatDoor
