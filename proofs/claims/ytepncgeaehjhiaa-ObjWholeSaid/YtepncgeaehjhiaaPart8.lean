/-
  Several texts in one:
  Plain laws of the sum of bytes: step by step, four at a time, and that a turned bit turns it. Conditions: none; no program in sight.
  Package codec and its reference: the sum of bytes. Conditions: lengths that memory bears.
  Package codec and its reference: frames laid. Conditions: lengths that memory bears.
  Package codec and its reference: frames read. Conditions: lengths that memory bears.
  A store over a disk of any number of files: what lies in it; an object read. Conditions: the power stays.
-/
import Derived.Laws.BitsAllLaws
import Derived.Test.YtepncgeaehjhiaaPart1
import Derived.Deep.MidRow
import Derived.Test.YtepncgeaehjhiaaPart7
import Derived.Deep.CutRange

namespace Go.Proofs.Ytepncgeaehjhiaa

/-- one step of the sum -/
def cs (c : Nat) : Nat := if c % 2 = 1 then (c / 2) ^^^ 3988292384 else c / 2
def cs4 (c : Nat) : Nat := cs (cs (cs (cs c)))
/-- a byte more -/
def crcB (c x : Nat) : Nat := cs4 (cs4 (c ^^^ x))
def crcL (c : Nat) (l : List UInt8) : Nat := l.foldl (fun c x => crcB c x.toNat) c
/-- the sum of bytes -/
def crc (l : List UInt8) : Nat := crcL 4294967295 l ^^^ 4294967295

theorem cs_lt {c : Nat} (h : c < 4294967296) : cs c < 4294967296 := by
  unfold cs
  split
  · exact Nat.xor_lt_two_pow (n := 32) (by omega) (by decide)
  · omega
theorem cs4_lt {c : Nat} (h : c < 4294967296) : cs4 c < 4294967296 := cs_lt (cs_lt (cs_lt (cs_lt h)))
theorem xor_lt32 {a b : Nat} (h : a < 4294967296) (h2 : b < 4294967296) : a ^^^ b < 4294967296 := Nat.xor_lt_two_pow (n := 32) h h2
theorem crcB_lt {c x : Nat} (h : c < 4294967296) (h2 : x < 4294967296) : crcB c x < 4294967296 := cs4_lt (cs4_lt (xor_lt32 h h2))
theorem crcL_lt (l : List UInt8) : ∀ {c : Nat}, c < 4294967296 → crcL c l < 4294967296 := by
  induction l with
  | nil => intro c h; exact h
  | cons x l ih => intro c h; exact ih (crcB_lt h (by have := x.toNat_lt; omega))
theorem crc_lt (l : List UInt8) : crc l < 4294967296 := xor_lt32 (crcL_lt l (by decide)) (by decide)
theorem xor_half (a b : Nat) : (a ^^^ b) / 2 = (a / 2) ^^^ (b / 2) := by
  apply Nat.eq_of_testBit_eq
  intro i
  rw [Nat.testBit_div_two, Nat.testBit_xor, Nat.testBit_xor, Nat.testBit_div_two, Nat.testBit_div_two]
theorem xor_par (a b : Nat) : (a ^^^ b) % 2 = (a + b) % 2 := by
  have h : (a ^^^ b).testBit 0 = ((a.testBit 0) ^^ (b.testBit 0)) := Nat.testBit_xor a b 0
  rw [Nat.testBit_zero, Nat.testBit_zero, Nat.testBit_zero] at h
  rcases Nat.mod_two_eq_zero_or_one a with h1 | h1 <;> rcases Nat.mod_two_eq_zero_or_one b with h2 | h2 <;> rcases Nat.mod_two_eq_zero_or_one (a ^^^ b) with h3 | h3 <;>
    first
      | omega
      | (rw [h1, h2, h3] at h; exact absurd h (by decide))
theorem cs_xor (a b : Nat) : cs (a ^^^ b) = cs a ^^^ cs b := by
  unfold cs
  rw [xor_par, xor_half]
  rcases Nat.mod_two_eq_zero_or_one a with h1 | h1 <;> rcases Nat.mod_two_eq_zero_or_one b with h2 | h2
  · rw [if_neg (by omega), if_neg (by omega), if_neg (by omega)]
  · rw [if_pos (by omega), if_neg (by omega), if_pos (by omega), Nat.xor_assoc]
  · rw [if_pos (by omega), if_pos (by omega), if_neg (by omega), Nat.xor_assoc, Nat.xor_assoc, Nat.xor_comm (b / 2)]
  · rw [if_neg (by omega), if_pos (by omega), if_pos (by omega)]
    have : ∀ p q r : Nat, (p ^^^ r) ^^^ (q ^^^ r) = p ^^^ q := fun p q r => by
      rw [Nat.xor_assoc, ← Nat.xor_assoc r q r, Nat.xor_comm r q, Nat.xor_assoc q r r, Nat.xor_self, Nat.xor_zero]
    rw [this]
theorem cs4_xor (a b : Nat) : cs4 (a ^^^ b) = cs4 a ^^^ cs4 b := by unfold cs4; simp only [cs_xor]
theorem cs_double (q : Nat) : cs (2 * q) = q := by unfold cs; rw [if_neg (by omega)]; omega
theorem cs4_16 (q : Nat) : cs4 (16 * q) = q := by
  unfold cs4
  rw [show 16 * q = 2 * (2 * (2 * (2 * q))) from by omega]
  simp only [cs_double]
/-- four steps at once, by a table of sixteen -/
theorem cs4_tab (c : Nat) : cs4 c = (c / 16) ^^^ cs4 (c % 16) := by
  have h : c = (16 * (c / 16)) ^^^ (c % 16) := by
    have h1 := nat_join 4 (16 * (c / 16)) (c % 16) (by omega) (by omega)
    have h2 : (16 * (c / 16)) ^^^ (c % 16) = (16 * (c / 16)) ||| (c % 16) := by
      apply Nat.eq_of_testBit_eq
      intro i
      rw [Nat.testBit_xor, Nat.testBit_or]
      by_cases hi : i < 4
      · have : (16 * (c / 16)).testBit i = false := by
          rw [show 16 * (c / 16) = (c / 16) * 2 ^ 4 from by omega, Nat.testBit_mul_two_pow]
          simp; omega
        simp [this]
      · have : (c % 16).testBit i = false := Nat.testBit_lt_two_pow (Nat.lt_of_lt_of_le (Nat.mod_lt _ (by omega)) (Nat.pow_le_pow_right (show 2 > 0 by omega) (show 4 ≤ i by omega)))
        simp [this]
    rw [h2, h1]
    omega
  conv => lhs; rw [h]
  rw [cs4_xor, cs4_16]

theorem cs_zero {c : Nat} (h : c < 4294967296) (h0 : cs c = 0) : c = 0 := by
  unfold cs at h0
  split at h0
  · have : c / 2 = 3988292384 := by
      have h1 := congrArg (· ^^^ 3988292384) h0
      simp only [Nat.xor_assoc, Nat.xor_self, Nat.xor_zero, Nat.zero_xor] at h1
      exact h1
    omega
  · omega
theorem cs4_zero {c : Nat} (h : c < 4294967296) (h0 : cs4 c = 0) : c = 0 :=
  cs_zero h (cs_zero (cs_lt h) (cs_zero (cs_lt (cs_lt h)) (cs_zero (cs_lt (cs_lt (cs_lt h))) h0)))
theorem xor_eq_zero {a b : Nat} (h : a ^^^ b = 0) : a = b := by
  have h1 := congrArg (· ^^^ b) h
  simp only [Nat.xor_assoc, Nat.xor_self, Nat.xor_zero, Nat.zero_xor] at h1
  exact h1
theorem crcB_diff (c d x y : Nat) : crcB c x ^^^ crcB d y = cs4 (cs4 ((c ^^^ d) ^^^ (x ^^^ y))) := by
  unfold crcB
  rw [← cs4_xor, ← cs4_xor]
  congr 2
  rw [Nat.xor_assoc, ← Nat.xor_assoc x d y, Nat.xor_comm x d, Nat.xor_assoc d x y, ← Nat.xor_assoc]
theorem crcB_inj {c d x : Nat} (hc : c < 4294967296) (hd : d < 4294967296) (h : crcB c x = crcB d x) : c = d := by
  have h1 := crcB_diff c d x x
  rw [h, Nat.xor_self, Nat.xor_self, Nat.xor_zero] at h1
  exact xor_eq_zero (cs4_zero (xor_lt32 hc hd) (cs4_zero (cs4_lt (xor_lt32 hc hd)) h1.symm))
theorem crcB_inj2 {c x y : Nat} (hx : x < 4294967296) (hy : y < 4294967296) (h : crcB c x = crcB c y) : x = y := by
  have h1 := crcB_diff c c x y
  rw [h, Nat.xor_self, Nat.xor_self, Nat.zero_xor] at h1
  exact xor_eq_zero (cs4_zero (xor_lt32 hx hy) (cs4_zero (cs4_lt (xor_lt32 hx hy)) h1.symm))
theorem crcL_inj (l : List UInt8) : ∀ {c d : Nat}, c < 4294967296 → d < 4294967296 → crcL c l = crcL d l → c = d := by
  induction l with
  | nil => intro c d _ _ h; exact h
  | cons x l ih =>
    intro c d hc hd h
    have hx := x.toNat_lt
    exact crcB_inj hc hd (ih (crcB_lt hc (by omega)) (crcB_lt hd (by omega)) h)
theorem crcL_append (c : Nat) (a b : List UInt8) : crcL c (a ++ b) = crcL (crcL c a) b := by unfold crcL; rw [List.foldl_append]
/-- one byte that differs makes another sum -/
theorem crc_turned (a b : List UInt8) (x y : UInt8) (h : x ≠ y) : crc (a ++ x :: b) ≠ crc (a ++ y :: b) := by
  intro e
  unfold crc at e
  have e1 : crcL 4294967295 (a ++ x :: b) = crcL 4294967295 (a ++ y :: b) := by
    have h1 := congrArg (· ^^^ 4294967295) e
    simp only [Nat.xor_assoc, Nat.xor_self, Nat.xor_zero] at h1
    exact h1
  rw [crcL_append, crcL_append] at e1
  have hc := crcL_lt a (c := 4294967295) (by decide)
  generalize crcL 4294967295 a = c at e1 hc
  have hx := x.toNat_lt
  have hy := y.toNat_lt
  have e2 : crcB c x.toNat = crcB c y.toNat := crcL_inj b (crcB_lt hc (by omega)) (crcB_lt hc (by omega)) e1
  exact h (UInt8.toNat_inj.1 (crcB_inj2 (by omega) (by omega) e2))
end Go.Proofs.Ytepncgeaehjhiaa

namespace Go.Proofs.Ytepncgeaehjhiaa
open Go.RowKit

theorem and1u32 (v : Nat) (h : v < 4294967296) : bits .and .u32 (v : Int) 1 = ((v % 2 : Nat) : Int) := by
  have := u32_and_nat v 1 h (by omega)
  rw [show ((1 : Nat) : Int) = 1 from rfl] at this
  rw [this, nat_mask1]
theorem and15u32 (v : Nat) (h : v < 4294967296) : bits .and .u32 (v : Int) 15 = ((v % 16 : Nat) : Int) := by
  have := u32_and_nat v 15 h (by omega)
  rw [show ((15 : Nat) : Int) = 15 from rfl] at this
  rw [this, nat_mask4]
theorem xorP (v : Nat) (h : v < 4294967296) : bits .xor .u32 ((v : Int) / 2) 3988292384 = ((v / 2 ^^^ 3988292384 : Nat) : Int) := by
  have := u32_xor_nat (v / 2) 3988292384 (by omega) (by omega)
  rw [show ((3988292384 : Nat) : Int) = 3988292384 from rfl] at this
  rw [← this]
  simp

/-- so many steps -/
def csN : Nat → Nat → Nat
  | 0, x => x
  | n + 1, x => csN n (cs x)
/-- the table: a word's four steps, of each number below sixteen -/
def tabV (n : Nat) : Value := .int .u32 (cs4 n : Int)
def tabA : Array Value := #[tabV 0, tabV 1, tabV 2, tabV 3, tabV 4, tabV 5, tabV 6, tabV 7, tabV 8, tabV 9, tabV 10, tabV 11, tabV 12, tabV 13, tabV 14, tabV 15]

/-- the table as it is filled: the first n words, then noughts -/
def tabN (n : Nat) : Array Value := ((List.range 16).map fun i => if i < n then tabV i else .int .u32 0).toArray
theorem tabN_set (n : Nat) (_ : n < 16) : (tabN n).setIfInBounds n (tabV n) = tabN (n + 1) := by
  apply Array.ext
  · simp [tabN]
  · intro i h1 h2
    have h0 : i < (tabN n).size := by simpa using h1
    simp only [tabN, List.size_toArray, List.length_map, List.length_range] at h2
    rw [Array.getElem_setIfInBounds h0]
    split
    · rename_i e
      subst e
      simp [tabN]
    · rename_i e
      simp only [tabN, List.getElem_toArray, List.getElem_map, List.getElem_range]
      by_cases h3 : i < n
      · rw [if_pos h3, if_pos (by omega)]
      · rw [if_neg h3, if_neg (by omega)]

theorem Blk.newAt {w : World} {B : Nat} {cs cs' : Array Value} {t : TypeId} (hB : B = w.heap.size) (hc : cs' = cs) : Blk (w.alloc (.cells cs' t)) B t cs := by
  subst hB; subst hc
  exact Blk.new w t _
theorem Blk.there {w : World} {g : Nat} {t : TypeId} {cs : Array Value} (h : Blk w g t cs) : w.there g 0 cs.size := fun j hj => by
  rw [Nat.zero_add]
  exact ⟨by rw [h.cell, Array.getElem?_eq_getElem hj]; rfl, h.frozen j⟩
def setAll (cs : Array Value) (o : Nat) : List Value → Array Value
  | [] => cs
  | v :: vs => setAll (cs.setIfInBounds o v) (o + 1) vs
theorem Blk.setCells {g : Nat} {t : TypeId} (vs : List Value) : ∀ {w : World} {cs : Array Value} (o : Nat), Blk w g t cs → Blk (w.setCells g o vs) g t (setAll cs o vs) := by
  induction vs with
  | nil => intro w cs o h; exact h
  | cons v vs ih => intro w cs o h; exact ih (o + 1) (h.set o v)
theorem Chg.setCells {S : Nat → Prop} {a : World} {g : Nat} (hg : a.heap.size ≤ g ∨ S g) (vs : List Value) : ∀ {b : World} (o : Nat), Chg S a b → Chg S a (b.setCells g o vs) := by
  induction vs with
  | nil => intro b o h; exact h
  | cons v vs ih => intro b o h; exact ih (o + 1) (h.setCell (p := ⟨g, o, none⟩) hg v)

/-- a whole row stored over a block known whole; the world behind it is a name -/
theorem wpList_store_blk {P : Program} {ops : Array Oper} {rest : List Oper} {op : Oper} {a : Act} {w : World} {Q : Exit → Act → World → Prop} (hgd : op.guard = none) (ty : TypeId) (x y : Operand) (ho : op.op = .store ty x y)
    (g : Nat) (cells old : Array Value) (t : TypeId) (hx : a.eval x = .pointer (some ⟨g, 0, none⟩)) (hy : a.eval y = .agg cells) (hb : Blk w g t old) (hsz : old.size = cells.size)
    (hall : setAll old 0 cells.toList = cells) (hi : (P.info? ty).map (·.size) = some cells.size) (h1 : cells.all (·.oneCell') = true)
    (h : ∀ w', Blk w' g t cells → Chg (fun k => k = g) w w' → wpList P ops Q rest (a.put op.dst undef) w') : wpList P ops Q (op :: rest) a w := by
  refine wpList_store_mid hgd ty x y ho g 0 cells hx hy (by rw [← hsz]; exact hb.there) hi h1 (h _ ?_ (Chg.setCells (S := fun k => k = g) (.inr rfl) _ _ (Chg.refl _ w)))
  have := Blk.setCells cells.toList 0 hb
  rwa [hall] at this

set_option maxRecDepth 100000 in
set_option maxHeartbeats 1000000 in
theorem table_any (w : World) : Calls Try.prog 77 #[] w fun e w' => e = .returned (.agg tabA) ∧ Grew w w' := by
  go_enter Try.func77, Try.ntmps77
  go_wp2
  go_loopw [5] (fun si wr => ∃ i : Nat, si = .int .i64 (i : Int) ∧ i ≤ 16 ∧ Blk wr (w.heap.size + 1) 102 (tabN i) ∧ Blk wr w.heap.size 102 (tabN 0) ∧ Grew w wr) (fun si _ => 16 - (intOf si).toNat)
  case atStart => exact ⟨0, rfl, by omega, by refine Blk.newAt (w := w.alloc (.cells (tabN 0) 102)) ?_ rfl; simp, (Blk.newAt (w := w) (cs' := tabN 0) rfl rfl).alloc (.cells (tabN 0) 102), ((Chg.refl _ w).alloc _).alloc _⟩
  case round =>
    obtain ⟨i, rfl, hi, hb, hb0, hg⟩ := hrel
    by_cases hlt : i < 16
    · go_wp2
      obtain ⟨wo, rfl⟩ : ∃ wo : World, wo = wr := ⟨_, rfl⟩
      go_loop [3, 4] (fun sc sk => ∃ (k u : Nat), sk = .int .i64 (k : Int) ∧ sc = .int .u32 (u : Int) ∧ k ≤ 4 ∧ u < 4294967296 ∧ Hid (csN (4 - k) u = cs4 i)) (fun _ sk => 4 - (intOf sk).toNat)
      case atStart => exact ⟨0, i, rfl, by simp, by omega, by omega, rfl⟩
      case round =>
        obtain ⟨k, u, rfl, rfl, hk, hu, Hu⟩ := hrel
        by_cases hlt2 : k < 4
        · have Hu2 : Hid (csN (4 - (k + 1)) (cs u) = cs4 i) := by
            show _ = _
            rw [← Hu.out, show 4 - k = (4 - (k + 1)) + 1 from by omega]
            rfl
          have hcs := cs_lt hu
          have ha := and1u32 u hu
          have Ha := Lib.hid ha
          clear ha Hu
          by_cases h2 : u % 2 = 1
          · have h3 : (bits .and .u32 (u : Int) 1 == 0) = false := by rw [Ha.out, h2]; rfl
            have he : bits .xor .u32 ((u : Int) / 2) 3988292384 = (cs u : Int) := by rw [xorP u hu]; unfold cs; rw [if_pos h2]
            clear h2 Ha
            go_wp2
            go_round
            case rel => exact ⟨k + 1, cs u, by go_num, by simp, by omega, hcs, Hu2⟩
            case measure => simp [intOf]; omega
          · have h3 : (bits .and .u32 (u : Int) 1 == 0) = true := by rw [Ha.out, show u % 2 = 0 from by omega]; rfl
            have he : cs u = u / 2 := by unfold cs; rw [if_neg h2]
            have He := Lib.hid he
            clear h2 Ha he
            go_wp2
            go_round
            case rel => exact ⟨k + 1, cs u, by go_num, by rw [He.out]; simp, by omega, hcs, Hu2⟩
            case measure => simp [intOf]; omega
        · obtain rfl : k = 4 := by omega
          have hu8 := Hu.out
          have Hu4 : Hid (u = cs4 i) := hu8
          have hci : wo.cell? ⟨w.heap.size + 1, i, none⟩ = some (.int .u32 0) := by
            rw [hb.cell]
            simp [tabN, hlt]
          have hfi := hb.frozen i
          clear Hu hu8
          have hbs := hb.set i (tabV i)
          rw [tabN_set i hlt] at hbs
          unfold tabV at hbs
          rw [← Hu4.out] at hbs
          have hb0s := hb0.far (p := ⟨w.heap.size + 1, i, none⟩) (show w.heap.size ≠ w.heap.size + 1 by omega) (.int .u32 (u : Int))
          have hgs := hg.setCell (p := ⟨w.heap.size + 1, i, none⟩) (.inl (show w.heap.size ≤ w.heap.size + 1 by omega)) (.int .u32 (u : Int))
          have Hbs := Lib.hid hbs
          have Hb0s := Lib.hid hb0s
          clear hbs hb0s Hu4
          go_wp2
          go_roundw
          case rel => exact ⟨i + 1, by go_num, by omega, Hbs.out, Hb0s.out, hgs⟩
          case measure => simp [intOf]; omega
    · obtain rfl : i = 16 := by omega
      rw [show tabN 16 = tabA from rfl] at hb
      have ht := hb0.there
      go_wp2_with (first | (refine wpList_load_row rfl 102 _ rfl (w.heap.size + 1) rfl 102 tabA (0, 0) _ hb Try.underlying102 rfl (by kernel_rfl) ?_) | (refine wpList_store_mid rfl 102 _ _ rfl w.heap.size 0 tabA rfl rfl (by exact ht) (by kernel_rfl) (by kernel_rfl) ?_))
      have hbr := Blk.setCells tabA.toList 0 hb0
      rw [show setAll (tabN 0) 0 tabA.toList = tabA from rfl] at hbr
      exact bodyPost_ret (results_cell_row rfl _ _ w.heap.size 102 tabA (0, 0) _ rfl hbr Try.underlying102 rfl (by kernel_rfl)) rfl ⟨rfl, Chg.setCells (.inl (Nat.le_refl _)) _ _ hg⟩

set_option maxRecDepth 100000 in
set_option maxHeartbeats 1000000 in
theorem sum_any (A : Option Addr) (m c : Nat) (l : List UInt8) (w : World) (h : RB w A m l) (hm : m ≤ 140737488355328) :
    Calls Try.prog 59 #[.slice A m c] w fun e w' => e = .returned (.int .u32 (crc l : Int)) ∧ Grew w w' := by
  go_enter Try.func59, Try.ntmps59
  go_wp2_with fail
  refine (table_any _).mono ?_
  rintro e w1 ⟨rfl, hg1⟩
  have h1 := h.grew hg1
  have hb0 : Blk (w1.alloc (.cells (tabN 0) 102)) w1.heap.size 102 (tabN 0) := Blk.newAt rfl rfl
  have ht := hb0.there
  go_wp2_with (refine wpList_store_blk rfl 102 _ _ rfl w1.heap.size tabA (tabN 0) 102 rfl rfl (by exact hb0) rfl rfl (by kernel_rfl) (by kernel_rfl) ?_; intro w2 hb hc2)
  have hg2 : Grew w1 w2 := ((Chg.refl _ w1).alloc (.cells (tabN 0) 102)).step hc2 (by rintro k hk rfl; omega)
  have h2 := h1.grew hg2
  have hg := hg1.trans hg2
  clear hg1 hg2 hc2 h1 hb0 ht h
  generalize w1.heap.size = g at hb ⊢
  go_loop [4, 10] (fun sc si => ∃ (i x : Nat), si = .int .i64 (i : Int) ∧ sc = .int .u32 (x : Int) ∧ i ≤ m ∧ x < 4294967296 ∧ Hid (crcL x (l.drop i) = crcL 4294967295 l)) (fun _ si => m - (intOf si).toNat)
  case atStart => exact ⟨0, 4294967295, rfl, rfl, by omega, by omega, rfl⟩
  case round =>
    obtain ⟨i, x, rfl, rfl, hi, hx, Hx⟩ := hrel
    by_cases hlt : i < m
    · obtain ⟨ad, y, rfl, hy, hc⟩ := h2.at_ hlt
      have hy8 := y.toNat_lt
      have hdr : l.drop i = y :: l.drop (i + 1) := by
        have h3 := List.getElem?_eq_some_iff.1 hy
        rw [← h3.2, List.getElem_cons_drop]
      have hx2 := Hx.out
      rw [hdr] at hx2
      have Hx2 := Lib.hid hx2
      clear hx2 hdr hy Hx
      have hxor : bits .xor .u32 (x : Int) (y.toNat : Int) = ((x ^^^ y.toNat : Nat) : Int) := u32_xor_nat _ _ hx (by omega)
      have hz : x ^^^ y.toNat < 4294967296 := xor_lt32 hx (by omega)
      have Hz : Hid (crcL (cs4 (cs4 (x ^^^ y.toNat))) (l.drop (i + 1)) = crcL 4294967295 l) := Hx2.out
      generalize x ^^^ y.toNat = z at hxor hz Hz
      clear Hx2
      have four : ∀ z : Nat, z < 4294967296 → ∃ q p r : Nat, q < 16 ∧ bits .and .u32 (z : Int) 15 = (q : Int) ∧ w2.cell? ⟨g, q, none⟩ = some (.int .u32 (p : Int)) ∧ bits .xor .u32 ((z : Int) / 16) (p : Int) = (r : Int) ∧ r < 4294967296 ∧ r = cs4 z := by
        intro z hz
        have hp : cs4 (z % 16) < 4294967296 := cs4_lt (by omega)
        refine ⟨z % 16, cs4 (z % 16), cs4 z, by omega, and15u32 z hz, ?_, ?_, cs4_lt hz, rfl⟩
        · rw [hb.cell]
          have hall : ∀ q, q < 16 → tabA[q]? = some (tabV q) := by
            intro q hq
            have : q = 0 ∨ q = 1 ∨ q = 2 ∨ q = 3 ∨ q = 4 ∨ q = 5 ∨ q = 6 ∨ q = 7 ∨ q = 8 ∨ q = 9 ∨ q = 10 ∨ q = 11 ∨ q = 12 ∨ q = 13 ∨ q = 14 ∨ q = 15 := by omega
            rcases this with rfl | rfl | rfl | rfl | rfl | rfl | rfl | rfl | rfl | rfl | rfl | rfl | rfl | rfl | rfl | rfl <;> rfl
          exact hall _ (by omega)
        · have h5 := u32_xor_nat (z / 16) (cs4 (z % 16)) (by omega) hp
          rw [← cs4_tab] at h5
          rw [← h5]
          simp
      obtain ⟨q1, p1, r1, hq1, ha1, hc1, hx1, hr1, e1⟩ := four z hz
      obtain ⟨q2, p2, r2, hq2, ha2, hc2, hx2, hr2, e2⟩ := four r1 hr1
      have Hz2 : Hid (crcL r2 (l.drop (i + 1)) = crcL 4294967295 l) := by
        show _ = _
        rw [e2, e1]
        exact Hz.out
      clear four e1 e2 Hz
      go_wp2
      go_round
      case rel => exact ⟨i + 1, r2, by go_num, by simp, by omega, hr2, Hz2⟩
      case measure => simp [intOf]; omega
    · have hd : l.drop i = [] := List.drop_of_length_le (by have := h2.1; omega)
      have hx2 := Hx.out
      rw [hd] at hx2
      have hfin : Hid (bits .xor .u32 IntKind.u32.max (x : Int) = (crc l : Int)) := by
        show _ = _
        have := u32_xor_nat 4294967295 x (by omega) hx
        rw [show ((4294967295 : Nat) : Int) = IntKind.u32.max from rfl, Nat.xor_comm] at this
        rw [this]
        unfold crc
        rw [← hx2]
        rfl
      clear hx2 hd Hx
      go_wp2
      go_ret
      exact ⟨by simp [hfin.out], hg⟩

end Go.Proofs.Ytepncgeaehjhiaa

namespace Go.Proofs.Ytepncgeaehjhiaa
open Go.RowKit

/-- a sum's bytes -/
def four (s : Nat) : List UInt8 := [UInt8.ofNat (s / 16777216), UInt8.ofNat (s / 65536), UInt8.ofNat (s / 256), UInt8.ofNat s]
/-- a record's frame -/
def frameB (l : List UInt8) : List UInt8 := uv l.length ++ four (crc l) ++ l
/-- new bytes and an error -/
def BytesE (w : World) (n : Nat) (l : List UInt8) (er : Nat) (e : Ending) (w' : World) : Prop :=
  ∃ A c, e = .returned (.tuple #[.slice A n c, .int .i64 (er : Int)]) ∧ OB w' w.heap.size 5 A n c l ∧ Grew w w'

theorem byt_ofNat (n : Nat) : byt (UInt8.ofNat n) = .int .u8 ((n : Int) % 256) := by
  unfold byt
  rw [UInt8.toNat_ofNat']
  simp

/-- a sum's bytes as the walk lays them -/
def fourC (s : Nat) : Array Value := #[.int .u8 ((s : Int) / 16777216), .int .u8 ((s : Int) / 65536 % 256), .int .u8 ((s : Int) / 256 % 256), .int .u8 ((s : Int) % 256)]
theorem fourC_eq (s : Nat) (h : s < 4294967296) : fourC s = ((four s).map byt).toArray := by
  show _ = #[byt (UInt8.ofNat (s / 16777216)), byt (UInt8.ofNat (s / 65536)), byt (UInt8.ofNat (s / 256)), byt (UInt8.ofNat s)]
  rw [byt_ofNat, byt_ofNat, byt_ofNat, byt_ofNat]
  have e1 : (((s / 16777216 : Nat)) : Int) % 256 = (s : Int) / 16777216 := by omega
  have e2 : (((s / 65536 : Nat)) : Int) % 256 = (s : Int) / 65536 % 256 := by omega
  have e3 : (((s / 256 : Nat)) : Int) % 256 = (s : Int) / 256 % 256 := by omega
  rw [e1, e2, e3]
  rfl

set_option maxRecDepth 100000 in
set_option maxHeartbeats 1000000 in
theorem frame_no (A : Option Addr) (m c : Nat) (w : World) (hm : m ≤ 9223372036854775807) (h : 65536 < m) :
    Calls Try.prog 48 #[.slice A m c] w fun e w' => e = .returned (.tuple #[.slice none 0 0, .int .i64 23]) ∧ w' = w := by
  go_enter Try.func48, Try.ntmps48
  go_wp2_with fail
  go_ret2
  exact ⟨by simp, rfl⟩
set_option maxRecDepth 100000 in
set_option maxHeartbeats 1000000 in
theorem frame_any (A : Option Addr) (m c : Nat) (l : List UInt8) (w : World) (h : RB w A m l) (hm : m ≤ 65536) :
    Calls Try.prog 48 #[.slice A m c] w (BytesE w ((uv m).length + 4 + m) (frameB l) 0) := by
  have hl10 := uv_len10 (v := m) (by omega)
  have hcr := crc_lt l
  have hfb : frameB l = uv m ++ four (crc l) ++ l := by unfold frameB; rw [h.1]
  rw [hfb]
  clear hfb
  have hsum := sum_any A m c l w h (by omega)
  generalize crc l = s at hcr hsum ⊢
  have Hsum := Lib.hid hsum
  clear hsum
  go_enter Try.func48, Try.ntmps48
  go_wp2_with fail
  refine Hsum.out.mono ?_
  rintro e w1 ⟨rfl, hg1⟩
  go_wp2_with fail
  refine (putUint_any none 0 0 [] m _ _ ⟨rfl, Rd.nil _ _⟩ ?_ (by omega) (by omega)).mono ?_
  · simp
  rintro e w2 ⟨B, C, rfl, ho2, hg2⟩
  rw [List.nil_append] at ho2
  have h2 := (h.grew hg1).grew hg2
  have hs1 := hg1.size
  have hs2 := hg2.size
  rw [Nat.zero_add] at ho2
  have hf4 : RB (w2.alloc (.cells (fourC s) 5)) (some ⟨w2.heap.size, 0, none⟩) 4 (four s) := RB.new w2 (four s) 4 _ _ rfl (fourC_eq s hcr)
  have ho2a := ho2.grew ((Chg.refl _ w2).alloc (.cells (fourC s) 5))
  unfold fourC at hf4 ho2a
  have hr3 := h2.grew ((Chg.refl _ w2).alloc (.cells (fourC s) 5))
  unfold fourC at hr3
  go_wp2_with (first | (at_builtin; refine wpList_appB rfl _ _ rfl w1.heap.size B _ C _ rfl ho2a (by simp; omega) _ 4 4 (four s) rfl hf4 (by omega) ?_; intro A3 c3 w3 h3; have ho3 := h3.ob; have hg3 := h3.grew (hg2.alloc _) (fun ad e => (Own.blk_lt ho2 ad e).1); have hs3 := hg3.size; have hr4 := (h.grew hg1).grew hg3) | (at_builtin; refine wpList_appB rfl _ _ rfl w1.heap.size A3 _ c3 _ rfl ho3 hs3 A m c l rfl hr4 (by omega) ?_; intro A4 c4 w4 h4))
  go_ret2
  exact ⟨A4, c4, by simp, h4.ob.mono hs1, hg1.trans (h4.grew hg3 fun ad e => (Own.blk_lt ho3 ad e).1)⟩

end Go.Proofs.Ytepncgeaehjhiaa

namespace Go.Proofs.Ytepncgeaehjhiaa
open Go.RowKit

/-- the reader in memory -/
abbrev Reader (w : World) (g : Nat) (A : Option Addr) (m c : Nat) (a : Int) : Prop := Blk w g 85 #[.slice A m c, .int .i64 a]

/-- a record's length that is read -/
def lenE (r : Nat × Nat × Nat) : Nat := if r.2.2 ≠ 0 then r.2.2 else if 65536 < r.1 then 23 else 0
def LenPost (w : World) (g : Nat) (A : Option Addr) (m c : Nat) (r : Nat × Nat × Nat) (e : Ending) (w' : World) : Prop :=
  e = .returned (.tuple #[.int .i64 ((if lenE r = 0 then r.1 else 0 : Nat) : Int), .int .i64 (lenE r : Int)]) ∧ Reader w' g A m c r.2.1 ∧ Chg (fun k => k = g) w w'

set_option maxRecDepth 100000 in
set_option maxHeartbeats 1000000 in
theorem length_any (g : Nat) (A : Option Addr) (m c : Nat) (l : List UInt8) (at_ : Int) (w : World) (hb : Reader w g A m c at_) (h : RB w A m l) (hm : m ≤ 140737488355328) :
    Calls Try.prog 57 #[.pointer (some ⟨g, 0, none⟩)] w (LenPost w g A m c (uintR l at_)) := by
  have hc0 : w.cell? ⟨g, 0, none⟩ = some (.slice A m c) := by rw [hb.cell]; rfl
  have hc1 : w.cell? ⟨g, 1, none⟩ = some (.int .i64 at_) := by rw [hb.cell]; rfl
  have hf1 := hb.frozen 1
  have hU : ∀ n, Calls Try.prog 46 #[.slice A m c, .int .i64 at_] (w.drewN n) fun e w' => e = uintEnd (uintR l at_) ∧ w' = w.drewN n := fun n => uint_any A m c l at_ (w.drewN n) (h.drewN n) hm
  have hto := uintR_to l at_
  have hlt := uintR_lt l at_
  have herr := uintR_err l at_
  have hbad := uintR_bad l at_
  generalize uintR l at_ = r at hU hto hlt herr hbad ⊢
  obtain ⟨v, nx, er⟩ := r
  have HU := Lib.hid hU
  clear hU
  unfold uintEnd at HU
  simp only at hto hlt herr hbad
  by_cases he : er = 0
  · subst he
    clear herr hbad
    by_cases hv : 65536 < v
    · have hr : Hid (lenE (v, nx, 0) = 23) := by show _ = _; unfold lenE; rw [if_neg (by simp), if_pos hv]
      have hr2 : Hid ((if lenE (v, nx, 0) = 0 then v else 0) = 0) := by show _ = _; rw [hr.out]; rfl
      go_enter Try.func57, Try.ntmps57
      go_wp2
      go_quiet ((go_at_call 46; exact Calls.quiet_of_same (HU.out _)))
      go_wp2
      go_ret2
      refine ⟨?_, ?_, ?_⟩
      · rw [hr.out]
        simp
      · exact (hb.drewN nq).set 1 (.int .i64 (nx : Int))
      · exact Chg.setCell (S := fun k => k = g) ((Chg.refl _ w).drewN nq) (p := ⟨g, 1, none⟩) (.inr rfl) _
    · have hv2 : v ≤ 65536 := by omega
      have hr : Hid (lenE (v, nx, 0) = 0) := by show _ = _; unfold lenE; rw [if_neg (by simp), if_neg hv]
      have hr2 : Hid ((if lenE (v, nx, 0) = 0 then v else 0) = v) := by show _ = _; rw [hr.out]; rfl
      clear hv
      go_enter Try.func57, Try.ntmps57
      go_wp2
      go_quiet ((go_at_call 46; exact Calls.quiet_of_same (HU.out _)))
      go_wp2
      go_ret2
      refine ⟨?_, ?_, ?_⟩
      · rw [hr.out]
        simp
      · exact (hb.drewN nq).set 1 (.int .i64 (nx : Int))
      · exact Chg.setCell (S := fun k => k = g) ((Chg.refl _ w).drewN nq) (p := ⟨g, 1, none⟩) (.inr rfl) _
  · have hee : ((er : Int) != 0) = true := by simp; omega
    have hr : Hid (lenE (v, nx, er) = er) := by show _ = _; unfold lenE; rw [if_pos he]
    have hr2 : Hid ((if lenE (v, nx, er) = 0 then v else 0) = 0) := by show _ = _; rw [hr.out, if_neg he]
    have He := Lib.hid he
    clear hbad herr he
    go_enter Try.func57, Try.ntmps57
    go_wp2
    go_quiet ((go_at_call 46; exact Calls.quiet_of_same (HU.out _)))
    go_wp2
    go_ret2
    refine ⟨?_, ?_, ?_⟩
    · have he := He.out
      rw [hr.out]
      simp [he]
    · exact (hb.drewN nq).set 1 (.int .i64 (nx : Int))
    · exact Chg.setCell (S := fun k => k = g) ((Chg.refl _ w).drewN nq) (p := ⟨g, 1, none⟩) (.inr rfl) _

/-- four bytes as a number, and n of them -/
def beN (l : List UInt8) : Nat := l.foldl (fun s c => s * 256 + c.toNat) 0
theorem beN_snoc (l : List UInt8) (c : UInt8) : beN (l ++ [c]) = beN l * 256 + c.toNat := by unfold beN; rw [List.foldl_append]; rfl
theorem beN_lt (n : Nat) : ∀ l : List UInt8, l.length = n → beN l < 256 ^ n := by
  induction n with
  | zero => intro l h; have : l = [] := List.eq_nil_of_length_eq_zero h; subst this; simp [beN]
  | succ n ih =>
    intro l h
    obtain ⟨a, c, rfl⟩ : ∃ a c, l = a ++ [c] := ⟨l.dropLast, l.getLast (by intro e; subst e; simp at h), (List.dropLast_concat_getLast _).symm⟩
    have h1 := ih a (by simpa using h)
    rw [beN_snoc, Nat.pow_succ]
    have := c.toNat_lt
    omega
theorem beN_four (s : Nat) (h : s < 4294967296) : beN (four s) = s := by
  show (((0 * 256 + (UInt8.ofNat (s / 16777216)).toNat) * 256 + (UInt8.ofNat (s / 65536)).toNat) * 256 + (UInt8.ofNat (s / 256)).toNat) * 256 + (UInt8.ofNat s).toNat = s
  simp only [UInt8.toNat_ofNat']
  omega
theorem four_beN (l : List UInt8) (h : l.length = 4) : four (beN l) = l := by
  match l, h with
  | [a, b, c, d], _ =>
    have ha := a.toNat_lt
    have hb := b.toNat_lt
    have hc := c.toNat_lt
    have hd := d.toNat_lt
    have e : beN [a, b, c, d] = ((a.toNat * 256 + b.toNat) * 256 + c.toNat) * 256 + d.toNat := by simp [beN]
    unfold four
    rw [e]
    have e1 : UInt8.ofNat ((((a.toNat * 256 + b.toNat) * 256 + c.toNat) * 256 + d.toNat) / 16777216) = a := UInt8.toNat_inj.1 (by rw [UInt8.toNat_ofNat']; omega)
    have e2 : UInt8.ofNat ((((a.toNat * 256 + b.toNat) * 256 + c.toNat) * 256 + d.toNat) / 65536) = b := UInt8.toNat_inj.1 (by rw [UInt8.toNat_ofNat']; omega)
    have e3 : UInt8.ofNat ((((a.toNat * 256 + b.toNat) * 256 + c.toNat) * 256 + d.toNat) / 256) = c := UInt8.toNat_inj.1 (by rw [UInt8.toNat_ofNat']; omega)
    have e4 : UInt8.ofNat ((((a.toNat * 256 + b.toNat) * 256 + c.toNat) * 256 + d.toNat)) = d := UInt8.toNat_inj.1 (by rw [UInt8.toNat_ofNat']; omega)
    rw [e1, e2, e3, e4]
theorem or_be (s c : Nat) (hs : s < 16777216) (hc : c < 256) : bits .or .u32 (IntKind.u32.wrap ((s : Int) * 256)) (c : Int) = ((s * 256 + c : Nat) : Int) := by
  have e : IntKind.u32.wrap ((s : Int) * 256) = ((s * 256 : Nat) : Int) := by simp only [IntKind.wrap_u32']; omega
  rw [e, u32_or_nat _ _ (by omega) (by omega), nat_join 8 _ _ (by omega) (by omega)]

theorem or_be' (s c : Nat) (hs : s < 16777216) (hc : c < 256) : bits .or .u32 ((s : Int) * 256) (c : Int) = ((s * 256 + c : Nat) : Int) := by
  have := or_be s c hs hc
  rwa [show IntKind.u32.wrap ((s : Int) * 256) = (s : Int) * 256 from by simp only [IntKind.wrap_u32']; omega] at this

/-- the record behind a length: its bytes, the place behind it, the error -/
def recOf (l : List UInt8) (nx n : Nat) : List UInt8 × Nat × Nat :=
  if l.length - nx < 4 + n then ([], nx, 20) else if crc ((l.drop (nx + 4)).take n) ≠ beN ((l.drop nx).take 4) then ([], nx + 4 + n, 22) else ((l.drop (nx + 4)).take n, nx + 4 + n, 0)
def RecPost (w : World) (g : Nat) (A : Option Addr) (m c : Nat) (r : List UInt8 × Nat × Nat) (e : Ending) (w' : World) : Prop :=
  ∃ B n C, e = .returned (.tuple #[.slice B n C, .int .i64 (r.2.2 : Int)]) ∧ OB w' w.heap.size 5 B n C r.1 ∧ Reader w' g A m c r.2.1 ∧ Chg (fun k => k = g) w w'

set_option maxRecDepth 100000 in
set_option maxHeartbeats 2000000 in
theorem record_short (g : Nat) (A : Option Addr) (m c nx n : Nat) (w : World) (hb : Reader w g A m c nx) (hm : m ≤ 140737488355328) (hn : n ≤ 65536) (hnx : nx ≤ m) (hs : m - nx < 4 + n) :
    Calls Try.prog 58 #[.pointer (some ⟨g, 0, none⟩), .int .i64 (n : Int)] w (RecPost w g A m c ([], nx, 20)) := by
  have hc0 : w.cell? ⟨g, 0, none⟩ = some (.slice A m c) := by rw [hb.cell]; rfl
  have hc1 : w.cell? ⟨g, 1, none⟩ = some (.int .i64 (nx : Int)) := by rw [hb.cell]; rfl
  have e1 : IntKind.i64.wrap ((m : Int) - nx) = (m : Int) - nx := IntWalk.i64_in _ (by omega)
  have e2 : IntKind.i64.wrap (4 + (n : Int)) = 4 + (n : Int) := IntWalk.i64_in _ (by omega)
  have e3 : decide ((m : Int) - nx < 4 + (n : Int)) = true := by simp; omega
  go_enter Try.func58, Try.ntmps58
  go_wp2
  go_quiet (fail)
  go_wp2
  go_ret2
  exact ⟨none, 0, 0, by simp, Own.nil _ _ _ _, hb.drewN _, (Chg.refl _ w).drewN _⟩

set_option maxRecDepth 100000 in
set_option maxHeartbeats 2000000 in
theorem record_any (g : Nat) (ad : Addr) (m c nx n : Nat) (l : List UInt8) (w : World) (hb : Reader w g (some ad) m c nx) (h : RB w (some ad) m l) (hg : ad.block ≠ g) (hm : m ≤ 140737488355328) (hc : m ≤ c ∧ c ≤ 9223372036854775807) (hn : n ≤ 65536) (hnx : nx ≤ m) (hs : 4 + n ≤ m - nx) :
    Calls Try.prog 58 #[.pointer (some ⟨g, 0, none⟩), .int .i64 (n : Int)] w (RecPost w g (some ad) m c (recOf l nx n)) := by
  have hr : recOf l nx n = (if crc ((l.drop (nx + 4)).take n) ≠ beN ((l.drop nx).take 4) then ([], nx + 4 + n, 22) else ((l.drop (nx + 4)).take n, nx + 4 + n, 0)) := by
    unfold recOf
    rw [if_neg (by rw [h.1]; omega)]
  have Hr := Lib.hid hr
  clear hr
  have hc0 : w.cell? ⟨g, 0, none⟩ = some (.slice (some ad) m c) := by rw [hb.cell]; rfl
  have hc1 : w.cell? ⟨g, 1, none⟩ = some (.int .i64 (nx : Int)) := by rw [hb.cell]; rfl
  have e1 : IntKind.i64.wrap ((m : Int) - nx) = (m : Int) - nx := IntWalk.i64_in _ (by omega)
  have e2 : IntKind.i64.wrap (4 + (n : Int)) = 4 + (n : Int) := IntWalk.i64_in _ (by omega)
  have e3 : decide ((m : Int) - nx < 4 + (n : Int)) = false := by simp; omega
  have e4 : IntKind.i64.wrap ((nx : Int) + 4) = (nx : Int) + 4 := IntWalk.i64_in _ (by omega)
  have hcn : ¬ c = nx := by omega
  go_enter Try.func58, Try.ntmps58
  go_wp2
  go_quiet (fail)
  go_wp2
  go_quiet (fail)
  go_wp2
  simp only [Nat.add_sub_cancel_left]
  generalize hw0 : (w.drewN _).drewN nq = w0
  have hb0 : Reader w0 g (some ad) m c nx := by rw [← hw0]; exact hb
  have h0 : RB w0 (some ad) m l := by rw [← hw0]; exact h
  have hch0 : Chg (fun k => k = g) w w0 := by rw [← hw0]; exact ((Chg.refl _ w).drewN _).drewN _
  have h4 : RB w0 (some (ad.add nx)) 4 ((l.drop nx).take 4) := (h0.drop nx).take (by omega)
  clear hw0 hb h hc0 hc1 e3
  have hsz0 := hch0.size
  go_loop [6, 38] (fun sc si => ∃ (j s : Nat), si = .int .i64 (j : Int) ∧ sc = .int .u32 (s : Int) ∧ j ≤ 4 ∧ Hid (s = beN (((l.drop nx).take 4).take j)) ∧ s < 256 ^ j) (fun _ si => 4 - (intOf si).toNat)
  case atStart => exact ⟨0, 0, rfl, rfl, by omega, rfl, by simp⟩
  case round =>
    obtain ⟨j, s, rfl, rfl, hj, Hs, hs8⟩ := hrel
    by_cases hlt : j < 4
    · have hs24 : s < 16777216 := by
        have : 256 ^ j ≤ 256 ^ 3 := Nat.pow_le_pow_right (by omega) (by omega)
        omega
      obtain ⟨ad', y, e, hy, hcy⟩ := h4.at_ hlt
      injection e with e
      subst e
      have hy8 := y.toNat_lt
      have hor := or_be' s y.toNat hs24 hy8
      have Hs2 : Hid (s * 256 + y.toNat = beN (((l.drop nx).take 4).take (j + 1))) := by
        show _ = _
        rw [List.take_add_one, hy, Hs.out]
        exact (beN_snoc _ _).symm
      have hs82 : s * 256 + y.toNat < 256 ^ (j + 1) := by rw [Nat.pow_succ]; omega
      have Hs82 := Lib.hid hs82
      clear hs82 hs8 Hs hy h4
      go_wp2
      go_round
      case rel => exact ⟨j + 1, s * 256 + y.toNat, by go_num, by simp, by omega, Hs2, Hs82.out⟩
      case measure => simp [intOf]; omega
    · obtain rfl : j = 4 := by omega
      have h48 : ((l.drop nx).take 4).take 4 = (l.drop nx).take 4 := by rw [List.take_take]; rfl
      rw [h48] at Hs
      have hs32 : s < 4294967296 := by omega
      have hc0 : w0.cell? ⟨g, 0, none⟩ = some (.slice (some ad) m c) := by rw [hb0.cell]; rfl
      have hc1 : w0.cell? ⟨g, 1, none⟩ = some (.int .i64 (nx : Int)) := by rw [hb0.cell]; rfl
      have hf1 := hb0.frozen 1
      have e5 : IntKind.i64.wrap ((nx : Int) + 4 + (n : Int)) = (nx : Int) + 4 + (n : Int) := IntWalk.i64_in _ (by omega)
      have hrec : RB w0 (some (ad.add (nx + 4))) n ((l.drop (nx + 4)).take n) := (h0.drop (nx + 4)).take (by omega)
      clear h48 h4 hs8 hj
      go_upto_region 9 with (fail)
      go_cut [9] from 10 to 80 (fun sr wx => ∃ B C, sr = .slice B n C ∧ Reader wx g (some ad) m c nx ∧ RB wx B n ((l.drop (nx + 4)).take n) ∧ (∀ bd, B = some bd → 0 < n → bd.block ≠ g) ∧ Chg (fun k => k = g) w wx ∧ C ≤ 9223372036854775807)
      case first =>
        by_cases hcn2 : c = nx + 4
        · have hn0 : n = 0 := by omega
          subst hn0
          subst hcn2
          go_wp2
          go_quiet (fail)
          go_wp2
          go_meet
          exact ⟨_, _, rfl, hb0.drewN _, ⟨rfl, Rd.nil _ _⟩, fun _ _ h => by omega, hch0.drewN _, by omega⟩
        · go_wp2
          go_quiet (fail)
          go_wp2
          go_meet
          refine ⟨_, c - (nx + 4), by rw [show nx + 4 + n - (nx + 4) = n from by omega], hb0.drewN _, hrec.drewN _, ?_, hch0.drewN _, ?_⟩
          · intro bd e _
            injection e with e
            subst e
            rw [block_add]
            exact hg
          · omega
      case rest =>
        clear hc0 hc1 hf1 hb0 hrec hch0 h0
        obtain ⟨B, C, rfl, hb0, hrec, hB, hch0, hC⟩ := hcut
        have hc0 : wc.cell? ⟨g, 0, none⟩ = some (.slice (some ad) m c) := by rw [hb0.cell]; rfl
        have hc1 : wc.cell? ⟨g, 1, none⟩ = some (.int .i64 (nx : Int)) := by rw [hb0.cell]; rfl
        have hf1 := hb0.frozen 1
        go_wp2_with fail
        have hb1 : Reader (wc.setCell ⟨g, 1, none⟩ (.int .i64 ((nx : Int) + (4 + (n : Int))))) g (some ad) m c ((nx : Int) + (4 + (n : Int))) := hb0.set 1 _
        have hr1 : RB (wc.setCell ⟨g, 1, none⟩ (.int .i64 ((nx : Int) + (4 + (n : Int))))) B n ((l.drop (nx + 4)).take n) := RB.setFar hrec hB _
        have hch1 : Chg (fun k => k = g) w (wc.setCell ⟨g, 1, none⟩ (.int .i64 ((nx : Int) + (4 + (n : Int))))) := hch0.setCell (p := ⟨g, 1, none⟩) (.inr rfl) _
        refine (sum_any B n C _ _ hr1 (by omega)).mono ?_
        rintro e w5 ⟨rfl, hg5⟩
        have hb5 := hb1.grew hg5
        have hr5 := hr1.grew hg5
        have hch5 := hch1.grow hg5
        have hs5 := hch5.size
        have hcl := crc_lt ((l.drop (nx + 4)).take n)
        have hnx4 : ((nx + 4 + n : Nat) : Int) = (nx : Int) + (4 + (n : Int)) := by omega
        rw [← hnx4] at hb5
        clear hb1 hr1 hch1 hg5 hb0 hrec hch0 hc0 hc1 hf1 hnx4
        obtain ⟨rec, hrec⟩ : ∃ rec, rec = (l.drop (nx + 4)).take n := ⟨_, rfl⟩
        rw [← hrec] at hr5 hcl ⊢
        have Hrec := Lib.hid hrec
        obtain ⟨q, hq⟩ : ∃ q, q = crc rec := ⟨_, rfl⟩
        rw [← hq] at hcl ⊢
        have Hq := Lib.hid hq
        clear hrec hq
        by_cases hqs : q = s
        · have hres : Hid (recOf l nx n = (rec, nx + 4 + n, 0)) := by
            show _ = _
            rw [Hr.out, ← Hrec.out, ← Hq.out, ← Hs.out, if_neg (by simp [hqs])]
          have ht : ((q : Int) != (s : Int)) = false := by simp; omega
          have hown : OB (w5.alloc (.cells #[] 5)) w.heap.size 5 (some ⟨w5.heap.size, 0, none⟩) 0 0 [] := Own.made w5 w.heap.size 5 1 hs5
          have hr6 := hr5.grew ((Chg.refl _ w5).alloc (.cells #[] 5))
          have hb6 := hb5.alloc (.cells #[] 5)
          have hch6 := hch5.alloc (.cells #[] 5)
          have hgl := hb5.lt
          clear hqs
          go_wp2_with (at_builtin; refine wpList_appB rfl _ _ rfl w.heap.size _ 0 0 [] rfl hown (by simp; omega) B n C rec rfl hr6 (by omega) ?_; intro A7 c7 w7 h7)
          go_ret2
          simp only [Nat.zero_add, List.nil_append] at h7
          rw [hres.out]
          refine ⟨A7, n, c7, by simp, h7.ob, ?_, ?_⟩
          · refine hb6.chg h7.chg ?_
            rintro ⟨ad', e, e2⟩
            injection e with e
            subst e
            simp at e2
            omega
          · refine hch6.step h7.chg ?_
            rintro k hk ⟨ad', e, e2⟩
            injection e with e
            subst e
            simp at e2
            omega
        · have hres : Hid (recOf l nx n = ([], nx + 4 + n, 22)) := by
            show _ = _
            rw [Hr.out, ← Hrec.out, ← Hq.out, ← Hs.out, if_pos hqs]
          have ht : ((q : Int) != (s : Int)) = true := by simp; omega
          clear hqs
          go_wp2
          go_ret2
          rw [hres.out]
          exact ⟨none, 0, 0, by simp, Own.nil _ _ _ _, hb5, hch5⟩

/-- the frame at a place of some bytes: the record, the place behind it, the error -/
def unfOf (l : List UInt8) (r : Nat × Nat × Nat) : List UInt8 × Nat × Nat :=
  if lenE r ≠ 0 then ([], 0, lenE r) else if (recOf l r.2.1 r.1).2.2 ≠ 0 then ([], 0, (recOf l r.2.1 r.1).2.2) else recOf l r.2.1 r.1
def unfR (l : List UInt8) (at_ : Int) : List UInt8 × Nat × Nat := unfOf l (uintR l at_)
def UnfPost (w : World) (r : List UInt8 × Nat × Nat) (e : Ending) (w' : World) : Prop :=
  ∃ B n C, e = .returned (.tuple #[.slice B n C, .int .i64 (r.2.1 : Int), .int .i64 (r.2.2 : Int)]) ∧ OB w' w.heap.size 5 B n C r.1 ∧ Grew w w'

set_option maxRecDepth 100000 in
set_option maxHeartbeats 2000000 in
theorem unframe_any (A : Option Addr) (m c : Nat) (l : List UInt8) (at_ : Int) (w : World) (h : RB w A m l) (hm : m ≤ 140737488355328) (hc : m ≤ c ∧ c ≤ 9223372036854775807) :
    Calls Try.prog 45 #[.slice A m c, .int .i64 at_] w (UnfPost w (unfR l at_)) := by
  have hb := Blk.new w 85 #[.slice A m c, .int .i64 at_]
  have hr := h.grew ((Chg.refl _ w).alloc (.cells #[.slice A m c, .int .i64 at_] 85))
  have hL := length_any w.heap.size A m c l at_ _ hb hr hm
  have hto := uintR_to l at_
  rw [h.1] at hto
  show Calls _ _ _ _ (UnfPost w (unfOf l (uintR l at_)))
  generalize uintR l at_ = r at hL hto ⊢
  obtain ⟨v, nx, er⟩ := r
  simp only at hto
  have HL := Lib.hid hL
  clear hL
  unfold LenPost at HL
  simp only at HL
  by_cases he : lenE (v, nx, er) = 0
  · have hv : v ≤ 65536 := by
      unfold lenE at he
      simp only at he
      split at he
      · omega
      · split at he
        · cases he
        · omega
    have h1 : Hid (unfOf l (v, nx, er) = if (recOf l nx v).2.2 ≠ 0 then ([], 0, (recOf l nx v).2.2) else recOf l nx v) := by
      show _ = _
      unfold unfOf
      rw [if_neg (by simpa using he)]
    rw [he] at HL
    simp only [if_true] at HL
    clear he
    by_cases hs : m - nx < 4 + v
    · have h2 : Hid (unfOf l (v, nx, er) = ([], 0, 20)) := by
        show _ = _
        rw [h1.out]
        have : recOf l nx v = ([], nx, 20) := by unfold recOf; rw [if_pos (by rw [h.1]; exact hs)]
        rw [this]
        rfl
      clear h1
      go_enter Try.func45, Try.ntmps45
      go_wp2_with fail
      go_in
      go_wp2_with fail
      refine HL.out.mono ?_
      rintro e w2 ⟨rfl, hb2, hc2⟩
      have hg2 : Grew w w2 := ((Chg.refl _ w).alloc _).step hc2 (by rintro k hk rfl; omega)
      go_wp2_with fail
      refine (record_short w.heap.size A m c nx v w2 hb2 hm hv hto hs).mono ?_
      rintro e w3 ⟨B, n, C, rfl, ho3, hb3, hc3⟩
      have hn := ho3.len
      simp at hn
      subst hn
      have hg3 : Grew w w3 := hg2.step hc3 (by rintro k hk rfl; omega)
      go_wp2
      go_ret3
      rw [h2.out]
      exact ⟨none, 0, 0, by simp, Own.nil _ _ _ _, hg3⟩
    · have hmp : 0 < m := by omega
      obtain ⟨ad, x, rfl, _, _⟩ := h.at_ (k := 0) hmp
      have hne : ad.block ≠ w.heap.size := by have := h.lt ad rfl hmp; omega
      have hto2 : (recOf l nx v).2.2 = 0 ∨ (recOf l nx v).2.2 = 22 := by
        unfold recOf
        rw [if_neg (by rw [h.1]; exact hs)]
        split
        · exact .inr rfl
        · exact .inl rfl
      have hrec := fun w2 hb2 h2 => record_any w.heap.size ad m c nx v l w2 hb2 h2 hne hm hc hv hto (by omega)
      generalize recOf l nx v = q at h1 hto2 hrec ⊢
      obtain ⟨ql, qa, qe⟩ := q
      simp only at h1 hto2
      have Hrec := Lib.hid hrec
      clear hrec hs
      have hx : Grew w (w.alloc (.cells #[.slice (some ad) m c, .int .i64 at_] 85)) := (Chg.refl _ w).alloc _
      go_enter Try.func45, Try.ntmps45
      go_wp2_with fail
      go_in
      go_wp2_with fail
      refine HL.out.mono ?_
      rintro e w2 ⟨rfl, hb2, hc2⟩
      have hg2 : Grew w w2 := hx.step hc2 (by rintro k hk rfl; omega)
      have hr2 := h.grew hg2
      have hs2 := hg2.size
      go_wp2_with fail
      refine (Hrec.out _ hb2 hr2).mono ?_
      rintro e w3 ⟨B, n, C, rfl, ho3, hb3, hc3⟩
      have hg3 : Grew w w3 := hg2.step hc3 (by rintro k hk rfl; omega)
      have hcc0 : w3.cell? ⟨w.heap.size, 0, none⟩ = some (.slice (some ad) m c) := by rw [hb3.cell]; rfl
      have hcc1 : w3.cell? ⟨w.heap.size, 1, none⟩ = some (.int .i64 (qa : Int)) := by rw [hb3.cell]; rfl
      rcases hto2 with rfl | rfl
      · go_wp2
        go_quiet (fail)
        go_wp2
        go_ret3
        have := h1.out
        rw [this]
        exact ⟨B, n, C, by simp, (ho3.mono hs2).drewN _, hg3.drewN _⟩
      · go_wp2
        go_ret3
        have := h1.out
        rw [this]
        exact ⟨none, 0, 0, by simp, Own.nil _ _ _ _, hg3⟩
  · have h1 : Hid (unfOf l (v, nx, er) = ([], 0, lenE (v, nx, er))) := by
      show _ = _
      unfold unfOf
      rw [if_pos he]
    rw [if_neg he] at HL
    generalize lenE (v, nx, er) = q at h1 HL he
    have hq : ((q : Int) != 0) = true := by simp; omega
    clear he
    go_enter Try.func45, Try.ntmps45
    go_wp2_with fail
    go_in
    go_wp2_with fail
    refine HL.out.mono ?_
    rintro e w2 ⟨rfl, hb2, hc2⟩
    have hg2 : Grew w w2 := ((Chg.refl _ w).alloc _).step hc2 (by rintro k hk rfl; omega)
    go_wp2
    go_ret3
    rw [h1.out]
    exact ⟨none, 0, 0, by simp, Own.nil _ _ _ _, hg2⟩
end Go.Proofs.Ytepncgeaehjhiaa

namespace Go.Proofs.Ytepncgeaehjhiaa
open Go.RowKit

theorem uintR_at (p r : List UInt8) (v : Nat) (hv : v < 18446744073709551616) : uintR (p ++ (uv v ++ r)) (p.length : Int) = (v, p.length + (uv v).length, 0) := by
  have h := ur_uv r v 0 0 (Or.inl rfl) (by omega) (by omega)
  unfold uintR
  rw [if_pos ⟨by omega, by simp only [List.length_append]; omega⟩, Int.toNat_natCast, List.drop_left, h]
  simp
theorem unfR_at (p q r : List UInt8) (hq : q.length ≤ 65536) : unfR (p ++ (frameB q ++ r)) (p.length : Int) = (q, p.length + ((uv q.length).length + 4 + q.length), 0) := by
  unfold unfR frameB
  rw [show p ++ (uv q.length ++ four (crc q) ++ q ++ r) = p ++ (uv q.length ++ (four (crc q) ++ (q ++ r))) by simp only [List.append_assoc], uintR_at p _ q.length (by omega)]
  have h4 : (four (crc q)).length = 4 := rfl
  have e : (p ++ (uv q.length ++ (four (crc q) ++ (q ++ r)))).drop (p.length + (uv q.length).length) = four (crc q) ++ (q ++ r) := by
    rw [← List.append_assoc, ← List.length_append, List.drop_left]
  have e2 : (p ++ (uv q.length ++ (four (crc q) ++ (q ++ r)))).drop (p.length + (uv q.length).length + 4) = q ++ r := by
    rw [← List.drop_drop, e, List.drop_left' h4]
  have hrec : recOf (p ++ (uv q.length ++ (four (crc q) ++ (q ++ r)))) (p.length + (uv q.length).length) q.length = (q, p.length + (uv q.length).length + 4 + q.length, 0) := by
    unfold recOf
    rw [if_neg (by simp only [List.length_append, h4]; omega), e, e2, List.take_left' h4, List.take_left, beN_four _ (crc_lt q)]
    simp
  unfold unfOf
  have hle : lenE (q.length, p.length + (uv q.length).length, 0) = 0 := by
    unfold lenE
    rw [if_neg (by simp), if_neg (by simp only; omega)]
  rw [hle]
  simp only [hrec]
  simp
  omega

/-! ### What lies in a store -/
structure OEnt where
  key : ByteArray
  data : List UInt8
  gen : Nat
def hdr (g : Nat) : List UInt8 := frameB (uv g)
theorem frameB_length (l : List UInt8) : (frameB l).length = (uv l.length).length + 4 + l.length := by
  unfold frameB
  rw [List.length_append, List.length_append]
  rfl
theorem hdr_length {g : Nat} (hg : g < 18446744073709551616) : (hdr g).length ≤ 24 := by
  have h1 := uv_len10 hg
  have h2 := uv_len10 (v := (uv g).length) (by omega)
  unfold hdr
  rw [frameB_length]
  omega
def FEnt.view (e : FEnt) : ByteArray × List UInt8 × Nat := (e.nm, e.l, e.sy)
def OEnt.view (o : OEnt) : ByteArray × List UInt8 × Nat := (oN ++ o.key, hdr o.gen ++ o.data, (hdr o.gen ++ o.data).length)
structure OEnt.Ok (o : OEnt) : Prop where
  key : keyB o.key = true
  gen : o.gen < 18446744073709551616
  data : o.data.length ≤ 1048576
/-- the store s over the disk d -/
structure Stor (S : Nat → Prop) (w : World) (s d m : Nat) (Ob : List OEnt) (E : List FEnt) (clock : Nat) (armed : Bool) (left kp : Int) (n : Nat) : Prop where
  st : Blk w s 56 #[.pointer (some ⟨d, 0, none⟩)]
  sn : ¬ S s
  fs : FS S w d m E clock true armed left kp n
  vw : E.map FEnt.view = Ob.map OEnt.view
  ok : ∀ o ∈ Ob, o.Ok

theorem keyB_size {x : ByteArray} (h : keyB x = true) : x.size ≤ 56 := by
  unfold keyB at h
  simp only [Bool.and_eq_true, decide_eq_true_eq] at h
  exact h.1.1.1
theorem keyB_nm {x : ByteArray} (h : keyB x = true) : NmOk x := by
  unfold keyB at h
  simp only [Bool.and_eq_true] at h
  exact (nameB_iff x).1 h.1.1.2
theorem lst_append (a b : ByteArray) : lst (a ++ b) = lst a ++ lst b := by simp [lst]
theorem nm_pre (p x : ByteArray) (hp : lst p = [111, 47] ∨ lst p = [116, 47]) (hx : keyB x = true) : NmOk (p ++ x) := by
  have h1 := keyB_size hx
  have h2 := (nameB_iff x).2 (keyB_nm hx)
  refine (nameB_iff _).1 ?_
  unfold nameB at h2 ⊢
  have hs : (p ++ x).size = 2 + x.size := by
    rw [← lst_length, ← lst_length x, lst_append, List.length_append]
    rcases hp with hp | hp <;> rw [hp] <;> rfl
  rw [hs, lst_append]
  simp only [Bool.and_eq_true, decide_eq_true_eq] at h2 ⊢
  refine ⟨⟨by omega, by omega⟩, ?_⟩
  rw [List.all_append, h2.2]
  rcases hp with hp | hp <;> rw [hp] <;> rfl
theorem nm_o {x : ByteArray} (hx : keyB x = true) : NmOk (oN ++ x) := nm_pre oN x (.inl rfl) hx
theorem nm_t {x : ByteArray} (hx : keyB x = true) : NmOk (tN ++ x) := nm_pre tN x (.inr rfl) hx
theorem oN_inj {x y : ByteArray} (h : oN ++ x = oN ++ y) : x = y := by
  have := congrArg lst h
  rw [lst_append, lst_append] at this
  exact lst_inj.1 (List.append_cancel_left this)
theorem oN_tN (x y : ByteArray) : oN ++ x ≠ tN ++ y := fun h => by
  have := congrArg lst h
  rw [lst_append, lst_append] at this
  injection this with h1 _
  cases h1

section
variable {S : Nat → Prop} {w w' : World} {s d m : Nat} {Ob : List OEnt} {E : List FEnt} {clock : Nat} {armed : Bool} {left kp : Int} {n : Nat}
theorem Stor.ent (h : Stor S w s d m Ob E clock armed left kp n) {i : Nat} {o : OEnt} (hi : Ob[i]? = some o) : ∃ f, E[i]? = some f ∧ f.nm = oN ++ o.key ∧ f.l = hdr o.gen ++ o.data ∧ f.sy = f.l.length := by
  have h1 : (E.map FEnt.view)[i]? = some o.view := by rw [h.vw]; simp [hi]
  rw [List.getElem?_map] at h1
  cases hE : E[i]? with
  | none => rw [hE] at h1; cases h1
  | some f =>
    rw [hE] at h1
    injection h1 with h1
    injection h1 with h2 h3
    injection h3 with h3 h4
    exact ⟨f, rfl, h2, h3, by rw [h4, h3]⟩
theorem Stor.mem (h : Stor S w s d m Ob E clock armed left kp n) {f : FEnt} (hf : f ∈ E) : ∃ o ∈ Ob, f.nm = oN ++ o.key := by
  have : f.view ∈ E.map FEnt.view := List.mem_map_of_mem hf
  rw [h.vw] at this
  obtain ⟨o, ho, he⟩ := List.mem_map.1 this
  injection he with h1 _
  exact ⟨o, ho, h1.symm⟩
theorem Stor.no (h : Stor S w s d m Ob E clock armed left kp n) {x : ByteArray} (hx : ∀ o ∈ Ob, o.key ≠ x) : ∀ f ∈ E, f.nm ≠ oN ++ x := fun f hf e => by
  obtain ⟨o, ho, h1⟩ := h.mem hf
  exact hx o ho (oN_inj (h1.symm.trans e))
theorem Stor.noT (h : Stor S w s d m Ob E clock armed left kp n) (x : ByteArray) : ∀ f ∈ E, f.nm ≠ tN ++ x := fun f hf e => by
  obtain ⟨o, ho, h1⟩ := h.mem hf
  exact oN_tN o.key x (h1.symm.trans e)
theorem Stor.len (h : Stor S w s d m Ob E clock armed left kp n) : E.length = Ob.length := by
  have := congrArg List.length h.vw
  simpa using this
theorem Stor.grew (h : Stor S w s d m Ob E clock armed left kp n) (hc : Grew w w') : Stor S w' s d m Ob E clock armed left kp n := ⟨h.st.grew hc, h.sn, h.fs.grew hc, h.vw, h.ok⟩
theorem Stor.chg {T : Nat → Prop} (h : Stor S w s d m Ob E clock armed left kp n) (hc : Chg T w w') (hs : ¬ T s) (hT : ∀ k, S k → ¬ T k) : Stor S w' s d m Ob E clock armed left kp n := ⟨h.st.chg hc hs, h.sn, h.fs.chg hc hT, h.vw, h.ok⟩

/-- what a read of an object that is there gives -/
def GotO (w : World) (o : OEnt) (e : Ending) (w' : World) : Prop :=
  ∃ A c, e = .returned (.tuple #[.slice A o.data.length c, .int .u64 (o.gen : Int), .int .i64 0]) ∧ RB w' A o.data.length o.data ∧ (o.data.length ≤ c ∧ c ≤ 9223372036854775807) ∧ (∀ ad, A = some ad → w.heap.size ≤ ad.block) ∧ Grew w w'

set_option maxHeartbeats 2000000 in
theorem oread_ok (h : Stor S w s d m Ob E clock armed left kp n) {i : Nat} {o : OEnt} (hi : Ob[i]? = some o) :
    Calls Try.prog 29 #[.pointer (some ⟨s, 0, none⟩), .string o.key] w (GotO w o) := by
  have ho := h.ok o (List.mem_of_getElem? hi)
  obtain ⟨f, hf, hnm, hl, hsy⟩ := h.ent hi
  have hR := fs_read h.fs hf (hnm ▸ nm_o ho.key)
  have hll : f.l.length ≤ 4194304 := (h.fs.ok f (List.mem_of_getElem? hf)).len
  have s0 : w.cell? ⟨s, 0, none⟩ = some (.pointer (some ⟨d, 0, none⟩)) := h.st.cell 0
  have hsz := keyB_size ho.key
  have hhl := hdr_length ho.gen
  rw [hnm] at hR
  unfold oN at hR
  have hU := unfR_at [] (uv o.gen) o.data (by have := uv_len10 ho.gen; omega)
  have hV := uintR_at [] [] o.gen ho.gen
  have hul := uv_len10 ho.gen
  simp only [List.nil_append, List.append_nil, List.length_nil, Nat.zero_add] at hU hV
  have hh : (uv (uv o.gen).length).length + 4 + (uv o.gen).length = (hdr o.gen).length := by unfold hdr; rw [frameB_length]
  rw [hh] at hU
  rw [show frameB (uv o.gen) = hdr o.gen from rfl, ← hl] at hU
  have hlen : f.l.length = (hdr o.gen).length + o.data.length := by rw [hl, List.length_append]
  have hdrop : f.l.drop (hdr o.gen).length = o.data := by rw [hl, List.drop_left]
  generalize f.l = l at *
  generalize (hdr o.gen).length = hn at *
  generalize hun : (uv o.gen).length = un at *
  generalize uv o.gen = ul at *
  generalize hdn : o.data.length = dn at *
  generalize hln : l.length = ln at *
  subst hlen
  have hU' : unfR l 0 = (ul, hn, 0) := hU
  have hV' : uintR ul 0 = (o.gen, un, 0) := hV
  clear hU hV
  have hUn := fun A c w h1 h2 h3 => hU' ▸ unframe_any A (hn + dn) c l 0 w h1 h2 h3
  have hVn := fun B k c w h1 h2 => hV' ▸ uint_any B k c ul 0 w h1 h2
  clear hU' hV'
  clear hf hnm hl hsy ho
  have h := Lib.hid h
  go_enter Try.func29, Try.ntmps29
  go_wp2_with fail
  refine hR.mono ?_
  rintro e w1 ⟨A1, c1, rfl, hO1, hG1⟩
  have hcap1 := hO1.cap
  go_wp2_with fail
  refine (hUn A1 c1 w1 hO1.rb (by omega) hcap1).mono ?_
  rintro e w2 ⟨B, k, C, rfl, hO2, hG2⟩
  obtain rfl : un = k := hun.symm.trans hO2.len
  clear hUn
  go_wp2_with fail
  refine (hVn B _ C w2 hO2.rb (by omega)).mono ?_
  unfold UintPost uintEnd
  rintro e w3 ⟨rfl, rfl⟩
  clear hVn
  have hdrop := Lib.hid hdrop
  have hdn := Lib.hid hdn
  have hln := Lib.hid hln
  clear hR
  have hrd := hO1.rb.dropO hn
  rw [Nat.add_sub_cancel_left, hdrop.out] at hrd
  have hrd := Lib.hid (hrd.grew hG2)
  have hG := Lib.hid (hG1.trans hG2)
  have hbk := Lib.hid (Own.blk_lt hO1)
  clear hO1 hdrop
  go_wp2
  · go_ret3
    obtain rfl : dn = 0 := by omega
    unfold GotO
    rw [hdn.out]
    refine ⟨A1, 0, rfl, ⟨hdn.out, by rw [List.eq_nil_of_length_eq_zero hdn.out]; exact Rd.nil _ _⟩, by omega, fun ad e => (hbk.out ad e).1, hG.out⟩
  · go_ret3
    unfold GotO
    rw [hdn.out]
    refine ⟨_, c1 - hn, rfl, hrd.out, by omega, ?_, hG.out⟩
    intro ad e
    cases A1 with
    | none => cases e
    | some a =>
      injection e with e
      subst e
      rw [block_add]
      exact (hbk.out a rfl).1
end
end Go.Proofs.Ytepncgeaehjhiaa
