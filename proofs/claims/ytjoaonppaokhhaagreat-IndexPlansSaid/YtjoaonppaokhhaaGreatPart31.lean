/-
  Several texts in one:
  Package codec and its reference: the sum of bytes. Conditions: lengths that memory bears.
  Package codec and its reference: frames laid. Conditions: lengths that memory bears.
  Package codec and its reference: frames read. Conditions: lengths that memory bears.
  The codec's reference: frames read; the statements' awake. Conditions: lengths that memory bears.
  bytes.Equal: whether two rows of bytes are alike. Conditions: none.
-/
import Derived.Test.YtjoaonppaokhhaaGreatPart27
import Derived.Test.YtjoaonppaokhhaaGreatPart30
import Derived.Deep.MidRow
import Derived.Deep.CutRange
import Derived.Deep.RegionWith
import Derived.Deep.DrawnRows
import Derived.Test.YtjoaonppaokhhaaGreatPart29

namespace Go.Proofs.YtjoaonppaokhhaaGreat
open Go.RowKit

theorem and1u32 (v : Nat) (h : v < 4294967296) : bits .and .u32 (v : Int) 1 = ((v % 2 : Nat) : Int) := by
  have := u32_and_nat v 1 h (by omega)
  rw [show ((1 : Nat) : Int) = 1 from rfl] at this
  rw [this, nat_mask1]
theorem and15u32 (v : Nat) (h : v < 4294967296) : bits .and .u32 (v : Int) 15 = ((v % 16 : Nat) : Int) := by
  have := u32_and_nat v 15 h (by omega)
  rw [show ((15 : Nat) : Int) = 15 from rfl] at this
  rw [this, nat_mask4]
theorem xorP (v : Nat) (h : v < 4294967296) : bits .xor .u32 ((v : Int) / 2) 3988292384 = ((v / 2 ^^^ 3988292384 : Nat) : Int) := by
  have := u32_xor_nat (v / 2) 3988292384 (by omega) (by omega)
  rw [show ((3988292384 : Nat) : Int) = 3988292384 from rfl] at this
  rw [← this]
  simp

/-- so many steps -/
def csN : Nat → Nat → Nat
  | 0, x => x
  | n + 1, x => csN n (cs x)
/-- the table: a word's four steps, of each number below sixteen -/
def tabV (n : Nat) : Value := .int .u32 (cs4 n : Int)
def tabA : Array Value := #[tabV 0, tabV 1, tabV 2, tabV 3, tabV 4, tabV 5, tabV 6, tabV 7, tabV 8, tabV 9, tabV 10, tabV 11, tabV 12, tabV 13, tabV 14, tabV 15]

/-- the table as it is filled: the first n words, then noughts -/
def tabN (n : Nat) : Array Value := ((List.range 16).map fun i => if i < n then tabV i else .int .u32 0).toArray
theorem tabN_set (n : Nat) (_ : n < 16) : (tabN n).setIfInBounds n (tabV n) = tabN (n + 1) := by
  apply Array.ext
  · simp [tabN]
  · intro i h1 h2
    have h0 : i < (tabN n).size := by simpa using h1
    simp only [tabN, List.size_toArray, List.length_map, List.length_range] at h2
    rw [Array.getElem_setIfInBounds h0]
    split
    · rename_i e
      subst e
      simp [tabN]
    · rename_i e
      simp only [tabN, List.getElem_toArray, List.getElem_map, List.getElem_range]
      by_cases h3 : i < n
      · rw [if_pos h3, if_pos (by omega)]
      · rw [if_neg h3, if_neg (by omega)]

theorem Blk.newAt {w : World} {B : Nat} {cs cs' : Array Value} {t : TypeId} (hB : B = w.heap.size) (hc : cs' = cs) : Blk (w.alloc (.cells cs' t)) B t cs := by
  subst hB; subst hc
  exact Blk.new w t _
theorem Blk.there {w : World} {g : Nat} {t : TypeId} {cs : Array Value} (h : Blk w g t cs) : w.there g 0 cs.size := fun j hj => by
  rw [Nat.zero_add]
  exact ⟨by rw [h.cell, Array.getElem?_eq_getElem hj]; rfl, h.frozen j⟩
def setAll (cs : Array Value) (o : Nat) : List Value → Array Value
  | [] => cs
  | v :: vs => setAll (cs.setIfInBounds o v) (o + 1) vs
theorem Blk.setCells {g : Nat} {t : TypeId} (vs : List Value) : ∀ {w : World} {cs : Array Value} (o : Nat), Blk w g t cs → Blk (w.setCells g o vs) g t (setAll cs o vs) := by
  induction vs with
  | nil => intro w cs o h; exact h
  | cons v vs ih => intro w cs o h; exact ih (o + 1) (h.set o v)
theorem Chg.setCells {S : Nat → Prop} {a : World} {g : Nat} (hg : a.heap.size ≤ g ∨ S g) (vs : List Value) : ∀ {b : World} (o : Nat), Chg S a b → Chg S a (b.setCells g o vs) := by
  induction vs with
  | nil => intro b o h; exact h
  | cons v vs ih => intro b o h; exact ih (o + 1) (h.setCell (p := ⟨g, o, none⟩) hg v)

/-- a whole row stored over a block known whole; the world behind it is a name -/
theorem wpList_store_blk {P : Program} {ops : Array Oper} {rest : List Oper} {op : Oper} {a : Act} {w : World} {Q : Exit → Act → World → Prop} (hgd : op.guard = none) (ty : TypeId) (x y : Operand) (ho : op.op = .store ty x y)
    (g : Nat) (cells old : Array Value) (t : TypeId) (hx : a.eval x = .pointer (some ⟨g, 0, none⟩)) (hy : a.eval y = .agg cells) (hb : Blk w g t old) (hsz : old.size = cells.size)
    (hall : setAll old 0 cells.toList = cells) (hi : (P.info? ty).map (·.size) = some cells.size) (h1 : cells.all (·.oneCell') = true)
    (h : ∀ w', Blk w' g t cells → Chg (fun k => k = g) w w' → wpList P ops Q rest (a.put op.dst undef) w') : wpList P ops Q (op :: rest) a w := by
  refine wpList_store_mid hgd ty x y ho g 0 cells hx hy (by rw [← hsz]; exact hb.there) hi h1 (h _ ?_ (Chg.setCells (S := fun k => k = g) (.inr rfl) _ _ (Chg.refl _ w)))
  have := Blk.setCells cells.toList 0 hb
  rwa [hall] at this

set_option maxRecDepth 100000 in
set_option maxHeartbeats 1000000 in
theorem table_any (w : World) : Calls Tryz.prog 114 #[] w fun e w' => e = .returned (.agg tabA) ∧ Grew w w' := by
  go_enter Tryz.func114, Tryz.ntmps114
  go_wp2
  go_loopw [5] (fun si wr => ∃ i : Nat, si = .int .i64 (i : Int) ∧ i ≤ 16 ∧ Blk wr (w.heap.size + 1) 132 (tabN i) ∧ Blk wr w.heap.size 132 (tabN 0) ∧ Grew w wr) (fun si _ => 16 - (intOf si).toNat)
  case atStart => exact ⟨0, rfl, by omega, by refine Blk.newAt (w := w.alloc (.cells (tabN 0) 132)) ?_ rfl; simp, (Blk.newAt (w := w) (cs' := tabN 0) rfl rfl).alloc (.cells (tabN 0) 132), ((Chg.refl _ w).alloc _).alloc _⟩
  case round =>
    obtain ⟨i, rfl, hi, hb, hb0, hg⟩ := hrel
    by_cases hlt : i < 16
    · go_wp2
      obtain ⟨wo, rfl⟩ : ∃ wo : World, wo = wr := ⟨_, rfl⟩
      go_loop [3, 4] (fun sc sk => ∃ (k u : Nat), sk = .int .i64 (k : Int) ∧ sc = .int .u32 (u : Int) ∧ k ≤ 4 ∧ u < 4294967296 ∧ Hid (csN (4 - k) u = cs4 i)) (fun _ sk => 4 - (intOf sk).toNat)
      case atStart => exact ⟨0, i, rfl, by simp, by omega, by omega, rfl⟩
      case round =>
        obtain ⟨k, u, rfl, rfl, hk, hu, Hu⟩ := hrel
        by_cases hlt2 : k < 4
        · have Hu2 : Hid (csN (4 - (k + 1)) (cs u) = cs4 i) := by
            show _ = _
            rw [← Hu.out, show 4 - k = (4 - (k + 1)) + 1 from by omega]
            rfl
          have hcs := cs_lt hu
          have ha := and1u32 u hu
          have Ha := Lib.hid ha
          clear ha Hu
          by_cases h2 : u % 2 = 1
          · have h3 : (bits .and .u32 (u : Int) 1 == 0) = false := by rw [Ha.out, h2]; rfl
            have he : bits .xor .u32 ((u : Int) / 2) 3988292384 = (cs u : Int) := by rw [xorP u hu]; unfold cs; rw [if_pos h2]
            clear h2 Ha
            go_wp2
            go_round
            case rel => exact ⟨k + 1, cs u, by go_num, by simp, by omega, hcs, Hu2⟩
            case measure => simp [intOf]; omega
          · have h3 : (bits .and .u32 (u : Int) 1 == 0) = true := by rw [Ha.out, show u % 2 = 0 from by omega]; rfl
            have he : cs u = u / 2 := by unfold cs; rw [if_neg h2]
            have He := Lib.hid he
            clear h2 Ha he
            go_wp2
            go_round
            case rel => exact ⟨k + 1, cs u, by go_num, by rw [He.out]; simp, by omega, hcs, Hu2⟩
            case measure => simp [intOf]; omega
        · obtain rfl : k = 4 := by omega
          have hu8 := Hu.out
          have Hu4 : Hid (u = cs4 i) := hu8
          have hci : wo.cell? ⟨w.heap.size + 1, i, none⟩ = some (.int .u32 0) := by
            rw [hb.cell]
            simp [tabN, hlt]
          have hfi := hb.frozen i
          clear Hu hu8
          have hbs := hb.set i (tabV i)
          rw [tabN_set i hlt] at hbs
          unfold tabV at hbs
          rw [← Hu4.out] at hbs
          have hb0s := hb0.far (p := ⟨w.heap.size + 1, i, none⟩) (show w.heap.size ≠ w.heap.size + 1 by omega) (.int .u32 (u : Int))
          have hgs := hg.setCell (p := ⟨w.heap.size + 1, i, none⟩) (.inl (show w.heap.size ≤ w.heap.size + 1 by omega)) (.int .u32 (u : Int))
          have Hbs := Lib.hid hbs
          have Hb0s := Lib.hid hb0s
          clear hbs hb0s Hu4
          go_wp2
          go_roundw
          case rel => exact ⟨i + 1, by go_num, by omega, Hbs.out, Hb0s.out, hgs⟩
          case measure => simp [intOf]; omega
    · obtain rfl : i = 16 := by omega
      rw [show tabN 16 = tabA from rfl] at hb
      have ht := hb0.there
      go_wp2_with (first | (refine wpList_load_row rfl 132 _ rfl (w.heap.size + 1) rfl 132 tabA (0, 0) _ hb Tryz.underlying132 rfl (by kernel_rfl) ?_) | (refine wpList_store_mid rfl 132 _ _ rfl w.heap.size 0 tabA rfl rfl (by exact ht) (by kernel_rfl) (by kernel_rfl) ?_))
      have hbr := Blk.setCells tabA.toList 0 hb0
      rw [show setAll (tabN 0) 0 tabA.toList = tabA from rfl] at hbr
      exact bodyPost_ret (results_cell_row rfl _ _ w.heap.size 132 tabA (0, 0) _ rfl hbr Tryz.underlying132 rfl (by kernel_rfl)) rfl ⟨rfl, Chg.setCells (.inl (Nat.le_refl _)) _ _ hg⟩

set_option maxRecDepth 100000 in
set_option maxHeartbeats 1000000 in
theorem sum_any (A : Option Addr) (m c : Nat) (l : List UInt8) (w : World) (h : RB w A m l) (hm : m ≤ 140737488355328) :
    Calls Tryz.prog 97 #[.slice A m c] w fun e w' => e = .returned (.int .u32 (crc l : Int)) ∧ Grew w w' := by
  go_enter Tryz.func97, Tryz.ntmps97
  go_wp2_with fail
  refine (table_any _).mono ?_
  rintro e w1 ⟨rfl, hg1⟩
  have h1 := h.grew hg1
  have hb0 : Blk (w1.alloc (.cells (tabN 0) 132)) w1.heap.size 132 (tabN 0) := Blk.newAt rfl rfl
  have ht := hb0.there
  go_wp2_with (refine wpList_store_blk rfl 132 _ _ rfl w1.heap.size tabA (tabN 0) 132 rfl rfl (by exact hb0) rfl rfl (by kernel_rfl) (by kernel_rfl) ?_; intro w2 hb hc2)
  have hg2 : Grew w1 w2 := ((Chg.refl _ w1).alloc (.cells (tabN 0) 132)).step hc2 (by rintro k hk rfl; omega)
  have h2 := h1.grew hg2
  have hg := hg1.trans hg2
  clear hg1 hg2 hc2 h1 hb0 ht h
  generalize w1.heap.size = g at hb ⊢
  go_loop [4, 10] (fun sc si => ∃ (i x : Nat), si = .int .i64 (i : Int) ∧ sc = .int .u32 (x : Int) ∧ i ≤ m ∧ x < 4294967296 ∧ Hid (crcL x (l.drop i) = crcL 4294967295 l)) (fun _ si => m - (intOf si).toNat)
  case atStart => exact ⟨0, 4294967295, rfl, rfl, by omega, by omega, rfl⟩
  case round =>
    obtain ⟨i, x, rfl, rfl, hi, hx, Hx⟩ := hrel
    by_cases hlt : i < m
    · obtain ⟨ad, y, rfl, hy, hc⟩ := h2.at_ hlt
      have hy8 := y.toNat_lt
      have hdr : l.drop i = y :: l.drop (i + 1) := by
        have h3 := List.getElem?_eq_some_iff.1 hy
        rw [← h3.2, List.getElem_cons_drop]
      have hx2 := Hx.out
      rw [hdr] at hx2
      have Hx2 := Lib.hid hx2
      clear hx2 hdr hy Hx
      have hxor : bits .xor .u32 (x : Int) (y.toNat : Int) = ((x ^^^ y.toNat : Nat) : Int) := u32_xor_nat _ _ hx (by omega)
      have hz : x ^^^ y.toNat < 4294967296 := xor_lt32 hx (by omega)
      have Hz : Hid (crcL (cs4 (cs4 (x ^^^ y.toNat))) (l.drop (i + 1)) = crcL 4294967295 l) := Hx2.out
      generalize x ^^^ y.toNat = z at hxor hz Hz
      clear Hx2
      have four : ∀ z : Nat, z < 4294967296 → ∃ q p r : Nat, q < 16 ∧ bits .and .u32 (z : Int) 15 = (q : Int) ∧ w2.cell? ⟨g, q, none⟩ = some (.int .u32 (p : Int)) ∧ bits .xor .u32 ((z : Int) / 16) (p : Int) = (r : Int) ∧ r < 4294967296 ∧ r = cs4 z := by
        intro z hz
        have hp : cs4 (z % 16) < 4294967296 := cs4_lt (by omega)
        refine ⟨z % 16, cs4 (z % 16), cs4 z, by omega, and15u32 z hz, ?_, ?_, cs4_lt hz, rfl⟩
        · rw [hb.cell]
          have hall : ∀ q, q < 16 → tabA[q]? = some (tabV q) := by
            intro q hq
            have : q = 0 ∨ q = 1 ∨ q = 2 ∨ q = 3 ∨ q = 4 ∨ q = 5 ∨ q = 6 ∨ q = 7 ∨ q = 8 ∨ q = 9 ∨ q = 10 ∨ q = 11 ∨ q = 12 ∨ q = 13 ∨ q = 14 ∨ q = 15 := by omega
            rcases this with rfl | rfl | rfl | rfl | rfl | rfl | rfl | rfl | rfl | rfl | rfl | rfl | rfl | rfl | rfl | rfl <;> rfl
          exact hall _ (by omega)
        · have h5 := u32_xor_nat (z / 16) (cs4 (z % 16)) (by omega) hp
          rw [← cs4_tab] at h5
          rw [← h5]
          simp
      obtain ⟨q1, p1, r1, hq1, ha1, hc1, hx1, hr1, e1⟩ := four z hz
      obtain ⟨q2, p2, r2, hq2, ha2, hc2, hx2, hr2, e2⟩ := four r1 hr1
      have Hz2 : Hid (crcL r2 (l.drop (i + 1)) = crcL 4294967295 l) := by
        show _ = _
        rw [e2, e1]
        exact Hz.out
      clear four e1 e2 Hz
      go_wp2
      go_round
      case rel => exact ⟨i + 1, r2, by go_num, by simp, by omega, hr2, Hz2⟩
      case measure => simp [intOf]; omega
    · have hd : l.drop i = [] := List.drop_of_length_le (by have := h2.1; omega)
      have hx2 := Hx.out
      rw [hd] at hx2
      have hfin : Hid (bits .xor .u32 IntKind.u32.max (x : Int) = (crc l : Int)) := by
        show _ = _
        have := u32_xor_nat 4294967295 x (by omega) hx
        rw [show ((4294967295 : Nat) : Int) = IntKind.u32.max from rfl, Nat.xor_comm] at this
        rw [this]
        unfold crc
        rw [← hx2]
        rfl
      clear hx2 hd Hx
      go_wp2
      go_ret
      exact ⟨by simp [hfin.out], hg⟩

set_option maxRecDepth 100000 in
set_option maxHeartbeats 1000000 in
theorem refSum_any (A : Option Addr) (m c : Nat) (l : List UInt8) (w : World) (h : RB w A m l) (hm : m ≤ 140737488355328) :
    Calls Tryz.prog 59 #[.slice A m c] w fun e w' => e = .returned (.int .u32 (crc l : Int)) ∧ w' = w := by
  go_enter Tryz.func59, Tryz.ntmps59
  go_wp2
  go_loop [3, 4] (fun sc si => ∃ (i x : Nat), si = .int .i64 (i : Int) ∧ sc = .int .u32 (x : Int) ∧ i ≤ m ∧ x < 4294967296 ∧ Hid (crcL x (l.drop i) = crcL 4294967295 l)) (fun _ si => m - (intOf si).toNat)
  case atStart => exact ⟨0, 4294967295, rfl, rfl, by omega, by omega, rfl⟩
  case round =>
    obtain ⟨i, x, rfl, rfl, hi, hx, Hx⟩ := hrel
    by_cases hlt : i < m
    · obtain ⟨ad, y, rfl, hy, hc⟩ := h.at_ hlt
      have hy8 := y.toNat_lt
      have hdr : l.drop i = y :: l.drop (i + 1) := by
        have h3 := List.getElem?_eq_some_iff.1 hy
        rw [← h3.2, List.getElem_cons_drop]
      have hx2 := Hx.out
      rw [hdr] at hx2
      have Hx2 := Lib.hid hx2
      clear hx2 hdr hy Hx
      have hxor : bits .xor .u32 (x : Int) (y.toNat : Int) = ((x ^^^ y.toNat : Nat) : Int) := u32_xor_nat _ _ hx (by omega)
      have hz : x ^^^ y.toNat < 4294967296 := xor_lt32 hx (by omega)
      have Hz : Hid (crcL (cs4 (cs4 (x ^^^ y.toNat))) (l.drop (i + 1)) = crcL 4294967295 l) := Hx2.out
      generalize x ^^^ y.toNat = z at hxor hz Hz
      clear Hx2
      go_wp2
      go_loop [3, 5] (fun sc sk => ∃ (k x : Nat), sk = .int .i64 (k : Int) ∧ sc = .int .u32 (x : Int) ∧ k ≤ 8 ∧ x < 4294967296 ∧ Hid (csN (8 - k) x = cs4 (cs4 z))) (fun _ sk => 8 - (intOf sk).toNat)
      case atStart => exact ⟨0, z, rfl, by simp, by omega, hz, rfl⟩
      case round =>
        obtain ⟨k, u, rfl, rfl, hk, hu, Hu⟩ := hrel
        by_cases hlt2 : k < 8
        · have Hu2 : Hid (csN (8 - (k + 1)) (cs u) = cs4 (cs4 z)) := by
            show _ = _
            rw [← Hu.out, show 8 - k = (8 - (k + 1)) + 1 from by omega]
            rfl
          have hcs := cs_lt hu
          have ha := and1u32 u hu
          have Ha := Lib.hid ha
          clear ha Hu
          by_cases h2 : u % 2 = 1
          · have h3 : (bits .and .u32 (u : Int) 1 == 1) = true := by rw [Ha.out, h2]; rfl
            have he : bits .xor .u32 ((u : Int) / 2) 3988292384 = (cs u : Int) := by rw [xorP u hu]; unfold cs; rw [if_pos h2]
            clear h2 Ha
            go_wp2
            go_round
            case rel => exact ⟨k + 1, cs u, by go_num, by simp, by omega, hcs, Hu2⟩
            case measure => simp [intOf]; omega
          · have h3 : (bits .and .u32 (u : Int) 1 == 1) = false := by rw [Ha.out, show u % 2 = 0 from by omega]; rfl
            have he : cs u = u / 2 := by unfold cs; rw [if_neg h2]
            have He := Lib.hid he
            clear h2 Ha he
            go_wp2
            go_round
            case rel => exact ⟨k + 1, cs u, by go_num, by rw [He.out]; simp, by omega, hcs, Hu2⟩
            case measure => simp [intOf]; omega
        · obtain rfl : k = 8 := by omega
          have hu8 := Hu.out
          have Hz2 : Hid (crcL u (l.drop (i + 1)) = crcL 4294967295 l) := by
            show _ = _
            rw [← Hz.out, ← hu8]
            rfl
          clear Hu hu8
          go_wp2
          go_round
          case rel => exact ⟨i + 1, u, by go_num, rfl, by omega, hu, Hz2⟩
          case measure => simp [intOf]; omega
    · have hd : l.drop i = [] := List.drop_of_length_le (by have := h.1; omega)
      have hx2 := Hx.out
      rw [hd] at hx2
      have hfin : Hid (bits .xor .u32 (x : Int) 4294967295 = (crc l : Int)) := by
        show _ = _
        have := u32_xor_nat x 4294967295 hx (by omega)
        rw [show ((4294967295 : Nat) : Int) = 4294967295 from rfl] at this
        rw [this]
        unfold crc
        rw [← hx2]
        rfl
      clear hx2 hd Hx
      go_wp2
      go_ret
      refine ⟨?_, rfl⟩
      rw [← hfin.out]
      simp
end Go.Proofs.YtjoaonppaokhhaaGreat

namespace Go.Proofs.YtjoaonppaokhhaaGreat
open Go.RowKit

/-- a sum's bytes -/
def four (s : Nat) : List UInt8 := [UInt8.ofNat (s / 16777216), UInt8.ofNat (s / 65536), UInt8.ofNat (s / 256), UInt8.ofNat s]
/-- a record's frame -/
def frameB (l : List UInt8) : List UInt8 := uv l.length ++ four (crc l) ++ l
/-- new bytes and an error -/
def BytesE (w : World) (n : Nat) (l : List UInt8) (er : Nat) (e : Ending) (w' : World) : Prop :=
  ∃ A c, e = .returned (.tuple #[.slice A n c, .int .i64 (er : Int)]) ∧ OB w' w.heap.size 5 A n c l ∧ Grew w w'

theorem byt_ofNat (n : Nat) : byt (UInt8.ofNat n) = .int .u8 ((n : Int) % 256) := by
  unfold byt
  rw [UInt8.toNat_ofNat']
  simp

/-- a sum's bytes as the walk lays them -/
def fourC (s : Nat) : Array Value := #[.int .u8 ((s : Int) / 16777216), .int .u8 ((s : Int) / 65536 % 256), .int .u8 ((s : Int) / 256 % 256), .int .u8 ((s : Int) % 256)]
theorem fourC_eq (s : Nat) (h : s < 4294967296) : fourC s = ((four s).map byt).toArray := by
  show _ = #[byt (UInt8.ofNat (s / 16777216)), byt (UInt8.ofNat (s / 65536)), byt (UInt8.ofNat (s / 256)), byt (UInt8.ofNat s)]
  rw [byt_ofNat, byt_ofNat, byt_ofNat, byt_ofNat]
  have e1 : (((s / 16777216 : Nat)) : Int) % 256 = (s : Int) / 16777216 := by omega
  have e2 : (((s / 65536 : Nat)) : Int) % 256 = (s : Int) / 65536 % 256 := by omega
  have e3 : (((s / 256 : Nat)) : Int) % 256 = (s : Int) / 256 % 256 := by omega
  rw [e1, e2, e3]
  rfl

theorem four_any (s : Nat) (w : World) (hs : s < 4294967296) : Calls Tryz.prog 58 #[.int .u32 (s : Int)] w fun e w' => ∃ A c, e = .returned (.slice A 4 c) ∧ OB w' w.heap.size 5 A 4 c (four s) ∧ Grew w w' := by
  have hf4 : OB (w.alloc (.cells (fourC s) 5)) w.heap.size 5 (some ⟨w.heap.size, 0, none⟩) 4 4 (four s) := by
    have := Own.lit w w.heap.size 5 1 4 (fourC s) (Nat.le_refl _) (by unfold maxLen; omega) rfl
    rw [fourC_eq s hs] at this ⊢
    exact this
  unfold fourC at hf4
  go_enter Tryz.func58, Tryz.ntmps58
  go_wp2
  go_ret
  exact ⟨_, _, by simp, hf4, (Chg.refl _ w).alloc _⟩

end Go.Proofs.YtjoaonppaokhhaaGreat

namespace Go.Proofs.YtjoaonppaokhhaaGreat
open Go.RowKit

/-- a record's length that is read -/
def lenE (r : Nat × Nat × Nat) : Nat := if r.2.2 ≠ 0 then r.2.2 else if 65536 < r.1 then 23 else 0
/-- four bytes as a number, and n of them -/
def beN (l : List UInt8) : Nat := l.foldl (fun s c => s * 256 + c.toNat) 0
theorem beN_snoc (l : List UInt8) (c : UInt8) : beN (l ++ [c]) = beN l * 256 + c.toNat := by unfold beN; rw [List.foldl_append]; rfl
theorem beN_lt (n : Nat) : ∀ l : List UInt8, l.length = n → beN l < 256 ^ n := by
  induction n with
  | zero => intro l h; have : l = [] := List.eq_nil_of_length_eq_zero h; subst this; simp [beN]
  | succ n ih =>
    intro l h
    obtain ⟨a, c, rfl⟩ : ∃ a c, l = a ++ [c] := ⟨l.dropLast, l.getLast (by intro e; subst e; simp at h), (List.dropLast_concat_getLast _).symm⟩
    have h1 := ih a (by simpa using h)
    rw [beN_snoc, Nat.pow_succ]
    have := c.toNat_lt
    omega
theorem beN_four (s : Nat) (h : s < 4294967296) : beN (four s) = s := by
  show (((0 * 256 + (UInt8.ofNat (s / 16777216)).toNat) * 256 + (UInt8.ofNat (s / 65536)).toNat) * 256 + (UInt8.ofNat (s / 256)).toNat) * 256 + (UInt8.ofNat s).toNat = s
  simp only [UInt8.toNat_ofNat']
  omega
theorem four_beN (l : List UInt8) (h : l.length = 4) : four (beN l) = l := by
  match l, h with
  | [a, b, c, d], _ =>
    have ha := a.toNat_lt
    have hb := b.toNat_lt
    have hc := c.toNat_lt
    have hd := d.toNat_lt
    have e : beN [a, b, c, d] = ((a.toNat * 256 + b.toNat) * 256 + c.toNat) * 256 + d.toNat := by simp [beN]
    unfold four
    rw [e]
    have e1 : UInt8.ofNat ((((a.toNat * 256 + b.toNat) * 256 + c.toNat) * 256 + d.toNat) / 16777216) = a := UInt8.toNat_inj.1 (by rw [UInt8.toNat_ofNat']; omega)
    have e2 : UInt8.ofNat ((((a.toNat * 256 + b.toNat) * 256 + c.toNat) * 256 + d.toNat) / 65536) = b := UInt8.toNat_inj.1 (by rw [UInt8.toNat_ofNat']; omega)
    have e3 : UInt8.ofNat ((((a.toNat * 256 + b.toNat) * 256 + c.toNat) * 256 + d.toNat) / 256) = c := UInt8.toNat_inj.1 (by rw [UInt8.toNat_ofNat']; omega)
    have e4 : UInt8.ofNat ((((a.toNat * 256 + b.toNat) * 256 + c.toNat) * 256 + d.toNat)) = d := UInt8.toNat_inj.1 (by rw [UInt8.toNat_ofNat']; omega)
    rw [e1, e2, e3, e4]
theorem or_be (s c : Nat) (hs : s < 16777216) (hc : c < 256) : bits .or .u32 (IntKind.u32.wrap ((s : Int) * 256)) (c : Int) = ((s * 256 + c : Nat) : Int) := by
  have e : IntKind.u32.wrap ((s : Int) * 256) = ((s * 256 : Nat) : Int) := by simp only [IntKind.wrap_u32']; omega
  rw [e, u32_or_nat _ _ (by omega) (by omega), nat_join 8 _ _ (by omega) (by omega)]

theorem or_be' (s c : Nat) (hs : s < 16777216) (hc : c < 256) : bits .or .u32 ((s : Int) * 256) (c : Int) = ((s * 256 + c : Nat) : Int) := by
  have := or_be s c hs hc
  rwa [show IntKind.u32.wrap ((s : Int) * 256) = (s : Int) * 256 from by simp only [IntKind.wrap_u32']; omega] at this

/-- the record behind a length: its bytes, the place behind it, the error -/
def recOf (l : List UInt8) (nx n : Nat) : List UInt8 × Nat × Nat :=
  if l.length - nx < 4 + n then ([], nx, 20) else if crc ((l.drop (nx + 4)).take n) ≠ beN ((l.drop nx).take 4) then ([], nx + 4 + n, 22) else ((l.drop (nx + 4)).take n, nx + 4 + n, 0)
/-- the frame at a place of some bytes: the record, the place behind it, the error -/
def unfOf (l : List UInt8) (r : Nat × Nat × Nat) : List UInt8 × Nat × Nat :=
  if lenE r ≠ 0 then ([], 0, lenE r) else if (recOf l r.2.1 r.1).2.2 ≠ 0 then ([], 0, (recOf l r.2.1 r.1).2.2) else recOf l r.2.1 r.1
def unfR (l : List UInt8) (at_ : Int) : List UInt8 × Nat × Nat := unfOf l (uintR l at_)
def UnfPost (w : World) (r : List UInt8 × Nat × Nat) (e : Ending) (w' : World) : Prop :=
  ∃ B n C, e = .returned (.tuple #[.slice B n C, .int .i64 (r.2.1 : Int), .int .i64 (r.2.2 : Int)]) ∧ OB w' w.heap.size 5 B n C r.1 ∧ Grew w w'

end Go.Proofs.YtjoaonppaokhhaaGreat

namespace Go.Proofs.YtjoaonppaokhhaaGreat
open Go.RowKit

theorem four_inj (rec : List UInt8) (l4 : List UInt8) (h : l4.length = 4) : (four (crc rec) == l4) = decide (crc rec = beN l4) := by
  rw [Bool.eq_iff_iff]
  simp only [beq_iff_eq, decide_eq_true_eq]
  constructor
  · rintro rfl
    exact (beN_four _ (crc_lt rec)).symm
  · intro e
    rw [e, four_beN l4 h]

end Go.Proofs.YtjoaonppaokhhaaGreat

namespace Go.Proofs.YtjoaonppaokhhaaGreat
open Go.RowKit

set_option maxHeartbeats 400000 in
theorem bytesEqual_any (A B : Option Addr) (n m c d : Nat) (l r : List UInt8) (w : World) (ha : RB w A n l) (hb : RB w B m r) :
    Calls Tryz.prog 73 #[.slice A n c, .slice B m d] w fun e w' => e = .returned (.bool (l == r)) ∧ w = w' := by
  have h1 := run_conv_RB (P := Tryz.prog) (c := c) Tryz.underlying42 Tryz.underlying5 Tryz.underlying9 ha
  have h2 := run_conv_RB (P := Tryz.prog) (c := d) Tryz.underlying42 Tryz.underlying5 Tryz.underlying9 hb
  clear ha hb
  go_enter Tryz.func73, Tryz.ntmps73
  go_wp2
  go_ret
  exact ⟨by simp, rfl⟩
end Go.Proofs.YtjoaonppaokhhaaGreat
