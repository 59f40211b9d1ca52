/-
  Several texts in one:
  Package codec and its reference: the sum of bytes. Conditions: lengths that memory bears.
  Package codec and its reference: frames laid. Conditions: lengths that memory bears.
-/
import Derived.Test.YtepncgeaehjhiaaGreatPart4
import Derived.Test.YtepncgeaehjhiaaGreatPart28
import Derived.Deep.MidRow

namespace Go.Proofs.YtepncgeaehjhiaaGreat
open Go.RowKit

theorem and1u32 (v : Nat) (h : v < 4294967296) : bits .and .u32 (v : Int) 1 = ((v % 2 : Nat) : Int) := by
  have := u32_and_nat v 1 h (by omega)
  rw [show ((1 : Nat) : Int) = 1 from rfl] at this
  rw [this, nat_mask1]
theorem and15u32 (v : Nat) (h : v < 4294967296) : bits .and .u32 (v : Int) 15 = ((v % 16 : Nat) : Int) := by
  have := u32_and_nat v 15 h (by omega)
  rw [show ((15 : Nat) : Int) = 15 from rfl] at this
  rw [this, nat_mask4]
theorem xorP (v : Nat) (h : v < 4294967296) : bits .xor .u32 ((v : Int) / 2) 3988292384 = ((v / 2 ^^^ 3988292384 : Nat) : Int) := by
  have := u32_xor_nat (v / 2) 3988292384 (by omega) (by omega)
  rw [show ((3988292384 : Nat) : Int) = 3988292384 from rfl] at this
  rw [← this]
  simp

/-- so many steps -/
def csN : Nat → Nat → Nat
  | 0, x => x
  | n + 1, x => csN n (cs x)
/-- the table: a word's four steps, of each number below sixteen -/
def tabV (n : Nat) : Value := .int .u32 (cs4 n : Int)
def tabA : Array Value := #[tabV 0, tabV 1, tabV 2, tabV 3, tabV 4, tabV 5, tabV 6, tabV 7, tabV 8, tabV 9, tabV 10, tabV 11, tabV 12, tabV 13, tabV 14, tabV 15]

/-- the table as it is filled: the first n words, then noughts -/
def tabN (n : Nat) : Array Value := ((List.range 16).map fun i => if i < n then tabV i else .int .u32 0).toArray
theorem tabN_set (n : Nat) (_ : n < 16) : (tabN n).setIfInBounds n (tabV n) = tabN (n + 1) := by
  apply Array.ext
  · simp [tabN]
  · intro i h1 h2
    have h0 : i < (tabN n).size := by simpa using h1
    simp only [tabN, List.size_toArray, List.length_map, List.length_range] at h2
    rw [Array.getElem_setIfInBounds h0]
    split
    · rename_i e
      subst e
      simp [tabN]
    · rename_i e
      simp only [tabN, List.getElem_toArray, List.getElem_map, List.getElem_range]
      by_cases h3 : i < n
      · rw [if_pos h3, if_pos (by omega)]
      · rw [if_neg h3, if_neg (by omega)]

theorem Blk.newAt {w : World} {B : Nat} {cs cs' : Array Value} {t : TypeId} (hB : B = w.heap.size) (hc : cs' = cs) : Blk (w.alloc (.cells cs' t)) B t cs := by
  subst hB; subst hc
  exact Blk.new w t _
theorem Blk.there {w : World} {g : Nat} {t : TypeId} {cs : Array Value} (h : Blk w g t cs) : w.there g 0 cs.size := fun j hj => by
  rw [Nat.zero_add]
  exact ⟨by rw [h.cell, Array.getElem?_eq_getElem hj]; rfl, h.frozen j⟩
def setAll (cs : Array Value) (o : Nat) : List Value → Array Value
  | [] => cs
  | v :: vs => setAll (cs.setIfInBounds o v) (o + 1) vs
theorem Blk.setCells {g : Nat} {t : TypeId} (vs : List Value) : ∀ {w : World} {cs : Array Value} (o : Nat), Blk w g t cs → Blk (w.setCells g o vs) g t (setAll cs o vs) := by
  induction vs with
  | nil => intro w cs o h; exact h
  | cons v vs ih => intro w cs o h; exact ih (o + 1) (h.set o v)
theorem Chg.setCells {S : Nat → Prop} {a : World} {g : Nat} (hg : a.heap.size ≤ g ∨ S g) (vs : List Value) : ∀ {b : World} (o : Nat), Chg S a b → Chg S a (b.setCells g o vs) := by
  induction vs with
  | nil => intro b o h; exact h
  | cons v vs ih => intro b o h; exact ih (o + 1) (h.setCell (p := ⟨g, o, none⟩) hg v)

/-- a whole row stored over a block known whole; the world behind it is a name -/
theorem wpList_store_blk {P : Program} {ops : Array Oper} {rest : List Oper} {op : Oper} {a : Act} {w : World} {Q : Exit → Act → World → Prop} (hgd : op.guard = none) (ty : TypeId) (x y : Operand) (ho : op.op = .store ty x y)
    (g : Nat) (cells old : Array Value) (t : TypeId) (hx : a.eval x = .pointer (some ⟨g, 0, none⟩)) (hy : a.eval y = .agg cells) (hb : Blk w g t old) (hsz : old.size = cells.size)
    (hall : setAll old 0 cells.toList = cells) (hi : (P.info? ty).map (·.size) = some cells.size) (h1 : cells.all (·.oneCell') = true)
    (h : ∀ w', Blk w' g t cells → Chg (fun k => k = g) w w' → wpList P ops Q rest (a.put op.dst undef) w') : wpList P ops Q (op :: rest) a w := by
  refine wpList_store_mid hgd ty x y ho g 0 cells hx hy (by rw [← hsz]; exact hb.there) hi h1 (h _ ?_ (Chg.setCells (S := fun k => k = g) (.inr rfl) _ _ (Chg.refl _ w)))
  have := Blk.setCells cells.toList 0 hb
  rwa [hall] at this

set_option maxRecDepth 100000 in
set_option maxHeartbeats 1000000 in
theorem table_any (w : World) : Calls Tryz.prog 112 #[] w fun e w' => e = .returned (.agg tabA) ∧ Grew w w' := by
  go_enter Tryz.func112, Tryz.ntmps112
  go_wp2
  go_loopw [5] (fun si wr => ∃ i : Nat, si = .int .i64 (i : Int) ∧ i ≤ 16 ∧ Blk wr (w.heap.size + 1) 122 (tabN i) ∧ Blk wr w.heap.size 122 (tabN 0) ∧ Grew w wr) (fun si _ => 16 - (intOf si).toNat)
  case atStart => exact ⟨0, rfl, by omega, by refine Blk.newAt (w := w.alloc (.cells (tabN 0) 122)) ?_ rfl; simp, (Blk.newAt (w := w) (cs' := tabN 0) rfl rfl).alloc (.cells (tabN 0) 122), ((Chg.refl _ w).alloc _).alloc _⟩
  case round =>
    obtain ⟨i, rfl, hi, hb, hb0, hg⟩ := hrel
    by_cases hlt : i < 16
    · go_wp2
      obtain ⟨wo, rfl⟩ : ∃ wo : World, wo = wr := ⟨_, rfl⟩
      go_loop [3, 4] (fun sc sk => ∃ (k u : Nat), sk = .int .i64 (k : Int) ∧ sc = .int .u32 (u : Int) ∧ k ≤ 4 ∧ u < 4294967296 ∧ Hid (csN (4 - k) u = cs4 i)) (fun _ sk => 4 - (intOf sk).toNat)
      case atStart => exact ⟨0, i, rfl, by simp, by omega, by omega, rfl⟩
      case round =>
        obtain ⟨k, u, rfl, rfl, hk, hu, Hu⟩ := hrel
        by_cases hlt2 : k < 4
        · have Hu2 : Hid (csN (4 - (k + 1)) (cs u) = cs4 i) := by
            show _ = _
            rw [← Hu.out, show 4 - k = (4 - (k + 1)) + 1 from by omega]
            rfl
          have hcs := cs_lt hu
          have ha := and1u32 u hu
          have Ha := Lib.hid ha
          clear ha Hu
          by_cases h2 : u % 2 = 1
          · have h3 : (bits .and .u32 (u : Int) 1 == 0) = false := by rw [Ha.out, h2]; rfl
            have he : bits .xor .u32 ((u : Int) / 2) 3988292384 = (cs u : Int) := by rw [xorP u hu]; unfold cs; rw [if_pos h2]
            clear h2 Ha
            go_wp2
            go_round
            case rel => exact ⟨k + 1, cs u, by go_num, by simp, by omega, hcs, Hu2⟩
            case measure => simp [intOf]; omega
          · have h3 : (bits .and .u32 (u : Int) 1 == 0) = true := by rw [Ha.out, show u % 2 = 0 from by omega]; rfl
            have he : cs u = u / 2 := by unfold cs; rw [if_neg h2]
            have He := Lib.hid he
            clear h2 Ha he
            go_wp2
            go_round
            case rel => exact ⟨k + 1, cs u, by go_num, by rw [He.out]; simp, by omega, hcs, Hu2⟩
            case measure => simp [intOf]; omega
        · obtain rfl : k = 4 := by omega
          have hu8 := Hu.out
          have Hu4 : Hid (u = cs4 i) := hu8
          have hci : wo.cell? ⟨w.heap.size + 1, i, none⟩ = some (.int .u32 0) := by
            rw [hb.cell]
            simp [tabN, hlt]
          have hfi := hb.frozen i
          clear Hu hu8
          have hbs := hb.set i (tabV i)
          rw [tabN_set i hlt] at hbs
          unfold tabV at hbs
          rw [← Hu4.out] at hbs
          have hb0s := hb0.far (p := ⟨w.heap.size + 1, i, none⟩) (show w.heap.size ≠ w.heap.size + 1 by omega) (.int .u32 (u : Int))
          have hgs := hg.setCell (p := ⟨w.heap.size + 1, i, none⟩) (.inl (show w.heap.size ≤ w.heap.size + 1 by omega)) (.int .u32 (u : Int))
          have Hbs := Lib.hid hbs
          have Hb0s := Lib.hid hb0s
          clear hbs hb0s Hu4
          go_wp2
          go_roundw
          case rel => exact ⟨i + 1, by go_num, by omega, Hbs.out, Hb0s.out, hgs⟩
          case measure => simp [intOf]; omega
    · obtain rfl : i = 16 := by omega
      rw [show tabN 16 = tabA from rfl] at hb
      have ht := hb0.there
      go_wp2_with (first | (refine wpList_load_row rfl 122 _ rfl (w.heap.size + 1) rfl 122 tabA (0, 0) _ hb Tryz.underlying122 rfl (by kernel_rfl) ?_) | (refine wpList_store_mid rfl 122 _ _ rfl w.heap.size 0 tabA rfl rfl (by exact ht) (by kernel_rfl) (by kernel_rfl) ?_))
      have hbr := Blk.setCells tabA.toList 0 hb0
      rw [show setAll (tabN 0) 0 tabA.toList = tabA from rfl] at hbr
      exact bodyPost_ret (results_cell_row rfl _ _ w.heap.size 122 tabA (0, 0) _ rfl hbr Tryz.underlying122 rfl (by kernel_rfl)) rfl ⟨rfl, Chg.setCells (.inl (Nat.le_refl _)) _ _ hg⟩

set_option maxRecDepth 100000 in
set_option maxHeartbeats 1000000 in
theorem sum_any (A : Option Addr) (m c : Nat) (l : List UInt8) (w : World) (h : RB w A m l) (hm : m ≤ 140737488355328) :
    Calls Tryz.prog 98 #[.slice A m c] w fun e w' => e = .returned (.int .u32 (crc l : Int)) ∧ Grew w w' := by
  go_enter Tryz.func98, Tryz.ntmps98
  go_wp2_with fail
  refine (table_any _).mono ?_
  rintro e w1 ⟨rfl, hg1⟩
  have h1 := h.grew hg1
  have hb0 : Blk (w1.alloc (.cells (tabN 0) 122)) w1.heap.size 122 (tabN 0) := Blk.newAt rfl rfl
  have ht := hb0.there
  go_wp2_with (refine wpList_store_blk rfl 122 _ _ rfl w1.heap.size tabA (tabN 0) 122 rfl rfl (by exact hb0) rfl rfl (by kernel_rfl) (by kernel_rfl) ?_; intro w2 hb hc2)
  have hg2 : Grew w1 w2 := ((Chg.refl _ w1).alloc (.cells (tabN 0) 122)).step hc2 (by rintro k hk rfl; omega)
  have h2 := h1.grew hg2
  have hg := hg1.trans hg2
  clear hg1 hg2 hc2 h1 hb0 ht h
  generalize w1.heap.size = g at hb ⊢
  go_loop [4, 10] (fun sc si => ∃ (i x : Nat), si = .int .i64 (i : Int) ∧ sc = .int .u32 (x : Int) ∧ i ≤ m ∧ x < 4294967296 ∧ Hid (crcL x (l.drop i) = crcL 4294967295 l)) (fun _ si => m - (intOf si).toNat)
  case atStart => exact ⟨0, 4294967295, rfl, rfl, by omega, by omega, rfl⟩
  case round =>
    obtain ⟨i, x, rfl, rfl, hi, hx, Hx⟩ := hrel
    by_cases hlt : i < m
    · obtain ⟨ad, y, rfl, hy, hc⟩ := h2.at_ hlt
      have hy8 := y.toNat_lt
      have hdr : l.drop i = y :: l.drop (i + 1) := by
        have h3 := List.getElem?_eq_some_iff.1 hy
        rw [← h3.2, List.getElem_cons_drop]
      have hx2 := Hx.out
      rw [hdr] at hx2
      have Hx2 := Lib.hid hx2
      clear hx2 hdr hy Hx
      have hxor : bits .xor .u32 (x : Int) (y.toNat : Int) = ((x ^^^ y.toNat : Nat) : Int) := u32_xor_nat _ _ hx (by omega)
      have hz : x ^^^ y.toNat < 4294967296 := xor_lt32 hx (by omega)
      have Hz : Hid (crcL (cs4 (cs4 (x ^^^ y.toNat))) (l.drop (i + 1)) = crcL 4294967295 l) := Hx2.out
      generalize x ^^^ y.toNat = z at hxor hz Hz
      clear Hx2
      have four : ∀ z : Nat, z < 4294967296 → ∃ q p r : Nat, q < 16 ∧ bits .and .u32 (z : Int) 15 = (q : Int) ∧ w2.cell? ⟨g, q, none⟩ = some (.int .u32 (p : Int)) ∧ bits .xor .u32 ((z : Int) / 16) (p : Int) = (r : Int) ∧ r < 4294967296 ∧ r = cs4 z := by
        intro z hz
        have hp : cs4 (z % 16) < 4294967296 := cs4_lt (by omega)
        refine ⟨z % 16, cs4 (z % 16), cs4 z, by omega, and15u32 z hz, ?_, ?_, cs4_lt hz, rfl⟩
        · rw [hb.cell]
          have hall : ∀ q, q < 16 → tabA[q]? = some (tabV q) := by
            intro q hq
            have : q = 0 ∨ q = 1 ∨ q = 2 ∨ q = 3 ∨ q = 4 ∨ q = 5 ∨ q = 6 ∨ q = 7 ∨ q = 8 ∨ q = 9 ∨ q = 10 ∨ q = 11 ∨ q = 12 ∨ q = 13 ∨ q = 14 ∨ q = 15 := by omega
            rcases this with rfl | rfl | rfl | rfl | rfl | rfl | rfl | rfl | rfl | rfl | rfl | rfl | rfl | rfl | rfl | rfl <;> rfl
          exact hall _ (by omega)
        · have h5 := u32_xor_nat (z / 16) (cs4 (z % 16)) (by omega) hp
          rw [← cs4_tab] at h5
          rw [← h5]
          simp
      obtain ⟨q1, p1, r1, hq1, ha1, hc1, hx1, hr1, e1⟩ := four z hz
      obtain ⟨q2, p2, r2, hq2, ha2, hc2, hx2, hr2, e2⟩ := four r1 hr1
      have Hz2 : Hid (crcL r2 (l.drop (i + 1)) = crcL 4294967295 l) := by
        show _ = _
        rw [e2, e1]
        exact Hz.out
      clear four e1 e2 Hz
      go_wp2
      go_round
      case rel => exact ⟨i + 1, r2, by go_num, by simp, by omega, hr2, Hz2⟩
      case measure => simp [intOf]; omega
    · have hd : l.drop i = [] := List.drop_of_length_le (by have := h2.1; omega)
      have hx2 := Hx.out
      rw [hd] at hx2
      have hfin : Hid (bits .xor .u32 IntKind.u32.max (x : Int) = (crc l : Int)) := by
        show _ = _
        have := u32_xor_nat 4294967295 x (by omega) hx
        rw [show ((4294967295 : Nat) : Int) = IntKind.u32.max from rfl, Nat.xor_comm] at this
        rw [this]
        unfold crc
        rw [← hx2]
        rfl
      clear hx2 hd Hx
      go_wp2
      go_ret
      exact ⟨by simp [hfin.out], hg⟩

set_option maxRecDepth 100000 in
set_option maxHeartbeats 1000000 in
theorem refSum_any (A : Option Addr) (m c : Nat) (l : List UInt8) (w : World) (h : RB w A m l) (hm : m ≤ 140737488355328) :
    Calls Tryz.prog 82 #[.slice A m c] w fun e w' => e = .returned (.int .u32 (crc l : Int)) ∧ w' = w := by
  go_enter Tryz.func82, Tryz.ntmps82
  go_wp2
  go_loop [3, 4] (fun sc si => ∃ (i x : Nat), si = .int .i64 (i : Int) ∧ sc = .int .u32 (x : Int) ∧ i ≤ m ∧ x < 4294967296 ∧ Hid (crcL x (l.drop i) = crcL 4294967295 l)) (fun _ si => m - (intOf si).toNat)
  case atStart => exact ⟨0, 4294967295, rfl, rfl, by omega, by omega, rfl⟩
  case round =>
    obtain ⟨i, x, rfl, rfl, hi, hx, Hx⟩ := hrel
    by_cases hlt : i < m
    · obtain ⟨ad, y, rfl, hy, hc⟩ := h.at_ hlt
      have hy8 := y.toNat_lt
      have hdr : l.drop i = y :: l.drop (i + 1) := by
        have h3 := List.getElem?_eq_some_iff.1 hy
        rw [← h3.2, List.getElem_cons_drop]
      have hx2 := Hx.out
      rw [hdr] at hx2
      have Hx2 := Lib.hid hx2
      clear hx2 hdr hy Hx
      have hxor : bits .xor .u32 (x : Int) (y.toNat : Int) = ((x ^^^ y.toNat : Nat) : Int) := u32_xor_nat _ _ hx (by omega)
      have hz : x ^^^ y.toNat < 4294967296 := xor_lt32 hx (by omega)
      have Hz : Hid (crcL (cs4 (cs4 (x ^^^ y.toNat))) (l.drop (i + 1)) = crcL 4294967295 l) := Hx2.out
      generalize x ^^^ y.toNat = z at hxor hz Hz
      clear Hx2
      go_wp2
      go_loop [3, 5] (fun sc sk => ∃ (k x : Nat), sk = .int .i64 (k : Int) ∧ sc = .int .u32 (x : Int) ∧ k ≤ 8 ∧ x < 4294967296 ∧ Hid (csN (8 - k) x = cs4 (cs4 z))) (fun _ sk => 8 - (intOf sk).toNat)
      case atStart => exact ⟨0, z, rfl, by simp, by omega, hz, rfl⟩
      case round =>
        obtain ⟨k, u, rfl, rfl, hk, hu, Hu⟩ := hrel
        by_cases hlt2 : k < 8
        · have Hu2 : Hid (csN (8 - (k + 1)) (cs u) = cs4 (cs4 z)) := by
            show _ = _
            rw [← Hu.out, show 8 - k = (8 - (k + 1)) + 1 from by omega]
            rfl
          have hcs := cs_lt hu
          have ha := and1u32 u hu
          have Ha := Lib.hid ha
          clear ha Hu
          by_cases h2 : u % 2 = 1
          · have h3 : (bits .and .u32 (u : Int) 1 == 1) = true := by rw [Ha.out, h2]; rfl
            have he : bits .xor .u32 ((u : Int) / 2) 3988292384 = (cs u : Int) := by rw [xorP u hu]; unfold cs; rw [if_pos h2]
            clear h2 Ha
            go_wp2
            go_round
            case rel => exact ⟨k + 1, cs u, by go_num, by simp, by omega, hcs, Hu2⟩
            case measure => simp [intOf]; omega
          · have h3 : (bits .and .u32 (u : Int) 1 == 1) = false := by rw [Ha.out, show u % 2 = 0 from by omega]; rfl
            have he : cs u = u / 2 := by unfold cs; rw [if_neg h2]
            have He := Lib.hid he
            clear h2 Ha he
            go_wp2
            go_round
            case rel => exact ⟨k + 1, cs u, by go_num, by rw [He.out]; simp, by omega, hcs, Hu2⟩
            case measure => simp [intOf]; omega
        · obtain rfl : k = 8 := by omega
          have hu8 := Hu.out
          have Hz2 : Hid (crcL u (l.drop (i + 1)) = crcL 4294967295 l) := by
            show _ = _
            rw [← Hz.out, ← hu8]
            rfl
          clear Hu hu8
          go_wp2
          go_round
          case rel => exact ⟨i + 1, u, by go_num, rfl, by omega, hu, Hz2⟩
          case measure => simp [intOf]; omega
    · have hd : l.drop i = [] := List.drop_of_length_le (by have := h.1; omega)
      have hx2 := Hx.out
      rw [hd] at hx2
      have hfin : Hid (bits .xor .u32 (x : Int) 4294967295 = (crc l : Int)) := by
        show _ = _
        have := u32_xor_nat x 4294967295 hx (by omega)
        rw [show ((4294967295 : Nat) : Int) = 4294967295 from rfl] at this
        rw [this]
        unfold crc
        rw [← hx2]
        rfl
      clear hx2 hd Hx
      go_wp2
      go_ret
      refine ⟨?_, rfl⟩
      rw [← hfin.out]
      simp
end Go.Proofs.YtepncgeaehjhiaaGreat

namespace Go.Proofs.YtepncgeaehjhiaaGreat
open Go.RowKit

/-- a sum's bytes -/
def four (s : Nat) : List UInt8 := [UInt8.ofNat (s / 16777216), UInt8.ofNat (s / 65536), UInt8.ofNat (s / 256), UInt8.ofNat s]
/-- a record's frame -/
def frameB (l : List UInt8) : List UInt8 := uv l.length ++ four (crc l) ++ l
/-- new bytes and an error -/
def BytesE (w : World) (n : Nat) (l : List UInt8) (er : Nat) (e : Ending) (w' : World) : Prop :=
  ∃ A c, e = .returned (.tuple #[.slice A n c, .int .i64 (er : Int)]) ∧ OB w' w.heap.size 5 A n c l ∧ Grew w w'

theorem byt_ofNat (n : Nat) : byt (UInt8.ofNat n) = .int .u8 ((n : Int) % 256) := by
  unfold byt
  rw [UInt8.toNat_ofNat']
  simp

/-- a sum's bytes as the walk lays them -/
def fourC (s : Nat) : Array Value := #[.int .u8 ((s : Int) / 16777216), .int .u8 ((s : Int) / 65536 % 256), .int .u8 ((s : Int) / 256 % 256), .int .u8 ((s : Int) % 256)]
theorem fourC_eq (s : Nat) (h : s < 4294967296) : fourC s = ((four s).map byt).toArray := by
  show _ = #[byt (UInt8.ofNat (s / 16777216)), byt (UInt8.ofNat (s / 65536)), byt (UInt8.ofNat (s / 256)), byt (UInt8.ofNat s)]
  rw [byt_ofNat, byt_ofNat, byt_ofNat, byt_ofNat]
  have e1 : (((s / 16777216 : Nat)) : Int) % 256 = (s : Int) / 16777216 := by omega
  have e2 : (((s / 65536 : Nat)) : Int) % 256 = (s : Int) / 65536 % 256 := by omega
  have e3 : (((s / 256 : Nat)) : Int) % 256 = (s : Int) / 256 % 256 := by omega
  rw [e1, e2, e3]
  rfl

set_option maxRecDepth 100000 in
set_option maxHeartbeats 1000000 in
theorem frame_no (A : Option Addr) (m c : Nat) (w : World) (hm : m ≤ 9223372036854775807) (h : 65536 < m) :
    Calls Tryz.prog 73 #[.slice A m c] w fun e w' => e = .returned (.tuple #[.slice none 0 0, .int .i64 23]) ∧ w' = w := by
  go_enter Tryz.func73, Tryz.ntmps73
  go_wp2_with fail
  go_ret2
  exact ⟨by simp, rfl⟩
set_option maxRecDepth 100000 in
set_option maxHeartbeats 1000000 in
theorem refFrame_no (A : Option Addr) (m c : Nat) (w : World) (hm : m ≤ 9223372036854775807) (h : 65536 < m) :
    Calls Tryz.prog 58 #[.slice A m c] w fun e w' => e = .returned (.tuple #[.slice none 0 0, .int .i64 23]) ∧ w' = w := by
  go_enter Tryz.func58, Tryz.ntmps58
  go_wp2_with fail
  go_ret2
  exact ⟨by simp, rfl⟩

set_option maxRecDepth 100000 in
set_option maxHeartbeats 1000000 in
theorem frame_any (A : Option Addr) (m c : Nat) (l : List UInt8) (w : World) (h : RB w A m l) (hm : m ≤ 65536) :
    Calls Tryz.prog 73 #[.slice A m c] w (BytesE w ((uv m).length + 4 + m) (frameB l) 0) := by
  have hl10 := uv_len10 (v := m) (by omega)
  have hcr := crc_lt l
  have hfb : frameB l = uv m ++ four (crc l) ++ l := by unfold frameB; rw [h.1]
  rw [hfb]
  clear hfb
  have hsum := sum_any A m c l w h (by omega)
  generalize crc l = s at hcr hsum ⊢
  have Hsum := Lib.hid hsum
  clear hsum
  go_enter Tryz.func73, Tryz.ntmps73
  go_wp2_with fail
  refine Hsum.out.mono ?_
  rintro e w1 ⟨rfl, hg1⟩
  go_wp2_with fail
  refine (putUint_any none 0 0 [] m _ _ ⟨rfl, Rd.nil _ _⟩ ?_ (by omega) (by omega)).mono ?_
  · simp
  rintro e w2 ⟨B, C, rfl, ho2, hg2⟩
  rw [List.nil_append] at ho2
  have h2 := (h.grew hg1).grew hg2
  have hs1 := hg1.size
  have hs2 := hg2.size
  rw [Nat.zero_add] at ho2
  have hf4 : RB (w2.alloc (.cells (fourC s) 5)) (some ⟨w2.heap.size, 0, none⟩) 4 (four s) := RB.new w2 (four s) 4 _ _ rfl (fourC_eq s hcr)
  have ho2a := ho2.grew ((Chg.refl _ w2).alloc (.cells (fourC s) 5))
  unfold fourC at hf4 ho2a
  have hr3 := h2.grew ((Chg.refl _ w2).alloc (.cells (fourC s) 5))
  unfold fourC at hr3
  go_wp2_with (first | (at_builtin; refine wpList_appB rfl _ _ rfl w1.heap.size B _ C _ rfl ho2a (by simp; omega) _ 4 4 (four s) rfl hf4 (by omega) ?_; intro A3 c3 w3 h3; have ho3 := h3.ob; have hg3 := h3.grew (hg2.alloc _) (fun ad e => (Own.blk_lt ho2 ad e).1); have hs3 := hg3.size; have hr4 := (h.grew hg1).grew hg3) | (at_builtin; refine wpList_appB rfl _ _ rfl w1.heap.size A3 _ c3 _ rfl ho3 hs3 A m c l rfl hr4 (by omega) ?_; intro A4 c4 w4 h4))
  go_ret2
  exact ⟨A4, c4, by simp, h4.ob.mono hs1, hg1.trans (h4.grew hg3 fun ad e => (Own.blk_lt ho3 ad e).1)⟩

theorem four_any (s : Nat) (w : World) (hs : s < 4294967296) : Calls Tryz.prog 81 #[.int .u32 (s : Int)] w fun e w' => ∃ A c, e = .returned (.slice A 4 c) ∧ OB w' w.heap.size 5 A 4 c (four s) ∧ Grew w w' := by
  have hf4 : OB (w.alloc (.cells (fourC s) 5)) w.heap.size 5 (some ⟨w.heap.size, 0, none⟩) 4 4 (four s) := by
    have := Own.lit w w.heap.size 5 1 4 (fourC s) (Nat.le_refl _) (by unfold maxLen; omega) rfl
    rw [fourC_eq s hs] at this ⊢
    exact this
  unfold fourC at hf4
  go_enter Tryz.func81, Tryz.ntmps81
  go_wp2
  go_ret
  exact ⟨_, _, by simp, hf4, (Chg.refl _ w).alloc _⟩

set_option maxRecDepth 100000 in
set_option maxHeartbeats 1000000 in
theorem refFrame_any (A : Option Addr) (m c : Nat) (l : List UInt8) (w : World) (h : RB w A m l) (hm : m ≤ 65536) :
    Calls Tryz.prog 58 #[.slice A m c] w (BytesE w ((uv m).length + 4 + m) (frameB l) 0) := by
  have hl10 := uv_len10 (v := m) (by omega)
  have hcr := crc_lt l
  have hfb : frameB l = uv m ++ four (crc l) ++ l := by unfold frameB; rw [h.1]
  rw [hfb]
  clear hfb
  have hsum := fun w h => refSum_any A m c l w h (by omega)
  generalize crc l = s at hcr hsum ⊢
  have Hsum := Lib.hid hsum
  clear hsum
  go_enter Tryz.func58, Tryz.ntmps58
  go_wp2_with fail
  refine (refPutUint_any none 0 0 [] m _ _ ⟨rfl, Rd.nil _ _⟩ ?_ (by omega) (by omega)).mono ?_
  · simp
  rintro e w2 ⟨B, C, rfl, ho2, hg2⟩
  rw [List.nil_append, Nat.zero_add] at ho2
  have h2 := h.grew hg2
  have hs2 := hg2.size
  go_wp2_with fail
  refine (Hsum.out _ h2).mono ?_
  rintro e w3 ⟨rfl, rfl⟩
  go_wp2_with fail
  refine (four_any s _ hcr).mono ?_
  rintro e w3 ⟨A3, c3, rfl, ho3, hg3⟩
  have ho2b := ho2.grew hg3
  have hs3 := hg3.size
  have hg23 := hg2.trans hg3
  go_wp2_with (first | (at_builtin; refine wpList_appB rfl _ _ rfl w.heap.size B _ C _ rfl ho2b (by omega) A3 4 c3 (four s) rfl ho3.rb (by omega) ?_; intro A4 c4 w4 h4; have ho4 := h4.ob; have hg4 := h4.grew hg23 (fun ad e => (Own.blk_lt ho2 ad e).1); have hs4 := hg4.size; have hr4 := h.grew hg4) | (at_builtin; refine wpList_appB rfl _ _ rfl w.heap.size A4 _ c4 _ rfl ho4 hs4 A m c l rfl hr4 (by omega) ?_; intro A5 c5 w5 h5))
  go_ret2
  exact ⟨A5, c5, by simp, h5.ob, h5.grew hg4 fun ad e => (Own.blk_lt ho4 ad e).1⟩
end Go.Proofs.YtepncgeaehjhiaaGreat
