/-
  Several texts in one:
  The reference of match: one: a text is what an alternative says just if glob says so. Conditions: texts that memory bears.
  The reference of match: Like: a text is like a pattern just if likeB says so. Conditions: texts that memory bears.
  What every program of match answers, call by call (awake); the law MatchLikes, walked. Conditions: texts that memory bears.
  Labels and matchers copied; a number without its sign; the opposite of a kind. Conditions: lengths that memory bears.
-/
import Derived.Test.YtailooldnelecaaGreatDoorPart20
import Derived.Test.YtailooldnelecaaGreatDoorPart9
import Derived.OwnWalk
import Derived.Test.YtailooldnelecaaGreatDoorPart22

namespace Go.Proofs.YtailooldnelecaaGreatDoor
open Go.RowKit

theorem infoBo : (Tryz.prog.info? 4).map (fun i => (i.zero, i.size, i.bytes)) = some (some (.bool false), 1, 1) := by kernel_rfl
/-- a row of its own size is a block known whole -/
theorem Own.blk {w : World} {base : Nat} {t : TypeId} {sz n g : Nat} {cs : List Value} (h : Own w base t sz (some ⟨g, 0, none⟩) n n cs) : Blk w g t cs.toArray := by
  rcases h.2 with ⟨e, _⟩ | ⟨g', cap, cur, e, hbg, hg, hnc, hcm, hcs, htake⟩
  · cases e
  · injection e with e1 e2 e3
    injection e1 with e1
    injection e1 with e1
    subst e1; subst e3
    have : cur.toList = cs := by rw [← htake, ← hcs]; exact (List.take_of_length_le (by simp)).symm
    unfold Blk
    rw [hg, ← this]
/-- a row of truth values, told by a function -/
def Bls (w : World) (g m : Nat) (f : Nat → Bool) : Prop := Blk w g 4 ((List.range m).map fun i => Value.bool (f i)).toArray
theorem Bls.cell {w : World} {g m : Nat} {f : Nat → Bool} (h : Bls w g m f) {i : Nat} (hi : i < m) : w.cell? ⟨g, i, none⟩ = some (.bool (f i)) := by
  rw [Blk.cell h]
  simp [hi]
theorem Bls.congr {w : World} {g m : Nat} {f f' : Nat → Bool} (h : Bls w g m f) (he : ∀ i, i < m → f i = f' i) : Bls w g m f' := by
  have : ((List.range m).map fun i => Value.bool (f i)) = (List.range m).map fun i => Value.bool (f' i) := List.map_congr_left fun i hi => by rw [he i (List.mem_range.1 hi)]
  unfold Bls at h ⊢
  rw [← this]
  exact h
theorem Bls.set {w : World} {g m : Nat} {f : Nat → Bool} (h : Bls w g m f) (i : Nat) (b : Bool) : Bls (w.setCell ⟨g, i, none⟩ (.bool b)) g m (fun j => if j = i then b else f j) := by
  have h1 := Blk.set h i (.bool b)
  have : (((List.range m).map fun i => Value.bool (f i)).toArray.setIfInBounds i (.bool b)) = ((List.range m).map fun j => Value.bool (if j = i then b else f j)).toArray := by
    apply Array.ext_getElem?
    intro j
    rw [Array.getElem?_setIfInBounds]
    simp only [List.size_toArray, List.length_map, List.length_range, List.getElem?_toArray, List.getElem?_map]
    by_cases hij : i = j
    · subst hij
      by_cases hi : i < m
      · simp [hi]
      · simp [hi]
    · rw [if_neg hij]
      by_cases hj : j < m
      · simp [hj, show ¬ j = i from fun e => hij e.symm]
      · simp [hj]
  rw [this] at h1
  exact h1
theorem made_false (n : Nat) : (madeCells (Value.bool false).cells (n * 1)).toList = (List.range n).map fun _ => Value.bool false := by
  rw [Nat.mul_one]
  simp [madeCells, Value.cells, Nat.mod_one]

theorem made_bools (n : Nat) : (madeCells (Value.bool false).cells (n * 1)).toList.toArray = ((List.range n).map fun _ => Value.bool false).toArray := by rw [made_false]
theorem wpList_bools {ops : Array Oper} {rest : List Oper} {o : Oper} {a : Act} {w : World} {Q : Exit → Act → World → Prop} (hg : o.guard = none) (l c : Operand) (hop : o.op = Op.makeSlice 137 l c) (L C : Int)
    (hl : a.eval l = .int .i64 L) (hc : a.eval c = .int .i64 C) (n : Nat) (hL : L = (n : Int)) (hC : C = (n : Int)) (hn : n ≤ 140737488355328)
    (hK : ∀ w', Bls w' w.heap.size n (fun _ => false) → Grew w w' → wpList Tryz.prog ops Q rest (a.put o.dst (.slice (some ⟨w.heap.size, 0, none⟩) n n)) w') : wpList Tryz.prog ops Q (o :: rest) a w := by
  obtain ⟨i0, hi, hz0, hz1, hz2⟩ := info_parts infoBo
  refine wpList_make_full w hg l c 137 hop w.heap.size 4 i0 (.bool false) 1 Tryz.underlying137 hi hz0 hz1 .i64 .i64 L C n hl hc hL hC (by rw [hz2]; omega) (by unfold maxLen; omega) (Nat.le_refl _) ?_
  intro w' h1 h2
  have h3 : Own w' w.heap.size 4 1 (some ⟨w.heap.size, 0, none⟩) n n (madeCells (Value.bool false).cells (n * 1)).toList := h1
  have h4 := Own.blk h3
  rw [made_bools] at h4
  exact hK w' h4 ((Chg.of_grownBy h2).mono fun _ _ e => by cases e)

/-- one more place reached by a star -/
theorem up_to {f g : Nat → Bool} {i : Nat} {b : Bool} (hb : b = f (i + 1)) : ∀ j, (if j = i + 1 then b else if j ≤ i then f j else g j) = if j ≤ i + 1 then f j else g j := fun j => by
  by_cases h : j = i + 1
  · subst h; rw [if_pos rfl, if_pos (Nat.le_refl _), hb]
  · rw [if_neg h]
    by_cases h2 : j ≤ i
    · rw [if_pos h2, if_pos (by omega)]
    · rw [if_neg h2, if_neg (by omega)]

theorem byte_eqz (c : UInt8) : ((c.toNat : Int) == 42) = (c == 42) := by
  rw [Bool.eq_iff_iff, beq_iff_eq, beq_iff_eq, ← UInt8.toNat_inj]
  show ((c.toNat : Int) = 42) ↔ c.toNat = 42
  omega
/-- behind one more byte, as far as place j of the pattern has been looked at -/
def nxTo (P S : List UInt8) (k j x : Nat) : Bool := (decide (x < j) && (stB P S k x && P[x]? == some 42)) || match x with
  | 0 => false
  | y + 1 => decide (y < j) && (stB P S k y && P[y]? != some 42 && P[y]? == S[k]?)
theorem nxTo_zero (P S : List UInt8) (k x : Nat) : nxTo P S k 0 x = false := by
  unfold nxTo
  cases x <;> simp
theorem nxTo_all {P S : List UInt8} {k n x : Nat} (hn : n = P.length) (hx : x ≤ n) : nxTo P S k n x = nxB P S k x := by
  unfold nxTo nxB
  cases x with
  | zero =>
    rcases Nat.eq_zero_or_pos n with h | h
    · have : P[0]? = none := List.getElem?_eq_none (by omega)
      simp [h, this]
    · simp [h]
  | succ y =>
    have h2 : decide (y < n) = true := by simp; omega
    simp only [h2, Bool.true_and]
    rcases Nat.lt_or_ge (y + 1) n with h | h
    · simp [h]
    · have : P[y + 1]? = none := List.getElem?_eq_none (by omega)
      simp [this]
theorem nxTo_same {P S : List UInt8} {k j : Nat} (h : stB P S k j = false ∨ (P[j]? ≠ some 42 ∧ P[j]? ≠ S[k]?)) (x : Nat) : nxTo P S k (j + 1) x = nxTo P S k j x := by
  have h1 : (stB P S k j && P[j]? == some 42) = false := by rcases h with h | ⟨h, _⟩ <;> simp [h]
  have h2 : (stB P S k j && P[j]? != some 42 && P[j]? == S[k]?) = false := by
    rcases h with h | ⟨_, h⟩
    · simp [h]
    · simp [h]
  unfold nxTo
  congr 1
  · by_cases hx : x = j
    · subst hx; rw [h1]; simp
    · congr 1
      rw [Bool.eq_iff_iff, decide_eq_true_eq, decide_eq_true_eq]
      omega
  · cases x with
    | zero => rfl
    | succ y =>
      simp only
      by_cases hy : y = j
      · subst hy; rw [h2]; simp
      · congr 1
        rw [Bool.eq_iff_iff, decide_eq_true_eq, decide_eq_true_eq]
        omega
theorem nxTo_star {P S : List UInt8} {k j : Nat} (h : stB P S k j = true) (hs : P[j]? = some 42) (x : Nat) : (if x = j then true else nxTo P S k j x) = nxTo P S k (j + 1) x := by
  have h2 : (stB P S k j && P[j]? != some 42 && P[j]? == S[k]?) = false := by simp [hs]
  by_cases hx : x = j
  · subst hx
    rw [if_pos rfl]
    unfold nxTo
    simp [h, hs]
  · rw [if_neg hx]
    unfold nxTo
    congr 1
    · congr 1
      rw [Bool.eq_iff_iff, decide_eq_true_eq, decide_eq_true_eq]
      omega
    · cases x with
      | zero => rfl
      | succ y =>
        simp only
        by_cases hy : y = j
        · subst hy; rw [h2]; simp
        · congr 1
          rw [Bool.eq_iff_iff, decide_eq_true_eq, decide_eq_true_eq]
          omega
theorem nxTo_lit {P S : List UInt8} {k j : Nat} (h : stB P S k j = true) (hs : P[j]? ≠ some 42) (he : P[j]? = S[k]?) (x : Nat) : (if x = j + 1 then true else nxTo P S k j x) = nxTo P S k (j + 1) x := by
  have h1 : (stB P S k j && P[j]? == some 42) = false := by simp [hs]
  by_cases hx : x = j + 1
  · subst hx
    rw [if_pos rfl]
    unfold nxTo
    have h3 : S[k]? ≠ some 42 := by rw [← he]; exact hs
    simp [h, he, h3]
  · rw [if_neg hx]
    unfold nxTo
    congr 1
    · by_cases hj : x = j
      · subst hj; rw [h1]; simp
      · congr 1
        rw [Bool.eq_iff_iff, decide_eq_true_eq, decide_eq_true_eq]
        omega
    · cases x with
      | zero => rfl
      | succ y =>
        simp only
        congr 1
        rw [Bool.eq_iff_iff, decide_eq_true_eq, decide_eq_true_eq]
        omega

set_option maxRecDepth 100000 in
set_option maxHeartbeats 4000000 in
theorem rone_any (p s : ByteArray) (w : World) (hp : p.size ≤ 16777216) (hs : s.size ≤ 16777216) :
    Calls Tryz.prog 86 #[.string p, .string s] w fun e w' => e = .returned (.bool (glob (lst p) (lst s))) ∧ Grew w w' := by
  have hsb := stB_zero (lst p) (lst s)
  have Hp : Hid (∀ i (h : i < p.size), (lst p)[i]? = some p[i]) := fun i h => by
    show (p.data.toList)[i]? = _
    rw [Array.getElem?_toList]
    exact Array.getElem?_eq_getElem h
  have Hs : Hid (∀ i (h : i < s.size), (lst s)[i]? = some s[i]) := fun i h => by
    show (s.data.toList)[i]? = _
    rw [Array.getElem?_toList]
    exact Array.getElem?_eq_getElem h
  have Hend : Hid (stB (lst p) (lst s) s.size p.size = glob (lst p) (lst s)) := by
    show _ = _
    have := stB_end (lst p) (lst s)
    rwa [lst_length, lst_length] at this
  have Hsb := Lib.hid hsb
  clear hsb
  go_enter Tryz.func86, Tryz.ntmps86
  go_wp2_with (at_make; refine wpList_bools rfl _ _ rfl _ _ rfl rfl (p.size + 1) (by omega) (by omega) (by omega) ?_; intro w1 hb1 hg1; have hc1 := hb1.cell (i := 0) (by omega); have hf1 := Blk.frozen hb1 0)
  have hb2 : Bls (w1.setCell ⟨w.heap.size, 0, none⟩ (.bool true)) w.heap.size (p.size + 1) (fun j => if j ≤ 0 then stB (lst p) (lst s) 0 j else false) := (hb1.set 0 true).congr fun j hj => by
    by_cases h0 : j = 0
    · subst h0; rw [if_pos rfl, if_pos (Nat.le_refl _), Hsb.out]
    · rw [if_neg h0, if_neg (by omega)]
  have hg2 : Grew w (w1.setCell ⟨w.heap.size, 0, none⟩ (.bool true)) := hg1.setCell (p := ⟨w.heap.size, 0, none⟩) (.inl (Nat.le_refl _)) _
  clear hb1 hc1 hf1 hg1
  go_loopw [6] (fun i wr => ∃ (j : Nat), i = .int .i64 (j : Int) ∧ j ≤ p.size ∧ Bls wr w.heap.size (p.size + 1) (fun x => if x ≤ j then stB (lst p) (lst s) 0 x else false) ∧ Grew w wr) (fun i _ => p.size - (intOf i).toNat)
  case atStart => exact ⟨0, rfl, by omega, hb2, hg2⟩
  case round =>
    clear hb2 hg2 w1
    obtain ⟨j, rfl, hj, hb, hg⟩ := hrel
    by_cases hlt : j < p.size
    · have hc0 : wr.cell? ⟨w.heap.size, j, none⟩ = some (.bool (stB (lst p) (lst s) 0 j)) := by have := hb.cell (i := j) (by omega); rwa [if_pos (Nat.le_refl _)] at this
      have hc1 : wr.cell? ⟨w.heap.size, j + 1, none⟩ = some (.bool false) := by have := hb.cell (i := j + 1) (by omega); rwa [if_neg (by omega)] at this
      have hf1 := Blk.frozen hb (j + 1)
      have hfst := stB_first (s := lst s) (Hp.out j hlt)
      have Hstep : Hid (∀ b, b = stB (lst p) (lst s) 0 (j + 1) → Bls (wr.setCell ⟨w.heap.size, j + 1, none⟩ (.bool b)) w.heap.size (p.size + 1) (fun x => if x ≤ j + 1 then stB (lst p) (lst s) 0 x else false)) := fun b hbb => (hb.set (j + 1) b).congr fun x _ => up_to (g := fun _ => false) hbb x
      have Hg : Hid (∀ b, Grew w (wr.setCell ⟨w.heap.size, j + 1, none⟩ (.bool b))) := fun b => hg.setCell (p := ⟨w.heap.size, j + 1, none⟩) (.inl (Nat.le_refl _)) _
      cases hst : stB (lst p) (lst s) 0 j
      · rw [hst] at hc0 hfst
        have HF : Hid (false = stB (lst p) (lst s) 0 (j + 1)) := by show _ = _; rw [hfst]; rfl
        clear hfst hst hb hg
        go_wp2
        go_roundw
        case rel => exact ⟨j + 1, by go_num, by omega, Hstep.out false HF.out, Hg.out false⟩
        case measure => simp [intOf]; omega
      · rw [hst] at hc0 hfst
        have HF : Hid (((p[j].toNat : Int) == 42) = stB (lst p) (lst s) 0 (j + 1)) := by show _ = _; rw [hfst, byte_eqz]; rfl
        clear hfst hst hb hg
        go_wp2
        go_roundw
        case rel => exact ⟨j + 1, by go_num, by omega, Hstep.out _ HF.out, Hg.out _⟩
        case measure => simp [intOf]; omega
    · obtain rfl : j = p.size := by omega
      have hb0 : Bls wr w.heap.size (p.size + 1) (stB (lst p) (lst s) 0) := hb.congr fun x hx => by rw [if_pos (by omega)]
      clear hb
      go_wp2
      obtain ⟨wv, rfl⟩ : ∃ wv : World, wv = wr := ⟨_, rfl⟩
      go_loopw [5, 7] (fun sa sk wr => ∃ (k g : Nat), sa = .slice (some ⟨g, 0, none⟩) (p.size + 1) (p.size + 1) ∧ sk = .int .i64 (k : Int) ∧ k ≤ s.size ∧ Bls wr g (p.size + 1) (stB (lst p) (lst s) k) ∧ w.heap.size ≤ g ∧ Grew w wr) (fun _ sk _ => s.size - (intOf sk).toNat)
      case atStart => exact ⟨0, w.heap.size, rfl, rfl, by omega, hb0, Nat.le_refl _, hg⟩
      case round =>
        clear hb0 hg wv
        obtain ⟨k, g, rfl, rfl, hk, hb, hwg, hg⟩ := hrel
        by_cases hks : k < s.size
        · have hwo := hg.size
          have hgl := Blk.lt hb
          go_wp2_with (at_make; refine wpList_bools rfl _ _ rfl _ _ rfl rfl (p.size + 1) (by omega) (by omega) (by omega) ?_; intro w1 hb1 hg1)
          have hba := Blk.grew hb hg1
          have hgh : g ≠ wr.heap.size := by omega
          have hwh : w.heap.size ≤ wr.heap.size := hwo
          have hbn : Bls w1 wr.heap.size (p.size + 1) (nxTo (lst p) (lst s) k 0) := hb1.congr fun x _ => (nxTo_zero _ _ _ _).symm
          have hg2 := hg.trans hg1
          clear hb hb1 hg1 hg hwo hgl
          generalize wr.heap.size = h at *
          obtain ⟨wv, rfl⟩ : ∃ wv : World, wv = w1 := ⟨_, rfl⟩
          clear wr
          go_loopw [9] (fun i wr => ∃ (j : Nat), i = .int .i64 (j : Int) ∧ j ≤ p.size ∧ Bls wr h (p.size + 1) (nxTo (lst p) (lst s) k j) ∧ Bls wr g (p.size + 1) (stB (lst p) (lst s) k) ∧ Grew w wr) (fun i _ => p.size - (intOf i).toNat)
          case atStart => exact ⟨0, rfl, by omega, hbn, hba, hg2⟩
          case round =>
            clear hba hbn hg2 wv
            obtain ⟨j, rfl, hj, hbn, hba, hg⟩ := hrel
            by_cases hlt : j < p.size
            · have hc0 : wr.cell? ⟨g, j, none⟩ = some (.bool (stB (lst p) (lst s) k j)) := hba.cell (by omega)
              have hpj := Hp.out j hlt
              have hsk := Hs.out k hks
              have hsame := nxTo_same (P := lst p) (S := lst s) (k := k) (j := j)
              have hstar := nxTo_star (P := lst p) (S := lst s) (k := k) (j := j)
              have hlit := nxTo_lit (P := lst p) (S := lst s) (k := k) (j := j)
              rw [hpj, hsk] at hsame hlit
              rw [hpj] at hstar
              have hb1 : wr.cell? ⟨h, j, none⟩ = some (.bool (nxTo (lst p) (lst s) k j j)) := hbn.cell (by omega)
              have hb2 : wr.cell? ⟨h, j + 1, none⟩ = some (.bool (nxTo (lst p) (lst s) k j (j + 1))) := hbn.cell (by omega)
              have hfh := fun i => Blk.frozen hbn i
              have hf1 := hfh j
              have hf2 := hfh (j + 1)
              have hsetg : Hid (∀ i b, Bls (wr.setCell ⟨h, i, none⟩ (.bool b)) g (p.size + 1) (stB (lst p) (lst s) k)) := fun i b => Blk.far hba (p := ⟨h, i, none⟩) hgh (.bool b)
              have hgset : Hid (∀ i b, Grew w (wr.setCell ⟨h, i, none⟩ (.bool b))) := fun i b => hg.setCell (p := ⟨h, i, none⟩) (.inl hwh) _
              have Hset : Hid (∀ i b, Bls (wr.setCell ⟨h, i, none⟩ (.bool b)) h (p.size + 1) (fun x => if x = i then b else nxTo (lst p) (lst s) k j x)) := fun i b => hbn.set i b
              clear hfh
              cases hst : stB (lst p) (lst s) k j
              · rw [hst] at hc0 hsame
                have hbn2 : Bls wr h (p.size + 1) (nxTo (lst p) (lst s) k (j + 1)) := hbn.congr fun x _ => (hsame (.inl rfl) x).symm
                clear hsame hstar hlit hst hpj hsk hb1 hb2 hbn
                go_wp2_with fail
                refine wp_region_text [(3, 1), (5, 1)] (by kernel_rfl) (by kernel_rfl) ?_
                simp only [instr, chk, look, Nat.reduceBEq, Bool.false_eq_true, if_true, if_false, Nat.reduceEqDiff, List.cons_append, List.nil_append]
                go_wp2_with fail
                refine OnlyN.normal ?_
                go_wp2
                go_roundw
                case rel => exact ⟨j + 1, by go_num, by omega, hbn2, hba, hg.drew⟩
                case measure => simp [intOf]; omega
              · rw [hst] at hc0 hsame hstar hlit
                by_cases h42 : p[j] = 42
                · have c1 : ((p[j].toNat : Int) == 42) = true := by rw [byte_eqz, h42]; rfl
                  have c2 : ((p[j].toNat : Int) != 42) = false := by rw [bne, c1]; rfl
                  have hbn2 : Bls (wr.setCell ⟨h, j, none⟩ (.bool true)) h (p.size + 1) (nxTo (lst p) (lst s) k (j + 1)) := (Hset.out j true).congr fun x _ => hstar rfl (by rw [h42]) x
                  have hba2 := hsetg.out j true
                  have hg2 := hgset.out j true
                  have hc2 : (wr.setCell ⟨h, j, none⟩ (.bool true)).cell? ⟨g, j, none⟩ = some (.bool true) := by rw [hba2.cell (by omega), hst]
                  clear hsame hstar hlit hst hpj hsk hb2 hbn hba hg h42 hf2
                  go_wp2_with fail
                  generalize wr.setCell ⟨h, j, none⟩ (.bool true) = wr2 at *
                  refine wp_region_text [(3, 1), (5, 1)] (by kernel_rfl) (by kernel_rfl) ?_
                  simp only [instr, chk, look, Nat.reduceBEq, Bool.false_eq_true, if_true, if_false, Nat.reduceEqDiff, List.cons_append, List.nil_append]
                  go_wp2_with fail
                  refine OnlyN.normal ?_
                  go_wp2
                  go_roundw
                  case rel => exact ⟨j + 1, by go_num, by omega, hbn2, hba2, hg2.drew⟩
                  case measure => simp [intOf]; omega
                · have c1 : ((p[j].toNat : Int) == 42) = false := by rw [byte_eqz]; simpa using h42
                  have c2 : ((p[j].toNat : Int) != 42) = true := by rw [bne, c1]; rfl
                  by_cases hps : p[j] = s[k]
                  · have c3 : ((p[j].toNat : Int) == (s[k].toNat : Int)) = true := by rw [hps]; simp
                    have hbn2 : Bls (wr.setCell ⟨h, j + 1, none⟩ (.bool true)) h (p.size + 1) (nxTo (lst p) (lst s) k (j + 1)) := (Hset.out (j + 1) true).congr fun x _ => hlit rfl (by simpa using h42) (by rw [hps]) x
                    have hba2 := hsetg.out (j + 1) true
                    have hg2 := hgset.out (j + 1) true
                    clear hsame hstar hlit hst hpj hsk hb1 hbn hba hg h42 hf1 hps
                    go_wp2_with fail
                    refine wp_region_text [(3, 1), (5, 1)] (by kernel_rfl) (by kernel_rfl) ?_
                    simp only [instr, chk, look, Nat.reduceBEq, Bool.false_eq_true, if_true, if_false, Nat.reduceEqDiff, List.cons_append, List.nil_append]
                    go_wp2_with fail
                    refine OnlyN.normal ?_
                    go_wp2
                    go_roundw
                    case rel => exact ⟨j + 1, by go_num, by omega, hbn2, hba2, hg2.drew⟩
                    case measure => simp [intOf]; omega
                  · have c3 : ((p[j].toNat : Int) == (s[k].toNat : Int)) = false := by
                      rw [beq_eq_false_iff_ne]
                      intro e
                      exact hps (UInt8.toNat_inj.1 (by omega))
                    have hbn2 : Bls wr h (p.size + 1) (nxTo (lst p) (lst s) k (j + 1)) := hbn.congr fun x _ => (hsame (.inr ⟨by simpa using h42, by simpa using hps⟩) x).symm
                    clear hsame hstar hlit hst hpj hsk hb1 hb2 hbn h42 hps
                    go_wp2_with fail
                    refine wp_region_text [(3, 1), (5, 1)] (by kernel_rfl) (by kernel_rfl) ?_
                    simp only [instr, chk, look, Nat.reduceBEq, Bool.false_eq_true, if_true, if_false, Nat.reduceEqDiff, List.cons_append, List.nil_append]
                    go_wp2_with fail
                    refine OnlyN.normal ?_
                    go_wp2
                    go_roundw
                    case rel => exact ⟨j + 1, by go_num, by omega, hbn2, hba, hg.drew⟩
                    case measure => simp [intOf]; omega
            · obtain rfl : j = p.size := by omega
              have hb0 : Bls wr h (p.size + 1) (fun x => if x ≤ 0 then stB (lst p) (lst s) (k + 1) x else nxB (lst p) (lst s) k x) := hbn.congr fun x hx => by
                rw [nxTo_all (lst_length p).symm (by omega)]
                by_cases h0 : x ≤ 0
                · obtain rfl : x = 0 := by omega
                  rw [if_pos h0, stB_next0 (by rw [lst_length]; exact hks)]
                · rw [if_neg h0]
              clear hbn hba
              go_wp2
              obtain ⟨wv, rfl⟩ : ∃ wv : World, wv = wr := ⟨_, rfl⟩
              go_loopw [10] (fun i wr => ∃ (j : Nat), i = .int .i64 (j : Int) ∧ j ≤ p.size ∧ Bls wr h (p.size + 1) (fun x => if x ≤ j then stB (lst p) (lst s) (k + 1) x else nxB (lst p) (lst s) k x) ∧ Grew w wr) (fun i _ => p.size - (intOf i).toNat)
              case atStart => exact ⟨0, rfl, by omega, hb0, hg⟩
              case round =>
                clear hb0 hg wv
                obtain ⟨j, rfl, hj, hb, hg⟩ := hrel
                by_cases hlt : j < p.size
                · have hc0 : wr.cell? ⟨h, j, none⟩ = some (.bool (stB (lst p) (lst s) (k + 1) j)) := by have := hb.cell (i := j) (by omega); rwa [if_pos (Nat.le_refl _)] at this
                  have hc1 : wr.cell? ⟨h, j + 1, none⟩ = some (.bool (nxB (lst p) (lst s) k (j + 1))) := by have := hb.cell (i := j + 1) (by omega); rwa [if_neg (by omega)] at this
                  have hf1 := Blk.frozen hb (j + 1)
                  have hnext := stB_next (s := lst s) (k := k) (Hp.out j hlt) (by rw [lst_length]; exact hks)
                  have Hstep : Hid (∀ b, b = stB (lst p) (lst s) (k + 1) (j + 1) → Bls (wr.setCell ⟨h, j + 1, none⟩ (.bool b)) h (p.size + 1) (fun x => if x ≤ j + 1 then stB (lst p) (lst s) (k + 1) x else nxB (lst p) (lst s) k x)) := fun b hbb => (hb.set (j + 1) b).congr fun x _ => up_to (g := nxB (lst p) (lst s) k) hbb x
                  have Hg : Hid (∀ b, Grew w (wr.setCell ⟨h, j + 1, none⟩ (.bool b))) := fun b => hg.setCell (p := ⟨h, j + 1, none⟩) (.inl hwh) _
                  cases hnx : nxB (lst p) (lst s) k (j + 1)
                  · cases hst : stB (lst p) (lst s) (k + 1) j
                    · rw [hnx] at hc1 hnext
                      rw [hst] at hc0 hnext
                      have HF : Hid (false = stB (lst p) (lst s) (k + 1) (j + 1)) := by show _ = _; rw [hnext]; rfl
                      clear hnext hst hnx hb hg
                      go_wp2
                      go_roundw
                      case rel => exact ⟨j + 1, by go_num, by omega, Hstep.out _ HF.out, Hg.out _⟩
                      case measure => simp [intOf]; omega
                    · rw [hnx] at hc1 hnext
                      rw [hst] at hc0 hnext
                      have HF : Hid (((p[j].toNat : Int) == 42) = stB (lst p) (lst s) (k + 1) (j + 1)) := by show _ = _; rw [hnext, byte_eqz]; rfl
                      clear hnext hst hnx hb hg
                      go_wp2
                      go_roundw
                      case rel => exact ⟨j + 1, by go_num, by omega, Hstep.out _ HF.out, Hg.out _⟩
                      case measure => simp [intOf]; omega
                  · rw [hnx] at hc1 hnext
                    have HF : Hid (true = stB (lst p) (lst s) (k + 1) (j + 1)) := by show _ = _; rw [hnext]; rfl
                    clear hnext hnx hb hg
                    go_wp2
                    go_roundw
                    case rel => exact ⟨j + 1, by go_num, by omega, Hstep.out _ HF.out, Hg.out _⟩
                    case measure => simp [intOf]; omega
                · obtain rfl : j = p.size := by omega
                  have hb0 : Bls wr h (p.size + 1) (stB (lst p) (lst s) (k + 1)) := hb.congr fun x hx => by rw [if_pos (by omega)]
                  clear hb
                  go_wp2
                  go_roundw
                  case rel => exact ⟨k + 1, h, rfl, by go_num, by omega, hb0, hwh, hg⟩
                  case measure => simp [intOf]; omega
        · obtain rfl : k = s.size := by omega
          have hc0 : wr.cell? ⟨g, p.size, none⟩ = some (.bool (glob (lst p) (lst s))) := by have := hb.cell (i := p.size) (by omega); rwa [Hend.out] at this
          clear hb
          go_wp2
          go_ret
          exact ⟨by simp, hg⟩
end Go.Proofs.YtailooldnelecaaGreatDoor

namespace Go.Proofs.YtailooldnelecaaGreatDoor
open Go.RowKit

/-- what is left to ask, from an alternative's beginning on, with no bar ahead of place i -/
def Asks (P S : List UInt8) (a i : Nat) : Prop := (i ≤ P.length ∧ a ≤ i ∧ likeB P S = (splitC 124 (P.drop a)).any (fun x => glob x S) ∧ ∀ j, a ≤ j → j < i → P[j]? ≠ some 124) ∨ (P.length < i ∧ likeB P S = false)
theorem Asks.start (P S : List UInt8) : Asks P S 0 0 := .inl ⟨Nat.zero_le _, Nat.le_refl _, rfl, fun j h1 h2 => by omega⟩
theorem Asks.piece {P S : List UInt8} {a i : Nat} (h : Asks P S a i) (hi : i ≤ P.length) (hb : i = P.length ∨ P[i]? = some 124) :
    (glob ((P.take i).drop a) S = true → likeB P S = true) ∧ (glob ((P.take i).drop a) S = false → Asks P S (i + 1) (i + 1)) := by
  rcases h with ⟨_, ha, he, hn⟩ | ⟨h, _⟩
  · have hfree : ∀ x ∈ (P.take i).drop a, x ≠ 124 := fun x hx => by
      obtain ⟨j, hj⟩ := List.mem_iff_getElem?.1 hx
      rw [List.getElem?_drop, List.getElem?_take] at hj
      split at hj
      · rename_i hlt
        rintro rfl
        exact hn (a + j) (by omega) (by omega) hj
      · cases hj
    rcases hb with rfl | hb
    · have hd : P.drop a = (P.take P.length).drop a := by rw [List.take_length]
      rw [hd, splitC_none hfree] at he
      simp only [List.any_cons, List.any_nil, Bool.or_false] at he
      exact ⟨fun hg => by rw [he, hg], fun hg => .inr ⟨by omega, by rw [he, hg]⟩⟩
    · obtain ⟨hlt, hc⟩ := List.getElem?_eq_some_iff.1 hb
      have hd : P.drop a = (P.take i).drop a ++ 124 :: P.drop (i + 1) := by
        conv => lhs; rw [← List.take_append_drop i P]
        rw [List.drop_append_of_le_length (by rw [List.length_take]; omega), List.drop_eq_getElem_cons hlt, hc]
      rw [hd, splitC_cut _ hfree] at he
      simp only [List.any_cons] at he
      exact ⟨fun hg => by rw [he, hg]; rfl, fun hg => .inl ⟨by omega, Nat.le_refl _, by rw [he, hg]; rfl, fun j h1 h2 => by omega⟩⟩
  · omega
theorem Asks.more {P S : List UInt8} {a i : Nat} (h : Asks P S a i) (hi : i < P.length) (hb : P[i]? ≠ some 124) : Asks P S a (i + 1) := by
  rcases h with ⟨_, ha, he, hn⟩ | ⟨h, _⟩
  · refine .inl ⟨by omega, by omega, he, fun j h1 h2 => ?_⟩
    rcases Nat.lt_or_ge j i with h3 | h3
    · exact hn j h1 h3
    · obtain rfl : j = i := by omega
      exact hb
  · omega

set_option maxRecDepth 100000 in
set_option maxHeartbeats 2000000 in
theorem rLike_any (p s : ByteArray) (w : World) (hp : p.size ≤ 16777216) (hs : s.size ≤ 16777216) :
    Calls Tryz.prog 69 #[.string p, .string s] w fun e w' => e = .returned (.bool (likeB (lst p) (lst s))) ∧ Grew w w' := by
  have Hp : Hid (∀ i (h : i < p.size), (lst p)[i]? = some p[i]) := fun i h => by
    show (p.data.toList)[i]? = _
    rw [Array.getElem?_toList]
    exact Array.getElem?_eq_getElem h
  have Hl := Lib.hid (lst_length p)
  go_enter Tryz.func69, Tryz.ntmps69
  go_wp2
  go_loopw [5, 6] (fun sf si wr => ∃ (a i : Nat), sf = .int .i64 (a : Int) ∧ si = .int .i64 (i : Int) ∧ a ≤ i ∧ i ≤ p.size + 1 ∧ Hid (Asks (lst p) (lst s) a i) ∧ Grew w wr) (fun _ si _ => p.size + 1 - (intOf si).toNat)
  case atStart => exact ⟨0, 0, rfl, rfl, by omega, by omega, Asks.start _ _, Chg.refl _ _⟩
  case round =>
    obtain ⟨a, i, rfl, rfl, ha, hi, HA, hg⟩ := hrel
    by_cases hle : i ≤ p.size
    · have hO : ∀ w, Calls Tryz.prog 86 #[.string (p.extract a i), .string s] w fun e w' => e = .returned (.bool (glob (((lst p).take i).drop a) (lst s))) ∧ Grew w w' := fun w => by
        have := rone_any (p.extract a i) s w (by rw [ByteArray.size_extract]; omega) hs
        rwa [lst_extract] at this
      by_cases hb : i = p.size ∨ (lst p)[i]? = some 124
      · obtain ⟨h1, h2⟩ := HA.out.piece (by rw [Hl.out]; exact hle) (by rw [Hl.out]; exact hb)
        have hway : (((i : Int) == (p.size : Int)) = true) ∨ (((i : Int) == (p.size : Int)) = false ∧ i < p.size ∧ ∀ h : i < p.size, ((p[i].toNat : Int) == 124) = true) := by
          by_cases he : i = p.size
          · left; simp [he]
          · right
            have hlt : i < p.size := by omega
            refine ⟨by simp; omega, hlt, fun h => ?_⟩
            rcases hb with hb | hb
            · exact (he hb).elim
            · rw [Hp.out i hlt] at hb
              injection hb with hb
              rw [hb]
              rfl
        cases hg1 : glob (((lst p).take i).drop a) (lst s)
        · rw [hg1] at hO
          have HO := Lib.hid hO
          have HA2 := Lib.hid (h2 hg1)
          clear hO h1 h2 hg1 hb HA
          rcases hway with c1 | ⟨c1, hlt, c2⟩
          · obtain rfl : i = p.size := by have := beq_iff_eq.1 c1; omega
            clear c1
            go_wp2_with fail
            refine (HO.out _).mono ?_
            rintro e w2 ⟨rfl, hg2⟩
            go_wp2
            go_roundw
            case rel => exact ⟨p.size + 1, p.size + 1, by first | rfl | go_num, by first | rfl | go_num, by omega, by omega, HA2.out, hg.trans hg2⟩
            case measure => simp [intOf] <;> omega
          · have c3 := c2 hlt
            clear c2
            go_wp2_with fail
            refine (HO.out _).mono ?_
            rintro e w2 ⟨rfl, hg2⟩
            go_wp2
            go_roundw
            case rel => exact ⟨i + 1, i + 1, by first | rfl | go_num, by first | rfl | go_num, by omega, by omega, HA2.out, hg.trans hg2⟩
            case measure => simp [intOf] <;> omega
        · rw [hg1] at hO
          have HO := Lib.hid hO
          have HA2 := Lib.hid (h1 hg1)
          clear hO h1 h2 hg1 hb HA
          rcases hway with c1 | ⟨c1, hlt, c2⟩
          · obtain rfl : i = p.size := by have := beq_iff_eq.1 c1; omega
            clear c1
            go_wp2_with fail
            refine (HO.out _).mono ?_
            rintro e w2 ⟨rfl, hg2⟩
            go_wp2
            go_ret
            exact ⟨by rw [HA2.out]; simp, hg.trans hg2⟩
          · have c3 := c2 hlt
            clear c2
            go_wp2_with fail
            refine (HO.out _).mono ?_
            rintro e w2 ⟨rfl, hg2⟩
            go_wp2
            go_ret
            exact ⟨by rw [HA2.out]; simp, hg.trans hg2⟩
      · have hlt : i < p.size := by
          rcases Nat.lt_or_ge i p.size with h | h
          · exact h
          · exact (hb (.inl (by omega))).elim
        have hn : (lst p)[i]? ≠ some 124 := fun e => hb (.inr e)
        have HA2 := Lib.hid (HA.out.more (by rw [Hl.out]; exact hlt) hn)
        have c1 : ((i : Int) == (p.size : Int)) = false := by simp; omega
        have c3 : ((p[i].toNat : Int) == 124) = false := by
          rw [beq_eq_false_iff_ne]
          intro e
          refine hn ?_
          rw [Hp.out i hlt]
          congr 1
          exact UInt8.toNat_inj.1 (show p[i].toNat = 124 by omega)
        clear hb hn HA hO
        go_wp2
        go_roundw
        case rel => exact ⟨a, i + 1, rfl, by go_num, by omega, by omega, HA2.out, hg⟩
        case measure => simp [intOf] <;> omega
    · have hf : Hid (likeB (lst p) (lst s) = false) := by
        rcases HA.out with ⟨h, _⟩ | ⟨_, h⟩
        · have := Hl.out; omega
        · exact h
      clear HA
      go_wp2
      go_ret
      exact ⟨by rw [hf.out]; simp, hg⟩
end Go.Proofs.YtailooldnelecaaGreatDoor

namespace Go.Proofs.YtailooldnelecaaGreatDoor
open Go.RowKit

end Go.Proofs.YtailooldnelecaaGreatDoor

namespace Go.Proofs.YtailooldnelecaaGreatDoor
open Go.RowKit

theorem infoLb : (Tryz.prog.info? 72).map (fun i => (i.zero, i.size, i.bytes)) = some (some (.agg #[.string ⟨#[]⟩, .string ⟨#[]⟩]), 2, 32) := by kernel_rfl
theorem infoMa : (Tryz.prog.info? 82).map (fun i => (i.zero, i.size, i.bytes)) = some (some (.agg #[.int .i64 0, .string ⟨#[]⟩, .string ⟨#[]⟩]), 3, 40) := by kernel_rfl
def NewLb (w : World) (n : Nat) (l : List (ByteArray × ByteArray)) (e : Ending) (w' : World) : Prop := ∃ A c, e = .returned (.slice A n c) ∧ OE elLb w' w.heap.size 72 A n c l ∧ Grew w w'
def NewMa (w : World) (n : Nat) (l : List Mat) (e : Ending) (w' : World) : Prop := ∃ A c, e = .returned (.slice A n c) ∧ OE elMa w' w.heap.size 82 A n c l ∧ Grew w w'
theorem head_of (a : Nat) : ∀ ad, some (⟨a, 0, none⟩ : Addr) = some ad → a ≤ ad.block := fun ad e => by
  injection e with e
  subst e
  exact Nat.le_refl _

set_option maxHeartbeats 400000 in
theorem copyLabels_any (A : Option Addr) (n c : Nat) (l : List (ByteArray × ByteArray)) (w : World) (h : RE elLb w A n l) (hn : n ≤ 4398046511104) :
    Calls Tryz.prog 30 #[.slice A n c] w (NewLb w n l) := by
  have hown : OE elLb (w.alloc (.cells #[] 72)) w.heap.size 72 (some ⟨w.heap.size, 0, none⟩) 0 0 [] := OE.made w w.heap.size 72 (Nat.le_refl _)
  have hr : RE elLb (w.alloc (.cells #[] 72)) A n l := h.grew ((Chg.refl _ w).alloc _)
  go_enter Tryz.func30, Tryz.ntmps30
  go_wp2_with (at_builtin; refine wpList_appE rfl _ _ 28 72 infoLb rfl Tryz.underlying28 rfl w.heap.size _ 0 0 [] rfl hown (by simp) A n c l rfl hr (by unfold maxLen; omega) (by omega) ?_; intro A' c' w' h1)
  go_ret
  simp only [Nat.zero_add, List.nil_append] at h1
  exact ⟨A', c', by simp, h1.oe, h1.grew ((Chg.refl _ w).alloc _) (head_of _)⟩
set_option maxHeartbeats 400000 in
theorem copyMatchers_any (A : Option Addr) (n c : Nat) (l : List Mat) (w : World) (h : RE elMa w A n l) (hn : n ≤ 3298534883328) :
    Calls Tryz.prog 37 #[.slice A n c] w (NewMa w n l) := by
  have hown : OE elMa (w.alloc (.cells #[] 82)) w.heap.size 82 (some ⟨w.heap.size, 0, none⟩) 0 0 [] := OE.made w w.heap.size 82 (Nat.le_refl _)
  have hr : RE elMa (w.alloc (.cells #[] 82)) A n l := h.grew ((Chg.refl _ w).alloc _)
  go_enter Tryz.func37, Tryz.ntmps37
  go_wp2_with (at_builtin; refine wpList_appE rfl _ _ 32 82 infoMa rfl Tryz.underlying32 rfl w.heap.size _ 0 0 [] rfl hown (by simp) A n c l rfl hr (by unfold maxLen; omega) (by omega) ?_; intro A' c' w' h1)
  go_ret
  simp only [Nat.zero_add, List.nil_append] at h1
  exact ⟨A', c', by simp, h1.oe, h1.grew ((Chg.refl _ w).alloc _) (head_of _)⟩

/-- the opposite of a kind -/
def oppZ (k : Int) : Int := if k = 1 then 2 else if k = 2 then 1 else if k = 3 then 4 else if k = 4 then 3 else 0
end Go.Proofs.YtailooldnelecaaGreatDoor
