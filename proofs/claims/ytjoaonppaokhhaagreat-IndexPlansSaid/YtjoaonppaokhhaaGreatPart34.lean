/-
  Several texts in one:
  A meta's bytes as a row of numbers; (block.open), the reading of sources. Conditions: lengths that memory bears; numbers of 64 bits.
  A meta's bytes read back, source by source. Conditions: lengths that memory bears; numbers of 64 bits.
-/
import Derived.Test.YtjoaonppaokhhaaGreatPart33
import Derived.Defers
import Derived.Recover

namespace Go.Proofs.YtjoaonppaokhhaaGreat
open Go.RowKit

/-- append onto a row of bytes of the call's own, where the operation has a guard that holds -/
theorem wpList_appBw {ops : Array Oper} {rest : List Oper} {o : Oper} {a : Act} {w : World} {Q : Exit → Act → World → Prop} (hw : Region.wanted o (yielded ops a.tmps) = true) (s x : Operand)
    (ho : o.op = .call { callee := .builtin .append, args := #[s, x], argTypes := #[42, 42] })
    (base : Nat) (A : Option Addr) (n c : Nat) (l : List UInt8) (hs : a.eval s = .slice A n c) (hown : OB w base 5 A n c l) (hbase : base ≤ w.heap.size)
    (B : Option Addr) (m d : Nat) (r : List UInt8) (hx : a.eval x = .slice B m d) (hr : RB w B m r) (hbytes : n + m ≤ 140737488355328)
    (h : ∀ A' c' w', ApB w base A (n + m) c (l ++ r) A' c' w' → wpList Tryz.prog ops Q rest (a.put o.dst (.slice A' (n + m) c')) w') : wpList Tryz.prog ops Q (o :: rest) a w := by
  obtain ⟨i0, hi, hz0, hz1, hz2⟩ := info_parts infoU8
  refine wpList_step fun K hK => ?_
  rw [if_pos hw]
  refine wp_app w s x 42 5 ho i0 (.int .u8 0) 1 1 Tryz.underlying42 hi hz0 hz1 hz2 rfl base A n c _ hs hown hbase B m d _ hx (by simpa using hr.1) hr.2 (byt_one r) (by unfold maxLen; omega) (by omega) ?_
  intro A' c' w' h1
  exact hK _ _ (h A' c' w' (by unfold ApB; rw [List.map_append]; exact h1))

/-- a meta's numbers, in order -/
def numsM (m : Met) : List Nat := [m.id, m.lv.toNat, m.sr.toNat, m.pt.toNat, zz m.lo, zz m.hi, m.src.length] ++ m.src
theorem metB_nums (m : Met) : metB m = headM ++ (numsM m).flatMap uv := by
  unfold metB numsM uvs
  simp
def posM (m : Met) (k : Nat) : Nat := 4 + (((numsM m).take k).flatMap uv).length
theorem numsM_lt {m : Met} (hok : metOk m = true) (hw : MetW m) : ∀ x ∈ numsM m, x < 18446744073709551616 := by
  obtain ⟨o1, o2, o3, o4, o5, o6⟩ := (metOk_iff m).1 hok
  intro x hx
  unfold numsM at hx
  simp only [List.mem_append, List.mem_cons, List.not_mem_nil, or_false] at hx
  rcases hx with (rfl | rfl | rfl | rfl | rfl | rfl | rfl) | hx
  · exact hw.id
  · omega
  · omega
  · omega
  · exact zz_lt hw.lo.1 hw.lo.2
  · exact zz_lt hw.hi.1 hw.hi.2
  · omega
  · exact hw.src x hx
theorem readM {m : Met} (hok : metOk m = true) (hw : MetW m) {k x : Nat} (hx : (numsM m)[k]? = some x) : uintR (metB m) (posM m k : Int) = (x, posM m (k + 1), 0) := by
  have hlt := numsM_lt hok hw x (List.mem_of_getElem? hx)
  have h1 : metB m = (headM ++ ((numsM m).take k).flatMap uv) ++ (uv x ++ ((numsM m).drop (k + 1)).flatMap uv) := by
    rw [metB_nums, List.append_assoc, ← List.flatMap_cons, ← drop_at hx, ← List.flatMap_append, List.take_append_drop]
  have h2 : posM m k = (headM ++ ((numsM m).take k).flatMap uv).length := by rw [List.length_append]; rfl
  rw [h1, h2, uintR_at _ _ x hlt]
  have h3 : posM m (k + 1) = (headM ++ ((numsM m).take k).flatMap uv).length + (uv x).length := by
    unfold posM
    rw [List.take_add_one, hx, List.flatMap_append, List.length_append, List.length_append]
    simp only [Option.toList, List.flatMap_cons, List.flatMap_nil, List.append_nil]
    show 4 + _ = 4 + _ + _
    omega
  rw [h3]
theorem posM_end (m : Met) {k : Nat} (hk : (numsM m).length ≤ k) : posM m k = (metB m).length := by
  unfold posM
  rw [List.take_of_length_le hk, metB_nums, List.length_append]
  rfl
theorem numsM_src (m : Met) {j x : Nat} (hx : m.src[j]? = some x) : (numsM m)[7 + j]? = some x := by
  unfold numsM
  rw [List.getElem?_append_right (by simp)]
  simpa using hx
theorem metB_head (m : Met) : ∃ r, metB m = headM ++ r := ⟨_, metB_nums m⟩

/-- four bytes as a text -/
def txtM : ByteArray := ⟨#[84, 87, 77, 1]⟩

set_option maxRecDepth 100000 in
set_option maxHeartbeats 4000000 in
theorem open_ok (B : Option Addr) (n c : Nat) (l r : List UInt8) (w : World) (h : RB w B (n + 4) (sealB l)) (hl : l = headM ++ r) (hn : n ≤ 140737488350000) (hc : n + 4 ≤ c ∧ c ≤ 9223372036854775807) :
    Calls Tryz.prog 117 #[.slice B (n + 4) c, .string ⟨#[84, 87, 77, 1]⟩] w fun e w' => ∃ g, e = .returned (.pointer (some ⟨g, 0, none⟩)) ∧ w.heap.size ≤ g ∧ RdS w' g B n c l 4 ∧ Grew w w' := by
  have hll : l.length = n := by have := h.1; rw [sealB_len] at this; omega
  have h4n : 4 ≤ n := by rw [← hll, hl, List.length_append]; show 4 ≤ 4 + _; omega
  have hbl : ∀ ad, B = some ad → ad.block < w.heap.size := fun ad e => h.lt ad e (by omega)
  have hr4 : RB w B 4 headM := by
    refine ⟨rfl, ?_⟩
    have := h.2.take 4
    rwa [← List.map_take, show (sealB l).take 4 = headM by rw [hl]; rfl] at this
  have hrn : RB w B n l := by
    refine ⟨hll, ?_⟩
    have := h.2.take n
    rwa [← List.map_take, show (sealB l).take n = l by unfold sealB; exact List.take_left' hll] at this
  have hcv := run_conv_RB (P := Tryz.prog) (c := c) Tryz.underlying42 Tryz.underlying5 Tryz.underlying9 hr4
  have oL : OB (w.alloc (.cells #[] 5)) w.heap.size 5 (some ⟨w.heap.size, 0, none⟩) 0 0 [] := Own.made w w.heap.size 5 1 (Nat.le_refl _)
  have rL := hrn.grew ((Chg.refl _ w).alloc (.cells #[] 5))
  have h4i : (4 : Int) ≤ (n : Int) := by omega
  replace hll := Lib.hid hll
  replace hl := Lib.hid hl
  unfold headM at hcv
  clear hr4
  go_enter Tryz.func117, Tryz.ntmps117
  go_wp2_with (at_builtin; go_loud (refine wpList_appBw rfl _ _ rfl w.heap.size (some ⟨w.heap.size, 0, none⟩) 0 0 [] rfl oL (by simp) B n c l rfl rL (by omega) ?_); intro A2 c2 w2 h2)
  have ho2 : OB w2 w.heap.size 5 A2 n c2 l := by
    have := h2.ob
    rwa [Nat.zero_add, List.nil_append] at this
  have g2 : Grew w w2 := h2.grew ((Chg.refl _ w).alloc _) (head_le0 (Nat.le_refl _))
  clear h2 oL rL hcv
  refine (bsealed_any w.heap.size A2 n c2 l w2 ho2 g2.size (by omega)).mono ?_
  rintro e w3 ⟨A3, c3, rfl, ho3, hc3⟩
  have g3 : Grew w w3 := g2.step hc3 fun k hk ⟨ad, e, he⟩ => by have := (Own.blk_lt ho2 ad e).1; omega
  go_wp2_with fail
  refine (bytesEqual_any A3 B (n + 4) (n + 4) c3 c _ _ w3 ho3.rb (h.grew g3)).mono ?_
  rintro e w4 ⟨rfl, rfl⟩
  rw [beq_self_eq_true]
  go_wp2_with fail
  refine (must_yes _).mono ?_
  rintro e w5 ⟨rfl, rfl⟩
  go_wp2
  go_ret
  have hg3 := g3.size
  refine ⟨_, by simp, hg3, ⟨by simpa using Blk.new _ _ _, (hrn.grew g3).grew ((Chg.refl _ _).alloc _), fun ad e h0 => ?_⟩, g3.alloc _⟩
  have := hbl ad e
  omega
end Go.Proofs.YtjoaonppaokhhaaGreat

namespace Go.Proofs.YtjoaonppaokhhaaGreat
open Go.RowKit

theorem Blk.neT {w : World} {g g' : Nat} {t t' : TypeId} {cs cs' : Array Value} (h : Blk w g t cs) (h' : Blk w g' t' cs') (hne : t ≠ t') : g ≠ g' := by
  rintro rfl
  unfold Blk at h h'
  rw [h] at h'
  injection h' with h'
  injection h' with _ h' _
  exact hne h'
/-- a meta that is being read -/
structure DmS (w W : World) (m : Met) (gm gv g : Nat) (B : Option Addr) (n c k : Nat) (cs : Array Value) : Prop where
  rd : RdS W g B n c (metB m) (posM m k)
  bm : Blk W gm 28 cs
  bv : Blk W gv 135 #[.pointer (some ⟨g, 0, none⟩)]
  bn : ∀ ad, B = some ad → 0 < n → ad.block ≠ gm
  ch : Chg (fun k => k = gm) w W
  lo : w.heap.size ≤ g
theorem DmS.to {w W W' : World} {m : Met} {gm gv g : Nat} {B : Option Addr} {n c k k2 : Nat} {cs : Array Value} (h : DmS w W m gm gv g B n c k cs) (ht : RdT W W' g B n c (metB m) (posM m k2)) : DmS w W' m gm gv g B n c k2 cs :=
  ⟨ht.rd, h.bm.chg ht.ch (fun e => Blk.neT h.bm h.rd.bk (by decide) e), h.bv.chg ht.ch (fun e => Blk.neT h.bv h.rd.bk (by decide) e), h.bn, h.ch.step ht.ch fun j hj e => by have := h.lo; omega, h.lo⟩
theorem DmS.grew {w W W' : World} {m : Met} {gm gv g : Nat} {B : Option Addr} {n c k : Nat} {cs : Array Value} (h : DmS w W m gm gv g B n c k cs) (hg : Grew W W') : DmS w W' m gm gv g B n c k cs :=
  ⟨h.rd.chg hg (fun e => e) (fun _ _ _ e => e), h.bm.grew hg, h.bv.grew hg, h.bn, h.ch.trans (Chg.of_grew hg), h.lo⟩
theorem DmS.set {w W : World} {m : Met} {gm gv g : Nat} {B : Option Addr} {n c k : Nat} {cs : Array Value} (h : DmS w W m gm gv g B n c k cs) (i : Nat) (u : Value) : DmS w (W.setCell ⟨gm, i, none⟩ u) m gm gv g B n c k (cs.setIfInBounds i u) :=
  ⟨h.rd.chg (Chg.cell1 W gm i u) (fun e => Blk.neT h.rd.bk h.bm (by decide) e) (fun ad e h0 hk => h.bn ad e h0 hk), h.bm.set i u, h.bv.far (Blk.neT h.bv h.bm (by decide)) u, h.bn, h.ch.trans (Chg.cell1 W gm i u), h.lo⟩
theorem DmS.append {α : Type} {E : El α} {w W W' : World} {m : Met} {gm gv g : Nat} {B : Option Addr} {n c k : Nat} {cs : Array Value} {t : TypeId} {A A' : Option Addr} {p q d d' : Nat} {l r : List α} (h : DmS w W m gm gv g B n c k cs)
    (ho : OE E W w.heap.size t A p d r) (ha : ApE E W w.heap.size t A q d l A' d' W') (h1 : t ≠ 28) (h2 : t ≠ 135) (h3 : t ≠ 142) (hB : ∀ ad bd, B = some ad → 0 < n → A = some bd → ad.block ≠ bd.block) : DmS w W' m gm gv g B n c k cs :=
  ⟨h.rd.chg ha.chg (fun ⟨ad, e, hk⟩ => Own.ne_blk ho h.rd.bk h3 ad e hk.symm) (fun ad e h0 ⟨bd, e2, hk⟩ => hB ad bd e h0 e2 hk), h.bm.chg ha.chg (fun ⟨ad, e, hk⟩ => Own.ne_blk ho h.bm h1 ad e hk.symm), h.bv.chg ha.chg (fun ⟨ad, e, hk⟩ => Own.ne_blk ho h.bv h2 ad e hk.symm), h.bn,
    h.ch.step ha.chg fun j hj ⟨ad, e, hk⟩ => by have := (Own.blk_lt ho ad e).1; omega, h.lo⟩

/-- a meta's cells with its sources so far -/
abbrev csM (m : Met) (A : Option Addr) (j c : Nat) : Array Value := #[.int .u64 (m.id : Int), .int .i64 m.lo, .int .i64 m.hi, .int .i64 m.lv, .slice A j c, .int .i64 m.sr, .int .i64 m.pt]

set_option maxRecDepth 100000 in
set_option maxHeartbeats 4000000 in
theorem each_ok (m : Met) (hok : metOk m = true) (hw : MetW m) (w W : World) (gm gv g : Nat) (B : Option Addr) (n c j x : Nat) (A : Option Addr) (d : Nat) (h : DmS w W m gm gv g B n c (7 + j) (csM m A j d)) (hA : OE elU W w.heap.size 22 A j d (m.src.take j)) (hx : m.src[j]? = some x)
    (hB : ∀ ad, B = some ad → 0 < n → ad.block < w.heap.size) (hn : n ≤ 140737488355328) (hj : j ≤ 64) :
    Calls Tryz.prog 122 #[.pointer (some ⟨gm, 0, none⟩), .pointer (some ⟨gv, 0, none⟩)] W fun e W' => e = .returned (.tuple #[]) ∧ ∃ A2 d2, DmS w W' m gm gv g B n c (7 + (j + 1)) (csM m A2 (j + 1) d2) ∧ OE elU W' w.heap.size 22 A2 (j + 1) d2 (m.src.take (j + 1)) := by
  have hrr := readM hok hw (numsM_src m hx)
  have htk : m.src.take (j + 1) = m.src.take j ++ [x] := by rw [List.take_add_one, hx]; rfl
  replace htk := Lib.hid htk
  have m4 := h.bm.cell 4
  have v0 := h.bv.cell 0
  simp only [List.getElem?_toArray, List.getElem?_cons_succ, List.getElem?_cons_zero] at m4 v0
  have hcs : CellsIn [gm, gv] W := cellsIn_blk h.bm (cellsIn_blk h.bv (cellsIn_nil _))
  have hsz := h.ch.size
  have hcap := hA.cap
  clear hx
  go_enter Tryz.func122, Tryz.ntmps122
  go_wp2_with fail
  refine wp_region_textL [] [gm, gv] (by kernel_rfl) (by kernel_rfl) hcs ?_
  simp only [wpUL, tagOf, chk, List.cons_append, List.nil_append]
  intro K hK
  go_wp2_with fail
  refine OnlyN.normal (hK _ _ (fun _ => ⟨_, _, _, rfl, rfl, by simp⟩) ?_)
  clear hK K
  intro K hK
  go_wp2_with fail
  refine OnlyN.normal (hK _ _ (fun _ => ⟨_, _, _, rfl, rfl, by simp⟩) ?_)
  clear hK K
  intro K hK
  go_wp2_with fail
  refine (rnumber_ok g B n c (metB m) (posM m (7 + j)) x (posM m (7 + j + 1)) _ ((h.grew ((Chg.refl _ W).drew)).rd) hn hrr).mono ?_
  rintro e W1 ⟨rfl, hT⟩
  have h1 := (h.grew ((Chg.refl _ W).drew)).to hT
  have hc1 : Chg (fun k => k = g) W W1 := (Chg.refl _ W).drew.trans hT.ch
  have hA1 : OE elU W1 w.heap.size 22 A j d (m.src.take j) := OE.chg hA hc1 fun ad e hk => Own.ne_blk hA h.rd.bk (by decide) ad e hk
  have hng : ∀ k', k' ∈ [gm, gv] → k' ≠ g := fun k' hk' => by
    simp only [List.mem_cons, List.not_mem_nil, or_false] at hk'
    rcases hk' with rfl | rfl
    · exact Blk.neT h.bm h.rd.bk (by decide)
    · exact Blk.neT h.bv h.rd.bk (by decide)
  go_wp2_with fail
  refine OnlyN.normal (hK _ _ (sameIn_of hc1 hcs hng) ?_)
  clear hK K
  have hsz1 := h1.ch.size
  have hga : Grew W1 (W1.alloc (.cells #[.int .u64 (x : Int)] 22)) := (Chg.refl _ W1).alloc _
  have hsrc : RE elU (W1.alloc (.cells #[.int .u64 (x : Int)] 22)) (some ⟨W1.heap.size, 0, none⟩) 1 [x] := RE.newAt rfl rfl rfl
  have hA2 := hA1.grew hga
  intro K hK
  go_wp2_with fail
  refine OnlyN.normal (hK _ _ (sameIn_of (hc1.trans (Chg.of_grew hga)) hcs hng) ?_)
  clear hK K
  intro K hK
  go_wp2_with (at_builtin; go_loud (refine wpList_appE rfl _ _ 26 22 infoU64 rfl Tryz.underlying26 rfl w.heap.size A j d _ rfl hA2 (by simp; omega) _ 1 1 [x] rfl hsrc (by unfold maxLen; omega) (by omega) ?_); intro A3 d3 W3 h3)
  have h4 := (h1.grew hga).append hA2 h3 (by decide) (by decide) (by decide) (fun ad bd e h0 e2 => by have := hB ad e h0; have := (Own.blk_lt hA2 bd e2).1; omega)
  have hng2 : ∀ k', k' ∈ [gm, gv] → ¬ (k' = g ∨ ∃ ad, A = some ad ∧ k' = ad.block) := fun k' hk' => by
    rintro (e | ⟨ad, e, hk⟩)
    · exact hng k' hk' e
    · simp only [List.mem_cons, List.not_mem_nil, or_false] at hk'
      rcases hk' with rfl | rfl
      · exact Own.ne_blk hA h.bm (by decide) ad e hk.symm
      · exact Own.ne_blk hA h.bv (by decide) ad e hk.symm
  refine OnlyN.normal (hK _ _ (sameIn_of (((hc1.mono fun k _ e => Or.inl e).trans (Chg.of_grew hga)).trans (h3.chg.mono fun k _ e => Or.inr e)) hcs hng2) ?_)
  clear hK K
  have m4' := h4.bm.cell 4
  have mf' := h4.bm.frozen 4
  simp only [List.getElem?_toArray, List.getElem?_cons_succ, List.getElem?_cons_zero] at m4'
  have h5 := h4.set 4 (.slice A3 (j + 1) d3)
  have hA5 : OE elU (W3.setCell ⟨gm, 4, none⟩ (.slice A3 (j + 1) d3)) w.heap.size 22 A3 (j + 1) d3 (m.src.take (j + 1)) := by
    rw [htk.out]
    exact OE.farBlk h3.oe h4.bm (by decide) 4 _
  go_wp2_with fail
  refine OnlyN.normal ?_
  clear hA2 hsrc h3 hA1 hT h1 h4 m4' mf' m4 v0 hcs
  go_wp2
  go_end0
  simp only [List.setIfInBounds_toArray, List.set_cons_succ, List.set_cons_zero] at h5
  exact ⟨rfl, A3, d3, h5, hA5⟩

set_option maxRecDepth 100000 in
set_option maxHeartbeats 4000000 in
theorem rows_ok (m : Met) (hok : metOk m = true) (hw : MetW m) (w W : World) (gm gv g : Nat) (B : Option Addr) (n c : Nat) (h : DmS w W m gm gv g B n c 6 (csM m none 0 0))
    (hB : ∀ ad, B = some ad → 0 < n → ad.block < w.heap.size) (hn : n ≤ 140737488355328) :
    Calls Tryz.prog 121 #[.pointer (some ⟨g, 0, none⟩), .int .u64 64, .func (.func 122) #[] #[.pointer (some ⟨gm, 0, none⟩), .pointer (some ⟨gv, 0, none⟩)]] W
      fun e W' => e = .returned (.tuple #[]) ∧ ∃ A2 d2, DmS w W' m gm gv g B n c (7 + m.src.length) (csM m A2 m.src.length d2) ∧ OE elU W' w.heap.size 22 A2 m.src.length d2 m.src := by
  obtain ⟨o1, o2, o3, o4, o5, o6⟩ := (metOk_iff m).1 hok
  have hx : (numsM m)[6]? = some m.src.length := rfl
  have hrr := readM hok hw hx
  obtain ⟨p, hp⟩ : ∃ p, m.src.length = p := ⟨_, rfl⟩
  rw [hp] at hrr o6 ⊢
  have ho6 : (p : Int) ≤ 64 := by omega
  replace hp := Lib.hid hp
  clear hx
  go_enter Tryz.func121, Tryz.ntmps121
  go_wp2_with fail
  refine (rnumber_ok g B n c (metB m) (posM m 6) p (posM m 7) _ h.rd hn hrr).mono ?_
  rintro e W1 ⟨rfl, hT⟩
  have h1 := h.to hT
  clear hT h
  go_wp2_with fail
  refine (must_yes _).mono ?_
  rintro e W2 ⟨rfl, rfl⟩
  go_wp2
  go_loopw [6] (fun s wr => ∃ (j : Nat) (A : Option Addr) (d : Nat), j ≤ p ∧ s = .int .u64 ((p - j : Nat) : Int) ∧ DmS w wr m gm gv g B n c (7 + j) (csM m A j d) ∧ OE elU wr w.heap.size 22 A j d (m.src.take j)) (fun s _ => (intOf s).toNat)
  case atStart => exact ⟨0, none, 0, by omega, rfl, h1, OE.nil _ _ _⟩
  case round =>
    clear h1
    obtain ⟨j, A, d, hj, rfl, hD, hA⟩ := hrel
    by_cases hlt : j < p
    · have hxj : m.src[j]? = some (m.src[j]'(by have := hp.out; omega)) := List.getElem?_eq_getElem _
      have hE := each_ok m hok hw w wr gm gv g B n c j _ A d hD hA hxj hB hn (by omega)
      clear hxj
      obtain ⟨q, hq⟩ : ∃ q, p - j = q + 1 := ⟨p - j - 1, by omega⟩
      rw [hq]
      have hq2 : p - (j + 1) = q := by omega
      have hwq : IntKind.u64.wrap (q : Int) = (q : Int) := by rw [IntKind.wrap_u64]; omega
      replace hq2 := Lib.hid hq2
      clear hq
      go_wp2_with fail
      refine hE.mono ?_
      rintro e W3 ⟨rfl, A3, d3, hD3, hA3⟩
      clear hE hD hA
      go_wp2
      go_roundw
      case rel => exact ⟨j + 1, A3, d3, by omega, by rw [hq2.out], hD3, hA3⟩
      case measure => simp [intOf]
    · obtain rfl : p = j := by omega
      rw [List.take_of_length_le (by have := hp.out; omega)] at hA
      rw [Nat.sub_self]
      go_wp2
      first
        | go_end0
        | refine bodyPost_ret (results_none rfl _ _ _) rfl ?_
      exact ⟨rfl, A, d, hD, hA⟩
end Go.Proofs.YtjoaonppaokhhaaGreat
