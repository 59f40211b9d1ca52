/-
  Several texts in one:
  A file goes, a file comes: the document's disk. Conditions: lengths that memory bears.
-/
import Derived.Test.YtepncgeaehjhiaaGreatPart20
import Derived.Test.YtepncgeaehjhiaaGreatPart10
import Derived.Test.YtepncgeaehjhiaaGreatPart23
import Derived.Deep.CutRange

namespace Go.Proofs.YtepncgeaehjhiaaGreat
open Go.RowKit

theorem Blk.ex {w : World} {g : Nat} {t : TypeId} {cs : Array Value} (h : Blk w g t cs) : ∃ cs t fr, w.heap[g]? = some (.cells cs t fr) := ⟨_, _, _, h⟩
theorem sameIn_of {S : Nat → Prop} {bs : List Nat} {W w : World} (hc : Chg S W w) (h : CellsIn bs W) (hn : ∀ k ∈ bs, ¬ S k) : SameIn bs W w := fun k hk => by
  obtain ⟨cs, t, fr, h1⟩ := h k hk
  exact hc.block k (Array.getElem?_eq_some_iff.1 h1).1 (hn k hk)
theorem hd_le1 {a b : Nat} (h : a ≤ b) : ∀ ad, some (⟨b, 0, none⟩ : Addr) = some ad → a ≤ ad.block := fun ad e => by
  injection e with e
  subst e
  exact h
theorem ApE.first1 {α : Type} {E : El α} {w w' : World} {base : Nat} {t : TypeId} {A A' : Option Addr} {n c c' : Nat} {l : List α} (h : ApE E w base t A (0 + n) c ([] ++ l) A' c' w') : OE E w' base t A' n c' l := by
  have := h.oe
  simpa using this
section
variable {R : Nat → Prop} {w w' : World} {wb : Nat} {A : Option Addr} {n c : Nat} {ms : List FiM} {V : List Vw} {down armed : Bool} {left keep : Int} {nu : Nat}
/-- the row anew -/
theorem RF.anew (h : RF R w wb A n c ms V down armed left keep nu) (hg : Grew w w') {base : Nat} (hb : w.heap.size ≤ base) {A2 : Option Addr} {n2 c2 : Nat} {ms2 : List FiM} {V2 : List Vw} (hrow : OE elFi w' base 55 A2 n2 c2 ms2) (hl : ms2.length = V2.length)
    (hel : ∀ (i : Nat) (m : FiM) (v : Vw), ms2[i]? = some m → V2[i]? = some v → FiE w' m v) (hrd : ∀ m ∈ ms2, ∀ ad, m.da = some ad → R ad.block ∨ (w.heap.size ≤ ad.block ∧ ad.block < w'.heap.size)) :
    RF (MoreR R w w') (w'.setCell ⟨wb, 0, none⟩ (.slice A2 n2 c2)) wb A2 n2 c2 ms2 V2 down armed left keep nu := by
  have hr' := h.hd.grew hg
  have hc2 : Chg (fun j => j = wb) w' (w'.setCell ⟨wb, 0, none⟩ (.slice A2 n2 c2)) := Chg.one _ _ _ _
  have hz := hg.size
  have hz2 := hc2.size
  refine ⟨by simpa using hr'.set 0 (.slice A2 n2 c2), Own.mono (hrow.chg hc2 fun ad e1 e2 => Own.ne_blk hrow hr' (by decide) ad e1 e2) (Nat.zero_le _), hl, fun i m v h1 h2 => ⟨(hel i m v h1 h2).nm, (hel i m v h1 h2).sy, Own.chg (hel i m v h1 h2).da hc2 fun ad e1 e2 => Own.ne_blk (hel i m v h1 h2).da hr' (by decide) ad e1 e2⟩, .inl h.rh, fun ad e => .inr ?_, fun m hm ad e => ?_, fun j hj => ?_⟩
  · have := Own.blk_lt hrow ad e
    omega
  · exact hrd m hm ad e
  · rcases hj with h5 | h5
    · have := h.lt j h5
      omega
    · omega
/-- rows of bytes stay -/
def KD (w w' : World) : Prop := ∀ (A : Option Addr) (n c : Nat) (l : List UInt8), OB w 0 5 A n c l → OB w' 0 5 A n c l
theorem KD.of_grew (h : Grew w w') : KD w w' := fun _ _ _ _ ho => Own.grew ho h
theorem KD.trans {w1 w2 w3 : World} (h : KD w1 w2) (h' : KD w2 w3) : KD w1 w3 := fun A n c l ho => h' A n c l (h A n c l ho)
theorem KD.blk {g : Nat} {t : TypeId} {cs : Array Value} (hb : Blk w g t cs) (ht : 5 ≠ t) (hc : Chg (fun j => j = g) w w') : KD w w' := fun _ _ _ _ ho => Own.chg ho hc fun ad e e2 => Own.ne_blk ho hb ht ad e e2
/-- what a change leaves: more blocks, if any, are new ones -/
def RC (R : Nat → Prop) (w : World) (wb : Nat) (V : List Vw) (down armed : Bool) (left keep : Int) (nu : Nat) (w' : World) : Prop := ∃ R' : Nat → Prop, RFD R' w' wb V down armed left keep nu ∧ (∀ k, R k → R' k) ∧ (∀ k, R' k → R k ∨ w.heap.size ≤ k) ∧ Chg R w w' ∧ KD w w'
theorem RF.done (h : RF R w wb A n c ms V down armed left keep nu) (hg : Grew w w') {base : Nat} (hb : w.heap.size ≤ base) {A2 : Option Addr} {n2 c2 : Nat} {ms2 : List FiM} {V2 : List Vw} (hrow : OE elFi w' base 55 A2 n2 c2 ms2) (hl : ms2.length = V2.length)
    (hel : ∀ (i : Nat) (m : FiM) (v : Vw), ms2[i]? = some m → V2[i]? = some v → FiE w' m v) (hrd : ∀ m ∈ ms2, ∀ ad, m.da = some ad → R ad.block ∨ (w.heap.size ≤ ad.block ∧ ad.block < w'.heap.size)) :
    RC R w wb V2 down armed left keep nu (w'.setCell ⟨wb, 0, none⟩ (.slice A2 n2 c2)) :=
  ⟨_, ⟨_, _, _, _, h.anew hg hb hrow hl hel hrd⟩, fun k hk => .inl hk, fun k hk => hk.elim .inl fun h => .inr h.1, (Chg.of_grew hg).setCell (p := ⟨wb, 0, none⟩) (.inr h.rh) _, (KD.of_grew hg).trans (KD.blk (h.hd.grew hg) (by decide) (Chg.one _ _ _ _))⟩
theorem RC.from {w1 w2 : World} (h : RC R w1 wb V down armed left keep nu w2) (hg : Grew w w1) : RC R w wb V down armed left keep nu w2 := by
  obtain ⟨R', h1, h2, h3, h4, h5⟩ := h
  have := hg.size
  exact ⟨R', h1, h2, fun k hk => (h3 k hk).imp id (by omega), (Chg.of_grew hg).trans h4, (KD.of_grew hg).trans h5⟩
theorem RC.grew {w1 w2 : World} (h : RC R w wb V down armed left keep nu w1) (hg : Grew w1 w2) : RC R w wb V down armed left keep nu w2 := by
  obtain ⟨R', h1, h2, h3, h4, h5⟩ := h
  exact ⟨R', h1.grew hg, h2, h3, h4.grow hg, h5.trans (KD.of_grew hg)⟩
/-- blocks that were made on the way turn -/
theorem RC.spoil {T : Nat → Prop} {w1 w2 w3 : World} (h : RC R w1 wb V down armed left keep nu w2) (g : Grew w w1) (hlt : ∀ k, R k → k < w.heap.size) (hc : Chg T w2 w3) (hT : ∀ k, T k → w.heap.size ≤ k ∧ k < w1.heap.size) (hk : KD w2 w3) : RC R w wb V down armed left keep nu w3 := by
  obtain ⟨R', h1, h2, h3, h4, h6⟩ := h
  have hz := g.size
  refine ⟨R', h1.chg hc fun k hk ht => ?_, h2, fun k hk => (h3 k hk).imp id (by omega), ((Chg.of_grew g).trans h4).step hc fun k hk ht => ?_, ((KD.of_grew g).trans h6).trans hk⟩
  · have := hT k ht
    rcases h3 k hk with h5 | h5
    · have := hlt k h5
      omega
    · omega
  · have := hT k ht
    omega
theorem RC.trans {R' : Nat → Prop} {V2 : List Vw} {down2 armed2 : Bool} {left2 keep2 : Int} {nu2 : Nat} {w1 w2 : World} (hs1 : ∀ k, R k → R' k) (hs2 : ∀ k, R' k → R k ∨ w.heap.size ≤ k) (hc : Chg R w w1) (hk : KD w w1) (h : RC R' w1 wb V2 down2 armed2 left2 keep2 nu2 w2) : RC R w wb V2 down2 armed2 left2 keep2 nu2 w2 := by
  obtain ⟨R2, a, b, c, d, f⟩ := h
  have hz := hc.size
  refine ⟨R2, a, fun k hk => b k (hs1 k hk), fun k hk => ?_, hc.step d fun k hk hr => (hs2 k hr).resolve_right (by omega), hk.trans f⟩
  rcases c k hk with h5 | h5
  · exact hs2 k h5
  · exact .inr (by omega)
theorem RFD.rc (h : RFD R w wb V down armed left keep nu) : RC R w wb V down armed left keep nu w := ⟨R, h, fun _ hk => hk, fun _ hk => .inl hk, Chg.refl _ _, KD.of_grew (Chg.refl _ _)⟩
theorem list_erase {α β : Type} {l : List α} {r : List β} {p : α → β → Prop} (h : ∀ (i : Nat) x y, l[i]? = some x → r[i]? = some y → p x y) (k : Nat) : ∀ (i : Nat) x y, (l.take k ++ l.drop (k + 1))[i]? = some x → (r.take k ++ r.drop (k + 1))[i]? = some y → p x y := fun i x y hx hy => by
  rw [← List.eraseIdx_eq_take_drop_succ, List.getElem?_eraseIdx] at hx hy
  split at hx
  · rename_i hlt
    rw [if_pos hlt] at hy
    exact h _ _ _ hx hy
  · rename_i hlt
    rw [if_neg hlt] at hy
    exact h _ _ _ hx hy
theorem list_ins {α β : Type} {l : List α} {r : List β} {p : α → β → Prop} (hl : l.length = r.length) (h : ∀ (i : Nat) x y, l[i]? = some x → r[i]? = some y → p x y) (k : Nat) {a : α} {b : β} (hab : p a b) : ∀ (i : Nat) x y, (l.take k ++ a :: l.drop k)[i]? = some x → (r.take k ++ b :: r.drop k)[i]? = some y → p x y := fun i x y h1 h2 => by
  have h4 : (l.take k).length = (r.take k).length := by rw [List.length_take, List.length_take, hl]
  rcases Nat.lt_trichotomy i (l.take k).length with h3 | h3 | h3
  · rw [List.getElem?_append_left h3, List.getElem?_take] at h1
    rw [List.getElem?_append_left (by omega), List.getElem?_take] at h2
    split at h1
    · rename_i hlt
      rw [if_pos hlt] at h2
      exact h _ _ _ h1 h2
    · cases h1
  · rw [List.getElem?_append_right (by omega), show i - (l.take k).length = 0 by omega] at h1
    rw [List.getElem?_append_right (by omega), show i - (r.take k).length = 0 by omega] at h2
    obtain rfl := Option.some.inj h1
    obtain rfl := Option.some.inj h2
    exact hab
  · obtain ⟨j, hj⟩ : ∃ j, i = (l.take k).length + (j + 1) := ⟨i - (l.take k).length - 1, by omega⟩
    rw [List.getElem?_append_right (by omega), show i - (l.take k).length = j + 1 by omega, List.getElem?_cons_succ, List.getElem?_drop] at h1
    rw [List.getElem?_append_right (by omega), show i - (r.take k).length = j + 1 by omega, List.getElem?_cons_succ, List.getElem?_drop] at h2
    exact h _ _ _ h1 h2
end

set_option maxRecDepth 100000 in
set_option maxHeartbeats 8000000 in
theorem rTake_any {R : Nat → Prop} {w : World} {wb : Nat} {V : List Vw} {down armed : Bool} {left keep : Int} {nu : Nat} (hD : RFD R w wb V down armed left keep nu) (hlen : V.length ≤ 1048577) (x : ByteArray) {v : Vw} (hv : V[posV V x]? = some v) :
    Calls Tryz.prog 48 #[.pointer (some ⟨wb, 0, none⟩), .string x] w fun e w' => (∃ m : FiM, e = .returned (.agg #[.string v.1, .slice m.da m.dn m.dc, .int .i64 (m.sy : Int)]) ∧ FiE w' m v ∧ ∀ ad, m.da = some ad → R ad.block) ∧ RC R w wb (V.eraseIdx (posV V x)) down armed left keep nu w' := by
  obtain ⟨X, hX⟩ : ∃ X, X = w.alloc (.cells #[.string ⟨#[]⟩, .slice none 0 0, .int .i64 0] 55) := ⟨_, rfl⟩
  have gX : Grew w X := by rw [hX]; exact (Chg.refl _ w).alloc _
  have hbx : Blk X w.heap.size 55 #[.string ⟨#[]⟩, .slice none 0 0, .int .i64 0] := by rw [hX]; exact Blk.new w _ _
  have hF := rFind_any (hD.grew gX) x
  generalize hpos : posV V x = p at *
  obtain ⟨A, n, c, ms, hR⟩ := hD
  have hwl := hR.ln
  have hpn : p < n := by have := (List.getElem?_eq_some_iff.1 hv).1; omega
  obtain ⟨g, m, v', rfl, hm, hv', hE, z0, z1, z2⟩ := hR.at_ hpn
  rw [hv] at hv'
  obtain rfl := Option.some.inj hv'
  have hRg := Lib.hid fun w' (g' : Grew w w') => hR.grew g'
  have hcap := hR.row.cap
  have hml := hR.len
  have hdR := Lib.hid fun ad (e : m.da = some ad) => hR.rd m (List.mem_of_getElem? hm) ad e
  clear hR hpos hv
  generalize hasV V x = hh at *
  obtain ⟨mn, da, dn, dc, sy⟩ := m
  have hnm : mn = v.1 := hE.nm
  subst hnm
  dsimp only at z0 z1 z2 hdR
  go_enter Tryz.func48, Tryz.ntmps48
  go_wp2_with fail
  rw [← hX]
  clear hX
  refine hF.mono ?_
  rintro e w1 ⟨rfl, g1⟩
  have g01 := gX.trans g1
  have b1 := (hRg.out _ g01).hd.cell 0
  have y0 := Chg.cell g01 z0 (fun e => e)
  have y1 := Chg.cell g01 z1 (fun e => e)
  have y2 := Chg.cell g01 z2 (fun e => e)
  obtain ⟨Y, hY⟩ : ∃ Y, Y = w1.alloc (.cells #[.string v.1, .slice da dn dc, .int .i64 (sy : Int)] 55) := ⟨_, rfl⟩
  have gY : Grew w1 Y := by rw [hY]; exact (Chg.refl _ w1).alloc _
  have hbf : Blk Y w1.heap.size 55 #[.string v.1, .slice da dn dc, .int .i64 (sy : Int)] := by rw [hY]; exact Blk.new w1 _ _
  have g0Y := g01.trans gY
  have hRY := hRg.out _ g0Y
  have hbxY := hbx.grew (g1.trans gY)
  have hz1 := g01.size
  have hzX : w.heap.size < w1.heap.size := by have := g1.size; have := hbx.lt; omega
  have hRlt := Lib.hid (hRg.out _ (Chg.refl _ w)).lt
  have hwb : wb < w.heap.size := hRlt.out _ (hRg.out _ (Chg.refl _ w)).rh
  have hcs : CellsIn [wb] Y := cellsIn_cons (i := 0) (u := .slice (some ⟨g, 0, none⟩) n c) (hRY.hd.cell 0) (cellsIn_nil Y)
  have hsm := Lib.hid fun (Z : World) (g : Grew Y Z) => sameIn_of g hcs fun _ _ e => e
  have bY := hRY.hd.cell 0
  have hwbY := hRY.hd.lt
  clear hF z0 z1 z2 gX hbx
  go_wp2_with fail
  rw [← hY]
  clear hY b1 y0 y1 y2
  refine wp_region_textL [(3, 1)] [wb] (by kernel_rfl) (by kernel_rfl) hcs ?_
  simp only [wpUL, tagOf, chk, look, Nat.reduceBEq, if_true, if_false, Nat.reduceEqDiff, List.nil_append, List.cons_append]
  have g0 : Grew Y Y.drew := (Chg.refl _ Y).drew
  have gE : Grew Y (Y.drew.alloc (.cells #[] 55)) := g0.alloc _
  have oE : OE elFi (Y.drew.alloc (.cells #[] 55)) Y.heap.size 55 (some ⟨Y.heap.size, 0, none⟩) 0 0 [] := by
    have := OE.made (E := elFi) Y.drew Y.heap.size 55 g0.size
    first | exact this | simpa using this | (simpa only [World.size_alloc] using this)
  intro K hK
  go_wp2_with fail
  refine OnlyN.normal (hK _ _ (hsm.out _ gE) ?_)
  clear hK K
  have bE := (hRY.hd.grew gE).cell 0
  intro K hK
  go_wp2_with fail
  refine OnlyN.normal (hK _ _ (fun _ => ⟨_, _, _, rfl, rfl, by simp⟩) ?_)
  clear hK K
  have hre := Lib.hid fun w' (g' : Grew Y w') => (hRY.grew g').row.re (by decide)
  have sT := (hre.out _ gE).take (i := p) (by omega)
  intro K hK
  go_wp2_with (at_builtin; refine wpList_appE rfl _ _ 26 55 infoFi rfl Tryz.underlying26 rfl Y.heap.size (some ⟨Y.heap.size, 0, none⟩) 0 0 [] rfl oE gE.size (some ⟨g, 0, none⟩) p _ (ms.take p) rfl sT (by unfold maxLen; omega) (by omega) ?_; intro A5 c5 w5 h5)
  have g5 : Grew Y w5 := h5.grew gE (hd_le1 (Nat.le_refl _))
  have o5 := h5.first1
  refine OnlyN.normal (hK _ _ (hsm.out _ g5) ?_)
  clear hK K h5 oE bE gE sT
  have b5 := (hRY.hd.grew g5).cell 0
  intro K hK
  go_wp2_with fail
  refine OnlyN.normal (hK _ _ (fun _ => ⟨_, _, _, rfl, rfl, by simp⟩) ?_)
  clear hK K
  by_cases hpc : p + 1 < c
  · have sD : RE elFi w5 (some ⟨g, (p + 1) * 3, none⟩) (n - (p + 1)) (ms.drop (p + 1)) := by
      have := (hre.out _ g5).drop (p + 1)
      rwa [show (⟨g, 0, none⟩ : Addr).add ((p + 1) * elFi.sz) = ⟨g, (p + 1) * 3, none⟩ from add_head g ((p + 1) * 3)] at this
    intro K hK
    go_wp2_with (at_builtin; refine wpList_appE rfl _ _ 26 55 infoFi rfl Tryz.underlying26 rfl Y.heap.size A5 p c5 (ms.take p) rfl o5 g5.size (some ⟨g, (p + 1) * 3, none⟩) (n - (p + 1)) _ (ms.drop (p + 1)) rfl sD (by unfold maxLen; omega) (by omega) ?_; intro A8 c8 w8 h8)
    have g8 : Grew Y w8 := h8.grew g5 fun ad e => (Own.blk_lt o5 ad e).1
    refine OnlyN.normal (hK _ _ (hsm.out _ g8) ?_)
    have o8 := h8.oe
    clear hK K h8 o5 b5
    have hb8 := hRY.hd.grew g8
    have b8 := hb8.cell 0
    have f8 := hb8.frozen 0
    have g08 := g0Y.trans g8
    have hdn := hRY.done g8 (base := Y.heap.size) (Nat.le_refl _) o8 (V2 := V.take p ++ V.drop (p + 1)) (by rw [List.length_append, List.length_append, List.length_take, List.length_take, List.length_drop, List.length_drop, hml]) (list_erase (fun i m v h1 h2 => (hRY.el i m v h1 h2).grew g8) p) (fun m hm ad e => .inl (hRY.rd m (by
      rw [← List.eraseIdx_eq_take_drop_succ] at hm
      exact List.mem_of_mem_eraseIdx hm) ad e))
    rw [← List.eraseIdx_eq_take_drop_succ] at hdn
    have hE8 := Lib.hid (hE.grew g08)
    have hf8 := hbf.grew g8
    have hx8 := hbxY.grew g8
    obtain ⟨Z, hZ⟩ : ∃ Z, Z = w8.setCell ⟨wb, 0, none⟩ (.slice A8 (p + (n - (p + 1))) c8) := ⟨_, rfl⟩
    rw [← hZ] at hdn
    replace hdn := Lib.hid hdn
    have hcZ : Chg (fun j => j = wb) w8 Z := by rw [hZ]; exact Chg.one _ _ _ _
    have hfZ := hf8.chg hcZ (by omega)
    have hxZ := hx8.chg hcZ (by omega)
    have q0 := hfZ.cell 0
    have q1 := hfZ.cell 1
    have q2 := hfZ.cell 2
    have x0 := hxZ.cell 0
    have x1 := hxZ.cell 1
    have x2 := hxZ.cell 2
    have xf0 := hxZ.frozen 0
    have xf1 := hxZ.frozen 1
    have xf2 := hxZ.frozen 2
    have xlt := hxZ.lt
    have hEZ := Lib.hid (show FiE Z ⟨v.1, da, dn, dc, sy⟩ v from ⟨rfl, hE.sy, Own.chg (Own.grew hE.da g08) hcZ fun ad e e2 => Own.ne_blk (Own.grew hE.da g08) hb8 (by decide) ad e e2⟩)
    rw [hZ] at q0 q1 q2 x0 x1 x2 xf0 xf1 xf2 xlt
    clear o8 hb8 hcs hsm hre hf8 hx8 hfZ hRY hbf hbxY hE8
    replace hxZ := Lib.hid hxZ
    go_wp2_with fail
    refine OnlyN.normal ?_
    go_wp2
    rw [← hZ]
    have hcU : Chg (fun j => j = w.heap.size) Z (((Z.setCell ⟨w.heap.size, 0, none⟩ (.string v.1)).setCell ⟨w.heap.size, 1, none⟩ (.slice da dn dc)).setCell ⟨w.heap.size, 2, none⟩ (.int .i64 (sy : Int))) := ((Chg.one _ _ _ _).setCell (p := ⟨w.heap.size, 1, none⟩) (.inr rfl) _).setCell (p := ⟨w.heap.size, 2, none⟩) (.inr rfl) _
    have hbU : Blk (((Z.setCell ⟨w.heap.size, 0, none⟩ (.string v.1)).setCell ⟨w.heap.size, 1, none⟩ (.slice da dn dc)).setCell ⟨w.heap.size, 2, none⟩ (.int .i64 (sy : Int))) w.heap.size 55 #[.string v.1, .slice da dn dc, .int .i64 (sy : Int)] := by simpa using ((hxZ.out.set 0 (.string v.1)).set 1 (.slice da dn dc)).set 2 (.int .i64 (sy : Int))
    have hE9 := hEZ.out
    have hEU : FiE (((Z.setCell ⟨w.heap.size, 0, none⟩ (.string v.1)).setCell ⟨w.heap.size, 1, none⟩ (.slice da dn dc)).setCell ⟨w.heap.size, 2, none⟩ (.int .i64 (sy : Int))) ⟨v.1, da, dn, dc, sy⟩ v := ⟨rfl, hE9.sy, Own.chg hE9.da hcU fun ad e e2 => Own.ne_blk hE9.da hxZ.out (by decide) ad e e2⟩
    have hRU := hdn.out.spoil g0Y hRlt.out hcU (fun k e => by
      have e : k = w.heap.size := e
      have := gY.size
      omega) (KD.blk hxZ.out (by decide) hcU)
    have r0 := hbU.cell 0
    have r1 := hbU.cell 1
    have r2 := hbU.cell 2
    refine bodyPost_ret (v := .agg #[.string v.1, .slice da dn dc, .int .i64 (sy : Int)]) ?_ rfl ⟨⟨⟨v.1, da, dn, dc, sy⟩, rfl, hEU, hdR.out⟩, hRU⟩
    simp [results, Tryz.results48, go_sem, r0, r1, r2]
  · have hms0 : ms.drop (p + 1) = [] := List.drop_eq_nil_of_le (by omega)
    have sD : RE elFi w5 (some ⟨g, 0, none⟩) 0 (ms.drop (p + 1)) := by rw [hms0]; exact RE.nil _ _
    obtain rfl : n = p + 1 := by omega
    obtain rfl : c = p + 1 := by omega
    replace hms0 := Lib.hid hms0
    intro K hK
    go_wp2_with (at_builtin; refine wpList_appE rfl _ _ 26 55 infoFi rfl Tryz.underlying26 rfl Y.heap.size A5 p c5 (ms.take p) rfl o5 g5.size (some ⟨g, 0, none⟩) 0 _ (ms.drop (p + 1)) rfl sD (by unfold maxLen; omega) (by omega) ?_; intro A8 c8 w8 h8)
    have g8 : Grew Y w8 := h8.grew g5 fun ad e => (Own.blk_lt o5 ad e).1
    refine OnlyN.normal (hK _ _ (hsm.out _ g8) ?_)
    have o8 := h8.oe
    clear hK K h8 o5 b5
    rw [Nat.add_zero] at o8
    have hb8 := hRY.hd.grew g8
    have b8 := hb8.cell 0
    have f8 := hb8.frozen 0
    have g08 := g0Y.trans g8
    have hdn := hRY.done g8 (base := Y.heap.size) (Nat.le_refl _) o8 (V2 := V.take p ++ V.drop (p + 1)) (by rw [List.length_append, List.length_append, List.length_take, List.length_take, List.length_drop, List.length_drop, hml]) (list_erase (fun i m v h1 h2 => (hRY.el i m v h1 h2).grew g8) p) (fun m hm ad e => .inl (hRY.rd m (by
      rw [← List.eraseIdx_eq_take_drop_succ] at hm
      exact List.mem_of_mem_eraseIdx hm) ad e))
    rw [← List.eraseIdx_eq_take_drop_succ] at hdn
    have hE8 := Lib.hid (hE.grew g08)
    have hf8 := hbf.grew g8
    have hx8 := hbxY.grew g8
    obtain ⟨Z, hZ⟩ : ∃ Z, Z = w8.setCell ⟨wb, 0, none⟩ (.slice A8 p c8) := ⟨_, rfl⟩
    rw [← hZ] at hdn
    replace hdn := Lib.hid hdn
    have hcZ : Chg (fun j => j = wb) w8 Z := by rw [hZ]; exact Chg.one _ _ _ _
    have hfZ := hf8.chg hcZ (by omega)
    have hxZ := hx8.chg hcZ (by omega)
    have q0 := hfZ.cell 0
    have q1 := hfZ.cell 1
    have q2 := hfZ.cell 2
    have x0 := hxZ.cell 0
    have x1 := hxZ.cell 1
    have x2 := hxZ.cell 2
    have xf0 := hxZ.frozen 0
    have xf1 := hxZ.frozen 1
    have xf2 := hxZ.frozen 2
    have xlt := hxZ.lt
    have hEZ := Lib.hid (show FiE Z ⟨v.1, da, dn, dc, sy⟩ v from ⟨rfl, hE.sy, Own.chg (Own.grew hE.da g08) hcZ fun ad e e2 => Own.ne_blk (Own.grew hE.da g08) hb8 (by decide) ad e e2⟩)
    rw [hZ] at q0 q1 q2 x0 x1 x2 xf0 xf1 xf2 xlt
    clear o8 hb8 hcs hsm hre hf8 hx8 hfZ hRY hbf hbxY hE8
    replace hxZ := Lib.hid hxZ
    go_wp2_with fail
    refine OnlyN.normal ?_
    go_wp2
    rw [← hZ]
    have hcU : Chg (fun j => j = w.heap.size) Z (((Z.setCell ⟨w.heap.size, 0, none⟩ (.string v.1)).setCell ⟨w.heap.size, 1, none⟩ (.slice da dn dc)).setCell ⟨w.heap.size, 2, none⟩ (.int .i64 (sy : Int))) := ((Chg.one _ _ _ _).setCell (p := ⟨w.heap.size, 1, none⟩) (.inr rfl) _).setCell (p := ⟨w.heap.size, 2, none⟩) (.inr rfl) _
    have hbU : Blk (((Z.setCell ⟨w.heap.size, 0, none⟩ (.string v.1)).setCell ⟨w.heap.size, 1, none⟩ (.slice da dn dc)).setCell ⟨w.heap.size, 2, none⟩ (.int .i64 (sy : Int))) w.heap.size 55 #[.string v.1, .slice da dn dc, .int .i64 (sy : Int)] := by simpa using ((hxZ.out.set 0 (.string v.1)).set 1 (.slice da dn dc)).set 2 (.int .i64 (sy : Int))
    have hE9 := hEZ.out
    have hEU : FiE (((Z.setCell ⟨w.heap.size, 0, none⟩ (.string v.1)).setCell ⟨w.heap.size, 1, none⟩ (.slice da dn dc)).setCell ⟨w.heap.size, 2, none⟩ (.int .i64 (sy : Int))) ⟨v.1, da, dn, dc, sy⟩ v := ⟨rfl, hE9.sy, Own.chg hE9.da hcU fun ad e e2 => Own.ne_blk hE9.da hxZ.out (by decide) ad e e2⟩
    have hRU := hdn.out.spoil g0Y hRlt.out hcU (fun k e => by
      have e : k = w.heap.size := e
      have := gY.size
      omega) (KD.blk hxZ.out (by decide) hcU)
    have r0 := hbU.cell 0
    have r1 := hbU.cell 1
    have r2 := hbU.cell 2
    refine bodyPost_ret (v := .agg #[.string v.1, .slice da dn dc, .int .i64 (sy : Int)]) ?_ rfl ⟨⟨⟨v.1, da, dn, dc, sy⟩, rfl, hEU, hdR.out⟩, hRU⟩
    simp [results, Tryz.results48, go_sem, r0, r1, r2]

def putV (V : List Vw) (v : Vw) : List Vw := if hasV V v.1 = true then insV (V.eraseIdx (posV V v.1)) v else insV V v

set_option maxRecDepth 100000 in
set_option maxHeartbeats 16000000 in
theorem rPut_any {R : Nat → Prop} {w : World} {wb : Nat} {V : List Vw} {down armed : Bool} {left keep : Int} {nu : Nat} (hD : RFD R w wb V down armed left keep nu) (hlen : V.length ≤ 1048577) (m : FiM) (v : Vw) (hE : FiE w m v) (hmR : ∀ ad, m.da = some ad → R ad.block) :
    Calls Tryz.prog 83 #[.pointer (some ⟨wb, 0, none⟩), .agg #[.string m.nm, .slice m.da m.dn m.dc, .int .i64 (m.sy : Int)]] w fun e w' => e = .returned (.tuple #[]) ∧ RC R w wb (putV V v) down armed left keep nu w' := by
  obtain ⟨mn, da, dn, dc, sy⟩ := m
  have hnm : mn = v.1 := hE.nm
  subst hnm
  dsimp only at hmR ⊢
  obtain ⟨X, hX⟩ : ∃ X, X = w.alloc (.cells #[.string v.1, .slice da dn dc, .int .i64 (sy : Int)] 55) := ⟨_, rfl⟩
  have gX : Grew w X := by rw [hX]; exact (Chg.refl _ w).alloc _
  have hbx : Blk X w.heap.size 55 #[.string v.1, .slice da dn dc, .int .i64 (sy : Int)] := by rw [hX]; exact Blk.new w _ _
  have x0 := hbx.cell 0
  have hDX := hD.grew gX
  have hF := rFind_any hDX v.1
  have hRlt := hD.lt
  generalize hxs : w.heap.size = xs at *
  cases hh : hasV V v.1
  · have hpv : putV V v = V.take (posV V v.1) ++ v :: V.drop (posV V v.1) := by
      unfold putV
      rw [if_neg (by rw [hh]; simp)]
      rfl
    rw [hpv]
    rw [hh] at hF
    obtain ⟨p, hp⟩ : ∃ p, posV V v.1 = p := ⟨_, rfl⟩
    have hple := posV_le V v.1
    rw [hp] at hF hple ⊢
    replace hp := Lib.hid hp
    clear hpv hh
    go_enter Tryz.func83, Tryz.ntmps83
    go_wp2_with fail
    rw [← hX]
    clear hX
    refine hF.mono ?_
    rintro e wt ⟨rfl, gt⟩
    have hT := hDX.grew gt
    have hbt := hbx.grew gt
    have hEt := (hE.grew gX).grew gt
    have hmR1 := Lib.hid hmR
    have hs1 := Lib.hid fun k (h : R k) => h
    have hs2 := Lib.hid fun k (h : R k) => (show R k ∨ w.heap.size ≤ k from .inl h)
    have hct := Lib.hid (Chg.of_grew (S := R) (gX.trans gt))
    have hkt := Lib.hid (KD.of_grew (gX.trans gt))
    replace hmR1 := hmR1.out
    clear hF hD hDX hbx x0 hE
    -- behind: at wt, with hT : RFD R1 wt wb V, the file's block hbt, hEt, hmR1, hs1 hs2 hct
    have hF2 := rFind_any hT v.1
    rw [hp.out] at hF2
    generalize hasV V v.1 = q9 at hF2
    obtain ⟨A, n, c, ms, hRt⟩ := hT
    have hwl := hRt.ln
    have hcap := hRt.row.cap
    have hml := hRt.len
    have hRg := Lib.hid fun w' (g' : Grew wt w') => hRt.grew g'
    have hbg := Lib.hid fun w' (g' : Grew wt w') => hbt.grew g'
    have t0 := hbt.cell 0
    have hmR1 := hmR1
    clear hRt hbt
    go_wp2_with fail
    refine hF2.mono ?_
    rintro e w4 ⟨rfl, g4⟩
    have hR4 := hRg.out _ g4
    have b4 := hR4.hd.cell 0
    have hwb4 := hR4.hd.lt
    have hrow := hR4.row
    have hxlt4 := (hbg.out _ g4).lt
    clear hF2 t0
    go_upto_region 5 with fail
    go_cut [8] from 9 (fun v wx => ∃ (Z : Option Addr) (z : Nat), v = .slice Z (n - p) z ∧ OE elFi wx w4.heap.size 55 Z (n - p) z (ms.drop p) ∧ Grew w4 wx)
    case first =>
      have gE : Grew w4 (w4.alloc (.cells #[] 55)) := (Chg.refl _ w4).alloc _
      have oE : OE elFi (w4.alloc (.cells #[] 55)) w4.heap.size 55 (some ⟨w4.heap.size, 0, none⟩) 0 0 [] := OE.made w4 w4.heap.size 55 (Nat.le_refl _)
      have hml2 : ms.length = n := hrow.len (by decide)
      have hfm : (A = none ∧ n = 0 ∧ c = 0) ∨ ∃ g, A = some ⟨g, 0, none⟩ := by
        rcases hrow.2 with ⟨e, h3⟩ | ⟨g, cap, cur, e, _⟩
        · injection e with e1 e2 e3
          exact .inl ⟨e1, h3, e3⟩
        · injection e with e1 e2 e3
          exact .inr ⟨g, e1⟩
      rcases hfm with ⟨rfl, rfl, rfl⟩ | ⟨g, rfl⟩
      · obtain rfl : p = 0 := by omega
        have hms0 : ms.drop 0 = [] := by rw [List.drop_zero]; exact List.eq_nil_of_length_eq_zero hml2
        have hsrc : RE elFi (w4.alloc (.cells #[] 55)) none 0 (ms.drop 0) := by rw [hms0]; exact RE.nil _ _
        replace hms0 := Lib.hid hms0
        go_wp2_with (at_builtin; refine wpList_appE rfl _ _ 26 55 infoFi rfl Tryz.underlying26 rfl w4.heap.size (some ⟨w4.heap.size, 0, none⟩) 0 0 [] rfl oE gE.size _ 0 _ (ms.drop 0) rfl hsrc (by unfold maxLen; omega) (by omega) ?_; intro Z z w5 h5)
        have hg5 : Grew w4 w5 := h5.grew gE (hd_le1 (Nat.le_refl _))
        have ho5 := h5.first1
        go_meet
        case rel => exact ⟨Z, z, by simp, ho5, hg5⟩
      · have hre := hrow.re (by decide)
        by_cases hpc : p < c
        · have hsrc : RE elFi (w4.alloc (.cells #[] 55)) (some ⟨g, p * 3, none⟩) (n - p) (ms.drop p) := by
            have := (hre.drop p).grew gE
            rwa [show (⟨g, 0, none⟩ : Addr).add (p * elFi.sz) = ⟨g, p * 3, none⟩ from add_head g (p * 3)] at this
          go_wp2_with (at_builtin; refine wpList_appE rfl _ _ 26 55 infoFi rfl Tryz.underlying26 rfl w4.heap.size (some ⟨w4.heap.size, 0, none⟩) 0 0 [] rfl oE gE.size _ (n - p) _ (ms.drop p) rfl hsrc (by unfold maxLen; omega) (by omega) ?_; intro Z z w5 h5)
          have hg5 : Grew w4 w5 := h5.grew gE (hd_le1 (Nat.le_refl _))
          have ho5 := h5.first1
          go_meet
          case rel => exact ⟨Z, z, by simp, ho5, hg5⟩
        · have e1 : p = n := by omega
          have e2 : c = n := by omega
          subst e1
          subst e2
          have hms0 : ms.drop c = [] := List.drop_eq_nil_of_le (by omega)
          have hsrc : RE elFi (w4.alloc (.cells #[] 55)) (some ⟨g, 0, none⟩) 0 (ms.drop c) := by rw [hms0]; exact RE.nil _ _
          replace hms0 := Lib.hid hms0
          go_wp2_with (at_builtin; refine wpList_appE rfl _ _ 26 55 infoFi rfl Tryz.underlying26 rfl w4.heap.size (some ⟨w4.heap.size, 0, none⟩) 0 0 [] rfl oE gE.size _ 0 _ (ms.drop c) rfl hsrc (by unfold maxLen; omega) (by omega) ?_; intro Z z w5 h5)
          have hg5 : Grew w4 w5 := h5.grew gE (hd_le1 (Nat.le_refl _))
          have ho5 := h5.first1
          go_meet
          case rel => exact ⟨Z, z, by simp, by rw [Nat.sub_self]; exact ho5, hg5⟩
    case rest =>
      obtain ⟨Z, z, rfl, hZ, gcz⟩ := hcut
      have gtc := g4.trans gcz
      have hRz := hRg.out _ gtc
      have hbXz := hbg.out _ gtc
      have hEz := hEt.grew gtc
      have bz := hRz.hd.cell 0
      have q0 := hbXz.cell 0
      have q1 := hbXz.cell 1
      have q2 := hbXz.cell 2
      have hwbz := hRz.hd.lt
      have hxbz := hbXz.lt
      have hpn : p ≤ n := by omega
      have hcs : CellsIn [wb, xs] wc := cellsIn_cons (i := 0) (u := .slice A n c) (hRz.hd.cell 0) (cellsIn_cons (i := 0) (u := .string v.1) (hbXz.cell 0) (cellsIn_nil wc))
      have hsm := Lib.hid fun (Y : World) (g : Grew wc Y) => sameIn_of g hcs fun _ _ e => e
      have htk := Lib.hid fun w' (g : Grew wc w') => (show RE elFi w' A p (ms.take p) from ((hRz.row.grew g).re (by decide)).take (by omega))
      clear b4 hwb4 hrow hxlt4 hR4 hRg hbg
      go_wp2_with fail
      refine wp_region_textsDL [(3, 1)] [wb, xs] [[0, 1, 2, 3, 4, 5, 6, 7, 8, 9, 10, 11, 12, 13, 14, 15, 16], [0, 1, 9, 10, 2, 3, 4, 5, 6, 7, 8, 11, 12, 13, 14, 15, 16], [0, 9, 10, 1, 2, 3, 4, 5, 6, 7, 8, 11, 12, 13, 14, 15, 16]] (by kernel_rfl) (by kernel_rfl) hcs ?_
      intro o ho
      simp only [List.mem_cons, List.not_mem_nil, or_false] at ho
      rcases ho with rfl | rfl | rfl
      all_goals
        simp only [opsOf, List.filterMap_cons, List.filterMap_nil, List.getElem?_toArray, List.getElem?_cons_zero, List.getElem?_cons_succ]
        simp only [wpUL, tagOf, chk, List.cons_append, List.nil_append]
      · have g0 : Grew wc wc.drew := (Chg.refl _ wc).drew
        have gE : Grew wc (wc.drew.alloc (.cells #[] 55)) := g0.alloc _
        have oE : OE elFi (wc.drew.alloc (.cells #[] 55)) wc.heap.size 55 (some ⟨wc.heap.size, 0, none⟩) 0 0 [] := by
          have := OE.made (E := elFi) wc.drew wc.heap.size 55 g0.size
          first | exact this | simpa using this | (simpa only [World.size_alloc] using this)
        intro K hK
        go_wp2_with fail
        refine OnlyN.normal (hK _ _ (hsm.out _ gE) ?_)
        clear hK K
        have bE := (hRz.hd.grew gE).cell 0
        intro K hK
        go_wp2_with fail
        refine OnlyN.normal (hK _ _ (fun _ => ⟨_, _, _, rfl, rfl, by simp⟩) ?_)
        clear hK K
        have sT := htk.out _ gE
        intro K hK
        go_wp2_with (at_builtin; refine wpList_appE rfl _ _ 26 55 infoFi rfl Tryz.underlying26 rfl wc.heap.size (some ⟨wc.heap.size, 0, none⟩) 0 0 [] rfl oE gE.size A p _ (ms.take p) rfl sT (by unfold maxLen; omega) (by omega) ?_; intro A5 c5 w5 h5)
        have g5 : Grew wc w5 := h5.grew gE (hd_le1 (Nat.le_refl _))
        have o5 := h5.first1
        have r0 := (hbXz.grew g5).cell 0
        have r1 := (hbXz.grew g5).cell 1
        have r2 := (hbXz.grew g5).cell 2
        refine OnlyN.normal (hK _ _ (hsm.out _ g5) ?_)
        clear hK K h5 oE bE gE sT
        intro K hK
        go_wp2_with fail
        refine OnlyN.normal (hK _ _ (fun _ => ⟨_, _, _, rfl, rfl, by simp⟩) ?_)
        clear hK K
        have g6 : Grew wc (w5.alloc (.cells #[.string v.1, .slice da dn dc, .int .i64 (sy : Int)] 55)) := g5.alloc _
        have oL : RE elFi (w5.alloc (.cells #[.string v.1, .slice da dn dc, .int .i64 (sy : Int)] 55)) (some ⟨w5.heap.size, 0, none⟩) 1 [⟨v.1, da, dn, dc, sy⟩] := RE.newAt rfl rfl rfl
        have o6 := o5.grew (show Grew w5 (w5.alloc (.cells #[.string v.1, .slice da dn dc, .int .i64 (sy : Int)] 55)) from (Chg.refl _ _).alloc _)
        intro K hK
        go_wp2_with fail
        refine OnlyN.normal (hK _ _ (hsm.out _ g6) ?_)
        clear hK K
        intro K hK
        go_wp2_with (at_builtin; refine wpList_appE rfl _ _ 26 55 infoFi rfl Tryz.underlying26 rfl wc.heap.size A5 p c5 (ms.take p) rfl o6 g6.size _ 1 1 [⟨v.1, da, dn, dc, sy⟩] rfl oL (by unfold maxLen; omega) (by omega) ?_; intro A7 c7 w7 h7)
        have g7 : Grew wc w7 := h7.grew g6 fun ad e => (Own.blk_lt o6 ad e).1
        refine OnlyN.normal (hK _ _ (hsm.out _ g7) ?_)
        have o7 := h7.oe
        clear hK K h7 o6 o5 oL r0 r1 r2
        have sZ := (hZ.grew g7).re (by decide)
        intro K hK
        go_wp2_with (at_builtin; refine wpList_appE rfl _ _ 26 55 infoFi rfl Tryz.underlying26 rfl wc.heap.size A7 (p + 1) c7 (ms.take p ++ [⟨v.1, da, dn, dc, sy⟩]) rfl o7 g7.size Z (n - p) z (ms.drop p) rfl sZ (by unfold maxLen; omega) (by omega) ?_; intro A8 c8 w8 h8)
        have g8 : Grew wc w8 := h8.grew g7 fun ad e => (Own.blk_lt o7 ad e).1
        refine OnlyN.normal (hK _ _ (hsm.out _ g8) ?_)
        have o8 := h8.oe
        clear hK K h8 o7 sZ
        rw [show p + 1 + (n - p) = n + 1 by omega, List.append_assoc, List.singleton_append] at o8
        have hb8 := hRz.hd.grew g8
        have b8 := hb8.cell 0
        have f8 := hb8.frozen 0
        have hdn := Lib.hid ((hRz.done g8 (base := wc.heap.size) (Nat.le_refl _) o8 (V2 := V.take p ++ v :: V.drop p) (by rw [List.length_append, List.length_append, List.length_cons, List.length_cons, List.length_take, List.length_take, List.length_drop, List.length_drop, hml]) (list_ins hml (fun i m v h1 h2 => (hRz.el i m v h1 h2).grew g8) p (hEz.grew g8)) (fun m hm ad e => .inl (by
          rcases List.mem_append.1 hm with hm | hm
          · exact hRz.rd m (List.mem_of_mem_take hm) ad e
          · rcases List.mem_cons.1 hm with rfl | hm
            · exact hmR1 ad e
            · exact hRz.rd m (List.mem_of_mem_drop hm) ad e))).from gtc)
        clear o8 hb8 hcs hsm hZ hRz hbXz htk hEz
        rw [show p + 1 + (n - p) = n + 1 by omega]
        go_wp2_with fail
        refine OnlyN.normal ?_
        go_wp2
        go_end0
        exact ⟨by simp, RC.trans hs1.out hs2.out hct.out hkt.out hdn.out⟩
      · have g0 : Grew wc wc.drew := (Chg.refl _ wc).drew
        have gE : Grew wc (wc.drew.alloc (.cells #[] 55)) := g0.alloc _
        have oE0 : OE elFi (wc.drew.alloc (.cells #[] 55)) wc.heap.size 55 (some ⟨wc.heap.size, 0, none⟩) 0 0 [] := by
          have := OE.made (E := elFi) wc.drew wc.heap.size 55 g0.size
          first | exact this | simpa using this | (simpa only [World.size_alloc] using this)
        have r0 := (hbXz.grew gE).cell 0
        have r1 := (hbXz.grew gE).cell 1
        have r2 := (hbXz.grew gE).cell 2
        intro K hK
        go_wp2_with fail
        refine OnlyN.normal (hK _ _ (hsm.out _ gE) ?_)
        clear hK K
        intro K hK
        go_wp2_with fail
        refine OnlyN.normal (hK _ _ (fun _ => ⟨_, _, _, rfl, rfl, by simp⟩) ?_)
        clear hK K
        have gL : Grew wc ((wc.drew.alloc (.cells #[] 55)).alloc (.cells #[.string v.1, .slice da dn dc, .int .i64 (sy : Int)] 55)) := gE.alloc _
        have oE := oE0.grew (show Grew (wc.drew.alloc (.cells #[] 55)) ((wc.drew.alloc (.cells #[] 55)).alloc (.cells #[.string v.1, .slice da dn dc, .int .i64 (sy : Int)] 55)) from (Chg.refl _ _).alloc _)
        have oL : OE elFi ((wc.drew.alloc (.cells #[] 55)).alloc (.cells #[.string v.1, .slice da dn dc, .int .i64 (sy : Int)] 55)) wc.heap.size 55 (some ⟨wc.heap.size + 1, 0, none⟩) 1 1 [⟨v.1, da, dn, dc, sy⟩] := by
          have := OE.lit (E := elFi) (wc.drew.alloc (.cells #[] 55)) wc.heap.size 55 1 [⟨v.1, da, dn, dc, sy⟩] #[.string v.1, .slice da dn dc, .int .i64 (sy : Int)] gE.size (by decide) rfl rfl
          first | exact this | simpa using this | (simpa only [World.size_alloc] using this)
        intro K hK
        go_wp2_with fail
        refine OnlyN.normal (hK _ _ (hsm.out _ gL) ?_)
        clear hK K
        have bE := (hRz.hd.grew gL).cell 0
        intro K hK
        go_wp2_with fail
        refine OnlyN.normal (hK _ _ (fun _ => ⟨_, _, _, rfl, rfl, by simp⟩) ?_)
        clear hK K
        have sT := htk.out _ gL
        intro K hK
        go_wp2_with (at_builtin; refine wpList_appE rfl _ _ 26 55 infoFi rfl Tryz.underlying26 rfl wc.heap.size (some ⟨wc.heap.size, 0, none⟩) 0 0 [] rfl oE gL.size A p _ (ms.take p) rfl sT (by unfold maxLen; omega) (by omega) ?_; intro A5 c5 w5 h5)
        have g5 : Grew wc w5 := h5.grew gL (hd_le1 (by omega))
        have o6 := h5.first1
        have oL5 : RE elFi w5 (some ⟨wc.heap.size + 1, 0, none⟩) 1 [⟨v.1, da, dn, dc, sy⟩] := (oL.re (by decide)).chg h5.chg (fun ad e ⟨bd, e2, e3⟩ => by
          injection e with e
          injection e2 with e2
          subst e
          subst e2
          have e3 : wc.heap.size + 1 = wc.heap.size := e3
          omega)
        refine OnlyN.normal (hK _ _ (hsm.out _ g5) ?_)
        clear hK K h5 oE oL bE gE gL sT r0 r1 r2 oE0
        intro K hK
        go_wp2_with (at_builtin; refine wpList_appE rfl _ _ 26 55 infoFi rfl Tryz.underlying26 rfl wc.heap.size A5 p c5 (ms.take p) rfl o6 g5.size _ 1 1 [⟨v.1, da, dn, dc, sy⟩] rfl oL5 (by unfold maxLen; omega) (by omega) ?_; intro A7 c7 w7 h7)
        have g7 : Grew wc w7 := h7.grew g5 fun ad e => (Own.blk_lt o6 ad e).1
        refine OnlyN.normal (hK _ _ (hsm.out _ g7) ?_)
        have o7 := h7.oe
        clear hK K h7 o6 oL5
        have sZ := (hZ.grew g7).re (by decide)
        intro K hK
        go_wp2_with (at_builtin; refine wpList_appE rfl _ _ 26 55 infoFi rfl Tryz.underlying26 rfl wc.heap.size A7 (p + 1) c7 (ms.take p ++ [⟨v.1, da, dn, dc, sy⟩]) rfl o7 g7.size Z (n - p) z (ms.drop p) rfl sZ (by unfold maxLen; omega) (by omega) ?_; intro A8 c8 w8 h8)
        have g8 : Grew wc w8 := h8.grew g7 fun ad e => (Own.blk_lt o7 ad e).1
        refine OnlyN.normal (hK _ _ (hsm.out _ g8) ?_)
        have o8 := h8.oe
        clear hK K h8 o7 sZ
        rw [show p + 1 + (n - p) = n + 1 by omega, List.append_assoc, List.singleton_append] at o8
        have hb8 := hRz.hd.grew g8
        have b8 := hb8.cell 0
        have f8 := hb8.frozen 0
        have hdn := Lib.hid ((hRz.done g8 (base := wc.heap.size) (Nat.le_refl _) o8 (V2 := V.take p ++ v :: V.drop p) (by rw [List.length_append, List.length_append, List.length_cons, List.length_cons, List.length_take, List.length_take, List.length_drop, List.length_drop, hml]) (list_ins hml (fun i m v h1 h2 => (hRz.el i m v h1 h2).grew g8) p (hEz.grew g8)) (fun m hm ad e => .inl (by
          rcases List.mem_append.1 hm with hm | hm
          · exact hRz.rd m (List.mem_of_mem_take hm) ad e
          · rcases List.mem_cons.1 hm with rfl | hm
            · exact hmR1 ad e
            · exact hRz.rd m (List.mem_of_mem_drop hm) ad e))).from gtc)
        clear o8 hb8 hcs hsm hZ hRz hbXz htk hEz
        rw [show p + 1 + (n - p) = n + 1 by omega]
        go_wp2_with fail
        refine OnlyN.normal ?_
        go_wp2
        go_end0
        exact ⟨by simp, RC.trans hs1.out hs2.out hct.out hkt.out hdn.out⟩
      · have g0 : Grew wc wc.drew := (Chg.refl _ wc).drew
        have gE : Grew wc (wc.drew.alloc (.cells #[.string v.1, .slice da dn dc, .int .i64 (sy : Int)] 55)) := g0.alloc _
        have r0 := (hbXz.grew g0).cell 0
        have r1 := (hbXz.grew g0).cell 1
        have r2 := (hbXz.grew g0).cell 2
        intro K hK
        go_wp2_with fail
        refine OnlyN.normal (hK _ _ (fun _ => ⟨_, _, _, rfl, rfl, by simp⟩) ?_)
        clear hK K
        have oL0 : OE elFi (wc.drew.alloc (.cells #[.string v.1, .slice da dn dc, .int .i64 (sy : Int)] 55)) wc.heap.size 55 (some ⟨wc.heap.size, 0, none⟩) 1 1 [⟨v.1, da, dn, dc, sy⟩] := by
          have := OE.lit (E := elFi) wc.drew wc.heap.size 55 1 [⟨v.1, da, dn, dc, sy⟩] #[.string v.1, .slice da dn dc, .int .i64 (sy : Int)] g0.size (by decide) rfl rfl
          first | exact this | simpa using this | (simpa only [World.size_alloc] using this)
        intro K hK
        go_wp2_with fail
        refine OnlyN.normal (hK _ _ (hsm.out _ gE) ?_)
        clear hK K
        have gL : Grew wc ((wc.drew.alloc (.cells #[.string v.1, .slice da dn dc, .int .i64 (sy : Int)] 55)).alloc (.cells #[] 55)) := gE.alloc _
        have oL := oL0.grew (show Grew (wc.drew.alloc (.cells #[.string v.1, .slice da dn dc, .int .i64 (sy : Int)] 55)) ((wc.drew.alloc (.cells #[.string v.1, .slice da dn dc, .int .i64 (sy : Int)] 55)).alloc (.cells #[] 55)) from (Chg.refl _ _).alloc _)
        have oE : OE elFi ((wc.drew.alloc (.cells #[.string v.1, .slice da dn dc, .int .i64 (sy : Int)] 55)).alloc (.cells #[] 55)) wc.heap.size 55 (some ⟨wc.heap.size + 1, 0, none⟩) 0 0 [] := by
          have := OE.made (E := elFi) (wc.drew.alloc (.cells #[.string v.1, .slice da dn dc, .int .i64 (sy : Int)] 55)) wc.heap.size 55 gE.size
          first | exact this | simpa using this | (simpa only [World.size_alloc] using this)
        intro K hK
        go_wp2_with fail
        refine OnlyN.normal (hK _ _ (hsm.out _ gL) ?_)
        clear hK K
        have bE := (hRz.hd.grew gL).cell 0
        intro K hK
        go_wp2_with fail
        refine OnlyN.normal (hK _ _ (fun _ => ⟨_, _, _, rfl, rfl, by simp⟩) ?_)
        clear hK K
        have sT := htk.out _ gL
        intro K hK
        go_wp2_with (at_builtin; refine wpList_appE rfl _ _ 26 55 infoFi rfl Tryz.underlying26 rfl wc.heap.size (some ⟨wc.heap.size + 1, 0, none⟩) 0 0 [] rfl oE gL.size A p _ (ms.take p) rfl sT (by unfold maxLen; omega) (by omega) ?_; intro A5 c5 w5 h5)
        have g5 : Grew wc w5 := h5.grew gL (hd_le1 (by omega))
        have o6 := h5.first1
        have oL5 : RE elFi w5 (some ⟨wc.heap.size, 0, none⟩) 1 [⟨v.1, da, dn, dc, sy⟩] := (oL.re (by decide)).chg h5.chg (fun ad e ⟨bd, e2, e3⟩ => by
          injection e with e
          injection e2 with e2
          subst e
          subst e2
          have e3 : wc.heap.size = wc.heap.size + 1 := e3
          omega)
        refine OnlyN.normal (hK _ _ (hsm.out _ g5) ?_)
        clear hK K h5 oE oL bE gE gL sT r0 r1 r2 oL0
        intro K hK
        go_wp2_with (at_builtin; refine wpList_appE rfl _ _ 26 55 infoFi rfl Tryz.underlying26 rfl wc.heap.size A5 p c5 (ms.take p) rfl o6 g5.size _ 1 1 [⟨v.1, da, dn, dc, sy⟩] rfl oL5 (by unfold maxLen; omega) (by omega) ?_; intro A7 c7 w7 h7)
        have g7 : Grew wc w7 := h7.grew g5 fun ad e => (Own.blk_lt o6 ad e).1
        refine OnlyN.normal (hK _ _ (hsm.out _ g7) ?_)
        have o7 := h7.oe
        clear hK K h7 o6 oL5
        have sZ := (hZ.grew g7).re (by decide)
        intro K hK
        go_wp2_with (at_builtin; refine wpList_appE rfl _ _ 26 55 infoFi rfl Tryz.underlying26 rfl wc.heap.size A7 (p + 1) c7 (ms.take p ++ [⟨v.1, da, dn, dc, sy⟩]) rfl o7 g7.size Z (n - p) z (ms.drop p) rfl sZ (by unfold maxLen; omega) (by omega) ?_; intro A8 c8 w8 h8)
        have g8 : Grew wc w8 := h8.grew g7 fun ad e => (Own.blk_lt o7 ad e).1
        refine OnlyN.normal (hK _ _ (hsm.out _ g8) ?_)
        have o8 := h8.oe
        clear hK K h8 o7 sZ
        rw [show p + 1 + (n - p) = n + 1 by omega, List.append_assoc, List.singleton_append] at o8
        have hb8 := hRz.hd.grew g8
        have b8 := hb8.cell 0
        have f8 := hb8.frozen 0
        have hdn := Lib.hid ((hRz.done g8 (base := wc.heap.size) (Nat.le_refl _) o8 (V2 := V.take p ++ v :: V.drop p) (by rw [List.length_append, List.length_append, List.length_cons, List.length_cons, List.length_take, List.length_take, List.length_drop, List.length_drop, hml]) (list_ins hml (fun i m v h1 h2 => (hRz.el i m v h1 h2).grew g8) p (hEz.grew g8)) (fun m hm ad e => .inl (by
          rcases List.mem_append.1 hm with hm | hm
          · exact hRz.rd m (List.mem_of_mem_take hm) ad e
          · rcases List.mem_cons.1 hm with rfl | hm
            · exact hmR1 ad e
            · exact hRz.rd m (List.mem_of_mem_drop hm) ad e))).from gtc)
        clear o8 hb8 hcs hsm hZ hRz hbXz htk hEz
        rw [show p + 1 + (n - p) = n + 1 by omega]
        go_wp2_with fail
        refine OnlyN.normal ?_
        go_wp2
        go_end0
        exact ⟨by simp, RC.trans hs1.out hs2.out hct.out hkt.out hdn.out⟩
  · have hpv : putV V v = (V.eraseIdx (posV V v.1)).take (posV (V.eraseIdx (posV V v.1)) v.1) ++ v :: (V.eraseIdx (posV V v.1)).drop (posV (V.eraseIdx (posV V v.1)) v.1) := by
      unfold putV
      rw [if_pos hh]
      rfl
    rw [hpv]
    rw [hh] at hF
    obtain ⟨v9, hv9, _⟩ := hasV_at hh
    have hTk := fun wq (gq : Grew X wq) => rTake_any (hDX.grew gq) hlen v.1 hv9
    have hlen9 : (V.eraseIdx (posV V v.1)).length ≤ 1048577 := Nat.le_trans (List.length_eraseIdx_le _ _) hlen
    obtain ⟨V1, hV1⟩ : ∃ V1, V1 = V.eraseIdx (posV V v.1) := ⟨_, rfl⟩
    rw [← hV1] at hTk hlen9 ⊢
    obtain ⟨p, hp⟩ : ∃ p, posV V1 v.1 = p := ⟨_, rfl⟩
    have hple := posV_le V1 v.1
    rw [hp] at hple ⊢
    replace hp := Lib.hid hp
    replace hTk := Lib.hid hTk
    clear hpv hh hv9 hV1
    go_enter Tryz.func83, Tryz.ntmps83
    go_wp2_with fail
    rw [← hX]
    clear hX
    refine hF.mono ?_
    rintro e wq ⟨rfl, gq⟩
    have xq := (hbx.grew gq).cell 0
    have hTq := hTk.out wq gq
    clear hF hTk x0
    go_wp2_with fail
    refine hTq.mono ?_
    rintro e wt ⟨⟨m9, rfl, _, _⟩, R1, hT, hsA, hsB, hcA, hkA⟩
    have hbt := (hbx.grew gq).chg hcA (fun e => by have := hRlt _ e; omega)
    have hEt : FiE wt ⟨v.1, da, dn, dc, sy⟩ v := ⟨rfl, hE.sy, hkA _ _ _ _ ((hE.grew gX).grew gq).da⟩
    have hmR1 : ∀ ad, da = some ad → R1 ad.block := fun ad e => hsA _ (hmR ad e)
    have hs1 := Lib.hid hsA
    have hs2 := Lib.hid fun k (h : R1 k) => (show R k ∨ w.heap.size ≤ k from (hsB k h).imp id fun h9 => by have := (gX.trans gq).size; omega)
    have hct := Lib.hid ((Chg.of_grew (S := R) (gX.trans gq)).trans hcA)
    have hkt := Lib.hid ((KD.of_grew (gX.trans gq)).trans hkA)
    have hlen := hlen9
    clear hTq hD hDX hbx xq hE hsA hsB hcA hlen9
    -- behind: at wt, with hT : RFD R1 wt wb V1, the file's block hbt, hEt, hmR1, hs1 hs2 hct
    have hF2 := rFind_any hT v.1
    rw [hp.out] at hF2
    generalize hasV V1 v.1 = q9 at hF2
    obtain ⟨A, n, c, ms, hRt⟩ := hT
    have hwl := hRt.ln
    have hcap := hRt.row.cap
    have hml := hRt.len
    have hRg := Lib.hid fun w' (g' : Grew wt w') => hRt.grew g'
    have hbg := Lib.hid fun w' (g' : Grew wt w') => hbt.grew g'
    have t0 := hbt.cell 0
    have hmR1 := hmR1
    clear hRt hbt
    go_wp2_with fail
    refine hF2.mono ?_
    rintro e w4 ⟨rfl, g4⟩
    have hR4 := hRg.out _ g4
    have b4 := hR4.hd.cell 0
    have hwb4 := hR4.hd.lt
    have hrow := hR4.row
    have hxlt4 := (hbg.out _ g4).lt
    clear hF2 t0
    go_upto_region 5 with fail
    go_cut [8] from 9 (fun v wx => ∃ (Z : Option Addr) (z : Nat), v = .slice Z (n - p) z ∧ OE elFi wx w4.heap.size 55 Z (n - p) z (ms.drop p) ∧ Grew w4 wx)
    case first =>
      have gE : Grew w4 (w4.alloc (.cells #[] 55)) := (Chg.refl _ w4).alloc _
      have oE : OE elFi (w4.alloc (.cells #[] 55)) w4.heap.size 55 (some ⟨w4.heap.size, 0, none⟩) 0 0 [] := OE.made w4 w4.heap.size 55 (Nat.le_refl _)
      have hml2 : ms.length = n := hrow.len (by decide)
      have hfm : (A = none ∧ n = 0 ∧ c = 0) ∨ ∃ g, A = some ⟨g, 0, none⟩ := by
        rcases hrow.2 with ⟨e, h3⟩ | ⟨g, cap, cur, e, _⟩
        · injection e with e1 e2 e3
          exact .inl ⟨e1, h3, e3⟩
        · injection e with e1 e2 e3
          exact .inr ⟨g, e1⟩
      rcases hfm with ⟨rfl, rfl, rfl⟩ | ⟨g, rfl⟩
      · obtain rfl : p = 0 := by omega
        have hms0 : ms.drop 0 = [] := by rw [List.drop_zero]; exact List.eq_nil_of_length_eq_zero hml2
        have hsrc : RE elFi (w4.alloc (.cells #[] 55)) none 0 (ms.drop 0) := by rw [hms0]; exact RE.nil _ _
        replace hms0 := Lib.hid hms0
        go_wp2_with (at_builtin; refine wpList_appE rfl _ _ 26 55 infoFi rfl Tryz.underlying26 rfl w4.heap.size (some ⟨w4.heap.size, 0, none⟩) 0 0 [] rfl oE gE.size _ 0 _ (ms.drop 0) rfl hsrc (by unfold maxLen; omega) (by omega) ?_; intro Z z w5 h5)
        have hg5 : Grew w4 w5 := h5.grew gE (hd_le1 (Nat.le_refl _))
        have ho5 := h5.first1
        go_meet
        case rel => exact ⟨Z, z, by simp, ho5, hg5⟩
      · have hre := hrow.re (by decide)
        by_cases hpc : p < c
        · have hsrc : RE elFi (w4.alloc (.cells #[] 55)) (some ⟨g, p * 3, none⟩) (n - p) (ms.drop p) := by
            have := (hre.drop p).grew gE
            rwa [show (⟨g, 0, none⟩ : Addr).add (p * elFi.sz) = ⟨g, p * 3, none⟩ from add_head g (p * 3)] at this
          go_wp2_with (at_builtin; refine wpList_appE rfl _ _ 26 55 infoFi rfl Tryz.underlying26 rfl w4.heap.size (some ⟨w4.heap.size, 0, none⟩) 0 0 [] rfl oE gE.size _ (n - p) _ (ms.drop p) rfl hsrc (by unfold maxLen; omega) (by omega) ?_; intro Z z w5 h5)
          have hg5 : Grew w4 w5 := h5.grew gE (hd_le1 (Nat.le_refl _))
          have ho5 := h5.first1
          go_meet
          case rel => exact ⟨Z, z, by simp, ho5, hg5⟩
        · have e1 : p = n := by omega
          have e2 : c = n := by omega
          subst e1
          subst e2
          have hms0 : ms.drop c = [] := List.drop_eq_nil_of_le (by omega)
          have hsrc : RE elFi (w4.alloc (.cells #[] 55)) (some ⟨g, 0, none⟩) 0 (ms.drop c) := by rw [hms0]; exact RE.nil _ _
          replace hms0 := Lib.hid hms0
          go_wp2_with (at_builtin; refine wpList_appE rfl _ _ 26 55 infoFi rfl Tryz.underlying26 rfl w4.heap.size (some ⟨w4.heap.size, 0, none⟩) 0 0 [] rfl oE gE.size _ 0 _ (ms.drop c) rfl hsrc (by unfold maxLen; omega) (by omega) ?_; intro Z z w5 h5)
          have hg5 : Grew w4 w5 := h5.grew gE (hd_le1 (Nat.le_refl _))
          have ho5 := h5.first1
          go_meet
          case rel => exact ⟨Z, z, by simp, by rw [Nat.sub_self]; exact ho5, hg5⟩
    case rest =>
      obtain ⟨Z, z, rfl, hZ, gcz⟩ := hcut
      have gtc := g4.trans gcz
      have hRz := hRg.out _ gtc
      have hbXz := hbg.out _ gtc
      have hEz := hEt.grew gtc
      have bz := hRz.hd.cell 0
      have q0 := hbXz.cell 0
      have q1 := hbXz.cell 1
      have q2 := hbXz.cell 2
      have hwbz := hRz.hd.lt
      have hxbz := hbXz.lt
      have hpn : p ≤ n := by omega
      have hcs : CellsIn [wb, xs] wc := cellsIn_cons (i := 0) (u := .slice A n c) (hRz.hd.cell 0) (cellsIn_cons (i := 0) (u := .string v.1) (hbXz.cell 0) (cellsIn_nil wc))
      have hsm := Lib.hid fun (Y : World) (g : Grew wc Y) => sameIn_of g hcs fun _ _ e => e
      have htk := Lib.hid fun w' (g : Grew wc w') => (show RE elFi w' A p (ms.take p) from ((hRz.row.grew g).re (by decide)).take (by omega))
      clear b4 hwb4 hrow hxlt4 hR4 hRg hbg
      go_wp2_with fail
      refine wp_region_textsDL [(3, 1)] [wb, xs] [[0, 1, 2, 3, 4, 5, 6, 7, 8, 9, 10, 11, 12, 13, 14, 15, 16], [0, 1, 9, 10, 2, 3, 4, 5, 6, 7, 8, 11, 12, 13, 14, 15, 16], [0, 9, 10, 1, 2, 3, 4, 5, 6, 7, 8, 11, 12, 13, 14, 15, 16]] (by kernel_rfl) (by kernel_rfl) hcs ?_
      intro o ho
      simp only [List.mem_cons, List.not_mem_nil, or_false] at ho
      rcases ho with rfl | rfl | rfl
      all_goals
        simp only [opsOf, List.filterMap_cons, List.filterMap_nil, List.getElem?_toArray, List.getElem?_cons_zero, List.getElem?_cons_succ]
        simp only [wpUL, tagOf, chk, List.cons_append, List.nil_append]
      · have g0 : Grew wc wc.drew := (Chg.refl _ wc).drew
        have gE : Grew wc (wc.drew.alloc (.cells #[] 55)) := g0.alloc _
        have oE : OE elFi (wc.drew.alloc (.cells #[] 55)) wc.heap.size 55 (some ⟨wc.heap.size, 0, none⟩) 0 0 [] := by
          have := OE.made (E := elFi) wc.drew wc.heap.size 55 g0.size
          first | exact this | simpa using this | (simpa only [World.size_alloc] using this)
        intro K hK
        go_wp2_with fail
        refine OnlyN.normal (hK _ _ (hsm.out _ gE) ?_)
        clear hK K
        have bE := (hRz.hd.grew gE).cell 0
        intro K hK
        go_wp2_with fail
        refine OnlyN.normal (hK _ _ (fun _ => ⟨_, _, _, rfl, rfl, by simp⟩) ?_)
        clear hK K
        have sT := htk.out _ gE
        intro K hK
        go_wp2_with (at_builtin; refine wpList_appE rfl _ _ 26 55 infoFi rfl Tryz.underlying26 rfl wc.heap.size (some ⟨wc.heap.size, 0, none⟩) 0 0 [] rfl oE gE.size A p _ (ms.take p) rfl sT (by unfold maxLen; omega) (by omega) ?_; intro A5 c5 w5 h5)
        have g5 : Grew wc w5 := h5.grew gE (hd_le1 (Nat.le_refl _))
        have o5 := h5.first1
        have r0 := (hbXz.grew g5).cell 0
        have r1 := (hbXz.grew g5).cell 1
        have r2 := (hbXz.grew g5).cell 2
        refine OnlyN.normal (hK _ _ (hsm.out _ g5) ?_)
        clear hK K h5 oE bE gE sT
        intro K hK
        go_wp2_with fail
        refine OnlyN.normal (hK _ _ (fun _ => ⟨_, _, _, rfl, rfl, by simp⟩) ?_)
        clear hK K
        have g6 : Grew wc (w5.alloc (.cells #[.string v.1, .slice da dn dc, .int .i64 (sy : Int)] 55)) := g5.alloc _
        have oL : RE elFi (w5.alloc (.cells #[.string v.1, .slice da dn dc, .int .i64 (sy : Int)] 55)) (some ⟨w5.heap.size, 0, none⟩) 1 [⟨v.1, da, dn, dc, sy⟩] := RE.newAt rfl rfl rfl
        have o6 := o5.grew (show Grew w5 (w5.alloc (.cells #[.string v.1, .slice da dn dc, .int .i64 (sy : Int)] 55)) from (Chg.refl _ _).alloc _)
        intro K hK
        go_wp2_with fail
        refine OnlyN.normal (hK _ _ (hsm.out _ g6) ?_)
        clear hK K
        intro K hK
        go_wp2_with (at_builtin; refine wpList_appE rfl _ _ 26 55 infoFi rfl Tryz.underlying26 rfl wc.heap.size A5 p c5 (ms.take p) rfl o6 g6.size _ 1 1 [⟨v.1, da, dn, dc, sy⟩] rfl oL (by unfold maxLen; omega) (by omega) ?_; intro A7 c7 w7 h7)
        have g7 : Grew wc w7 := h7.grew g6 fun ad e => (Own.blk_lt o6 ad e).1
        refine OnlyN.normal (hK _ _ (hsm.out _ g7) ?_)
        have o7 := h7.oe
        clear hK K h7 o6 o5 oL r0 r1 r2
        have sZ := (hZ.grew g7).re (by decide)
        intro K hK
        go_wp2_with (at_builtin; refine wpList_appE rfl _ _ 26 55 infoFi rfl Tryz.underlying26 rfl wc.heap.size A7 (p + 1) c7 (ms.take p ++ [⟨v.1, da, dn, dc, sy⟩]) rfl o7 g7.size Z (n - p) z (ms.drop p) rfl sZ (by unfold maxLen; omega) (by omega) ?_; intro A8 c8 w8 h8)
        have g8 : Grew wc w8 := h8.grew g7 fun ad e => (Own.blk_lt o7 ad e).1
        refine OnlyN.normal (hK _ _ (hsm.out _ g8) ?_)
        have o8 := h8.oe
        clear hK K h8 o7 sZ
        rw [show p + 1 + (n - p) = n + 1 by omega, List.append_assoc, List.singleton_append] at o8
        have hb8 := hRz.hd.grew g8
        have b8 := hb8.cell 0
        have f8 := hb8.frozen 0
        have hdn := Lib.hid ((hRz.done g8 (base := wc.heap.size) (Nat.le_refl _) o8 (V2 := V1.take p ++ v :: V1.drop p) (by rw [List.length_append, List.length_append, List.length_cons, List.length_cons, List.length_take, List.length_take, List.length_drop, List.length_drop, hml]) (list_ins hml (fun i m v h1 h2 => (hRz.el i m v h1 h2).grew g8) p (hEz.grew g8)) (fun m hm ad e => .inl (by
          rcases List.mem_append.1 hm with hm | hm
          · exact hRz.rd m (List.mem_of_mem_take hm) ad e
          · rcases List.mem_cons.1 hm with rfl | hm
            · exact hmR1 ad e
            · exact hRz.rd m (List.mem_of_mem_drop hm) ad e))).from gtc)
        clear o8 hb8 hcs hsm hZ hRz hbXz htk hEz
        rw [show p + 1 + (n - p) = n + 1 by omega]
        go_wp2_with fail
        refine OnlyN.normal ?_
        go_wp2
        go_end0
        exact ⟨by simp, RC.trans hs1.out hs2.out hct.out hkt.out hdn.out⟩
      · have g0 : Grew wc wc.drew := (Chg.refl _ wc).drew
        have gE : Grew wc (wc.drew.alloc (.cells #[] 55)) := g0.alloc _
        have oE0 : OE elFi (wc.drew.alloc (.cells #[] 55)) wc.heap.size 55 (some ⟨wc.heap.size, 0, none⟩) 0 0 [] := by
          have := OE.made (E := elFi) wc.drew wc.heap.size 55 g0.size
          first | exact this | simpa using this | (simpa only [World.size_alloc] using this)
        have r0 := (hbXz.grew gE).cell 0
        have r1 := (hbXz.grew gE).cell 1
        have r2 := (hbXz.grew gE).cell 2
        intro K hK
        go_wp2_with fail
        refine OnlyN.normal (hK _ _ (hsm.out _ gE) ?_)
        clear hK K
        intro K hK
        go_wp2_with fail
        refine OnlyN.normal (hK _ _ (fun _ => ⟨_, _, _, rfl, rfl, by simp⟩) ?_)
        clear hK K
        have gL : Grew wc ((wc.drew.alloc (.cells #[] 55)).alloc (.cells #[.string v.1, .slice da dn dc, .int .i64 (sy : Int)] 55)) := gE.alloc _
        have oE := oE0.grew (show Grew (wc.drew.alloc (.cells #[] 55)) ((wc.drew.alloc (.cells #[] 55)).alloc (.cells #[.string v.1, .slice da dn dc, .int .i64 (sy : Int)] 55)) from (Chg.refl _ _).alloc _)
        have oL : OE elFi ((wc.drew.alloc (.cells #[] 55)).alloc (.cells #[.string v.1, .slice da dn dc, .int .i64 (sy : Int)] 55)) wc.heap.size 55 (some ⟨wc.heap.size + 1, 0, none⟩) 1 1 [⟨v.1, da, dn, dc, sy⟩] := by
          have := OE.lit (E := elFi) (wc.drew.alloc (.cells #[] 55)) wc.heap.size 55 1 [⟨v.1, da, dn, dc, sy⟩] #[.string v.1, .slice da dn dc, .int .i64 (sy : Int)] gE.size (by decide) rfl rfl
          first | exact this | simpa using this | (simpa only [World.size_alloc] using this)
        intro K hK
        go_wp2_with fail
        refine OnlyN.normal (hK _ _ (hsm.out _ gL) ?_)
        clear hK K
        have bE := (hRz.hd.grew gL).cell 0
        intro K hK
        go_wp2_with fail
        refine OnlyN.normal (hK _ _ (fun _ => ⟨_, _, _, rfl, rfl, by simp⟩) ?_)
        clear hK K
        have sT := htk.out _ gL
        intro K hK
        go_wp2_with (at_builtin; refine wpList_appE rfl _ _ 26 55 infoFi rfl Tryz.underlying26 rfl wc.heap.size (some ⟨wc.heap.size, 0, none⟩) 0 0 [] rfl oE gL.size A p _ (ms.take p) rfl sT (by unfold maxLen; omega) (by omega) ?_; intro A5 c5 w5 h5)
        have g5 : Grew wc w5 := h5.grew gL (hd_le1 (by omega))
        have o6 := h5.first1
        have oL5 : RE elFi w5 (some ⟨wc.heap.size + 1, 0, none⟩) 1 [⟨v.1, da, dn, dc, sy⟩] := (oL.re (by decide)).chg h5.chg (fun ad e ⟨bd, e2, e3⟩ => by
          injection e with e
          injection e2 with e2
          subst e
          subst e2
          have e3 : wc.heap.size + 1 = wc.heap.size := e3
          omega)
        refine OnlyN.normal (hK _ _ (hsm.out _ g5) ?_)
        clear hK K h5 oE oL bE gE gL sT r0 r1 r2 oE0
        intro K hK
        go_wp2_with (at_builtin; refine wpList_appE rfl _ _ 26 55 infoFi rfl Tryz.underlying26 rfl wc.heap.size A5 p c5 (ms.take p) rfl o6 g5.size _ 1 1 [⟨v.1, da, dn, dc, sy⟩] rfl oL5 (by unfold maxLen; omega) (by omega) ?_; intro A7 c7 w7 h7)
        have g7 : Grew wc w7 := h7.grew g5 fun ad e => (Own.blk_lt o6 ad e).1
        refine OnlyN.normal (hK _ _ (hsm.out _ g7) ?_)
        have o7 := h7.oe
        clear hK K h7 o6 oL5
        have sZ := (hZ.grew g7).re (by decide)
        intro K hK
        go_wp2_with (at_builtin; refine wpList_appE rfl _ _ 26 55 infoFi rfl Tryz.underlying26 rfl wc.heap.size A7 (p + 1) c7 (ms.take p ++ [⟨v.1, da, dn, dc, sy⟩]) rfl o7 g7.size Z (n - p) z (ms.drop p) rfl sZ (by unfold maxLen; omega) (by omega) ?_; intro A8 c8 w8 h8)
        have g8 : Grew wc w8 := h8.grew g7 fun ad e => (Own.blk_lt o7 ad e).1
        refine OnlyN.normal (hK _ _ (hsm.out _ g8) ?_)
        have o8 := h8.oe
        clear hK K h8 o7 sZ
        rw [show p + 1 + (n - p) = n + 1 by omega, List.append_assoc, List.singleton_append] at o8
        have hb8 := hRz.hd.grew g8
        have b8 := hb8.cell 0
        have f8 := hb8.frozen 0
        have hdn := Lib.hid ((hRz.done g8 (base := wc.heap.size) (Nat.le_refl _) o8 (V2 := V1.take p ++ v :: V1.drop p) (by rw [List.length_append, List.length_append, List.length_cons, List.length_cons, List.length_take, List.length_take, List.length_drop, List.length_drop, hml]) (list_ins hml (fun i m v h1 h2 => (hRz.el i m v h1 h2).grew g8) p (hEz.grew g8)) (fun m hm ad e => .inl (by
          rcases List.mem_append.1 hm with hm | hm
          · exact hRz.rd m (List.mem_of_mem_take hm) ad e
          · rcases List.mem_cons.1 hm with rfl | hm
            · exact hmR1 ad e
            · exact hRz.rd m (List.mem_of_mem_drop hm) ad e))).from gtc)
        clear o8 hb8 hcs hsm hZ hRz hbXz htk hEz
        rw [show p + 1 + (n - p) = n + 1 by omega]
        go_wp2_with fail
        refine OnlyN.normal ?_
        go_wp2
        go_end0
        exact ⟨by simp, RC.trans hs1.out hs2.out hct.out hkt.out hdn.out⟩
      · have g0 : Grew wc wc.drew := (Chg.refl _ wc).drew
        have gE : Grew wc (wc.drew.alloc (.cells #[.string v.1, .slice da dn dc, .int .i64 (sy : Int)] 55)) := g0.alloc _
        have r0 := (hbXz.grew g0).cell 0
        have r1 := (hbXz.grew g0).cell 1
        have r2 := (hbXz.grew g0).cell 2
        intro K hK
        go_wp2_with fail
        refine OnlyN.normal (hK _ _ (fun _ => ⟨_, _, _, rfl, rfl, by simp⟩) ?_)
        clear hK K
        have oL0 : OE elFi (wc.drew.alloc (.cells #[.string v.1, .slice da dn dc, .int .i64 (sy : Int)] 55)) wc.heap.size 55 (some ⟨wc.heap.size, 0, none⟩) 1 1 [⟨v.1, da, dn, dc, sy⟩] := by
          have := OE.lit (E := elFi) wc.drew wc.heap.size 55 1 [⟨v.1, da, dn, dc, sy⟩] #[.string v.1, .slice da dn dc, .int .i64 (sy : Int)] g0.size (by decide) rfl rfl
          first | exact this | simpa using this | (simpa only [World.size_alloc] using this)
        intro K hK
        go_wp2_with fail
        refine OnlyN.normal (hK _ _ (hsm.out _ gE) ?_)
        clear hK K
        have gL : Grew wc ((wc.drew.alloc (.cells #[.string v.1, .slice da dn dc, .int .i64 (sy : Int)] 55)).alloc (.cells #[] 55)) := gE.alloc _
        have oL := oL0.grew (show Grew (wc.drew.alloc (.cells #[.string v.1, .slice da dn dc, .int .i64 (sy : Int)] 55)) ((wc.drew.alloc (.cells #[.string v.1, .slice da dn dc, .int .i64 (sy : Int)] 55)).alloc (.cells #[] 55)) from (Chg.refl _ _).alloc _)
        have oE : OE elFi ((wc.drew.alloc (.cells #[.string v.1, .slice da dn dc, .int .i64 (sy : Int)] 55)).alloc (.cells #[] 55)) wc.heap.size 55 (some ⟨wc.heap.size + 1, 0, none⟩) 0 0 [] := by
          have := OE.made (E := elFi) (wc.drew.alloc (.cells #[.string v.1, .slice da dn dc, .int .i64 (sy : Int)] 55)) wc.heap.size 55 gE.size
          first | exact this | simpa using this | (simpa only [World.size_alloc] using this)
        intro K hK
        go_wp2_with fail
        refine OnlyN.normal (hK _ _ (hsm.out _ gL) ?_)
        clear hK K
        have bE := (hRz.hd.grew gL).cell 0
        intro K hK
        go_wp2_with fail
        refine OnlyN.normal (hK _ _ (fun _ => ⟨_, _, _, rfl, rfl, by simp⟩) ?_)
        clear hK K
        have sT := htk.out _ gL
        intro K hK
        go_wp2_with (at_builtin; refine wpList_appE rfl _ _ 26 55 infoFi rfl Tryz.underlying26 rfl wc.heap.size (some ⟨wc.heap.size + 1, 0, none⟩) 0 0 [] rfl oE gL.size A p _ (ms.take p) rfl sT (by unfold maxLen; omega) (by omega) ?_; intro A5 c5 w5 h5)
        have g5 : Grew wc w5 := h5.grew gL (hd_le1 (by omega))
        have o6 := h5.first1
        have oL5 : RE elFi w5 (some ⟨wc.heap.size, 0, none⟩) 1 [⟨v.1, da, dn, dc, sy⟩] := (oL.re (by decide)).chg h5.chg (fun ad e ⟨bd, e2, e3⟩ => by
          injection e with e
          injection e2 with e2
          subst e
          subst e2
          have e3 : wc.heap.size = wc.heap.size + 1 := e3
          omega)
        refine OnlyN.normal (hK _ _ (hsm.out _ g5) ?_)
        clear hK K h5 oE oL bE gE gL sT r0 r1 r2 oL0
        intro K hK
        go_wp2_with (at_builtin; refine wpList_appE rfl _ _ 26 55 infoFi rfl Tryz.underlying26 rfl wc.heap.size A5 p c5 (ms.take p) rfl o6 g5.size _ 1 1 [⟨v.1, da, dn, dc, sy⟩] rfl oL5 (by unfold maxLen; omega) (by omega) ?_; intro A7 c7 w7 h7)
        have g7 : Grew wc w7 := h7.grew g5 fun ad e => (Own.blk_lt o6 ad e).1
        refine OnlyN.normal (hK _ _ (hsm.out _ g7) ?_)
        have o7 := h7.oe
        clear hK K h7 o6 oL5
        have sZ := (hZ.grew g7).re (by decide)
        intro K hK
        go_wp2_with (at_builtin; refine wpList_appE rfl _ _ 26 55 infoFi rfl Tryz.underlying26 rfl wc.heap.size A7 (p + 1) c7 (ms.take p ++ [⟨v.1, da, dn, dc, sy⟩]) rfl o7 g7.size Z (n - p) z (ms.drop p) rfl sZ (by unfold maxLen; omega) (by omega) ?_; intro A8 c8 w8 h8)
        have g8 : Grew wc w8 := h8.grew g7 fun ad e => (Own.blk_lt o7 ad e).1
        refine OnlyN.normal (hK _ _ (hsm.out _ g8) ?_)
        have o8 := h8.oe
        clear hK K h8 o7 sZ
        rw [show p + 1 + (n - p) = n + 1 by omega, List.append_assoc, List.singleton_append] at o8
        have hb8 := hRz.hd.grew g8
        have b8 := hb8.cell 0
        have f8 := hb8.frozen 0
        have hdn := Lib.hid ((hRz.done g8 (base := wc.heap.size) (Nat.le_refl _) o8 (V2 := V1.take p ++ v :: V1.drop p) (by rw [List.length_append, List.length_append, List.length_cons, List.length_cons, List.length_take, List.length_take, List.length_drop, List.length_drop, hml]) (list_ins hml (fun i m v h1 h2 => (hRz.el i m v h1 h2).grew g8) p (hEz.grew g8)) (fun m hm ad e => .inl (by
          rcases List.mem_append.1 hm with hm | hm
          · exact hRz.rd m (List.mem_of_mem_take hm) ad e
          · rcases List.mem_cons.1 hm with rfl | hm
            · exact hmR1 ad e
            · exact hRz.rd m (List.mem_of_mem_drop hm) ad e))).from gtc)
        clear o8 hb8 hcs hsm hZ hRz hbXz htk hEz
        rw [show p + 1 + (n - p) = n + 1 by omega]
        go_wp2_with fail
        refine OnlyN.normal ?_
        go_wp2
        go_end0
        exact ⟨by simp, RC.trans hs1.out hs2.out hct.out hkt.out hdn.out⟩

end Go.Proofs.YtepncgeaehjhiaaGreat
