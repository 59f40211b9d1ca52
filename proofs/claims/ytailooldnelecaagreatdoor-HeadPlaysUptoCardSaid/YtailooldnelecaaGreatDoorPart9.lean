/-
  Several texts in one:
  Blocks that stay as they are, told from what is known of them. Conditions: none; no program in sight.
  Labels compared. Conditions: none.
  A scope with several labels: what holds at each jump, and a measure that each pass from a label lowers. Conditions: none; no program in sight.
-/
import Derived.Test.YtailooldnelecaaGreatDoorPart8
import Derived.Test.YtailooldnelecaaGreatDoorPart4
import Derived.Test.YtailooldnelecaaGreatDoorShelf
import Derived.Test.YtailooldnelecaaGreatDoorPart1

namespace Go.Proofs.YtailooldnelecaaGreatDoor

theorem sameIn_one {k : Nat} {W w : World} {t : TypeId} {cs : Array Value} (h1 : Blk W k t cs) (h2 : Blk w k t cs) : SameIn [k] W w := fun i hi => by
  simp only [List.mem_cons, List.not_mem_nil, or_false] at hi
  subst hi
  exact Eq.trans h2 (Eq.symm h1)
theorem cellsIn_one {k : Nat} {W : World} {t : TypeId} {cs : Array Value} (h : Blk W k t cs) : CellsIn [k] W := fun i hi => by
  simp only [List.mem_cons, List.not_mem_nil, or_false] at hi
  subst hi
  exact ⟨_, _, _, h⟩
/-- a number shifted to its place -/
theorem shl_fits {v a b : Nat} (hv : v < 2 ^ (64 - a - b)) (hab : a + b ≤ 63) : IntKind.u64.wrap ((v : Int) * 2 ^ b) = ((v * 2 ^ b : Nat) : Int) := by
  have h3 : v * 2 ^ b < 2 ^ (64 - a - b) * 2 ^ b := Nat.mul_lt_mul_of_pos_right hv (Nat.two_pow_pos _)
  rw [← Nat.pow_add] at h3
  have h4 : 2 ^ (64 - a - b + b) ≤ 2 ^ 64 := Nat.pow_le_pow_right (by omega) (by omega)
  rw [IntKind.wrap_u64, ← show ((v * 2 ^ b : Nat) : Int) = (v : Int) * 2 ^ b by simp]
  omega
theorem Chg.at3 {S : Nat → Prop} {w w1 : World} {h : Nat} (hc : Chg S w w1) (hh : w.heap.size ≤ h) (a b c : Value) : Chg S w (((w1.setCell ⟨h, 0, none⟩ a).setCell ⟨h, 1, none⟩ b).setCell ⟨h, 2, none⟩ c) :=
  Chg.setCell (Chg.setCell (Chg.setCell hc (p := ⟨h, 0, none⟩) (.inl hh) _) (p := ⟨h, 1, none⟩) (.inl hh) _) (p := ⟨h, 2, none⟩) (.inl hh) _
theorem cellsIn_cell {W : World} {ad : Addr} {u : Value} (h : W.cell? ad = some u) : CellsIn [ad.block] W := fun i hi => by
  simp only [List.mem_cons, List.not_mem_nil, or_false] at hi
  subst hi
  unfold World.cell? at h
  split at h
  · exact ⟨_, _, _, by assumption⟩
  · cases h
theorem sameIn_chg {S : Nat → Prop} {W w : World} {k : Nat} (hc : Chg S W w) (hk : k < W.heap.size) (hn : ¬ S k) : SameIn [k] W w := fun i hi => by
  simp only [List.mem_cons, List.not_mem_nil, or_false] at hi
  subst hi
  exact hc.block i hk hn
theorem cellsIn_two {j k : Nat} {W : World} {t t' : TypeId} {cs cs' : Array Value} (h : Blk W j t cs) (h' : Blk W k t' cs') : CellsIn [j, k] W := fun i hi => by
  simp only [List.mem_cons, List.not_mem_nil, or_false] at hi
  rcases hi with rfl | rfl
  · exact ⟨_, _, _, h⟩
  · exact ⟨_, _, _, h'⟩
theorem sameIn_two {S : Nat → Prop} {W w : World} {j k : Nat} (hc : Chg S W w) (hj : j < W.heap.size) (hk : k < W.heap.size) (hn : ¬ S j) (hn' : ¬ S k) : SameIn [j, k] W w := fun i hi => by
  simp only [List.mem_cons, List.not_mem_nil, or_false] at hi
  rcases hi with rfl | rfl
  · exact hc.block _ hj hn
  · exact hc.block _ hk hn'
theorem Chg.one (w : World) (b i : Nat) (u : Value) : Chg (fun x => x = b) w (w.setCell ⟨b, i, none⟩ u) := (Chg.refl (fun x => x = b) w).setCell (p := ⟨b, i, none⟩) (.inr rfl) u
end Go.Proofs.YtailooldnelecaaGreatDoor

namespace Go.Proofs.YtailooldnelecaaGreatDoor
open Go.RowKit

theorem cmpB_eq (a b : ByteArray) : Lib.compareBytes a.data.toList b.data.toList = cmpB a b := by
  unfold cmpB
  generalize a.data.toList = x
  generalize b.data.toList = y
  induction x generalizing y with
  | nil => cases y <;> simp [Lib.compareBytes]
  | cons p x ih =>
    cases y with
    | nil => simp [Lib.compareBytes]
    | cons q y =>
      rw [Lib.compareBytes, ih]
      by_cases h : p = q
      · subst h
        simp
      · by_cases h2 : p < q
        · simp [List.cons_lt_cons_iff, h2]
        · have h3 : q < p := by
            rcases UInt8.lt_or_lt_of_ne h with h3 | h3
            · exact absurd h3 h2
            · exact h3
          simp [List.cons_lt_cons_iff, h, h2, h3]
theorem compare_any (a b : ByteArray) (w : World) : Calls Tryz.prog 65 #[.string a, .string b] w fun e w' => e = .returned (.int .i64 (cmpB a b)) ∧ w = w' :=
  (Tryz.strings_Compare a b w).mono fun _ _ ⟨h1, h2⟩ => ⟨by rw [h1, cmpB_eq], h2.symm⟩

set_option maxHeartbeats 1000000 in
theorem or_two (x y : Int) (g : Nat) (w : World) (h0 : w.cell? ⟨g, 0, none⟩ = some (.int .i64 x)) (h1 : w.cell? ⟨g, 1, none⟩ = some (.int .i64 y)) :
    Calls Tryz.prog 64 #[.slice (some ⟨g, 0, none⟩) 2 2] w fun e w' => e = .returned (.int .i64 (if x ≠ 0 then x else y)) ∧ w = w' := by
  by_cases hx : x = 0
  · subst hx
    rw [if_neg (by simp)]
    by_cases hy : y = 0
    · subst hy
      go_enter Tryz.func64, Tryz.ntmps64
      go_wp2
      refine wp_loop_rounds 3 ?_
      rw [rounds_succ]
      go_wp2
      rw [rounds_succ]
      go_wp2
      rw [rounds_succ]
      go_wp2
      go_ret
      exact ⟨by simp, rfl⟩
    · have e1 : (y != 0) = true := by simpa using hy
      go_enter Tryz.func64, Tryz.ntmps64
      go_wp2
      refine wp_loop_rounds 3 ?_
      rw [rounds_succ]
      go_wp2
      rw [rounds_succ]
      go_wp2
      go_ret
      exact ⟨by simp, rfl⟩
  · rw [if_pos hx]
    have e1 : (x != 0) = true := by simpa using hx
    go_enter Tryz.func64, Tryz.ntmps64
    go_wp2
    refine wp_loop_rounds 3 ?_
    rw [rounds_succ]
    go_wp2
    go_ret
    exact ⟨by simp, rfl⟩

theorem two_blk (w : World) (c1 c2 : Array Value) (t1 t2 : TypeId) : ∃ W, W = (w.alloc (.cells c1 t1)).alloc (.cells c2 t2) ∧ Grew w W ∧ Blk W w.heap.size t1 c1 ∧ Blk W (w.heap.size + 1) t2 c2 ∧ W.heap.size = w.heap.size + 2 := by
  have h1 := Blk.new w t1 c1
  have h2 := Blk.new (w.alloc (.cells c1 t1)) t2 c2
  have e1 : (w.alloc (.cells c1 t1)).heap.size = w.heap.size + 1 := by simp
  rw [e1] at h2
  exact ⟨_, rfl, ((Chg.refl _ w).alloc _).alloc _, h1.alloc _, h2, by simp⟩
def lbV (x : Lab) : Value := .agg #[.string x.1, .string x.2]
set_option maxRecDepth 100000 in
set_option maxHeartbeats 400000 in
theorem cmpOne_any (x y : Lab) (w : World) : Calls Tryz.prog 63 #[lbV x, lbV y] w fun e w' => e = .returned (.int .i64 (cmpLb x y)) ∧ Grew w w' := by
  obtain ⟨x1, x2⟩ := x
  obtain ⟨y1, y2⟩ := y
  unfold lbV cmpLb cmp2
  simp only
  have hC := fun a b w => compare_any a b w
  generalize hc1 : cmpB x1 y1 = c1 at *
  generalize hc2 : cmpB x2 y2 = c2 at *
  have hA := hC x1 y1
  have hB := hC x2 y2
  rw [hc1] at hA
  rw [hc2] at hB
  have hO := fun g w h0 h1 => or_two c1 c2 g w h0 h1
  generalize (if c1 ≠ 0 then c1 else c2) = z at *
  clear hC hc1 hc2
  obtain ⟨W, hW, hgW, b1, b2, hzW⟩ := two_blk w #[.string x1, .string x2] #[.string y1, .string y2] 72 72
  have p0 : W.cell? ⟨w.heap.size, 0, none⟩ = some (.string x1) := b1.cell 0
  have p1 : W.cell? ⟨w.heap.size, 1, none⟩ = some (.string x2) := b1.cell 1
  have q0 : W.cell? ⟨w.heap.size + 1, 0, none⟩ = some (.string y1) := b2.cell 0
  have q1 : W.cell? ⟨w.heap.size + 1, 1, none⟩ = some (.string y2) := b2.cell 1
  go_enter Tryz.func63, Tryz.ntmps63
  go_wp2_with fail
  rw [← hW]
  clear hW
  refine wp_region_textS [(9, 2), (3, 1)] [w.heap.size, w.heap.size + 1] (by kernel_rfl) (by kernel_rfl) (cellsIn_two b1 b2) ?_
  simp only [wpU, tagOf, chk, List.nil_append, List.cons_append]
  intro K hK
  go_wp2_with fail
  refine OnlyN.normal (hK _ _ (fun _ => ⟨_, _, _, rfl, rfl, by simp⟩) ?_)
  clear hK K
  intro K hK
  go_wp2_with fail
  refine OnlyN.normal (hK _ _ (fun _ => ⟨_, _, _, rfl, rfl, by simp⟩) ?_)
  clear hK K
  intro K hK
  go_wp2_with fail
  refine (hA _).mono ?_
  rintro e w1 ⟨rfl, rfl⟩
  go_wp2_with fail
  refine OnlyN.normal (hK _ _ (sameIn_two (S := fun _ => False) (Chg.refl _ W).drew b1.lt b2.lt (fun e => e) fun e => e) ?_)
  clear hK K
  intro K hK
  go_wp2_with fail
  refine OnlyN.normal (hK _ _ (fun _ => ⟨_, _, _, rfl, rfl, by simp⟩) ?_)
  clear hK K
  intro K hK
  go_wp2_with fail
  refine OnlyN.normal (hK _ _ (fun _ => ⟨_, _, _, rfl, rfl, by simp⟩) ?_)
  clear hK K
  intro K hK
  go_wp2_with fail
  refine (hB _).mono ?_
  rintro e w1 ⟨rfl, rfl⟩
  go_wp2_with fail
  refine OnlyN.normal (hK _ _ (sameIn_two (S := fun _ => False) (Chg.refl _ W).drew b1.lt b2.lt (fun e => e) fun e => e) ?_)
  clear hK K hA hB
  intro K hK
  go_wp2_with fail
  refine OnlyN.normal (hK _ _ (sameIn_two (S := fun _ => False) ((Chg.refl _ W).alloc _).drew b1.lt b2.lt (fun e => e) fun e => e) ?_)
  clear hK K
  intro K hK
  go_wp2_with fail
  refine (hO (w.heap.size + 2) _ (by rw [← hzW]; simp) (by rw [← hzW]; simp)).mono ?_
  rintro e w1 ⟨rfl, rfl⟩
  go_wp2_with fail
  refine OnlyN.normal (hK _ _ (sameIn_two (S := fun _ => False) ((Chg.refl _ W).alloc _).drew b1.lt b2.lt (fun e => e) fun e => e) ?_)
  clear hK K
  go_wp2_with fail
  refine OnlyN.normal ?_
  go_wp2
  go_ret
  exact ⟨by simp, hgW.trans (((Chg.refl _ W).alloc _).drew)⟩

set_option maxRecDepth 100000 in
set_option maxHeartbeats 400000 in
theorem compareFunc_any (A B : Option Addr) (n c m d : Nat) (la lb : List Lab) (w : World) (ha : RE elLb w A n la) (hb : RE elLb w B m lb) (hn : n ≤ 9223372036854775807) (hm : m ≤ 9223372036854775807) :
    Calls Tryz.prog 62 #[.slice A n c, .slice B m d, .func (.func 63) #[] #[]] w fun e w' => e = .returned (.int .i64 (cmpLs la lb)) ∧ Grew w w' := by
  have hal := ha.1
  have hbl := hb.1
  go_enter Tryz.func62, Tryz.ntmps62
  go_wp2
  go_loopw [13] (fun i wr => ∃ k : Nat, k ≤ n ∧ k ≤ m ∧ i = .int .i64 (k : Int) ∧ Hid (cmpLs la lb = cmpLs (la.drop k) (lb.drop k)) ∧ Grew w wr) (fun i _ => n - (intOf i).toNat)
  case atStart => exact ⟨0, by omega, by omega, rfl, rfl, Chg.refl _ _⟩
  case round =>
    obtain ⟨k, hk, hkm, rfl, hc, hg⟩ := hrel
    by_cases hlt : k < n
    · obtain ⟨ad, x, rfl, hx, x0, x1⟩ := (ha.grew hg).lb hlt
      have hxd : la.drop k = x :: la.drop (k + 1) := by
        obtain ⟨h1, h2⟩ := List.getElem?_eq_some_iff.1 hx
        rw [List.drop_eq_getElem_cons h1, h2]
      by_cases hltm : k < m
      · obtain ⟨bd, y, rfl, hy, y0, y1⟩ := ((hb.grew hg).grew ((Chg.refl _ wr).alloc (.cells #[.string x.1, .string x.2] 72))).lb hltm
        have hyd : lb.drop k = y :: lb.drop (k + 1) := by
          obtain ⟨h1, h2⟩ := List.getElem?_eq_some_iff.1 hy
          rw [List.drop_eq_getElem_cons h1, h2]
        have hc' : Hid (cmpLs la lb = if cmpLb x y ≠ 0 then cmpLb x y else cmpLs (la.drop (k + 1)) (lb.drop (k + 1))) := by
          have := hc.out
          rw [hxd, hyd] at this
          rw [this]
          rfl
        have hO := fun w => cmpOne_any x y w
        unfold lbV at hO
        obtain ⟨z, hz⟩ : ∃ z, cmpLb x y = z := ⟨_, rfl⟩
        rw [hz] at hc' hO
        clear hxd hyd hc hz
        go_wp2_with fail
        refine (hO _).mono ?_
        rintro e w1 ⟨rfl, hg1⟩
        have hgg := hg.trans ((((Chg.refl (fun _ => False) wr).alloc (.cells #[.string x.1, .string x.2] 72)).alloc (.cells #[.string y.1, .string y.2] 72)).trans hg1)
        clear x0 x1 y0 y1 hx hy hO
        by_cases hz0 : z = 0
        · subst hz0
          rw [if_neg (by simp)] at hc'
          go_wp2
          go_roundw
          case rel => exact ⟨k + 1, by omega, by omega, by go_num, hc', hgg⟩
          case measure => simp [intOf]; omega
        · have e1 : (z != 0) = true := by simpa using hz0
          rw [if_pos hz0] at hc'
          go_wp2
          go_ret
          exact ⟨by rw [hc'.out]; simp, hgg⟩
      · have hyd : lb.drop k = [] := List.drop_of_length_le (by omega)
        have hc' : Hid (cmpLs la lb = 1) := by
          have := hc.out
          rw [hxd, hyd] at this
          exact this
        clear hxd hyd hc hx
        go_wp2
        go_ret
        exact ⟨by rw [hc'.out]; simp, hg.alloc _⟩
    · obtain rfl : k = n := by omega
      have hxd : la.drop k = [] := List.drop_of_length_le (by omega)
      by_cases hltm : k < m
      · have hc' : Hid (cmpLs la lb = -1) := by
          have := hc.out
          rw [hxd] at this
          cases hyd : lb.drop k with
          | nil =>
            have := congrArg List.length hyd
            rw [List.length_drop] at this
            simp at this
            omega
          | cons y r => rw [hyd] at this; exact this
        clear hxd hc
        go_wp2
        go_ret
        exact ⟨by rw [hc'.out]; simp, hg⟩
      · obtain rfl : k = m := by omega
        have hc' : Hid (cmpLs la lb = 0) := by
          have := hc.out
          rw [hxd, List.drop_of_length_le (by omega)] at this
          exact this
        clear hxd hc
        go_wp2
        go_ret
        exact ⟨by rw [hc'.out]; simp, hg⟩
theorem compare_labels (A B : Option Addr) (n c m d : Nat) (la lb : List Lab) (w : World) (ha : RE elLb w A n la) (hb : RE elLb w B m lb) (hn : n ≤ 9223372036854775807) (hm : m ≤ 9223372036854775807) :
    Calls Tryz.prog 47 #[.slice A n c, .slice B m d] w fun e w' => e = .returned (.int .i64 (cmpLs la lb)) ∧ Grew w w' := by
  have hC := compareFunc_any A B n c m d la lb w ha hb hn hm
  generalize cmpLs la lb = z at *
  go_enter Tryz.func47, Tryz.ntmps47
  go_wp2_with fail
  refine hC.mono ?_
  rintro e w1 ⟨rfl, hg⟩
  go_wp2
  go_ret
  exact ⟨by simp, hg⟩
end Go.Proofs.YtailooldnelecaaGreatDoor

namespace Go.Proofs.YtailooldnelecaaGreatDoor

theorem list_lit {α : Type} (d : α) : ∀ (n : Nat) (l : List α), l.length = n → l = (List.range n).map fun i => l.getD i d
  | n, l, h => by
    refine List.ext_getElem? fun i => ?_
    rw [List.getElem?_map]
    by_cases hi : i < n
    · rw [List.getElem?_range hi, List.getElem?_eq_getElem (show i < l.length by omega)]
      simp [List.getD_eq_getElem?_getD, List.getElem?_eq_getElem (show i < l.length by omega)]
    · rw [List.getElem?_eq_none (by omega), List.getElem?_eq_none (by simpa using hi)]
      rfl
/-- a frame by its slots -/
theorem frame_lit (a : Act) (n : Nat) (hs : a.tmps.size = n) (hd : a.defers = []) : a = { tmps := ((List.range n).map fun i => a.tmps.getD i undef).toArray, defers := [] } := by
  obtain ⟨tm, df⟩ := a
  subst hd
  have h1 : tm.toList = (List.range n).map fun i => tm.toList.getD i undef := list_lit undef n tm.toList (by simpa using hs)
  have h2 : (fun i => tm.toList.getD i undef) = fun i => tm.getD i undef := by
    funext i
    simp [List.getD_eq_getElem?_getD]
  rw [h2] at h1
  have h3 : tm = ((List.range n).map fun i => tm.getD i undef).toArray := by
    rw [← h1]
  exact congrArg (fun t => ({ tmps := t, defers := [] } : Act)) h3

/-- As Q; by a goto to label l: J l. -/
def ExJ (J : Nat → Act → World → Prop) (Q : Exit → Act → World → Prop) : Exit → Act → World → Prop
  | .goto l, a, w => J l a w
  | e, a, w => Q e a w

section
variable {P : Program} {a : Act} {w : World} {Q : Exit → Act → World → Prop}
theorem ExJ.ret {J : Nat → Act → World → Prop} : ExJ J Q .ret a w = Q .ret a w := rfl
theorem ExJ.goto {J : Nat → Act → World → Prop} {l : Nat} : ExJ J Q (.goto l) a w = J l a w := rfl
theorem ExJ.weak {J J' : Nat → Act → World → Prop} (h : ∀ l a w, J l a w → J' l a w) : ∀ e a w, ExJ J Q e a w → ExJ J' Q e a w := fun e a w hq => by
  cases e <;> first | exact hq | exact h _ _ _ hq

theorem wp_scope_many {c : Code} (J : Nat → Act → World → Prop) (μ : Nat → Act → World → Nat)
    (pass : ∀ l a w, J l a w → ∃ rest, findLabel c l = some rest ∧ rest.wp P (ExJ (fun l' a' w' => J l' a' w' ∧ μ l' a' w' < μ l a w) Q) a w)
    (first : c.wp P (ExJ J Q) a w) : (Code.scope c).wp P Q a w := by
  intro b k cs
  have key : ∀ n l a w rest, μ l a w = n → J l a w → findLabel c l = some rest → ∃ e a' w', Q e a' w' ∧ Arrives P (lone (b.at a (.code rest :: .inScope c :: k)) cs w) b k cs e a' w' := by
    intro n
    induction n using Nat.strongRecOn with
    | _ n ih =>
      intro l a w rest hn hJ hf
      obtain ⟨rest', hf', hwp⟩ := pass l a w hJ
      obtain rfl : rest' = rest := Option.some.inj (hf'.symm.trans hf)
      obtain ⟨e, a₁, w₁, hq, harr⟩ := hwp b (.inScope c :: k) cs
      cases e with
      | normal => exact ⟨.normal, a₁, w₁, hq, Steps.trans harr (.one step_inScope)⟩
      | exit id => exact ⟨.exit id, a₁, w₁, hq, fun k' hk => harr k' (by simp [exitTo, hk])⟩
      | goto l' =>
        obtain ⟨hJ', hlt⟩ := hq
        obtain ⟨rest2, hf2, _⟩ := pass l' a₁ w₁ hJ'
        obtain ⟨e₂, a₂, w₂, hq₂, harr₂⟩ := ih _ (by omega) l' a₁ w₁ rest2 rfl hJ' hf2
        exact ⟨e₂, a₂, w₂, hq₂, .of_steps (harr _ (by simp [gotoIn, hf2])) harr₂⟩
      | ret => exact ⟨_, a₁, w₁, hq, harr⟩
      | panic ch => exact ⟨_, a₁, w₁, hq, harr⟩
      | outgrown => exact ⟨_, a₁, w₁, hq, harr⟩
  obtain ⟨e, a₁, w₁, hq, harr⟩ := first b (.inScope c :: k) cs
  cases e with
  | normal => exact ⟨.normal, a₁, w₁, hq, .head step_scope (Steps.trans harr (.one step_inScope))⟩
  | exit id => exact ⟨.exit id, a₁, w₁, hq, fun k' hk => .head step_scope (harr k' (by simp [exitTo, hk]))⟩
  | goto l' =>
    obtain ⟨rest2, hf2, _⟩ := pass l' a₁ w₁ hq
    obtain ⟨e₂, a₂, w₂, hq₂, harr₂⟩ := key _ l' a₁ w₁ rest2 rfl hq hf2
    exact ⟨e₂, a₂, w₂, hq₂, .of_steps (.head step_scope (harr _ (by simp [gotoIn, hf2]))) harr₂⟩
  | ret => exact ⟨_, a₁, w₁, hq, .of_steps (.one step_scope) harr⟩
  | panic ch => exact ⟨_, a₁, w₁, hq, .of_steps (.one step_scope) harr⟩
  | outgrown => exact ⟨_, a₁, w₁, hq, .of_steps (.one step_scope) harr⟩

/-- The same, where the run falls into label l from ahead: there, too, J holds and no more need be walked. -/
theorem wp_scope_fall {c : Code} (J : Nat → Act → World → Prop) (μ : Nat → Act → World → Nat) (l0 : Nat) (body : Code) (hb : findLabel c l0 = some (.seq .skip body))
    (pass0 : ∀ a w, J l0 a w → body.wp P (ExJ (fun l' a' w' => J l' a' w' ∧ μ l' a' w' < μ l0 a w) Q) a w)
    (pass : ∀ l a w, l ≠ l0 → J l a w → ∃ rest, findLabel c l = some rest ∧ rest.wp P (ExJ (fun l' a' w' => J l' a' w' ∧ μ l' a' w' < μ l a w) Q) a w)
    (first : (∀ a w, J l0 a w → body.wp P (ExJ J Q) a w) → c.wp P (ExJ J Q) a w) : (Code.scope c).wp P Q a w := by
  refine wp_scope_many J μ (fun l a w h => ?_) (first fun a w h => Code.wp_mono (ExJ.weak fun _ _ _ h => h.1) (pass0 a w h))
  by_cases hl : l = l0
  · subst hl
    refine ⟨_, hb, ?_⟩
    apply wp_seq_k
    intro K hK
    apply wp_skip
    exact hK _ _ (pass0 a w h)
  · exact pass l a w hl h

/-- Two labels: to l0 the run jumps back (and falls in from ahead), to l1 it jumps at last. -/
theorem wp_scope_two {c : Code} (l0 l1 : Nat) (J0 J1 : Act → World → Prop) (μ : Act → World → Nat) (b0 b1 : Code) (h0 : findLabel c l0 = some (.seq .skip b0)) (h1 : findLabel c l1 = some (.seq .skip b1)) (hne : l0 ≠ l1)
    (pass0 : ∀ a w, J0 a w → b0.wp P (ExJ (fun l a' w' => (l = l0 ∧ J0 a' w' ∧ μ a' w' < μ a w) ∨ (l = l1 ∧ J1 a' w')) Q) a w)
    (pass1 : ∀ a w, J1 a w → b1.wp P (ExJ (fun _ _ _ => False) Q) a w)
    (first : (∀ a w, J0 a w → b0.wp P (ExJ (fun l a' w' => (l = l0 ∧ J0 a' w') ∨ (l = l1 ∧ J1 a' w')) Q) a w) → c.wp P (ExJ (fun l a' w' => (l = l0 ∧ J0 a' w') ∨ (l = l1 ∧ J1 a' w')) Q) a w) : (Code.scope c).wp P Q a w := by
  refine wp_scope_fall (fun l a' w' => (l = l0 ∧ J0 a' w') ∨ (l = l1 ∧ J1 a' w')) (fun l a' w' => if l = l0 then μ a' w' + 1 else 0) l0 b0 h0 ?_ ?_ (fun hb => first fun a w h => hb a w (.inl ⟨rfl, h⟩))
  · rintro a' w' (⟨_, h⟩ | ⟨e, _⟩)
    · refine Code.wp_mono (ExJ.weak ?_) (pass0 a' w' h)
      rintro l a2 w2 (⟨rfl, hJ, hm⟩ | ⟨rfl, hJ⟩)
      · exact ⟨.inl ⟨rfl, hJ⟩, by simp only [if_true]; omega⟩
      · exact ⟨.inr ⟨rfl, hJ⟩, by simp only [if_true]; rw [if_neg (Ne.symm hne)]; omega⟩
    · exact (hne e).elim
  · rintro l a' w' hl (⟨e, _⟩ | ⟨rfl, h⟩)
    · exact (hl e).elim
    · refine ⟨_, h1, ?_⟩
      apply wp_seq_k
      intro K hK
      apply wp_skip
      exact hK _ _ (Code.wp_mono (ExJ.weak fun _ _ _ h => h.elim) (pass1 a' w' h))
end
end Go.Proofs.YtailooldnelecaaGreatDoor
