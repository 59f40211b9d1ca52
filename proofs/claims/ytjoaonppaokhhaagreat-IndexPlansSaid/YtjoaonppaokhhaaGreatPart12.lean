/-
  Several texts in one:
  (slices.Contains), (index.Covered), (index.live) walked. Conditions: lengths that a slice has.
  (index.Copy) walked. Conditions: lengths that memory bears.
-/
import Derived.Test.YtjoaonppaokhhaaGreatPart11

namespace Go.Proofs.YtjoaonppaokhhaaGreat
open Go.RowKit

theorem drop_at {α : Type} {l : List α} {k : Nat} {x : α} (hx : l[k]? = some x) : l.drop k = x :: l.drop (k + 1) := by
  obtain ⟨h1, h2⟩ := List.getElem?_eq_some_iff.1 hx
  rw [List.drop_eq_getElem_cons h1, h2]

theorem infoI : (Tryz.prog.info? 3).map (fun i => (i.zero, i.size, i.bytes)) = some (some (.int .i64 0), 1, 8) := by kernel_rfl
theorem List.append_cons_assoc' {α : Type} {a : List α} {x : α} {b : List α} : (a ++ [x]) ++ b = a ++ x :: b := by simp

set_option maxRecDepth 100000 in
set_option maxHeartbeats 4000000 in
theorem uindex_any (A : Option Addr) (n c : Nat) (l : List Nat) (x : Nat) (w : World) (h : RE elU w A n l) (hn : n ≤ 9223372036854775807) :
    Calls Tryz.prog 86 #[.slice A n c, .int .u64 (x : Int)] w fun e w' => ∃ i : Int, e = .returned (.int .i64 i) ∧ decide (0 ≤ i) = l.contains x ∧ w' = w := by
  have hln : l.length = n := h.1
  obtain ⟨b, hb⟩ : ∃ b, l.contains x = b := ⟨_, rfl⟩
  rw [hb]
  have hb0 : Hid (b = (l.drop 0).contains x) := hb.symm
  replace hln := Lib.hid hln
  clear hb
  go_enter Tryz.func86, Tryz.ntmps86
  go_wp2
  go_loopw [8] (fun i wr => ∃ k : Nat, k ≤ n ∧ i = .int .i64 (k : Int) ∧ Hid (b = (l.drop k).contains x) ∧ wr = w) (fun i _ => n - (intOf i).toNat)
  case atStart => exact ⟨0, by omega, rfl, hb0, rfl⟩
  case round =>
    obtain ⟨k, hk, rfl, hc, rfl⟩ := hrel
    by_cases hlt : k < n
    · obtain ⟨ad, y, rfl, hy, y0⟩ := h.uat hlt
      have hv := hc.out
      rw [drop_at hy, List.contains_cons] at hv
      clear hc hy
      by_cases hxy : x = y
      · subst hxy
        simp only [BEq.rfl, Bool.true_or] at hv
        replace hv := Lib.hid hv
        go_wp2
        go_ret
        exact ⟨k, rfl, by rw [hv.out]; simp, rfl⟩
      · rw [show (x == y) = false from by simpa using hxy, Bool.false_or] at hv
        replace hv := Lib.hid hv
        go_wp2
        go_roundw
        case rel => exact ⟨k + 1, by omega, by go_num, hv, by trivial⟩
        case measure => simp [intOf]; omega
    · obtain rfl : k = n := by omega
      have hv := hc.out
      rw [List.drop_of_length_le (by have := hln.out; omega)] at hv
      replace hv := Lib.hid hv
      clear hc
      go_wp2
      go_ret
      exact ⟨-1, rfl, by rw [hv.out]; simp, rfl⟩

set_option maxRecDepth 100000 in
set_option maxHeartbeats 4000000 in
theorem contains_any (A : Option Addr) (n c : Nat) (l : List Nat) (x : Nat) (w : World) (h : RE elU w A n l) (hn : n ≤ 9223372036854775807) :
    Calls Tryz.prog 45 #[.slice A n c, .int .u64 (x : Int)] w fun e w' => e = .returned (.bool (l.contains x)) ∧ w' = w := by
  have hI := uindex_any A n c l x w h hn
  obtain ⟨b, hb⟩ : ∃ b, l.contains x = b := ⟨_, rfl⟩
  rw [hb] at hI ⊢
  clear hb h
  go_enter Tryz.func45, Tryz.ntmps45
  go_wp2_with fail
  refine hI.mono ?_
  rintro e w1 ⟨i, rfl, hi, rfl⟩
  replace hi := Lib.hid hi
  clear hI
  go_wp2
  go_ret
  exact ⟨by rw [← hi.out]; simp, rfl⟩

set_option maxRecDepth 100000 in
set_option maxHeartbeats 4000000 in
theorem covered_any (v : Nat) (fl : Int) (A : Option Addr) (n c : Nat) (es : List Ent) (id : Nat) (most : Int) (w : World) (h : RX w A n es) (hn : n ≤ 9223372036854775807) :
    Calls Tryz.prog 31 #[.agg #[.int .u64 (v : Int), .int .i64 fl, .slice A n c], .int .u64 (id : Int), .int .i64 most] w fun e w' => e = .returned (.bool (covI fl es id most)) ∧ Grew w w' := by
  obtain ⟨z, hz⟩ : ∃ z, covI fl es id most = z := ⟨_, rfl⟩
  rw [hz]
  unfold covI at hz
  have hln : es.length = n := h.len
  replace hln := Lib.hid hln
  have hgb : Grew w (w.alloc (.cells #[.int .u64 (v : Int), .int .i64 fl, .slice A n c] 25)) := (Chg.refl _ w).alloc _
  have hC := check_any v fl A n c es _ (h.grew hgb) hn
  cases hck : chkI fl es
  · rw [hck, Bool.false_and] at hz
    rw [hck] at hC
    replace hz := Lib.hid hz
    clear hck
    go_enter Tryz.func31, Tryz.ntmps31
    go_wp2_with fail
    refine hC.mono ?_
    rintro e w1 ⟨rfl, hg1⟩
    unfold errI
    go_wp2
    go_ret
    exact ⟨by rw [hz.out]; rfl, hgb.trans hg1⟩
  rw [hck, Bool.true_and] at hz
  rw [hck] at hC
  have hz0 : Hid (z = ((es.drop 0).any (covE id) || decide (most < fl))) := hz.symm
  clear hck hz
  go_enter Tryz.func31, Tryz.ntmps31
  go_wp2_with fail
  refine hC.mono ?_
  rintro e w1 ⟨rfl, hg1⟩
  unfold errI
  have hg0 := hgb.trans hg1
  have hb1 := (Blk.new w 25 #[.int .u64 (v : Int), .int .i64 fl, .slice A n c]).grew hg1
  have b2 := hb1.cell 2
  clear hC
  go_wp2
  go_loopw [15] (fun i wr => ∃ k : Nat, k ≤ n ∧ i = .int .i64 (k : Int) ∧ Hid (z = ((es.drop k).any (covE id) || decide (most < fl))) ∧ Blk wr w.heap.size 25 #[.int .u64 (v : Int), .int .i64 fl, .slice A n c] ∧ Grew w wr) (fun i _ => n - (intOf i).toNat)
  case atStart => exact ⟨0, by omega, rfl, hz0, hb1, hg0⟩
  case round =>
    clear b2
    obtain ⟨k, hk, rfl, hc, hb, hg⟩ := hrel
    by_cases hlt : k < n
    · obtain ⟨ad, m, rfl, hx, hm, x0, x1, x2, x3, x4, x5, x6, x7, x8⟩ := (h.grew hg).at_ hlt
      have hv := hc.out
      rw [drop_at hx, List.any_cons] at hv
      unfold covE at hv
      obtain ⟨W, hW⟩ : ∃ W, W = wr.alloc (.cells #[.int .u64 (m.e.m.id : Int), .int .i64 m.e.m.lo, .int .i64 m.e.m.hi, .int .i64 m.e.m.lv, .slice m.A m.n m.c, .int .i64 m.e.m.sr, .int .i64 m.e.m.pt, .bool m.e.mkd, .int .i64 m.e.tm] 51) := ⟨_, rfl⟩
      have hgW : Grew wr W := by rw [hW]; exact (Chg.refl _ wr).alloc _
      have hbW : Blk W wr.heap.size 51 #[.int .u64 (m.e.m.id : Int), .int .i64 m.e.m.lo, .int .i64 m.e.m.hi, .int .i64 m.e.m.lv, .slice m.A m.n m.c, .int .i64 m.e.m.sr, .int .i64 m.e.m.pt, .bool m.e.mkd, .int .i64 m.e.tm] := by rw [hW]; exact Blk.new wr _ _
      have hM := contains_any m.A m.n m.c m.e.m.src id W (hm.row.grew hgW) (by have := hm.cap; omega)
      have hgg : Grew w W := hg.trans hgW
      have hbix := hb.grew hgW
      clear hc hx
      by_cases hid : m.e.m.id = id
      · rw [decide_eq_true hid, Bool.true_or, Bool.true_or, Bool.true_or] at hv
        replace hv := Lib.hid hv
        clear hM
        rw [hid] at x0 hW
        go_wp2
        go_ret
        exact ⟨by rw [hv.out]; rfl, by rw [← hW]; exact hgg⟩
      · rw [decide_eq_false hid, Bool.false_or] at hv
        replace hid := Lib.hid hid
        have hni : ¬ (m.e.m.id : Int) = (id : Int) := by have := hid.out; omega
        go_wp2_with fail
        rw [← hW]
        refine hM.mono ?_
        rintro e w2 ⟨rfl, rfl⟩
        clear hM
        cases hco : m.e.m.src.contains id
        · change z = ((m.e.m.src.contains id || _) || _) at hv
          rw [hco, Bool.false_or] at hv
          replace hv := Lib.hid hv
          clear hco
          go_wp2
          go_roundw
          case rel => exact ⟨k + 1, by omega, by go_num, hv, by rw [← hW]; exact hbix, by rw [← hW]; exact hgg⟩
          case measure => simp [intOf]; omega
        · change z = ((m.e.m.src.contains id || _) || _) at hv
          rw [hco, Bool.true_or, Bool.true_or] at hv
          replace hv := Lib.hid hv
          clear hco
          go_wp2
          go_ret
          exact ⟨by rw [hv.out]; rfl, by rw [← hW]; exact hgg⟩
    · obtain rfl : k = n := by omega
      have hv := hc.out
      rw [List.drop_of_length_le (by have := hln.out; omega), List.any_nil, Bool.false_or] at hv
      replace hv := Lib.hid hv
      have b1 := hb.cell 1
      clear hc
      go_wp2
      go_ret
      exact ⟨by rw [hv.out]; rfl, hg⟩

set_option maxRecDepth 100000 in
set_option maxHeartbeats 4000000 in
theorem live_any (v : Nat) (fl : Int) (A : Option Addr) (n c : Nat) (es : List Ent) (w : World) (h : RX w A n es) (hn : n ≤ 256) :
    Calls Tryz.prog 44 #[.agg #[.int .u64 (v : Int), .int .i64 fl, .slice A n c]] w fun e w' => ∃ B m d, e = .returned (.slice B m d) ∧ OE elI w' w.heap.size 3 B m d ((livI es).map fun k : Nat => (k : Int)) ∧ Grew w w' := by
  have hln : es.length = n := h.len
  replace hln := Lib.hid hln
  have hL0 : Hid (livI es = [] ++ livF 0 (es.drop 0)) := Lib.hid rfl
  go_enter Tryz.func44, Tryz.ntmps44
  go_wp2
  go_loopw [3, 9] (fun o i wr => ∃ (k : Nat) (B : Option Addr) (p C : Nat) (L : List Nat), k ≤ n ∧ p ≤ k ∧ i = .int .i64 (k : Int) ∧ o = .slice B p C ∧ Hid (livI es = L ++ livF k (es.drop k)) ∧ OE elI wr w.heap.size 3 B p C (L.map fun j : Nat => (j : Int)) ∧ Grew w wr) (fun o i _ => n - (intOf i).toNat)
  case atStart => exact ⟨0, none, 0, 0, [], by omega, by omega, rfl, rfl, hL0, OE.nil _ _ _, (Chg.refl _ w).alloc _⟩
  case round =>
    obtain ⟨k, B, p, C, L, hk, hpk, rfl, rfl, hc, ho, hg⟩ := hrel
    have hcap := ho.cap
    by_cases hlt : k < n
    · obtain ⟨ad, m, rfl, hx, hm, x0, x1, x2, x3, x4, x5, x6, x7, x8⟩ := (h.grew hg).at_ hlt
      have hv := hc.out
      rw [drop_at hx, livF] at hv
      obtain ⟨W, hW⟩ : ∃ W, W = wr.alloc (.cells #[.int .u64 (m.e.m.id : Int), .int .i64 m.e.m.lo, .int .i64 m.e.m.hi, .int .i64 m.e.m.lv, .slice m.A m.n m.c, .int .i64 m.e.m.sr, .int .i64 m.e.m.pt, .bool m.e.mkd, .int .i64 m.e.tm] 51) := ⟨_, rfl⟩
      have hgW : Grew wr W := by rw [hW]; exact (Chg.refl _ wr).alloc _
      have hoW := ho.grew hgW
      have hgg : Grew w W := hg.trans hgW
      have hsz := hgg.size
      clear hc hx
      cases hmk : m.e.mkd
      · rw [hmk, if_neg (by simp), ← List.append_cons_assoc'] at hv
        replace hv := Lib.hid hv
        rw [hmk] at x7 hW
        clear hmk
        have hsrc : RE elI (W.alloc (.cells #[.int .i64 (k : Int)] 3)) (some ⟨wr.heap.size + 1, 0, none⟩) 1 [(k : Int)] := RE.newAt (by rw [hW]; simp) rfl rfl
        have hoW2 : OE elI (W.alloc (.cells #[.int .i64 (k : Int)] 3)) w.heap.size 3 B p C (L.map fun j : Nat => (j : Int)) := hoW.grew ((Chg.refl _ W).alloc _)
        rw [hW] at hsrc hoW2
        go_wp2_with (at_builtin; go_loud (refine wpList_appE rfl _ _ 65 3 infoI rfl Tryz.underlying65 rfl w.heap.size B p C _ rfl hoW2 (by rw [← hW]; simp; omega) _ 1 1 [(k : Int)] rfl hsrc (by unfold maxLen; omega) (by omega) ?_); intro B2 C2 w5 h5)
        go_roundw
        case rel =>
          refine ⟨k + 1, B2, p + 1, C2, L ++ [k], by omega, by omega, by go_num, rfl, hv, ?_, h5.grew (by rw [← hW]; exact hgg.alloc _) (fun ad e => (Own.blk_lt ho ad e).1)⟩
          have := h5.oe
          rw [List.map_append]
          exact this
        case measure => simp [intOf]; omega
      · rw [hmk, if_pos rfl] at hv
        replace hv := Lib.hid hv
        rw [hmk] at x7 hW
        clear hmk
        go_wp2
        go_roundw
        case rel => exact ⟨k + 1, B, p, C, L, by omega, by omega, by go_num, rfl, hv, by rw [← hW]; exact hoW, by rw [← hW]; exact hgg⟩
        case measure => simp [intOf]; omega
    · obtain rfl : k = n := by omega
      have hv := hc.out
      rw [List.drop_of_length_le (by have := hln.out; omega), livF, List.append_nil] at hv
      replace hv := Lib.hid hv
      clear hc
      go_wp2
      go_ret
      refine ⟨B, p, C, rfl, ?_, hg⟩
      rw [hv.out]
      exact ho
end Go.Proofs.YtjoaonppaokhhaaGreat

namespace Go.Proofs.YtjoaonppaokhhaaGreat
open Go.RowKit

theorem Chg.cell1 (w : World) (g i : Nat) (u : Value) : Chg (fun k => k = g) w (w.setCell ⟨g, i, none⟩ u) := (Chg.refl (fun k => k = g) w).setCell (p := ⟨g, i, none⟩) (.inr rfl) u
theorem OE.farBlk {α : Type} {E : El α} {w : World} {base : Nat} {t t' : TypeId} {A : Option Addr} {n c g : Nat} {l : List α} {cs : Array Value} (h : OE E w base t A n c l) (hb : Blk w g t' cs) (hne : t ≠ t') (i : Nat) (u : Value) : OE E (w.setCell ⟨g, i, none⟩ u) base t A n c l :=
  h.chg (Chg.cell1 w g i u) fun ad e hk => Own.ne_blk h hb hne ad e hk
theorem NXo.farBlk {w : World} {base : Nat} {t' : TypeId} {A : Option Addr} {n c g : Nat} {ms : List EnM} {cs : Array Value} (h : NXo w base A n c ms) (hb : Blk w g t' cs) (h1 : 51 ≠ t') (h2 : 22 ≠ t') (i : Nat) (u : Value) : NXo (w.setCell ⟨g, i, none⟩ u) base A n c ms :=
  ⟨h.row.farBlk hb h1 i u, fun m hm => OE.farBlk (h.el m hm) hb h2 i u⟩
theorem NX.farBlk {w : World} {base : Nat} {t' : TypeId} {A : Option Addr} {n c g : Nat} {es : List Ent} {cs : Array Value} (h : NX w base A n c es) (hb : Blk w g t' cs) (h1 : 51 ≠ t') (h2 : 22 ≠ t') (i : Nat) (u : Value) : NX (w.setCell ⟨g, i, none⟩ u) base A n c es := by
  obtain ⟨ms, h3, h4⟩ := h
  exact ⟨ms, h3.farBlk hb h1 h2 i u, h4⟩
theorem NX.op {w : World} {base : Nat} {A : Option Addr} {n c : Nat} {es : List Ent} (h : NX w base A n c es) : ∃ ms, NXo w base A n c ms ∧ ms.map EnM.e = es := h
theorem map_snoc {α β : Type} {f : α → β} {l : List α} {x : α} {r : List β} {k : Nat} (h : l.map f = r.take k) (hx : r[k]? = some (f x)) : (l ++ [x]).map f = r.take (k + 1) := by
  rw [List.map_append, h, List.take_add_one, hx]
  rfl
theorem ApE.ne_blk {α : Type} {E : El α} {w w' : World} {base g : Nat} {t t' : TypeId} {A A' : Option Addr} {n c c' k d : Nat} {l r : List α} {cs : Array Value} (h : ApE E w base t A n c l A' c' w') (ho : OE E w base t A k d r) (hb : Blk w g t' cs) (hne : t ≠ t') : Blk w' g t' cs :=
  hb.chg h.chg fun ⟨ad, e, hk⟩ => Own.ne_blk ho hb hne ad e hk.symm
theorem Blk.put3 {w : World} {g : Nat} {t : TypeId} {x y z : Value} (h : Blk w g t #[x, y, z]) (a b c : Value) : Blk (((w.setCell ⟨g, 0, none⟩ a).setCell ⟨g, 1, none⟩ b).setCell ⟨g, 2, none⟩ c) g t #[a, b, c] := by
  have := ((h.set 0 a).set 1 b).set 2 c
  simpa using this
theorem NX.far3 {w : World} {base : Nat} {t' : TypeId} {A : Option Addr} {n c g : Nat} {es : List Ent} {x y z : Value} (h : NX w base A n c es) (hb : Blk w g t' #[x, y, z]) (h1 : 51 ≠ t') (h2 : 22 ≠ t') (a b d : Value) :
    NX (((w.setCell ⟨g, 0, none⟩ a).setCell ⟨g, 1, none⟩ b).setCell ⟨g, 2, none⟩ d) base A n c es :=
  ((h.farBlk hb h1 h2 0 a).farBlk (hb.set 0 a) h1 h2 1 b).farBlk ((hb.set 0 a).set 1 b) h1 h2 2 d
theorem Chg.far3 {w0 w : World} (h : Grew w0 w) {g : Nat} (hg : w0.heap.size ≤ g) (a b d : Value) : Grew w0 (((w.setCell ⟨g, 0, none⟩ a).setCell ⟨g, 1, none⟩ b).setCell ⟨g, 2, none⟩ d) :=
  ((h.setCell (p := ⟨g, 0, none⟩) (.inl hg) a).setCell (p := ⟨g, 1, none⟩) (.inl hg) b).setCell (p := ⟨g, 2, none⟩) (.inl hg) d
theorem ApE.at00 {α : Type} {E : El α} {w w' : World} {base : Nat} {t : TypeId} {A A' : Option Addr} {n c c' : Nat} {l : List α} (h : ApE E w base t A (0 + n) c ([] ++ l) A' c' w') : OE E w' base t A' n c' l := by
  have := h.oe
  rwa [Nat.zero_add, List.nil_append] at this
theorem head_le0 {a b : Nat} (h : a ≤ b) : ∀ ad, some (⟨b, 0, none⟩ : Addr) = some ad → a ≤ ad.block := fun ad e => by
  injection e with e
  subst e
  exact h
/-- an entry copied: its sources stored into it -/
structure CpA (w w3 : World) (gx go gr : Nat) (m : EnM) (A2 : Option Addr) (c2 v : Nat) (fl : Int) (B : Option Addr) (k C : Nat) (r0 r1 r2 : Value) (ms : List EnM) : Prop where
  bx : Blk w3 gx 51 #[.int .u64 (m.e.m.id : Int), .int .i64 m.e.m.lo, .int .i64 m.e.m.hi, .int .i64 m.e.m.lv, .slice A2 m.n c2, .int .i64 m.e.m.sr, .int .i64 m.e.m.pt, .bool m.e.mkd, .int .i64 m.e.tm]
  bo : Blk w3 go 25 #[.int .u64 (v : Int), .int .i64 fl, .slice B k C]
  br : Blk w3 gr 25 #[r0, r1, r2]
  ho : NXo w3 w.heap.size B k C ms
  hx : NxE w3 w.heap.size ⟨m.e, A2, m.n, c2⟩
  hg : Grew w w3
theorem copy_a {w wr W w2 : World} {gx go gr : Nat} {m : EnM} {A2 : Option Addr} {c2 v : Nat} {fl : Int} {B : Option Addr} {k C : Nat} {r0 r1 r2 : Value} {ms : List EnM}
    (hg : Grew w wr) (hgW : Grew wr W) (g2 : Grew W w2) (hgx : w.heap.size ≤ gx)
    (bx : Blk W gx 51 #[.int .u64 (m.e.m.id : Int), .int .i64 m.e.m.lo, .int .i64 m.e.m.hi, .int .i64 m.e.m.lv, .slice m.A m.n m.c, .int .i64 m.e.m.sr, .int .i64 m.e.m.pt, .bool m.e.mkd, .int .i64 m.e.tm])
    (bo : Blk wr go 25 #[.int .u64 (v : Int), .int .i64 fl, .slice B k C]) (br : Blk wr gr 25 #[r0, r1, r2]) (ho : NXo wr w.heap.size B k C ms) (hB : ∀ ad, B = some ad → ad.block ≠ gx)
    (hx : NxE w2 w.heap.size ⟨m.e, A2, m.n, c2⟩) (hne : go ≠ gx ∧ gr ≠ gx) :
    Blk w2 gx 51 #[.int .u64 (m.e.m.id : Int), .int .i64 m.e.m.lo, .int .i64 m.e.m.hi, .int .i64 m.e.m.lv, .slice m.A m.n m.c, .int .i64 m.e.m.sr, .int .i64 m.e.m.pt, .bool m.e.mkd, .int .i64 m.e.tm] ∧ CpA w (w2.setCell ⟨gx, 4, none⟩ (.slice A2 m.n c2)) gx go gr m A2 c2 v fl B k C r0 r1 r2 ms := by
  have b2 := bx.grew g2
  have o2 := ho.grew (hgW.trans g2)
  have b3 := b2.set 4 (.slice A2 m.n c2)
  simp only [List.setIfInBounds_toArray, List.set_cons_succ, List.set_cons_zero] at b3
  exact ⟨b2, b3, (bo.grew (hgW.trans g2)).far hne.1 _, (br.grew (hgW.trans g2)).far hne.2 _,
    ⟨o2.row.chg (Chg.cell1 w2 gx 4 _) (fun ad e => hB ad e), fun m' hm' => OE.farBlk (o2.el m' hm') b2 (by decide) 4 _⟩, OE.farBlk hx b2 (by decide) 4 _,
    ((hg.trans hgW).trans g2).setCell (p := ⟨gx, 4, none⟩) (.inl hgx) _⟩
theorem copy_b {w w3 w5 : World} {gx go gr : Nat} {m : EnM} {A2 : Option Addr} {c2 v : Nat} {fl : Int} {B B2 : Option Addr} {k C C2 : Nat} {r0 r1 r2 : Value} {ms : List EnM} {es : List Ent} {xs : Array Value}
    (h : CpA w w3 gx go gr m A2 c2 v fl B k C r0 r1 r2 ms) (hes : (ms ++ [(⟨m.e, A2, m.n, c2⟩ : EnM)]).map EnM.e = es) (hgo : w.heap.size ≤ go) (hne : gr ≠ go)
    (h5 : ApE elEn (w3.alloc (.cells xs 51)) w.heap.size 51 B (k + 1) C (ms ++ [⟨m.e, A2, m.n, c2⟩]) B2 C2 w5) :
    Blk w5 go 25 #[.int .u64 (v : Int), .int .i64 fl, .slice B k C] ∧ Blk (w5.setCell ⟨go, 2, none⟩ (.slice B2 (k + 1) C2)) go 25 #[.int .u64 (v : Int), .int .i64 fl, .slice B2 (k + 1) C2] ∧
      (∃ x y z, Blk (w5.setCell ⟨go, 2, none⟩ (.slice B2 (k + 1) C2)) gr 25 #[x, y, z]) ∧ NX (w5.setCell ⟨go, 2, none⟩ (.slice B2 (k + 1) C2)) w.heap.size B2 (k + 1) C2 es ∧ Grew w (w5.setCell ⟨go, 2, none⟩ (.slice B2 (k + 1) C2)) := by
  have ga : Grew w3 (w3.alloc (.cells xs 51)) := (Chg.refl _ _).alloc _
  have o5 := (h.ho.grew ga).app (h.hx.grew ga) h5
  have b5 := h5.ne_blk (h.ho.row.grew ga) (h.bo.grew ga) (by decide)
  have r5 := h5.ne_blk (h.ho.row.grew ga) (h.br.grew ga) (by decide)
  have g5 : Grew w w5 := h5.grew (h.hg.trans ga) (fun ad e => (Own.blk_lt h.ho.row ad e).1)
  have b6 := b5.set 2 (.slice B2 (k + 1) C2)
  simp only [List.setIfInBounds_toArray, List.set_cons_succ, List.set_cons_zero] at b6
  refine ⟨b5, b6, ⟨r0, r1, r2, r5.far hne _⟩, ?_, g5.setCell (p := ⟨go, 2, none⟩) (.inl hgo) _⟩
  have := (o5.farBlk b5 (by decide) (by decide) 2 (.slice B2 (k + 1) C2)).nx
  rwa [hes] at this
/-- lengths that memory bears -/
structure Fit (es : List Ent) : Prop where
  n : es.length ≤ 1599289640354
  el : ∀ e ∈ es, e.m.src.length ≤ 17592186043904
theorem IxOk.fit {fl : Int} {es : List Ent} (h : IxOk fl es) : Fit es := by
  refine ⟨by have := h.len; omega, fun e he => ?_⟩
  have h1 := (h.el e he).1
  unfold metOk at h1
  simp only [Bool.and_eq_true, decide_eq_true_eq] at h1
  omega

set_option maxRecDepth 100000 in
set_option maxHeartbeats 4000000 in
theorem copyI_any (v : Nat) (fl : Int) (A : Option Addr) (n c : Nat) (es : List Ent) (w : World) (h : RX w A n es) (hf : Fit es) :
    Calls Tryz.prog 40 #[.agg #[.int .u64 (v : Int), .int .i64 fl, .slice A n c]] w fun e w' => ∃ B C, e = .returned (.agg #[.int .u64 (v : Int), .int .i64 fl, .slice B n C]) ∧ NX w' w.heap.size B n C es ∧ Grew w w' := by
  have hln : es.length = n := h.len
  have hn : n ≤ 1599289640354 := by rw [← hln]; exact hf.n
  replace hln := Lib.hid hln
  replace hf := Lib.hid hf
  go_enter Tryz.func40, Tryz.ntmps40
  go_wp2
  go_loopw [11] (fun i wr => ∃ (k : Nat) (B : Option Addr) (C : Nat), k ≤ n ∧ i = .int .i64 (k : Int) ∧ Blk wr (w.heap.size + 2) 25 #[.int .u64 (v : Int), .int .i64 fl, .slice B k C] ∧
    (∃ x y z, Blk wr (w.heap.size + 1) 25 #[x, y, z]) ∧ NX wr w.heap.size B k C (es.take k) ∧ Grew w wr) (fun i _ => n - (intOf i).toNat)
  case atStart => 
    obtain ⟨w1, hw1⟩ : ∃ w1, w1 = w.alloc (.cells #[.int .u64 (v : Int), .int .i64 fl, .slice A n c] 25) := ⟨_, rfl⟩
    have s1 : w1.heap.size = w.heap.size + 1 := by rw [hw1]; simp
    obtain ⟨w2, hw2⟩ : ∃ w2, w2 = w1.alloc (.cells #[.int .u64 0, .int .i64 0, .slice none 0 0] 25) := ⟨_, rfl⟩
    have s2 : w2.heap.size = w.heap.size + 2 := by rw [hw2]; simp [s1]
    have k1 : Blk w2 (w.heap.size + 1) 25 #[.int .u64 0, .int .i64 0, .slice none 0 0] := by rw [hw2, ← s1]; exact Blk.new _ _ _
    have g2 : Grew w w2 := by rw [hw2, hw1]; exact ((Chg.refl _ w).alloc _).alloc _
    have k2 := Blk.new w2 25 #[.int .u64 (v : Int), .int .i64 fl, .slice none 0 0]
    rw [s2] at k2
    rw [← hw1, ← hw2]
    exact ⟨0, none, 0, by omega, rfl, k2, ⟨_, _, _, k1.alloc _⟩, NX.nil _ _, g2.alloc _⟩
  case round =>
    obtain ⟨k, B, C, hk, rfl, hbo, ⟨r0, r1, r2, hbr⟩, ho, hg⟩ := hrel
    by_cases hlt : k < n
    · obtain ⟨ad, m, rfl, hx, hm, x0, x1, x2, x3, x4, x5, x6, x7, x8⟩ := (h.grew hg).at_ hlt
      obtain ⟨W, hW⟩ : ∃ W, W = wr.alloc (.cells #[.int .u64 (m.e.m.id : Int), .int .i64 m.e.m.lo, .int .i64 m.e.m.hi, .int .i64 m.e.m.lv, .slice m.A m.n m.c, .int .i64 m.e.m.sr, .int .i64 m.e.m.pt, .bool m.e.mkd, .int .i64 m.e.tm] 51) := ⟨_, rfl⟩
      have hgW : Grew wr W := by rw [hW]; exact (Chg.refl _ wr).alloc _
      have hbW : Blk W wr.heap.size 51 #[.int .u64 (m.e.m.id : Int), .int .i64 m.e.m.lo, .int .i64 m.e.m.hi, .int .i64 m.e.m.lv, .slice m.A m.n m.c, .int .i64 m.e.m.sr, .int .i64 m.e.m.pt, .bool m.e.mkd, .int .i64 m.e.tm] := by rw [hW]; exact Blk.new wr _ _
      have hgg : Grew w W := hg.trans hgW
      have hsz := hg.size
      have hsW : W.heap.size = wr.heap.size + 1 := by rw [hW]; simp
      have oL : OE elU (W.alloc (.cells #[] 22)) w.heap.size 22 (some ⟨wr.heap.size + 1, 0, none⟩) 0 0 [] := by
        have := OE.made (E := elU) W w.heap.size 22 (by omega)
        rwa [hsW] at this
      have rL := hm.row.grew (hgW.alloc (.cells #[] 22))
      have hns : m.n ≤ 17592186043904 := by rw [← hm.row.1]; exact hf.out.el m.e (List.mem_of_getElem? hx)
      obtain ⟨ms, hms, hmt⟩ := ho.op
      have hCc := hms.row.cap
      have htk := fun A2 c2 => map_snoc (f := EnM.e) (x := ⟨m.e, A2, m.n, c2⟩) hmt hx
      replace htk := Lib.hid htk
      have hb4 := (hbW.grew ((Chg.refl _ W).alloc (.cells #[] 22))).cell 4
      rw [hW] at oL rL hb4
      simp only [List.getElem?_toArray, List.getElem?_cons_succ, List.getElem?_cons_zero] at hb4
      have hne : ∀ ad', B = some ad' → ad'.block ≠ wr.heap.size := fun ad' e => by have := (Own.blk_lt hms.row ad' e).2; omega
      have hlo := hbo.lt
      have hlr := hbr.lt
      clear hx hmt ho
      go_wp2_with (first | (at_builtin; go_loud (refine wpList_appE rfl _ _ 26 22 infoU64 rfl Tryz.underlying26 rfl w.heap.size (some ⟨wr.heap.size + 1, 0, none⟩) 0 0 [] rfl oL (by simp; omega) m.A m.n m.c m.e.m.src rfl rL (by unfold maxLen; omega) (by omega) ?_); intro A2 c2 w2 h2; clear x0 x1 x2 x3 x4 x5 x6 x7 x8 hb4; rw [← hW] at h2; obtain ⟨b2, hA⟩ := copy_a hg hgW (h2.grew ((Chg.refl _ W).alloc _) (head_le0 (by omega))) hsz hbW hbo hbr hms hne h2.at00 ⟨by omega, by omega⟩; have q4 := b2.cell 4; have qf := b2.frozen 4; have e0 := hA.bx.cell 0; have e1 := hA.bx.cell 1; have e2 := hA.bx.cell 2; have e3 := hA.bx.cell 3; have e4 := hA.bx.cell 4; have e5 := hA.bx.cell 5; have e6 := hA.bx.cell 6; have e7 := hA.bx.cell 7; have e8 := hA.bx.cell 8; have e9 := hA.bo.cell 2; simp only [List.getElem?_toArray, List.getElem?_cons_succ, List.getElem?_cons_zero] at q4 e0 e1 e2 e3 e4 e5 e6 e7 e8 e9) | (at_builtin; have hsrc : RE elEn ((w2.setCell ⟨wr.heap.size, 4, none⟩ (.slice A2 m.n c2)).alloc (.cells #[.int .u64 (m.e.m.id : Int), .int .i64 m.e.m.lo, .int .i64 m.e.m.hi, .int .i64 m.e.m.lv, .slice A2 m.n c2, .int .i64 m.e.m.sr, .int .i64 m.e.m.pt, .bool m.e.mkd, .int .i64 m.e.tm] 51)) (some ⟨w2.heap.size, 0, none⟩) 1 [⟨m.e, A2, m.n, c2⟩] := RE.newAt (by simp) rfl rfl; have hro := hA.ho.row.grew ((Chg.refl _ _).alloc (.cells #[.int .u64 (m.e.m.id : Int), .int .i64 m.e.m.lo, .int .i64 m.e.m.hi, .int .i64 m.e.m.lv, .slice A2 m.n c2, .int .i64 m.e.m.sr, .int .i64 m.e.m.pt, .bool m.e.mkd, .int .i64 m.e.tm] 51)); have hgs := hA.hg.size; go_loud (refine wpList_appE rfl _ _ 23 51 infoEn rfl Tryz.underlying23 rfl w.heap.size B k C ms rfl hro (by simp at hgs ⊢; omega) _ 1 1 [⟨m.e, A2, m.n, c2⟩] rfl hsrc (by unfold maxLen; omega) (by omega) ?_); intro B2 C2 w5 h5; obtain ⟨b5, b6, b7, b8, b9⟩ := copy_b hA (htk.out A2 c2) (by omega) (by omega) h5; have u2 := b5.cell 2; have uf := b5.frozen 2; simp only [List.getElem?_toArray, List.getElem?_cons_succ, List.getElem?_cons_zero] at u2))
      go_roundw
      case rel => exact ⟨k + 1, B2, C2, by omega, by go_num, b6, b7, b8, b9⟩
      case measure => simp [intOf]; omega
    · obtain rfl : k = n := by omega
      rw [List.take_of_length_le (by have := hln.out; omega)] at ho
      have b0 := hbo.cell 0
      have b1 := hbo.cell 1
      have b2 := hbo.cell 2
      have r0 := hbr.cell 0
      have r1 := hbr.cell 1
      have r2 := hbr.cell 2
      have f0 := hbr.frozen 0
      have f1 := hbr.frozen 1
      have f2 := hbr.frozen 2
      go_wp2
      refine bodyPost_ret (v := .agg #[.int .u64 (v : Int), .int .i64 fl, .slice B k C]) ?_ rfl ⟨B, C, rfl, ho.far3 hbr (by decide) (by decide) _ _ _, hg.far3 (by omega) _ _ _⟩
      have q := hbr.put3 (.int .u64 (v : Int)) (.int .i64 fl) (.slice B k C)
      have q0 := q.cell 0
      have q1 := q.cell 1
      have q2 := q.cell 2
      simp [results, Tryz.results40, go_sem, q0, q1, q2]
end Go.Proofs.YtjoaonppaokhhaaGreat
