/-
  Several texts in one:
  Entries of an index: plain, in cells, in new memory. Conditions: none.
-/
import Derived.Test.YtjoaonppaokhhaaGreatPart3
import Derived.Test.YtjoaonppaokhhaaGreatPart9

namespace Go.Proofs.YtjoaonppaokhhaaGreat
open Go.RowKit

/-- a block's meta -/
structure Met where
  id : Nat
  lo : Int
  hi : Int
  lv : Int
  src : List Nat
  sr : Int
  pt : Int
/-- an entry -/
structure Ent where
  m : Met
  mkd : Bool
  tm : Int
/-- an entry, and where its sources lie -/
structure EnM where
  e : Ent
  A : Option Addr
  n : Nat
  c : Nat
def elEn : El EnM := ⟨fun x => [.int .u64 (x.e.m.id : Int), .int .i64 x.e.m.lo, .int .i64 x.e.m.hi, .int .i64 x.e.m.lv, .slice x.A x.n x.c, .int .i64 x.e.m.sr, .int .i64 x.e.m.pt, .bool x.e.mkd, .int .i64 x.e.tm], 9, fun _ => rfl, by
  intro x u hu
  simp only [List.mem_cons, List.not_mem_nil, or_false] at hu
  rcases hu with rfl | rfl | rfl | rfl | rfl | rfl | rfl | rfl | rfl <;> rfl⟩
theorem infoEn : (Tryz.prog.info? 51).map (fun i => (i.zero, i.size, i.bytes)) = some (some (.agg #[.int .u64 0, .int .i64 0, .int .i64 0, .int .i64 0, .slice none 0 0, .int .i64 0, .int .i64 0, .bool false, .int .i64 0]), 9, 88) := by kernel_rfl
theorem infoU64 : (Tryz.prog.info? 22).map (fun i => (i.zero, i.size, i.bytes)) = some (some (.int .u64 0), 1, 8) := by kernel_rfl
structure EnIs (w : World) (x : EnM) : Prop where
  row : RE elU w x.A x.n x.e.m.src
  cap : x.n ≤ x.c ∧ x.c ≤ 9223372036854775807
theorem EnIs.grew {w w' : World} {x : EnM} (h : EnIs w x) (hc : Grew w w') : EnIs w' x := ⟨h.row.grew hc, h.cap⟩
theorem EnIs.drewN {w : World} {x : EnM} (h : EnIs w x) (k : Nat) : EnIs (w.drewN k) x := ⟨h.row, h.cap⟩
/-- a slice's cells are these entries -/
def RX (w : World) (A : Option Addr) (n : Nat) (es : List Ent) : Prop := ∃ ms : List EnM, RE elEn w A n ms ∧ ms.map EnM.e = es ∧ ∀ m ∈ ms, EnIs w m
theorem RX.grew {w w' : World} {A : Option Addr} {n : Nat} {es : List Ent} (h : RX w A n es) (hc : Grew w w') : RX w' A n es := by
  obtain ⟨ms, h1, h2, h3⟩ := h
  exact ⟨ms, h1.grew hc, h2, fun m hm => (h3 m hm).grew hc⟩
theorem RX.len {w : World} {A : Option Addr} {n : Nat} {es : List Ent} (h : RX w A n es) : es.length = n := by
  obtain ⟨ms, h1, h2, _⟩ := h
  rw [← h2, List.length_map, h1.1]
theorem RX.nil (w : World) (A : Option Addr) : RX w A 0 [] := ⟨[], RE.nil _ _, rfl, fun m hm => by simp at hm⟩
theorem RX.at_ {w : World} {A : Option Addr} {n : Nat} {es : List Ent} (h : RX w A n es) {k : Nat} (hk : k < n) :
    ∃ ad m, A = some ad ∧ es[k]? = some m.e ∧ EnIs w m ∧ w.cell? (ad.add (k * 9)) = some (.int .u64 (m.e.m.id : Int)) ∧ w.cell? ⟨(ad.add (k * 9)).block, (ad.add (k * 9)).off + 1, none⟩ = some (.int .i64 m.e.m.lo) ∧
      w.cell? ⟨(ad.add (k * 9)).block, (ad.add (k * 9)).off + 2, none⟩ = some (.int .i64 m.e.m.hi) ∧ w.cell? ⟨(ad.add (k * 9)).block, (ad.add (k * 9)).off + 3, none⟩ = some (.int .i64 m.e.m.lv) ∧
      w.cell? ⟨(ad.add (k * 9)).block, (ad.add (k * 9)).off + 4, none⟩ = some (.slice m.A m.n m.c) ∧ w.cell? ⟨(ad.add (k * 9)).block, (ad.add (k * 9)).off + 5, none⟩ = some (.int .i64 m.e.m.sr) ∧
      w.cell? ⟨(ad.add (k * 9)).block, (ad.add (k * 9)).off + 6, none⟩ = some (.int .i64 m.e.m.pt) ∧ w.cell? ⟨(ad.add (k * 9)).block, (ad.add (k * 9)).off + 7, none⟩ = some (.bool m.e.mkd) ∧
      w.cell? ⟨(ad.add (k * 9)).block, (ad.add (k * 9)).off + 8, none⟩ = some (.int .i64 m.e.tm) := by
  obtain ⟨ms, h1, h2, h3⟩ := h
  obtain ⟨ad, m, e, hm, hc⟩ := h1.at_ hk (by decide)
  refine ⟨ad, m, e, by rw [← h2, List.getElem?_map, hm]; rfl, h3 m (List.mem_of_getElem? hm), hc 0 _ rfl, cell_off (by decide) (hc 1 _ rfl), cell_off (by decide) (hc 2 _ rfl), cell_off (by decide) (hc 3 _ rfl), cell_off (by decide) (hc 4 _ rfl), cell_off (by decide) (hc 5 _ rfl), cell_off (by decide) (hc 6 _ rfl), cell_off (by decide) (hc 7 _ rfl), cell_off (by decide) (hc 8 _ rfl)⟩

/-- rows of unlike types lie in unlike blocks -/
theorem OE.neT {α β : Type} {E : El α} {F : El β} {w : World} {b b' : Nat} {t u : TypeId} {A B : Option Addr} {n c m d : Nat} {l : List α} {r : List β} (h : OE E w b t A n c l) (h' : OE F w b' u B m d r) (hne : t ≠ u) : ∀ ad bd, A = some ad → B = some bd → ad.block ≠ bd.block := by
  rintro ad bd rfl rfl
  rcases h'.2 with ⟨e, _⟩ | ⟨g, cap, cur, e, _, hg, _⟩
  · cases e
  · injection e with e1 e2 e3
    injection e1 with e1
    subst e1
    exact Own.ne_blk h hg hne ad rfl
theorem OE.apartT {α β : Type} {E : El α} {F : El β} {w w' : World} {b b' : Nat} {t u : TypeId} {A B : Option Addr} {n c m d : Nat} {l : List α} {r : List β} (h : OE E w b t A n c l) (h' : OE F w b' u B m d r) (hne : t ≠ u) (hc : Chg (fun k => ∃ ad, B = some ad ∧ k = ad.block) w w') : OE E w' b t A n c l :=
  h.chg hc fun ad e ⟨bd, e', hk⟩ => h.neT h' hne ad bd e e' hk
/-- an entry whose sources lie in a row from base on -/
def NxE (w : World) (base : Nat) (m : EnM) : Prop := OE elU w base 22 m.A m.n m.c m.e.m.src
theorem NxE.is {w : World} {base : Nat} {m : EnM} (h : NxE w base m) : EnIs w m := ⟨OE.re (by decide) h, OE.cap h⟩
theorem NxE.grew {w w' : World} {base : Nat} {m : EnM} (h : NxE w base m) (hc : Grew w w') : NxE w' base m := OE.grew h hc
theorem NxE.mono {w : World} {base base' : Nat} {m : EnM} (h : NxE w base m) (hb : base' ≤ base) : NxE w base' m := Own.mono h hb
/-- a row of such entries, as it stands -/
structure NXo (w : World) (base : Nat) (A : Option Addr) (n c : Nat) (ms : List EnM) : Prop where
  row : OE elEn w base 51 A n c ms
  el : ∀ m ∈ ms, NxE w base m
def NX (w : World) (base : Nat) (A : Option Addr) (n c : Nat) (es : List Ent) : Prop := ∃ ms : List EnM, NXo w base A n c ms ∧ ms.map EnM.e = es
theorem NXo.nx {w : World} {base : Nat} {A : Option Addr} {n c : Nat} {ms : List EnM} (h : NXo w base A n c ms) : NX w base A n c (ms.map EnM.e) := ⟨ms, h, rfl⟩
theorem NXo.grew {w w' : World} {base : Nat} {A : Option Addr} {n c : Nat} {ms : List EnM} (h : NXo w base A n c ms) (hc : Grew w w') : NXo w' base A n c ms := ⟨h.row.grew hc, fun m hm => (h.el m hm).grew hc⟩
theorem NXo.mono {w : World} {base base' : Nat} {A : Option Addr} {n c : Nat} {ms : List EnM} (h : NXo w base A n c ms) (hb : base' ≤ base) : NXo w base' A n c ms := ⟨Own.mono h.row hb, fun m hm => (h.el m hm).mono hb⟩
theorem NX.grew {w w' : World} {base : Nat} {A : Option Addr} {n c : Nat} {es : List Ent} (h : NX w base A n c es) (hc : Grew w w') : NX w' base A n c es := by
  obtain ⟨ms, h1, h2⟩ := h
  exact ⟨ms, h1.grew hc, h2⟩
theorem NX.mono {w : World} {base base' : Nat} {A : Option Addr} {n c : Nat} {es : List Ent} (h : NX w base A n c es) (hb : base' ≤ base) : NX w base' A n c es := by
  obtain ⟨ms, h1, h2⟩ := h
  exact ⟨ms, h1.mono hb, h2⟩
theorem NX.rx {w : World} {base : Nat} {A : Option Addr} {n c : Nat} {es : List Ent} (h : NX w base A n c es) : RX w A n es := by
  obtain ⟨ms, h1, h2⟩ := h
  exact ⟨ms, h1.row.re (by decide), h2, fun m hm => (h1.el m hm).is⟩
theorem NX.len {w : World} {base : Nat} {A : Option Addr} {n c : Nat} {es : List Ent} (h : NX w base A n c es) : es.length = n := h.rx.len
theorem NX.cap {w : World} {base : Nat} {A : Option Addr} {n c : Nat} {es : List Ent} (h : NX w base A n c es) : n ≤ c ∧ c ≤ 9223372036854775807 := by
  obtain ⟨ms, h1, _⟩ := h
  exact h1.row.cap
theorem NX.nil (w : World) (base : Nat) : NX w base none 0 0 [] := ⟨[], ⟨OE.nil _ _ _, fun m hm => by simp at hm⟩, rfl⟩
theorem NX.blk {w : World} {base : Nat} {A : Option Addr} {n c : Nat} {es : List Ent} (h : NX w base A n c es) : ∀ ad, A = some ad → base ≤ ad.block ∧ ad.block < w.heap.size := by
  obtain ⟨ms, h1, _⟩ := h
  exact Own.blk_lt h1.row
theorem NXo.app {w w' : World} {base : Nat} {A A' : Option Addr} {n k c c' : Nat} {ms : List EnM} {m : EnM} (h : NXo w base A n c ms) (hm : NxE w base m) (ha : ApE elEn w base 51 A k c (ms ++ [m]) A' c' w') : NXo w' base A' k c' (ms ++ [m]) := by
  refine ⟨ha.oe, fun m' hm' => ?_⟩
  rcases List.mem_append.1 hm' with h1 | h1
  · exact OE.apartT (h.el m' h1) h.row (by decide) ha.chg
  · rcases List.mem_singleton.1 h1 with rfl
    exact OE.apartT hm h.row (by decide) ha.chg
/-- an index in the walk's spelling -/
abbrev ixV (v : Nat) (fl : Int) (A : Option Addr) (n c : Nat) : Value := .agg #[.int .u64 (v : Int), .int .i64 fl, .slice A n c]
end Go.Proofs.YtjoaonppaokhhaaGreat
