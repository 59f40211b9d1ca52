/-
  Several texts in one:
  Entries of an index: plain, in cells, in new memory. Conditions: none.
  Indexes in plain words: what may be, changes, what is covered. Conditions: none.
-/
import Derived.Test.YtjoaonppaokhhaaGreatPart2
import Derived.Test.YtjoaonppaokhhaaGreatPart9

namespace Go.Proofs.YtjoaonppaokhhaaGreat
open Go.RowKit

/-- a block's meta -/
structure Met where
  id : Nat
  lo : Int
  hi : Int
  lv : Int
  src : List Nat
  sr : Int
  pt : Int
/-- an entry -/
structure Ent where
  m : Met
  mkd : Bool
  tm : Int
/-- an entry, and where its sources lie -/
structure EnM where
  e : Ent
  A : Option Addr
  n : Nat
  c : Nat
def elEn : El EnM := ⟨fun x => [.int .u64 (x.e.m.id : Int), .int .i64 x.e.m.lo, .int .i64 x.e.m.hi, .int .i64 x.e.m.lv, .slice x.A x.n x.c, .int .i64 x.e.m.sr, .int .i64 x.e.m.pt, .bool x.e.mkd, .int .i64 x.e.tm], 9, fun _ => rfl, by
  intro x u hu
  simp only [List.mem_cons, List.not_mem_nil, or_false] at hu
  rcases hu with rfl | rfl | rfl | rfl | rfl | rfl | rfl | rfl | rfl <;> rfl⟩
theorem infoEn : (Tryz.prog.info? 51).map (fun i => (i.zero, i.size, i.bytes)) = some (some (.agg #[.int .u64 0, .int .i64 0, .int .i64 0, .int .i64 0, .slice none 0 0, .int .i64 0, .int .i64 0, .bool false, .int .i64 0]), 9, 88) := by kernel_rfl
theorem infoU64 : (Tryz.prog.info? 22).map (fun i => (i.zero, i.size, i.bytes)) = some (some (.int .u64 0), 1, 8) := by kernel_rfl
structure EnIs (w : World) (x : EnM) : Prop where
  row : RE elU w x.A x.n x.e.m.src
  cap : x.n ≤ x.c ∧ x.c ≤ 9223372036854775807
theorem EnIs.grew {w w' : World} {x : EnM} (h : EnIs w x) (hc : Grew w w') : EnIs w' x := ⟨h.row.grew hc, h.cap⟩
theorem EnIs.drewN {w : World} {x : EnM} (h : EnIs w x) (k : Nat) : EnIs (w.drewN k) x := ⟨h.row, h.cap⟩
/-- a slice's cells are these entries -/
def RX (w : World) (A : Option Addr) (n : Nat) (es : List Ent) : Prop := ∃ ms : List EnM, RE elEn w A n ms ∧ ms.map EnM.e = es ∧ ∀ m ∈ ms, EnIs w m
theorem RX.grew {w w' : World} {A : Option Addr} {n : Nat} {es : List Ent} (h : RX w A n es) (hc : Grew w w') : RX w' A n es := by
  obtain ⟨ms, h1, h2, h3⟩ := h
  exact ⟨ms, h1.grew hc, h2, fun m hm => (h3 m hm).grew hc⟩
theorem RX.len {w : World} {A : Option Addr} {n : Nat} {es : List Ent} (h : RX w A n es) : es.length = n := by
  obtain ⟨ms, h1, h2, _⟩ := h
  rw [← h2, List.length_map, h1.1]
theorem RX.nil (w : World) (A : Option Addr) : RX w A 0 [] := ⟨[], RE.nil _ _, rfl, fun m hm => by simp at hm⟩
theorem RX.at_ {w : World} {A : Option Addr} {n : Nat} {es : List Ent} (h : RX w A n es) {k : Nat} (hk : k < n) :
    ∃ ad m, A = some ad ∧ es[k]? = some m.e ∧ EnIs w m ∧ w.cell? (ad.add (k * 9)) = some (.int .u64 (m.e.m.id : Int)) ∧ w.cell? ⟨(ad.add (k * 9)).block, (ad.add (k * 9)).off + 1, none⟩ = some (.int .i64 m.e.m.lo) ∧
      w.cell? ⟨(ad.add (k * 9)).block, (ad.add (k * 9)).off + 2, none⟩ = some (.int .i64 m.e.m.hi) ∧ w.cell? ⟨(ad.add (k * 9)).block, (ad.add (k * 9)).off + 3, none⟩ = some (.int .i64 m.e.m.lv) ∧
      w.cell? ⟨(ad.add (k * 9)).block, (ad.add (k * 9)).off + 4, none⟩ = some (.slice m.A m.n m.c) ∧ w.cell? ⟨(ad.add (k * 9)).block, (ad.add (k * 9)).off + 5, none⟩ = some (.int .i64 m.e.m.sr) ∧
      w.cell? ⟨(ad.add (k * 9)).block, (ad.add (k * 9)).off + 6, none⟩ = some (.int .i64 m.e.m.pt) ∧ w.cell? ⟨(ad.add (k * 9)).block, (ad.add (k * 9)).off + 7, none⟩ = some (.bool m.e.mkd) ∧
      w.cell? ⟨(ad.add (k * 9)).block, (ad.add (k * 9)).off + 8, none⟩ = some (.int .i64 m.e.tm) := by
  obtain ⟨ms, h1, h2, h3⟩ := h
  obtain ⟨ad, m, e, hm, hc⟩ := h1.at_ hk (by decide)
  refine ⟨ad, m, e, by rw [← h2, List.getElem?_map, hm]; rfl, h3 m (List.mem_of_getElem? hm), hc 0 _ rfl, cell_off (by decide) (hc 1 _ rfl), cell_off (by decide) (hc 2 _ rfl), cell_off (by decide) (hc 3 _ rfl), cell_off (by decide) (hc 4 _ rfl), cell_off (by decide) (hc 5 _ rfl), cell_off (by decide) (hc 6 _ rfl), cell_off (by decide) (hc 7 _ rfl), cell_off (by decide) (hc 8 _ rfl)⟩

/-- rows of unlike types lie in unlike blocks -/
theorem OE.neT {α β : Type} {E : El α} {F : El β} {w : World} {b b' : Nat} {t u : TypeId} {A B : Option Addr} {n c m d : Nat} {l : List α} {r : List β} (h : OE E w b t A n c l) (h' : OE F w b' u B m d r) (hne : t ≠ u) : ∀ ad bd, A = some ad → B = some bd → ad.block ≠ bd.block := by
  rintro ad bd rfl rfl
  rcases h'.2 with ⟨e, _⟩ | ⟨g, cap, cur, e, _, hg, _⟩
  · cases e
  · injection e with e1 e2 e3
    injection e1 with e1
    subst e1
    exact Own.ne_blk h hg hne ad rfl
theorem OE.apartT {α β : Type} {E : El α} {F : El β} {w w' : World} {b b' : Nat} {t u : TypeId} {A B : Option Addr} {n c m d : Nat} {l : List α} {r : List β} (h : OE E w b t A n c l) (h' : OE F w b' u B m d r) (hne : t ≠ u) (hc : Chg (fun k => ∃ ad, B = some ad ∧ k = ad.block) w w') : OE E w' b t A n c l :=
  h.chg hc fun ad e ⟨bd, e', hk⟩ => h.neT h' hne ad bd e e' hk
/-- an entry whose sources lie in a row from base on -/
def NxE (w : World) (base : Nat) (m : EnM) : Prop := OE elU w base 22 m.A m.n m.c m.e.m.src
theorem NxE.is {w : World} {base : Nat} {m : EnM} (h : NxE w base m) : EnIs w m := ⟨OE.re (by decide) h, OE.cap h⟩
theorem NxE.grew {w w' : World} {base : Nat} {m : EnM} (h : NxE w base m) (hc : Grew w w') : NxE w' base m := OE.grew h hc
theorem NxE.mono {w : World} {base base' : Nat} {m : EnM} (h : NxE w base m) (hb : base' ≤ base) : NxE w base' m := Own.mono h hb
/-- a row of such entries, as it stands -/
structure NXo (w : World) (base : Nat) (A : Option Addr) (n c : Nat) (ms : List EnM) : Prop where
  row : OE elEn w base 51 A n c ms
  el : ∀ m ∈ ms, NxE w base m
def NX (w : World) (base : Nat) (A : Option Addr) (n c : Nat) (es : List Ent) : Prop := ∃ ms : List EnM, NXo w base A n c ms ∧ ms.map EnM.e = es
theorem NXo.nx {w : World} {base : Nat} {A : Option Addr} {n c : Nat} {ms : List EnM} (h : NXo w base A n c ms) : NX w base A n c (ms.map EnM.e) := ⟨ms, h, rfl⟩
theorem NXo.grew {w w' : World} {base : Nat} {A : Option Addr} {n c : Nat} {ms : List EnM} (h : NXo w base A n c ms) (hc : Grew w w') : NXo w' base A n c ms := ⟨h.row.grew hc, fun m hm => (h.el m hm).grew hc⟩
theorem NXo.mono {w : World} {base base' : Nat} {A : Option Addr} {n c : Nat} {ms : List EnM} (h : NXo w base A n c ms) (hb : base' ≤ base) : NXo w base' A n c ms := ⟨Own.mono h.row hb, fun m hm => (h.el m hm).mono hb⟩
theorem NX.grew {w w' : World} {base : Nat} {A : Option Addr} {n c : Nat} {es : List Ent} (h : NX w base A n c es) (hc : Grew w w') : NX w' base A n c es := by
  obtain ⟨ms, h1, h2⟩ := h
  exact ⟨ms, h1.grew hc, h2⟩
theorem NX.mono {w : World} {base base' : Nat} {A : Option Addr} {n c : Nat} {es : List Ent} (h : NX w base A n c es) (hb : base' ≤ base) : NX w base' A n c es := by
  obtain ⟨ms, h1, h2⟩ := h
  exact ⟨ms, h1.mono hb, h2⟩
theorem NX.rx {w : World} {base : Nat} {A : Option Addr} {n c : Nat} {es : List Ent} (h : NX w base A n c es) : RX w A n es := by
  obtain ⟨ms, h1, h2⟩ := h
  exact ⟨ms, h1.row.re (by decide), h2, fun m hm => (h1.el m hm).is⟩
theorem NX.len {w : World} {base : Nat} {A : Option Addr} {n c : Nat} {es : List Ent} (h : NX w base A n c es) : es.length = n := h.rx.len
theorem NX.cap {w : World} {base : Nat} {A : Option Addr} {n c : Nat} {es : List Ent} (h : NX w base A n c es) : n ≤ c ∧ c ≤ 9223372036854775807 := by
  obtain ⟨ms, h1, _⟩ := h
  exact h1.row.cap
theorem NX.nil (w : World) (base : Nat) : NX w base none 0 0 [] := ⟨[], ⟨OE.nil _ _ _, fun m hm => by simp at hm⟩, rfl⟩
theorem NX.blk {w : World} {base : Nat} {A : Option Addr} {n c : Nat} {es : List Ent} (h : NX w base A n c es) : ∀ ad, A = some ad → base ≤ ad.block ∧ ad.block < w.heap.size := by
  obtain ⟨ms, h1, _⟩ := h
  exact Own.blk_lt h1.row
theorem NXo.app {w w' : World} {base : Nat} {A A' : Option Addr} {n k c c' : Nat} {ms : List EnM} {m : EnM} (h : NXo w base A n c ms) (hm : NxE w base m) (ha : ApE elEn w base 51 A k c (ms ++ [m]) A' c' w') : NXo w' base A' k c' (ms ++ [m]) := by
  refine ⟨ha.oe, fun m' hm' => ?_⟩
  rcases List.mem_append.1 hm' with h1 | h1
  · exact OE.apartT (h.el m' h1) h.row (by decide) ha.chg
  · rcases List.mem_singleton.1 h1 with rfl
    exact OE.apartT hm h.row (by decide) ha.chg
/-- an index in the walk's spelling -/
abbrev ixV (v : Nat) (fl : Int) (A : Option Addr) (n c : Nat) : Value := .agg #[.int .u64 (v : Int), .int .i64 fl, .slice A n c]
end Go.Proofs.YtjoaonppaokhhaaGreat

namespace Go.Proofs.YtjoaonppaokhhaaGreat

/-- does a number stand above the one ahead of it? -/
def upU : Option Nat → Nat → Bool
  | some p, x => decide (p < x)
  | none, _ => true
def riseG : Option Nat → List Nat → Bool
  | _, [] => true
  | p, x :: r => upU p x && riseG (some x) r
theorem riseG_cons (p : Option Nat) (x : Nat) (r : List Nat) : riseG p (x :: r) = (upU p x && riseG (some x) r) := rfl
def numOk (z : Int) : Bool := decide (0 ≤ z) && decide (z ≤ 2147483647)
/-- may a meta be? -/
def metOk (m : Met) : Bool := [m.lv, m.sr, m.pt].all numOk && (riseG none m.src && (decide (m.lo ≤ m.hi) && decide (m.src.length ≤ 64)))
def entG : Option Nat → List Ent → Bool
  | _, [] => true
  | p, e :: r => metOk e.m && upU p e.m.id && (e.mkd || decide (e.tm = 0)) && entG (some e.m.id) r
theorem entG_cons (p : Option Nat) (e : Ent) (r : List Ent) : entG p (e :: r) = (metOk e.m && upU p e.m.id && (e.mkd || decide (e.tm = 0)) && entG (some e.m.id) r) := rfl
/-- may an index be? -/
def chkI (fl : Int) (es : List Ent) : Bool := decide (es.length ≤ 256) && decide (-1099511627776 ≤ fl) && decide (fl ≤ 1099511627776) && entG none es
def prevU (l : List Nat) (k : Nat) : Option Nat := if k = 0 then none else l[k - 1]?
def prevE (es : List Ent) (k : Nat) : Option Nat := if k = 0 then none else (es[k - 1]?).map fun e => e.m.id

theorem riseG_iff : ∀ (p : Option Nat) (l : List Nat), riseG p l = true ↔ l.Pairwise (· < ·) ∧ ∀ q, p = some q → ∀ x ∈ l, q < x
  | p, [] => by simp [riseG]
  | p, x :: r => by
    rw [riseG_cons, Bool.and_eq_true, riseG_iff (some x) r, List.pairwise_cons]
    constructor
    · rintro ⟨h1, h2, h3⟩
      refine ⟨⟨h3 x rfl, h2⟩, ?_⟩
      rintro q rfl y hy
      have hqx : q < x := by simpa [upU] using h1
      rcases List.mem_cons.1 hy with rfl | hy
      · exact hqx
      · exact Nat.lt_trans hqx (h3 x rfl y hy)
    · rintro ⟨⟨h1, h2⟩, h3⟩
      refine ⟨?_, h2, ?_⟩
      · cases p with
        | none => rfl
        | some q => simpa [upU] using h3 q rfl x List.mem_cons_self
      · rintro q e
        injection e with e
        subst e
        exact h1
/-- rising by ID -/
def Srt (es : List Ent) : Prop := es.Pairwise fun a b => a.m.id < b.m.id
theorem entG_iff : ∀ (p : Option Nat) (es : List Ent), entG p es = true ↔ (∀ e ∈ es, metOk e.m = true ∧ (e.mkd = true ∨ e.tm = 0)) ∧ Srt es ∧ ∀ q, p = some q → ∀ e ∈ es, q < e.m.id
  | p, [] => by simp [entG, Srt]
  | p, e :: r => by
    rw [entG_cons, Bool.and_eq_true, Bool.and_eq_true, Bool.and_eq_true, entG_iff (some e.m.id) r, Bool.or_eq_true, decide_eq_true_iff]
    unfold Srt
    rw [List.pairwise_cons]
    constructor
    · rintro ⟨⟨⟨h1, h2⟩, h3⟩, h4, h5, h6⟩
      refine ⟨?_, ⟨h6 _ rfl, h5⟩, ?_⟩
      · intro y hy
        rcases List.mem_cons.1 hy with rfl | hy
        · exact ⟨h1, h3⟩
        · exact h4 y hy
      · rintro q rfl y hy
        have hqx : q < e.m.id := by simpa [upU] using h2
        rcases List.mem_cons.1 hy with rfl | hy
        · exact hqx
        · exact Nat.lt_trans hqx (h6 _ rfl y hy)
    · rintro ⟨h1, ⟨h2, h3⟩, h4⟩
      refine ⟨⟨⟨(h1 e List.mem_cons_self).1, ?_⟩, (h1 e List.mem_cons_self).2⟩, fun y hy => h1 y (List.mem_cons_of_mem _ hy), h3, ?_⟩
      · cases p with
        | none => rfl
        | some q => simpa [upU] using h4 q rfl e List.mem_cons_self
      · rintro q e'
        injection e' with e'
        subst e'
        exact h2
structure IxOk (fl : Int) (es : List Ent) : Prop where
  len : es.length ≤ 256
  lo : -1099511627776 ≤ fl
  hi : fl ≤ 1099511627776
  el : ∀ e ∈ es, metOk e.m = true ∧ (e.mkd = true ∨ e.tm = 0)
  srt : Srt es
theorem chkI_iff (fl : Int) (es : List Ent) : chkI fl es = true ↔ IxOk fl es := by
  unfold chkI
  rw [Bool.and_eq_true, Bool.and_eq_true, Bool.and_eq_true, entG_iff, decide_eq_true_iff, decide_eq_true_iff, decide_eq_true_iff]
  constructor
  · rintro ⟨⟨⟨h1, h2⟩, h3⟩, h4, h5, _⟩
    exact ⟨h1, h2, h3, h4, h5⟩
  · rintro ⟨h1, h2, h3, h4, h5⟩
    exact ⟨⟨⟨h1, h2⟩, h3⟩, h4, h5, fun q e => by cases e⟩

/-- how many IDs stand ahead -/
def posI (es : List Ent) (id : Nat) : Nat := es.countP fun e => decide (e.m.id < id)
def foundI (es : List Ent) (id : Nat) : Bool := match es[posI es id]? with
  | some e => decide (e.m.id = id)
  | none => false
def insE (es : List Ent) (m : Met) : List Ent := es.take (posI es m.id) ++ ⟨m, false, 0⟩ :: es.drop (posI es m.id)
def addE (es : List Ent) (m : Met) : List Ent := if foundI es m.id = true then es else insE es m
def remE (es : List Ent) (id : Nat) : List Ent := if foundI es id = true then es.eraseIdx (posI es id) else es
theorem posI_le (es : List Ent) (id : Nat) : posI es id ≤ es.length := List.countP_le_length
theorem Srt.split : ∀ {es : List Ent} (_h : Srt es) (id : Nat), (∀ e ∈ es.take (posI es id), e.m.id < id) ∧ ∀ e ∈ es.drop (posI es id), id ≤ e.m.id
  | [], _, id => by simp
  | x :: r, h, id => by
    unfold Srt at h
    rw [List.pairwise_cons] at h
    by_cases hx : x.m.id < id
    · have : posI (x :: r) id = posI r id + 1 := by unfold posI; rw [List.countP_cons_of_pos (by simpa using hx)]
      rw [this]
      obtain ⟨h1, h2⟩ := Srt.split (es := r) h.2 id
      refine ⟨fun e he => ?_, h2⟩
      rw [List.take_succ_cons] at he
      rcases List.mem_cons.1 he with rfl | he
      · exact hx
      · exact h1 e he
    · have h0 : posI (x :: r) id = 0 := by
        unfold posI
        rw [List.countP_eq_zero]
        intro e he
        rcases List.mem_cons.1 he with rfl | he
        · simpa using hx
        · have := h.1 e he
          simp only [decide_eq_true_eq]
          omega
      rw [h0]
      refine ⟨by simp, fun e he => ?_⟩
      rcases List.mem_cons.1 he with rfl | he
      · omega
      · have := h.1 e he
        omega
theorem Srt.found {es : List Ent} (h : Srt es) (id : Nat) : foundI es id = true ↔ ∃ e ∈ es, e.m.id = id := by
  unfold foundI
  obtain ⟨h1, h2⟩ := h.split id
  constructor
  · intro h3
    cases hx : es[posI es id]? with
    | none => rw [hx] at h3; cases h3
    | some e =>
      rw [hx] at h3
      exact ⟨e, List.mem_of_getElem? hx, by simpa using h3⟩
  · rintro ⟨e, he, hid⟩
    rw [← List.take_append_drop (posI es id) es, List.mem_append] at he
    rcases he with he | he
    · have := h1 e he
      omega
    · cases hd : es.drop (posI es id) with
      | nil => rw [hd] at he; cases he
      | cons x r =>
        have hx : es[posI es id]? = some x := by
          have := congrArg (fun l => l[0]?) hd
          simpa using this
        rw [hx]
        have hx2 := h2 x (by rw [hd]; exact List.mem_cons_self)
        rw [hd] at he
        rcases List.mem_cons.1 he with rfl | he
        · simpa using hid
        · have hs : (es.drop (posI es id)).Pairwise fun a b => a.m.id < b.m.id := List.Pairwise.sublist (List.drop_sublist _ _) h
          rw [hd, List.pairwise_cons] at hs
          have := hs.1 e he
          omega
theorem mem_insE {es : List Ent} {m : Met} {e : Ent} : e ∈ insE es m ↔ e ∈ es ∨ e = ⟨m, false, 0⟩ := by
  unfold insE
  rw [List.mem_append, List.mem_cons]
  constructor
  · rintro (h | h | h)
    · exact .inl (List.mem_of_mem_take h)
    · exact .inr h
    · exact .inl (List.mem_of_mem_drop h)
  · rintro (h | h)
    · rw [← List.take_append_drop (posI es m.id) es, List.mem_append] at h
      rcases h with h | h
      · exact .inl h
      · exact .inr (.inr h)
    · exact .inr (.inl h)
theorem insE_len (es : List Ent) (m : Met) : (insE es m).length = es.length + 1 := by
  have := posI_le es m.id
  unfold insE
  rw [List.length_append, List.length_cons, List.length_take, List.length_drop]
  omega
theorem Srt.insE {es : List Ent} (h : Srt es) (m : Met) (hn : ¬ foundI es m.id = true) : Srt (insE es m) := by
  obtain ⟨h1, h2⟩ := h.split m.id
  have hne : ∀ e ∈ es, e.m.id ≠ m.id := fun e he hid => hn ((h.found m.id).2 ⟨e, he, hid⟩)
  have h3 : Srt (es.take (posI es m.id) ++ es.drop (posI es m.id)) := by rw [List.take_append_drop]; exact h
  unfold Srt at h3 ⊢
  rw [List.pairwise_append] at h3
  unfold Go.Proofs.YtjoaonppaokhhaaGreat.insE
  rw [List.pairwise_append, List.pairwise_cons]
  refine ⟨h3.1, ⟨fun e he => ?_, h3.2.1⟩, fun a ha b hb => ?_⟩
  · have := h2 e he
    have := hne e (List.mem_of_mem_drop he)
    show m.id < e.m.id
    omega
  · rcases List.mem_cons.1 hb with rfl | hb
    · exact h1 a ha
    · exact h3.2.2 a ha b hb
theorem IxOk.addE {fl : Int} {es : List Ent} (h : IxOk fl es) {m : Met} (hm : metOk m = true) (hn : es.length < 256) : IxOk fl (addE es m) := by
  unfold Go.Proofs.YtjoaonppaokhhaaGreat.addE
  split
  · exact h
  · rename_i hf
    refine ⟨by rw [insE_len]; omega, h.lo, h.hi, fun e he => ?_, h.srt.insE m hf⟩
    rcases mem_insE.1 he with he | rfl
    · exact h.el e he
    · exact ⟨hm, .inr rfl⟩
theorem addE_old {es : List Ent} {m : Met} {e : Ent} (he : e ∈ es) : e ∈ addE es m := by
  unfold addE
  split
  · exact he
  · exact mem_insE.2 (.inl he)
theorem addE_new {es : List Ent} (h : Srt es) (m : Met) : ∃ e ∈ addE es m, e.m.id = m.id := by
  unfold addE
  split
  · rename_i hf
    exact (h.found m.id).1 hf
  · exact ⟨⟨m, false, 0⟩, mem_insE.2 (.inr rfl), rfl⟩
theorem remE_sub (es : List Ent) (id : Nat) : (remE es id).Sublist es := by
  unfold remE
  split
  · exact List.eraseIdx_sublist _ _
  · exact List.Sublist.refl _
theorem IxOk.remE {fl : Int} {es : List Ent} (h : IxOk fl es) (id : Nat) : IxOk fl (remE es id) := by
  have hs := remE_sub es id
  exact ⟨Nat.le_trans hs.length_le h.len, h.lo, h.hi, fun e he => h.el e (hs.subset he), List.Pairwise.sublist hs h.srt⟩
theorem IxOk.raise {fl : Int} {es : List Ent} (h : IxOk fl es) {t : Int} (ht : t ≤ 1099511627776) : IxOk (max fl t) es :=
  ⟨h.len, by have := h.lo; omega, by have := h.hi; omega, h.el, h.srt⟩

/-- the places of the live entries -/
def livF (k : Nat) : List Ent → List Nat
  | [] => []
  | e :: r => if e.mkd = true then livF (k + 1) r else k :: livF (k + 1) r
def livI (es : List Ent) : List Nat := livF 0 es
theorem mem_livF : ∀ {es : List Ent} {k j : Nat}, j ∈ livF k es ↔ ∃ i e, j = k + i ∧ es[i]? = some e ∧ e.mkd = false
  | [], k, j => by simp [livF]
  | e :: r, k, j => by
    have ih := mem_livF (es := r) (k := k + 1) (j := j)
    have key : (∃ i e', j = k + i ∧ (e :: r)[i]? = some e' ∧ e'.mkd = false) ↔ (j = k ∧ e.mkd = false) ∨ ∃ i e', j = k + 1 + i ∧ r[i]? = some e' ∧ e'.mkd = false := by
      constructor
      · rintro ⟨i, e', h1, h2, h3⟩
        cases i with
        | zero =>
          simp at h2
          subst h2
          exact .inl ⟨by omega, h3⟩
        | succ i => exact .inr ⟨i, e', by omega, by simpa using h2, h3⟩
      · rintro (⟨h1, h2⟩ | ⟨i, e', h1, h2, h3⟩)
        · exact ⟨0, e, by omega, rfl, h2⟩
        · exact ⟨i + 1, e', by omega, by simpa using h2, h3⟩
    rw [key, livF]
    cases hm : e.mkd
    · simp [ih]
    · simp [ih]
theorem mem_livI {es : List Ent} {j : Nat} : j ∈ livI es ↔ ∃ e, es[j]? = some e ∧ e.mkd = false := by
  unfold livI
  rw [mem_livF]
  constructor
  · rintro ⟨i, e, h1, h2, h3⟩
    exact ⟨e, by rw [h1, Nat.zero_add]; exact h2, h3⟩
  · rintro ⟨e, h2, h3⟩
    exact ⟨j, e, by omega, h2, h3⟩
/-- a live entry's sources -/
def srcAt (es : List Ent) (o : Nat) : List Nat := match es[o]? with
  | some e => e.m.src
  | none => []
/-- is an entry to be marked? -/
def mkB (es : List Ent) (fl : Int) (k : Nat) (e : Ent) : Bool := decide (e.m.hi < fl) || (livI es).any fun o => !decide (o = k) && (srcAt es o).contains e.m.id
def markAt (es : List Ent) (fl now : Int) (js : List Nat) (k : Nat) (e : Ent) : Ent := if js.contains k && mkB es fl k e then ⟨e.m, true, now⟩ else e
def markL (es : List Ent) (fl now : Int) (js : List Nat) : List Ent := es.mapIdx (markAt es fl now js)
def markE (es : List Ent) (fl now : Int) : List Ent := markL es fl now (livI es)
theorem markL_nil (es : List Ent) (fl now : Int) : markL es fl now [] = es := by
  unfold markL
  apply List.ext_getElem?
  intro i
  rw [List.getElem?_mapIdx]
  cases h : es[i]? with
  | none => rfl
  | some e => simp [markAt]
theorem markL_get {es : List Ent} {fl now : Int} {js : List Nat} {k : Nat} {e : Ent} (h : es[k]? = some e) : (markL es fl now js)[k]? = some (markAt es fl now js k e) := by
  unfold markL
  rw [List.getElem?_mapIdx, h]
  rfl
theorem markL_len (es : List Ent) (fl now : Int) (js : List Nat) : (markL es fl now js).length = es.length := by unfold markL; simp
theorem markL_step_no {es : List Ent} {fl now : Int} {js : List Nat} {k : Nat} {e : Ent} (h : es[k]? = some e) (hb : mkB es fl k e = false) : markL es fl now (js ++ [k]) = markL es fl now js := by
  apply List.ext_getElem?
  intro i
  unfold markL
  rw [List.getElem?_mapIdx, List.getElem?_mapIdx]
  cases hi : es[i]? with
  | none => rfl
  | some x =>
    by_cases hik : i = k
    · subst hik
      rw [h] at hi
      injection hi with hi
      subst hi
      simp [markAt, hb]
    · simp [markAt, hik]
theorem markL_step_yes {es : List Ent} {fl now : Int} {js : List Nat} {k : Nat} {e : Ent} (h : es[k]? = some e) (hb : mkB es fl k e = true) : markL es fl now (js ++ [k]) = (markL es fl now js).set k ⟨e.m, true, now⟩ := by
  apply List.ext_getElem?
  intro i
  rw [List.getElem?_set]
  by_cases hik : k = i
  · subst hik
    have hlt := (List.getElem?_eq_some_iff.1 h).1
    rw [markL_get h, if_pos rfl, markL_len, if_pos hlt]
    simp [markAt, hb]
  · rw [if_neg hik]
    unfold markL
    rw [List.getElem?_mapIdx, List.getElem?_mapIdx]
    cases hi : es[i]? with
    | none => rfl
    | some x =>
      have : i ≠ k := fun e => hik e.symm
      simp [markAt, this]
theorem markAt_m (es : List Ent) (fl now : Int) (js : List Nat) (k : Nat) (e : Ent) : (markAt es fl now js k e).m = e.m := by unfold markAt; split <;> rfl
theorem mem_markL {es : List Ent} {fl now : Int} {js : List Nat} {x : Ent} (h : x ∈ markL es fl now js) : ∃ k e, es[k]? = some e ∧ x = markAt es fl now js k e := by
  obtain ⟨k, hk⟩ := List.mem_iff_getElem?.1 h
  unfold markL at hk
  rw [List.getElem?_mapIdx] at hk
  cases he : es[k]? with
  | none => rw [he] at hk; cases hk
  | some e =>
    rw [he] at hk
    injection hk with hk
    exact ⟨k, e, he, hk.symm⟩
theorem IxOk.markL {fl : Int} {es : List Ent} (h : IxOk fl es) (now : Int) (js : List Nat) : IxOk fl (markL es fl now js) := by
  refine ⟨by rw [markL_len]; exact h.len, h.lo, h.hi, fun x hx => ?_, ?_⟩
  · obtain ⟨k, e, he, rfl⟩ := mem_markL hx
    have := h.el e (List.mem_of_getElem? he)
    unfold markAt
    split
    · exact ⟨this.1, .inl rfl⟩
    · exact this
  · have h1 := h.srt
    unfold Srt at h1 ⊢
    rw [List.pairwise_iff_getElem] at h1 ⊢
    intro i j hi hj hij
    rw [markL_len] at hi hj
    have h2 := h1 i j hi hj hij
    have e1 : (Go.Proofs.YtjoaonppaokhhaaGreat.markL es fl now js)[i]? = some (markAt es fl now js i es[i]) := markL_get (List.getElem?_eq_getElem hi)
    have e2 : (Go.Proofs.YtjoaonppaokhhaaGreat.markL es fl now js)[j]? = some (markAt es fl now js j es[j]) := markL_get (List.getElem?_eq_getElem hj)
    rw [(List.getElem?_eq_some_iff.1 e1).2, (List.getElem?_eq_some_iff.1 e2).2, markAt_m, markAt_m]
    exact h2
/-- is a block in the index, or what it was made of, or below the floor? -/
def covE (id : Nat) (e : Ent) : Bool := decide (e.m.id = id) || e.m.src.contains id
def covI (fl : Int) (es : List Ent) (id : Nat) (most : Int) : Bool := chkI fl es && (es.any (covE id) || decide (most < fl))
theorem cov_of {fl : Int} {es : List Ent} (h : IxOk fl es) (id : Nat) (most : Int) : covI fl es id most = true ↔ (∃ e ∈ es, covE id e = true) ∨ most < fl := by
  unfold covI
  rw [(chkI_iff fl es).2 h, Bool.true_and, Bool.or_eq_true, List.any_eq_true, decide_eq_true_iff]
theorem cov_add {fl : Int} {es : List Ent} (h : IxOk fl es) {m : Met} (hm : metOk m = true) (hn : es.length < 256) {id : Nat} {most : Int} (hc : covI fl es id most = true) : covI fl (addE es m) id most = true := by
  rw [cov_of h] at hc
  rw [cov_of (h.addE hm hn)]
  rcases hc with ⟨e, he, hx⟩ | hc
  · exact .inl ⟨e, addE_old he, hx⟩
  · exact .inr hc
theorem cov_new {fl : Int} {es : List Ent} (h : IxOk fl es) {m : Met} (hm : metOk m = true) (hn : es.length < 256) (most : Int) : covI fl (addE es m) m.id most = true := by
  rw [cov_of (h.addE hm hn)]
  obtain ⟨e, he, hx⟩ := addE_new h.srt m
  exact .inl ⟨e, he, by unfold covE; rw [hx]; simp⟩
theorem cov_raise {fl : Int} {es : List Ent} (h : IxOk fl es) {t : Int} (ht : t ≤ 1099511627776) {id : Nat} {most : Int} (hc : covI fl es id most = true) : covI (max fl t) es id most = true := by
  rw [cov_of h] at hc
  rw [cov_of (h.raise ht)]
  rcases hc with hc | hc
  · exact .inl hc
  · exact .inr (by omega)
theorem cov_mark {fl : Int} {es : List Ent} (h : IxOk fl es) (now : Int) {id : Nat} {most : Int} (hc : covI fl es id most = true) : covI fl (markE es fl now) id most = true := by
  rw [cov_of h] at hc
  unfold markE
  rw [cov_of (h.markL now _)]
  rcases hc with ⟨e, he, hx⟩ | hc
  · obtain ⟨k, hk⟩ := List.mem_iff_getElem?.1 he
    refine .inl ⟨_, List.mem_of_getElem? (markL_get hk), ?_⟩
    unfold covE at hx ⊢
    rw [markAt_m]
    exact hx
  · exact .inr hc
end Go.Proofs.YtjoaonppaokhhaaGreat
