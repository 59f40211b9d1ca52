/-
  Several texts in one:
  A store in use, of a disk that stays on: its calls, without the disk's own counts. Conditions: counts that have not come to their ends.
  awake: what every program answers. Conditions: none.
  The law DiskSynced, walked. Conditions: none but what memory bears.
  Arguments that came in, opened: bytes, with the form's own reach. Conditions: none; no program in sight.
  The bound of the second form, opened: bytes that came in are no longer than their bulk. Conditions: none; no program in sight.
  Arguments that came in, opened: slices whose elements take some cells each. Conditions: none.
  Arguments that came in, opened: rows of whole numbers, of numbers without a sign, of texts. Conditions: none.
  What every store answers, call by call (awake); the law ObjIfs, walked. Conditions: none but what memory bears.
  A store over a disk whose power goes: armed, off, on, opened anew. Conditions: counts that have not come to their ends.
  A number without its sign (the law's Low). Conditions: none.
-/
import Derived.Test.YtepncgeaehjhiaaPart9
import Derived.Test.YtepncgeaehjhiaaPart5
import Derived.OpenShut
import Derived.Test.YtepncgeaehjhiaaPart1
import Derived.ProofKit
import Derived.ShutString
import Derived.ChangeOld
import Derived.SizedLaws
import Derived.Deep.Slices
import Derived.Deep.Fields
import Derived.Test.YtepncgeaehjhiaaRows
import Derived.Test.YtepncgeaehjhiaaPart6
import Derived.Deep.SlicePairs

namespace Go.Proofs.Ytepncgeaehjhiaa
open Go.RowKit

/-- the store s: its blocks (all but its own) lie in S; at most j writes were done -/
structure Liv (S : Nat → Prop) (w : World) (s : Nat) (Ob : List OEnt) (j : Nat) : Prop where
  body : ∃ d m E clock left kp n, Stor S w s d m Ob E clock false left kp n ∧ n ≤ j ∧ -(j : Int) ≤ left ∧ left ≤ j
  lt : ∀ k, S k → k < w.heap.size
def Ext (S S' : Nat → Prop) (w : World) : Prop := ∀ k, S' k → S k ∨ w.heap.size ≤ k
theorem Ext.refl (S : Nat → Prop) (w : World) : Ext S S w := fun _ h => .inl h

theorem setO_len : ∀ (Ob : List OEnt) (o : OEnt), (setO Ob o).length ≤ Ob.length + 1
  | [], o => by simp [setO]
  | p :: r, o => by
    unfold setO
    split
    · simp
    · have := setO_len r o
      simp only [List.length_cons]
      omega
theorem look_set : ∀ (Ob : List OEnt) (o : OEnt) (x : ByteArray), lookO (setO Ob o) x = if o.key = x then some o else lookO Ob x
  | [], o, x => by
    unfold setO lookO
    by_cases h : o.key = x <;> simp [List.find?, h]
  | p :: r, o, x => by
    have ih := look_set r o x
    unfold lookO at ih ⊢
    unfold setO
    by_cases hp : p.key = o.key
    · rw [if_pos hp, List.find?_cons, List.find?_cons]
      by_cases h : o.key = x
      · simp [h]
      · simp [h, hp]
    · rw [if_neg hp, List.find?_cons, List.find?_cons, ih]
      by_cases h : o.key = x
      · have : p.key ≠ x := fun e => hp (e.trans h.symm)
        simp [h, this]
      · by_cases h2 : p.key = x <;> simp [h, h2]
theorem gen_set (Ob : List OEnt) (o : OEnt) : genO (setO Ob o) o.key = o.gen := by
  unfold genO
  rw [look_set, if_pos rfl]

section
variable {S : Nat → Prop} {w w' : World} {s j : Nat} {Ob : List OEnt}
theorem Liv.s_lt (h : Liv S w s Ob j) : s < w.heap.size := by
  obtain ⟨d, m, E, clock, left, kp, n, h1, _⟩ := h.body
  exact h1.st.lt
theorem Liv.sn (h : Liv S w s Ob j) : ¬ S s := by
  obtain ⟨d, m, E, clock, left, kp, n, h1, _⟩ := h.body
  exact h1.sn
theorem Liv.grew (h : Liv S w s Ob j) (hc : Grew w w') : Liv S w' s Ob j := by
  obtain ⟨d, m, E, clock, left, kp, n, h1, h2, h3, h4⟩ := h.body
  exact ⟨⟨d, m, E, clock, left, kp, n, h1.grew hc, h2, h3, h4⟩, fun k e => Nat.lt_of_lt_of_le (h.lt k e) hc.size⟩
theorem Liv.chg {T : Nat → Prop} (h : Liv S w s Ob j) (hc : Chg T w w') (hs : ¬ T s) (hT : ∀ k, S k → ¬ T k) : Liv S w' s Ob j := by
  obtain ⟨d, m, E, clock, left, kp, n, h1, h2, h3, h4⟩ := h.body
  exact ⟨⟨d, m, E, clock, left, kp, n, h1.chg hc hs hT, h2, h3, h4⟩, fun k e => Nat.lt_of_lt_of_le (h.lt k e) hc.size⟩
theorem Liv.ok (h : Liv S w s Ob j) : ∀ o ∈ Ob, o.Ok := by
  obtain ⟨d, m, E, clock, left, kp, n, h1, _⟩ := h.body
  exact h1.ok
theorem Liv.nd (h : Liv S w s Ob j) : (Ob.map OEnt.key).Nodup := by
  obtain ⟨d, m, E, clock, left, kp, n, h1, _⟩ := h.body
  exact h1.nd
/-- a disk just made, a store just opened -/
theorem Liv.start {w0 w1 w2 : World} {d m : Nat} (h : FS (fun k => w0.heap.size ≤ k) w1 d m [] 0 true false 0 0 0) (hb : Blk w2 s 56 #[.pointer (some ⟨d, 0, none⟩)]) (hs : w1.heap.size ≤ s) (hg : Grew w1 w2) :
    Liv (fun k => w0.heap.size ≤ k ∧ k < w1.heap.size) w2 s [] 0 :=
  ⟨⟨d, m, [], 0, 0, 0, 0, ⟨hb, fun e => by omega, h.tight.grew hg, rfl, fun o ho => by simp at ho⟩, by omega, by omega, by omega⟩, fun k e => by have := hg.size; omega⟩

theorem liv_put (h : Liv S w s Ob j) (hj : j ≤ 1000000000000000000) (hE : Ob.length < 1048576) (x : ByteArray) (hx : keyB x = true) (hg : genO Ob x + 1 < 18446744073709551616) (A : Option Addr) (k c : Nat) (data : List UInt8) (hr : RB w A k data) (hk : k ≤ 1048576) :
    Calls Try.prog 13 #[.pointer (some ⟨s, 0, none⟩), .string x, .slice A k c] w fun e w' => e = .returned (.tuple #[.int .u64 ((genO Ob x + 1 : Nat) : Int), .int .i64 0]) ∧ (∃ S', Liv S' w' s (setO Ob ⟨x, data, genO Ob x + 1⟩) (j + 3) ∧ Ext S S' w) ∧ Chg S w w' := by
  obtain ⟨d, m, E, clock, left, kp, n, h1, h2, h3, h4⟩ := h.body
  refine (put_ok h1 (fun i hi => ⟨by simp, by omega, by omega⟩) hE x hx hg A k c data hr hk).mono ?_
  rintro e w' ⟨rfl, ⟨E', clock', h5⟩, h6⟩
  exact ⟨rfl, ⟨_, ⟨⟨d, m, E', clock', left - 3, kp, n + 3, h5.tight, by omega, by omega, by omega⟩, fun k e => e.2⟩, fun k e => e.1⟩, h6⟩
theorem liv_putIf (h : Liv S w s Ob j) (hj : j ≤ 1000000000000000000) (hE : Ob.length < 1048576) (x : ByteArray) (hx : keyB x = true) (hg : genO Ob x + 1 < 18446744073709551616) (A : Option Addr) (k c : Nat) (data : List UInt8) (hr : RB w A k data) (hk : k ≤ 1048576) :
    Calls Try.prog 10 #[.pointer (some ⟨s, 0, none⟩), .string x, .slice A k c, .int .u64 (genO Ob x : Int)] w fun e w' => e = .returned (.tuple #[.int .u64 ((genO Ob x + 1 : Nat) : Int), .int .i64 0]) ∧ (∃ S', Liv S' w' s (setO Ob ⟨x, data, genO Ob x + 1⟩) (j + 3) ∧ Ext S S' w) ∧ Chg S w w' := by
  obtain ⟨d, m, E, clock, left, kp, n, h1, h2, h3, h4⟩ := h.body
  refine (putIf_ok h1 (fun i hi => ⟨by simp, by omega, by omega⟩) hE x hx hg A k c data hr hk).mono ?_
  rintro e w' ⟨rfl, ⟨E', clock', h5⟩, h6⟩
  exact ⟨rfl, ⟨_, ⟨⟨d, m, E', clock', left - 3, kp, n + 3, h5.tight, by omega, by omega, by omega⟩, fun k e => e.2⟩, fun k e => e.1⟩, h6⟩
theorem liv_putIf_no (h : Liv S w s Ob j) (x : ByteArray) (hx : keyB x = true) (A : Option Addr) (k c : Nat) (hk : k ≤ 1048576) (g : Nat) (hg : genO Ob x ≠ g) :
    Calls Try.prog 10 #[.pointer (some ⟨s, 0, none⟩), .string x, .slice A k c, .int .u64 (g : Int)] w fun e w' => e = .returned (.tuple #[.int .u64 (genO Ob x : Int), .int .i64 112]) ∧ Grew w w' := by
  obtain ⟨d, m, E, clock, left, kp, n, h1, h2, h3, h4⟩ := h.body
  exact putIf_no h1 x hx A k c hk g hg
theorem liv_get (h : Liv S w s Ob j) (x : ByteArray) (hx : keyB x = true) :
    Calls Try.prog 12 #[.pointer (some ⟨s, 0, none⟩), .string x] w (ReadTo w (lookO Ob x)) := by
  obtain ⟨d, m, E, clock, left, kp, n, h1, h2, h3, h4⟩ := h.body
  exact get_any h1 x hx
theorem liv_gen (h : Liv S w s Ob j) (x : ByteArray) (hx : keyB x = true) :
    Calls Try.prog 12 #[.pointer (some ⟨s, 0, none⟩), .string x] w fun e w' => (∃ v u, e = .returned (.tuple #[v, .int .u64 (genO Ob x : Int), u])) ∧ Grew w w' := by
  refine (liv_get h x hx).mono ?_
  intro e w' hr
  unfold ReadTo at hr
  unfold genO
  cases hl : lookO Ob x with
  | none =>
    rw [hl] at hr
    exact ⟨⟨_, _, hr.1⟩, hr.2 ▸ Chg.refl _ _⟩
  | some o =>
    rw [hl] at hr
    obtain ⟨A, c, h1, _, _, _, h2⟩ := hr
    exact ⟨⟨_, _, h1⟩, h2⟩
theorem liv_slice (h : Liv S w s Ob j) (x : ByteArray) (hx : keyB x = true) {o : OEnt} (hl : lookO Ob x = some o) (a b : Nat) (hab : a ≤ b) (hb : b ≤ o.data.length) :
    Calls Try.prog 19 #[.pointer (some ⟨s, 0, none⟩), .string x, .int .i64 (a : Int), .int .i64 (b : Int)] w fun e w' => ∃ A c, e = .returned (.tuple #[.slice A (b - a) c, .int .i64 0]) ∧ OB w' w.heap.size 5 A (b - a) c ((o.data.drop a).take (b - a)) ∧ Grew w w' := by
  obtain ⟨d, m, E, clock, left, kp, n, h1, h2, h3, h4⟩ := h.body
  exact slice_ok h1 x hx hl a b hab hb
theorem liv_slice_bad (h : Liv S w s Ob j) (x : ByteArray) (hx : keyB x = true) {o : OEnt} (hl : lookO Ob x = some o) (b : Nat) (hb : o.data.length < b) :
    Calls Try.prog 19 #[.pointer (some ⟨s, 0, none⟩), .string x, .int .i64 0, .int .i64 (b : Int)] w fun e w' => e = .returned (.tuple #[.slice none 0 0, .int .i64 113]) ∧ Grew w w' := by
  obtain ⟨d, m, E, clock, left, kp, n, h1, h2, h3, h4⟩ := h.body
  exact slice_bad h1 x hx hl b hb
theorem liv_delete (h : Liv S w s Ob j) (hj : j ≤ 1000000000000000000) {i : Nat} {o : OEnt} (hi : Ob[i]? = some o) :
    Calls Try.prog 27 #[.pointer (some ⟨s, 0, none⟩), .string o.key] w fun e w' => e = .returned (.int .i64 0) ∧ Liv S w' s (Ob.eraseIdx i) (j + 1) ∧ Chg S w w' := by
  obtain ⟨d, m, E, clock, left, kp, n, h1, h2, h3, h4⟩ := h.body
  refine (odelete_ok h1 ⟨by simp, by omega, by omega⟩ hi).mono ?_
  rintro e w' ⟨rfl, h5, h6⟩
  exact ⟨rfl, ⟨⟨d, m, _, clock, left - 1, kp, n + 1, h5, by omega, by omega, by omega⟩, fun k e => Nat.lt_of_lt_of_le (h.lt k e) h6.size⟩, h6⟩
theorem liv_delete_none (h : Liv S w s Ob j) (x : ByteArray) (hx : keyB x = true) (hno : ∀ o ∈ Ob, o.key ≠ x) :
    Calls Try.prog 27 #[.pointer (some ⟨s, 0, none⟩), .string x] w fun e w' => e = .returned (.int .i64 111) ∧ w = w' := by
  obtain ⟨d, m, E, clock, left, kp, n, h1, h2, h3, h4⟩ := h.body
  exact odelete_none h1 x hx hno
end
end Go.Proofs.Ytepncgeaehjhiaa

namespace Go.Proofs.Ytepncgeaehjhiaa
open Go.RowKit

theorem list_off {O : Nat → Prop} {w : World} {d m : Nat} {es : Array MapEntry} {clock : Nat} {armed : Bool} {left keep : Int} {n : Nat} (hD : Dsk O w d m es clock false armed left keep n) (x : ByteArray) :
    Calls Try.prog 24 #[.pointer (some ⟨d, 0, none⟩), .string x] w fun e w' => e = .returned (.slice none 0 0) ∧ w = w' := by
  have c1 := hD.c1
  go_enter Try.func24, Try.ntmps24
  go_wp2
  go_ret
  exact ⟨by simp, rfl⟩

section
variable {O : Nat → Prop} {w w' : World} {g : Nat} {A : Option Addr} {c : Nat} {l : List UInt8} {sy : Nat}
theorem Fil.al (h : Fil O w g A c l sy) : ∀ ad, A = some ad → ad.block < w.heap.size := fun ad e => (Own.blk_lt h.hA ad e).2
end

theorem grow_of {S : Nat → Prop} {w w1 w2 : World} (hg : Grew w w1) (hc : Chg S w1 w2) (hS : ∀ k, S k → w.heap.size ≤ k) : Grew w w2 := hg.step hc fun k hk h => absurd (hS k h) (by omega)
theorem grow1 {a : Nat} {w w1 w2 : World} (hg : Grew w w1) (hc : Chg (fun k => k = a) w1 w2) (h : w.heap.size ≤ a) : Grew w w2 := grow_of hg hc fun k e => by
  have e : k = a := e
  omega
theorem grow2 {a b : Nat} {w w1 w2 : World} (hg : Grew w w1) (hc : Chg (fun k => k = a ∨ k = b) w1 w2) (h : w.heap.size ≤ a) (h' : w.heap.size ≤ b) : Grew w w2 := grow_of hg hc fun k e => by
  have e : k = a ∨ k = b := e
  omega
theorem grow3 {a b : Nat} {A : Option Addr} {w w1 w2 : World} (hg : Grew w w1) (hc : Chg (fun k => k = a ∨ k = b ∨ ∃ ad, A = some ad ∧ k = ad.block) w1 w2) (h : w.heap.size ≤ a) (h' : w.heap.size ≤ b) (h'' : ∀ ad, A = some ad → w.heap.size ≤ ad.block) : Grew w w2 := grow_of hg hc fun k e => by
  rcases e with e | e | ⟨ad, e, e2⟩
  · omega
  · omega
  · have := h'' ad e
    omega
theorem find_none (x : ByteArray) : Instr.findNow .string (.string x) (#[] : Array MapEntry).toList 0 = some none := rfl

end Go.Proofs.Ytepncgeaehjhiaa

namespace Go.Proofs.Ytepncgeaehjhiaa
open Go.RowKit

/-- append onto a row of bytes of the call's own, where the operation has a guard that holds -/
theorem wpList_appBw {ops : Array Oper} {rest : List Oper} {o : Oper} {a : Act} {w : World} {Q : Exit → Act → World → Prop} (hw : Region.wanted o (yielded ops a.tmps) = true) (s x : Operand)
    (ho : o.op = .call { callee := .builtin .append, args := #[s, x], argTypes := #[23, 23] })
    (base : Nat) (A : Option Addr) (n c : Nat) (l : List UInt8) (hs : a.eval s = .slice A n c) (hown : OB w base 5 A n c l) (hbase : base ≤ w.heap.size)
    (B : Option Addr) (m d : Nat) (r : List UInt8) (hx : a.eval x = .slice B m d) (hr : RB w B m r) (hbytes : n + m ≤ 140737488355328)
    (h : ∀ A' c' w', ApB w base A (n + m) c (l ++ r) A' c' w' → wpList Try.prog ops Q rest (a.put o.dst (.slice A' (n + m) c')) w') : wpList Try.prog ops Q (o :: rest) a w := by
  obtain ⟨i0, hi, hz0, hz1, hz2⟩ := info_parts infoU8
  refine wpList_step fun K hK => ?_
  rw [if_pos hw]
  refine wp_app w s x 23 5 ho i0 (.int .u8 0) 1 1 Try.underlying23 hi hz0 hz1 hz2 rfl base A n c _ hs hown hbase B m d _ hx (by simpa using hr.1) hr.2 (byt_one r) (by unfold maxLen; omega) (by omega) ?_
  intro A' c' w' h1
  exact hK _ _ (h A' c' w' (by unfold ApB; rw [List.map_append]; exact h1))

theorem stay_none {a b : Nat} {kp : Int} (h : ¬ 0 < kp) : stayN (a + b) a kp = a := by
  unfold stayN
  split
  · have : kp = 0 := by omega
    subst this
    simp
  · rfl
theorem stay_some {a b k : Nat} : stayN (a + b) a (k : Int) = a + k % (b + 1) := by
  unfold stayN
  rw [if_pos (by omega)]
  have : a + b - a + 1 = b + 1 := by omega
  rw [this]
  rfl
theorem take_both {α : Type} (a b : List α) (k : Nat) : (a ++ b).take (a.length + k) = a ++ b.take k := by
  rw [List.take_append, List.take_of_length_le (by omega), Nat.add_sub_cancel_left]

end Go.Proofs.Ytepncgeaehjhiaa

namespace Go.Proofs.Ytepncgeaehjhiaa
open Go.ChangeShapes Go.WideShapes Go.ChangeAt Go.RowKit

theorem u8_of_wf {z : Int} (h : (Lit.int .u8 z).wf = true) : ((UInt8.ofNat z.toNat).toNat : Int) = z := by
  have := Go.bounds_u8 h
  rw [UInt8.toNat_ofNat']
  omega

theorem open_bytes {H : Type} {enc : TypeId × Value → H} {P : Program} {W : World} {base : Nat} {spare : Nat → Bool} {held : Bool} {t e : TypeId} (ht : P.underlying t = some (.slice e)) (he : P.underlying e = some (.int .u8)) (hC : P.cellsOf e = 1) (hB : P.bytesOf e = 1)
    {ts : List TypeId} {ds : List (DataW H)} {j : Nat} {d : DataW H} (hsz : (DataW.weightsEach P ts ds).all (· ≤ reachBytes) = true) (htj : ts[j]? = some t) (hdj : ds[j]? = some d)
    {A : Option Addr} {n c : Nat} {p : List MemPlace} (h : DataW.Trod enc P W base spare held t (.slice A n c) d p) : ∃ l : List UInt8, RB W A n l ∧ n ≤ 140737488351232 := by
  obtain ⟨fuel, hf⟩ := h
  rcases open_ints ht he hC hf with ⟨hcs, _⟩ | ⟨x, l, c', zs, hcs, _, hl, hm, hz, hx, hcell, hwz⟩
  · simp [Value.cells] at hcs
    obtain ⟨rfl, rfl, rfl⟩ := hcs
    exact ⟨[], ⟨rfl, Rd.nil _ _⟩, by omega⟩
  · simp [Value.cells] at hcs
    obtain ⟨rfl, rfl, rfl⟩ := hcs
    simp only [Prod.mk.injEq] at hx
    obtain ⟨rfl, _⟩ := hx
    have hlen : n ≤ zs.length := by rw [hz]; split <;> omega
    refine ⟨(zs.take n).map fun z => UInt8.ofNat z.toNat, ⟨by simp; omega, ?_⟩, ?_⟩
    · intro k u hu
      refine ⟨x, rfl, ?_⟩
      simp only [List.map_map, List.getElem?_map, List.getElem?_take] at hu
      split at hu
      · rename_i hk
        rw [hcell k (by omega)]
        rw [List.getElem?_eq_getElem (by omega)] at hu
        simp only [Option.map_some, Option.some.injEq, Function.comp, byt] at hu
        rw [← hu, u8_of_wf (hwz _ (List.getElem_mem _)), List.getD_eq_getElem?_getD, List.getElem?_eq_getElem (by omega)]
        rfl
      · simp at hu
    · have := sized_slice hsz htj hdj ht
      rw [hB] at this
      simp only [lits, List.length_map, List.length_take, List.length_drop, reachBytes] at this
      omega

theorem open_bytes2 {H : Type} {enc : TypeId × Value → H} {P : Program} {W : World} {base : Nat} {spare : Nat → Bool} {held : Bool} {t e : TypeId} (ht : P.underlying t = some (.slice e)) (he : P.underlying e = some (.int .u8)) (hC : P.cellsOf e = 1) (hB : P.bytesOf e = 1)
    {ts : List TypeId} {ds : List (DataW H)} {j : Nat} {d : DataW H} (hsz : (DataW.weightsEach P ts ds).all (· ≤ reachBytes) = true) (htj : ts[j]? = some t) (hdj : ds[j]? = some d)
    {A : Option Addr} {n c : Nat} {p : List MemPlace} (h : DataW.Trod enc P W base spare held t (.slice A n c) d p) : ∃ l : List UInt8, RB W A n l ∧ n ≤ 140737488351232 ∧ (n ≤ c ∧ c ≤ 9223372036854775807) := by
  have hc : n ≤ c ∧ c ≤ 9223372036854775807 := by
    obtain ⟨fuel, hf⟩ := h
    rcases open_ints ht he hC hf with ⟨hcs, _⟩ | ⟨x, l, c', zs, hcs, _, hl, hm, hz, hx, hcell, hwz⟩
    · simp [Value.cells] at hcs
      obtain ⟨rfl, rfl, rfl⟩ := hcs
      omega
    · simp [Value.cells] at hcs
      obtain ⟨rfl, rfl, rfl⟩ := hcs
      unfold maxLen at hm
      omega
  obtain ⟨l, h1, h2⟩ := open_bytes ht he hC hB hsz htj hdj h
  exact ⟨l, h1, h2, hc⟩
end Go.Proofs.Ytepncgeaehjhiaa

namespace Go.Proofs.Ytepncgeaehjhiaa
open Go.ChangeShapes Go.WideShapes Go.ChangeAt Go.RowKit

theorem bulk_one {H : Type} (d : DataW H) : 1 ≤ Rows.uptoBulk d := by
  cases d with
  | lit l => cases l <;> simp [Rows.uptoBulk]
  | _ => simp [Rows.uptoBulk]
theorem bulk_len {H : Type} (l : List (DataW H)) : l.length ≤ Rows.uptoBulkAll l := by
  induction l with
  | nil => simp [Rows.uptoBulkAll]
  | cons x r ih => have := bulk_one x; simp only [Rows.uptoBulkAll, List.length_cons]; omega

theorem open_bulk {H : Type} {enc : TypeId × Value → H} {P : Program} {W : World} {base : Nat} {spare : Nat → Bool} {held : Bool} {t e : TypeId} (ht : P.underlying t = some (.slice e)) (he : P.underlying e = some (.int .u8)) (hC : P.cellsOf e = 1)
    {d : DataW H} {A : Option Addr} {n c : Nat} {p : List MemPlace} (h : DataW.Trod enc P W base spare held t (.slice A n c) d p) : n ≤ Rows.uptoBulk d := by
  obtain ⟨fuel, hf⟩ := h
  rcases open_ints ht he hC hf with ⟨hcs, _⟩ | ⟨x, l, c', zs, hcs, _, hl, hm, hz, hx, hcell, hwz⟩
  · simp [Value.cells] at hcs
    obtain ⟨rfl, rfl, rfl⟩ := hcs
    exact Nat.zero_le _
  · simp [Value.cells] at hcs
    obtain ⟨rfl, rfl, rfl⟩ := hcs
    simp only [Prod.mk.injEq] at hx
    obtain ⟨rfl, _⟩ := hx
    have hlen : n ≤ zs.length := by rw [hz]; split <;> omega
    have := bulk_len (H := H) (lits .u8 (zs.take n))
    simp only [lits, List.length_map, List.length_take] at this
    simp only [Rows.uptoBulk, lits]
    omega
end Go.Proofs.Ytepncgeaehjhiaa

namespace Go.Proofs.Ytepncgeaehjhiaa
open Go.ChangeShapes Go.WideShapes Go.ChangeAt Go.RowKit Go.Deep

theorem list_of {α : Type} (n : Nat) (p : Nat → α → Prop) (h : ∀ i, i < n → ∃ x, p i x) : ∃ l : List α, l.length = n ∧ ∀ i x, l[i]? = some x → p i x := by
  induction n with
  | zero => exact ⟨[], rfl, fun i x hx => by simp at hx⟩
  | succ n ih =>
    obtain ⟨l, hl, hp⟩ := ih fun i hi => h i (by omega)
    obtain ⟨x, hx⟩ := h n (by omega)
    refine ⟨l ++ [x], by simp [hl], fun i y hy => ?_⟩
    rcases Nat.lt_or_ge i l.length with hi | hi
    · rw [List.getElem?_append_left hi] at hy
      exact hp i y hy
    · rw [List.getElem?_append_right hi] at hy
      have : i - l.length = 0 := by
        rcases Nat.eq_zero_or_pos (i - l.length) with e | e
        · exact e
        · rw [List.getElem?_eq_none (by simp; omega)] at hy; cases hy
      rw [this] at hy
      obtain rfl := Option.some.inj hy
      rw [show i = n by omega]
      exact hx
theorem bulk_all_mem {H : Type} {d : DataW H} : ∀ {l : List (DataW H)}, d ∈ l → Rows.uptoBulk d ≤ Rows.uptoBulkAll l
  | x :: r, h => by
    simp only [Rows.uptoBulkAll]
    rcases List.mem_cons.1 h with rfl | h
    · omega
    · have := bulk_all_mem h; omega

section
variable {H : Type} {enc : TypeId × Value → H} {P : Program} {W : World} {base : Nat} {spare : Nat → Bool} {held : Bool}
theorem open_elems {α : Type} (E : El α) (Q : α → DataW H → Prop) {t e : TypeId} (ht : P.underlying t = some (.slice e)) (ce : P.cellsOf e = E.sz)
    (dec : ∀ n cs x, DataW.trod enc P W base spare held n e cs = some x → cs.length = P.cellsOf e → ∃ y, cs = E.cells y ∧ Q y x.1)
    {A : Option Addr} {n c : Nat} {d : DataW H} {p : List MemPlace} (h : DataW.Trod enc P W base spare held t (.slice A n c) d p) :
    ∃ l : List α, RE E W A n l ∧ n ≤ Rows.uptoBulk d ∧ (n ≤ c ∧ c ≤ 9223372036854775807) ∧ ∀ y ∈ l, ∃ dd, Q y dd ∧ Rows.uptoBulk dd ≤ Rows.uptoBulk d := by
  obtain ⟨fuel, hf⟩ := h
  rcases open_slice ht hf with ⟨hcs, _⟩ | ⟨a, len, cap, m, n', D, Pl, hcs, hb, hl, hm, hmm, hx, hel⟩
  · simp [Value.cells] at hcs
    obtain ⟨rfl, rfl, rfl⟩ := hcs
    exact ⟨[], RE.nil _ _, Nat.zero_le _, by omega, fun y hy => by cases hy⟩
  · simp [Value.cells] at hcs
    obtain ⟨rfl, rfl, rfl⟩ := hcs
    simp only [Prod.mk.injEq] at hx
    obtain ⟨rfl, _⟩ := hx
    have hlm : n ≤ m := by rw [hmm]; split <;> omega
    have key : ∀ i, i < n → ∃ y, (∀ j u, (E.cells y)[j]? = some u → W.cell? (a.add (i * E.sz + j)) = some u) ∧ Q y (D i) := fun i hi => by
      obtain ⟨cs', h1, h2⟩ := hel i (by omega)
      obtain ⟨_, hlen, hcell⟩ := World.cells?_some h1
      obtain ⟨y, rfl, hq⟩ := dec _ _ _ h2 hlen
      refine ⟨y, fun j u hu => ?_, hq⟩
      have hj : j < (E.cells y).length := (List.getElem?_eq_some_iff.1 hu).1
      have h3 := hcell j (by rw [← hlen]; exact hj)
      rw [add_add, ce] at h3
      rw [h3]
      exact hu
    obtain ⟨l, hll, hlp⟩ := list_of n _ key
    refine ⟨l, ⟨hll, fun k u hu => ⟨a, rfl, ?_⟩⟩, ?_, by unfold maxLen at hm; omega, fun y hy => ?_⟩
    · have hk := (List.getElem?_eq_some_iff.1 hu).1
      rw [El.flat_length, hll] at hk
      have hs : 0 < E.sz := by
        rcases Nat.eq_zero_or_pos E.sz with e0 | e0
        · rw [e0] at hk; omega
        · exact e0
      obtain ⟨i, j, rfl, hj⟩ : ∃ i j, k = i * E.sz + j ∧ j < E.sz := ⟨k / E.sz, k % E.sz, by rw [Nat.mul_comm]; exact (Nat.div_add_mod k E.sz).symm, Nat.mod_lt _ hs⟩
      have hi : i < n := by
        rcases Nat.lt_or_ge i n with h1 | h1
        · exact h1
        · have := Nat.mul_le_mul_right E.sz h1; omega
      have hx : l[i]? = some l[i] := List.getElem?_eq_getElem (by omega)
      rw [E.flat_get l hx hj] at hu
      exact (hlp i _ hx).1 j u hu
    · have := bulk_len (H := H) ((List.range n).map D)
      simp only [List.length_map, List.length_range] at this
      simp only [Rows.uptoBulk]
      omega
    · obtain ⟨i, hi⟩ := List.mem_iff_getElem?.1 hy
      have hin : i < n := by have := (List.getElem?_eq_some_iff.1 hi).1; omega
      refine ⟨D i, (hlp i y hi).2, ?_⟩
      have : D i ∈ (List.range n).map D := List.mem_map.2 ⟨i, List.mem_range.2 hin, rfl⟩
      have := bulk_all_mem this
      simp only [Rows.uptoBulk]
      omega
end
end Go.Proofs.Ytepncgeaehjhiaa

namespace Go.Proofs.Ytepncgeaehjhiaa
open Go.ChangeShapes Go.WideShapes Go.ChangeAt Go.RowKit Go.Deep

def elI : El Int := ⟨fun z => [.int .i64 z], 1, fun _ => rfl, by
  intro x u hu
  simp at hu
  subst hu
  rfl⟩
def elU : El Nat := ⟨fun z => [.int .u64 (z : Int)], 1, fun _ => rfl, by
  intro x u hu
  simp at hu
  subst hu
  rfl⟩

section
variable {H : Type} {enc : TypeId × Value → H} {W : World} {base : Nat} {spare : Nat → Bool} {held : Bool}
theorem cells_str : Try.prog.cellsOf 9 = 1 := by kernel_rfl
theorem cells_int : Try.prog.cellsOf 3 = 1 := by kernel_rfl
theorem cells_u64 : Try.prog.cellsOf 31 = 1 := by kernel_rfl
theorem one_cell {cs : List Value} (h : cs.length = 1) : ∃ v, cs = [v] := by
  match cs, h with
  | [v], _ => exact ⟨v, rfl⟩

theorem open_ints0 {A : Option Addr} {n c : Nat} {d : DataW H} {p : List MemPlace} (h : DataW.Trod enc Try.prog W base spare held 45 (.slice A n c) d p) :
    ∃ l : List Int, RE elI W A n l ∧ (n ≤ c ∧ c ≤ 9223372036854775807) ∧ ∀ x ∈ l, (Lit.int .i64 x).wf = true := by
  obtain ⟨l, h1, h2, h3, h4⟩ := open_elems elI (fun y _ => (Lit.int .i64 y).wf = true) Try.underlying45 (by kernel_rfl) (fun n cs x hx hl => by
    obtain ⟨v, rfl⟩ := one_cell (hl.trans cells_int)
    obtain ⟨z, e0, d0, hz⟩ := DataW.trod_int Try.underlying3 hx
    obtain rfl := (List.cons.inj e0).1
    exact ⟨z, rfl, hz⟩) h
  exact ⟨l, h1, h3, fun x hx => by obtain ⟨dd, h5, _⟩ := h4 x hx; exact h5⟩
theorem open_u64s0 {A : Option Addr} {n c : Nat} {d : DataW H} {p : List MemPlace} (h : DataW.Trod enc Try.prog W base spare held 22 (.slice A n c) d p) :
    ∃ l : List Nat, RE elU W A n l ∧ (n ≤ c ∧ c ≤ 9223372036854775807) ∧ ∀ x ∈ l, x < 18446744073709551616 := by
  obtain ⟨l, h1, h2, h3, h4⟩ := open_elems elU (fun y _ => y < 18446744073709551616) Try.underlying22 (by kernel_rfl) (fun n cs x hx hl => by
    obtain ⟨v, rfl⟩ := one_cell (hl.trans cells_u64)
    obtain ⟨z, e0, d0, hz⟩ := DataW.trod_int Try.underlying31 hx
    obtain rfl := (List.cons.inj e0).1
    have hb := Go.bounds_u64 hz
    exact ⟨z.toNat, by simp [elU]; omega, by omega⟩) h
  exact ⟨l, h1, h3, fun x hx => by obtain ⟨dd, h5, _⟩ := h4 x hx; exact h5⟩
theorem open_texts0 {A : Option Addr} {n c : Nat} {d : DataW H} {p : List MemPlace} (h : DataW.Trod enc Try.prog W base spare held 38 (.slice A n c) d p) :
    ∃ l : List ByteArray, RE elNm W A n l ∧ (n ≤ c ∧ c ≤ 9223372036854775807) := by
  obtain ⟨l, h1, h2, h3, h4⟩ := open_elems elNm (fun _ _ => True) Try.underlying38 (by kernel_rfl) (fun n cs x hx hl => by
    obtain ⟨v, rfl⟩ := one_cell (hl.trans cells_str)
    obtain ⟨s0, e0, d0, _⟩ := DataW.trod_string Try.underlying9 hx
    obtain rfl := (List.cons.inj e0).1
    exact ⟨s0, rfl, trivial⟩) h
  exact ⟨l, h1, h3⟩
end
end Go.Proofs.Ytepncgeaehjhiaa

namespace Go.Proofs.Ytepncgeaehjhiaa
open Go.RowKit

theorem liv_list {S : Nat → Prop} {w : World} {s j : Nat} {Ob : List OEnt} (h : Liv S w s Ob j) (hE : Ob.length ≤ 1048576) (p : ByteArray) (hp : p.size ≤ 140737488355328) :
    Calls Try.prog 16 #[.pointer (some ⟨s, 0, none⟩), .string p] w fun e w' => ∃ A c, e = .returned (.slice A (keysO Ob p).length c) ∧ OE elNm w' w.heap.size 9 A (keysO Ob p).length c (keysO Ob p) ∧ Grew w w' := by
  obtain ⟨d, m, E, clock, left, kp, n, h1, h2, h3, h4⟩ := h.body
  exact olist_any h1 (by rw [h1.len]; exact hE) p hp
theorem start_ex {w0 w1 w2 : World} {d m s : Nat} (h : FS (fun k => w0.heap.size ≤ k) w1 d m [] 0 true false 0 0 0) (hb : Blk w2 s 56 #[.pointer (some ⟨d, 0, none⟩)]) (hs : w1.heap.size ≤ s) (hg : Grew w1 w2) :
    ∃ S, Hid (Liv S w2 s [] 0) ∧ Hid (∀ k, S k → w0.heap.size ≤ k) := ⟨_, Liv.start h hb hs hg, fun _ e => e.1⟩
theorem look_one (o : OEnt) : lookO [o] o.key = some o := by simp [lookO, List.find?]
theorem gen_one (o : OEnt) : genO [o] o.key = o.gen := by rw [genO, look_one]
theorem set_one (o p : OEnt) (h : o.key = p.key) : setO [o] p = [p] := by rw [setO, if_pos h]
theorem keys_one (o : OEnt) : keysO [o] ⟨#[]⟩ = [o.key] := by
  have : hasP o.key ⟨#[]⟩ = true := by unfold hasP Lib.hasPrefix; rfl
  simp [keysO, sortT, this]
def kA : ByteArray := ⟨#[97]⟩
def kK : ByteArray := ⟨#[107]⟩
theorem key_a : keyB ⟨#[97]⟩ = true := by decide
theorem key_k : keyB ⟨#[107]⟩ = true := by decide
/-- what a change of the store's own blocks leaves of what was there at first -/
theorem liv_grow {S : Nat → Prop} {w w1 w2 : World} (hg : Grew w w1) (hc : Chg S w1 w2) (hS : ∀ k, S k → w.heap.size ≤ k) : Grew w w2 := hg.step hc fun k hk h => absurd (hS k h) (by omega)
theorem ext_ge {S S' : Nat → Prop} {b : Nat} {w1 : World} (h : Ext S S' w1) (hS : ∀ k, S k → b ≤ k) (hb : b ≤ w1.heap.size) : ∀ k, S' k → b ≤ k := fun k e => (h k e).elim (hS k) fun e => Nat.le_trans hb e

set_option maxRecDepth 100000 in
set_option maxHeartbeats 4000000 in
theorem awake_any (w : World) : Calls Try.prog 9 #[] w fun e w' => e = .returned (.bool true) ∧ Grew w w' := by
  go_enter Try.func9, Try.ntmps9
  go_wp2_with fail
  refine (fs_new w).mono ?_
  rintro e w1 ⟨d, m, rfl, hF, hg1⟩
  go_wp2_with fail
  refine (open_clean hF (by simp) rfl).mono ?_
  rintro e w2 ⟨s, rfl, hb, hs, hg2⟩
  obtain ⟨S2, L2, hS2⟩ := start_ex hF hb hs hg2
  have G2 := hg1.trans hg2
  clear hF hb hg1 hg2
  go_wp2_with fail
  refine (liv_put (L2.out.grew ((Chg.refl _ w2).alloc (.cells #[.int .u8 1, .int .u8 2] 5))) (by omega) (by simp) ⟨#[97]⟩ key_a (by decide) _ 2 2 [1, 2] (RB.newAt rfl rfl rfl) (by omega)).mono ?_
  rintro e w3 ⟨rfl, ⟨S3, L3, x3⟩, hc3⟩
  have G3 : Grew w w3 := liv_grow (G2.alloc (.cells #[.int .u8 1, .int .u8 2] 5)) hc3 hS2.out
  have hS3 : Hid (∀ k, S3 k → w.heap.size ≤ k) := ext_ge x3 hS2.out (G2.alloc (.cells #[.int .u8 1, .int .u8 2] 5)).size
  have L3 : Hid (Liv S3 w3 s [⟨⟨#[97]⟩, [1, 2], 1⟩] 3) := L3
  clear x3 hc3 L2 hS2 G2
  have hP := liv_putIf (L3.out.grew ((Chg.refl _ w3).alloc (.cells #[.int .u8 3, .int .u8 4] 5))) (by omega) (by simp) ⟨#[97]⟩ key_a (by decide) (some ⟨w3.heap.size, 0, none⟩) 2 2 [3, 4] (RB.newAt rfl rfl rfl) (by omega)
  rw [show genO [(⟨⟨#[97]⟩, [1, 2], 1⟩ : OEnt)] ⟨#[97]⟩ = 1 from gen_one _] at hP
  go_wp2_with fail
  refine hP.mono ?_
  rintro e w4 ⟨rfl, ⟨S4, L4, x4⟩, hc4⟩
  have G4 : Grew w w4 := liv_grow (G3.alloc (.cells #[.int .u8 3, .int .u8 4] 5)) hc4 hS3.out
  have hS4 : Hid (∀ k, S4 k → w.heap.size ≤ k) := ext_ge x4 hS3.out (G3.alloc (.cells #[.int .u8 3, .int .u8 4] 5)).size
  have L4 : Hid (Liv S4 w4 s [⟨⟨#[97]⟩, [3, 4], 2⟩] 6) := by
    have e : setO [(⟨⟨#[97]⟩, [1, 2], 1⟩ : OEnt)] ⟨⟨#[97]⟩, [3, 4], 1 + 1⟩ = [⟨⟨#[97]⟩, [3, 4], 2⟩] := set_one _ _ rfl
    rw [e] at L4
    exact L4
  clear x4 hc4 L3 hS3 G3 hP
  have hN := liv_putIf_no L4.out ⟨#[97]⟩ key_a none 0 0 (by omega) 1 (by rw [show genO [(⟨⟨#[97]⟩, [3, 4], 2⟩ : OEnt)] ⟨#[97]⟩ = 2 from gen_one _]; decide)
  rw [show genO [(⟨⟨#[97]⟩, [3, 4], 2⟩ : OEnt)] ⟨#[97]⟩ = 2 from gen_one _] at hN
  go_wp2_with fail
  refine hN.mono ?_
  rintro e w5 ⟨rfl, g5⟩
  have L5 := Lib.hid (L4.out.grew g5)
  have G5 := G4.trans g5
  clear hN L4 G4 g5
  have hG := liv_get L5.out ⟨#[97]⟩ key_a
  rw [show lookO [(⟨⟨#[97]⟩, [3, 4], 2⟩ : OEnt)] ⟨#[97]⟩ = some ⟨⟨#[97]⟩, [3, 4], 2⟩ from look_one _] at hG
  go_wp2_with fail
  refine hG.mono ?_
  rintro e w6 ⟨X, cx, rfl, hX, _, hXb, g6⟩
  have hX : RB w6 X 2 [3, 4] := hX
  have L6 := Lib.hid (L5.out.grew g6)
  have G6 := G5.trans g6
  have hSl := liv_slice L6.out ⟨#[97]⟩ key_a (show lookO [(⟨⟨#[97]⟩, [3, 4], 2⟩ : OEnt)] ⟨#[97]⟩ = some ⟨⟨#[97]⟩, [3, 4], 2⟩ from look_one _) 1 2 (by omega) (by decide)
  clear hG L5
  go_wp2_with fail
  refine hSl.mono ?_
  rintro e w7 ⟨Y, cy, rfl, hY, g7⟩
  have hY : RB w7 Y 1 [4] := hY.rb
  have hX := hX.grew g7
  have L7 := Lib.hid (L6.out.grew g7)
  have G7 := G6.trans g7
  have hLi := liv_list L7.out (by simp) ⟨#[]⟩ (by decide)
  rw [show keysO [(⟨⟨#[97]⟩, [3, 4], 2⟩ : OEnt)] ⟨#[]⟩ = [⟨#[97]⟩] from keys_one _] at hLi
  clear hSl L6
  go_wp2_with fail
  refine hLi.mono ?_
  rintro e w8 ⟨Z, cz, rfl, hZ, g8⟩
  have hZ : RE elNm w8 Z 1 [⟨#[97]⟩] := hZ.re (by decide)
  have hX := hX.grew g8
  have hY := hY.grew g8
  have L8 := Lib.hid (L7.out.grew g8)
  have G8 := G7.trans g8
  clear hLi L7
  go_wp2_with fail
  refine (sameBytes_yes X _ 2 2 cx 2 [3, 4] _ (by exact hX.grew ((Chg.refl _ w8).alloc _)) (by exact RB.newAt rfl rfl rfl) (by omega) (by omega)).mono ?_
  rintro e w9 ⟨rfl, k, rfl⟩
  have g9 : Grew w8 ((w8.alloc (.cells #[.int .u8 3, .int .u8 4] 5)).drewN k) := ((Chg.refl _ w8).alloc _).drewN k
  generalize ((w8.alloc (.cells #[.int .u8 3, .int .u8 4] 5)).drewN k) = w9 at *
  go_wp2_with fail
  refine (sameBytes_yes Y _ 1 1 cy 1 [4] _ (by exact (hY.grew g9).grew ((Chg.refl _ w9).alloc _)) (by exact RB.newAt rfl rfl rfl) (by omega) (by omega)).mono ?_
  rintro e w10 ⟨rfl, k2, rfl⟩
  have g10 : Grew w8 ((w9.alloc (.cells #[.int .u8 4] 5)).drewN k2) := (g9.alloc _).drewN k2
  generalize ((w9.alloc (.cells #[.int .u8 4] 5)).drewN k2) = w10 at *
  go_wp2_with fail
  refine (sameTexts_any Z _ 1 1 cz 1 [⟨#[97]⟩] [⟨#[97]⟩] _ (by exact (hZ.grew g10).grew ((Chg.refl _ w10).alloc _)) (by exact RE.newAt rfl rfl rfl) (by omega) (by omega)).mono ?_
  rintro e w11 ⟨rfl, k3, rfl⟩
  have g11 : Grew w8 ((w10.alloc (.cells #[.string ⟨#[97]⟩] 9)).drewN k3) := (g10.alloc _).drewN k3
  generalize ((w10.alloc (.cells #[.string ⟨#[97]⟩] 9)).drewN k3) = w11 at *
  have L11 := L8.out.grew g11
  have hD := liv_delete L11 (by omega) (i := 0) (o := ⟨⟨#[97]⟩, [3, 4], 2⟩) rfl
  have L11 := Lib.hid L11
  simp only [decide_true]
  go_wp2_with fail
  refine hD.mono ?_
  rintro e w12 ⟨rfl, L12, hc12⟩
  have G12 : Grew w w12 := liv_grow (G8.trans g11) hc12 hS4.out
  have hE := liv_delete_none L12 ⟨#[97]⟩ key_a (by simp)
  clear hD
  have L12 := Lib.hid L12
  go_wp2_with fail
  refine hE.mono ?_
  rintro e w13 ⟨rfl, rfl⟩
  go_wp2
  go_ret
  exact ⟨by simp, G12⟩
end Go.Proofs.Ytepncgeaehjhiaa

namespace Go.Proofs.Ytepncgeaehjhiaa
open Go.RowKit

section
variable {S : Nat → Prop} {w w' : World} {s d m j : Nat} {Ob : List OEnt} {E : List FEnt} {clock : Nat} {armed : Bool} {left kp : Int} {n : Nat}

/-- the store s in use over the disk d -/
structure LivD (S : Nat → Prop) (w : World) (s d m : Nat) (Ob : List OEnt) (j : Nat) : Prop where
  body : ∃ E clock left kp n, Stor S w s d m Ob E clock false left kp n ∧ n ≤ j ∧ -(j : Int) ≤ left ∧ left ≤ j
  lt : ∀ k, S k → k < w.heap.size
theorem LivD.liv (h : LivD S w s d m Ob j) : Liv S w s Ob j := by
  obtain ⟨E, clock, left, kp, n, h1, h2, h3, h4⟩ := h.body
  exact ⟨⟨d, m, E, clock, left, kp, n, h1, h2, h3, h4⟩, h.lt⟩
theorem LivD.grew (h : LivD S w s d m Ob j) (hc : Grew w w') : LivD S w' s d m Ob j := by
  obtain ⟨E, clock, left, kp, n, h1, h2, h3, h4⟩ := h.body
  exact ⟨⟨E, clock, left, kp, n, h1.grew hc, h2, h3, h4⟩, fun k e => Nat.lt_of_lt_of_le (h.lt k e) hc.size⟩
theorem livd_start {w0 w1 w2 : World} (h : FS (fun k => w0.heap.size ≤ k) w1 d m [] 0 true false 0 0 0) (hb : Blk w2 s 56 #[.pointer (some ⟨d, 0, none⟩)]) (hs : w1.heap.size ≤ s) (hg : Grew w1 w2) :
    ∃ S, Hid (LivD S w2 s d m [] 0) ∧ Hid (∀ k, S k → w0.heap.size ≤ k) :=
  ⟨fun k => w0.heap.size ≤ k ∧ k < w1.heap.size, ⟨⟨[], 0, 0, 0, 0, ⟨hb, fun e => by omega, h.tight.grew hg, rfl, fun o ho => by simp at ho⟩, by omega, by omega, by omega⟩, fun k e => by have := hg.size; omega⟩, fun _ e => e.1⟩
theorem livd_put (h : LivD S w s d m Ob j) (hj : j ≤ 1000000000000000000) (hE : Ob.length < 1048576) (x : ByteArray) (hx : keyB x = true) (hg : genO Ob x + 1 < 18446744073709551616) (A : Option Addr) (k c : Nat) (data : List UInt8) (hr : RB w A k data) (hk : k ≤ 1048576) :
    Calls Try.prog 13 #[.pointer (some ⟨s, 0, none⟩), .string x, .slice A k c] w fun e w' => e = .returned (.tuple #[.int .u64 ((genO Ob x + 1 : Nat) : Int), .int .i64 0]) ∧ (∃ S', LivD S' w' s d m (setO Ob ⟨x, data, genO Ob x + 1⟩) (j + 3) ∧ Ext S S' w) ∧ Chg S w w' := by
  obtain ⟨E, clock, left, kp, n, h1, h2, h3, h4⟩ := h.body
  refine (put_ok h1 (fun i hi => ⟨by simp, by omega, by omega⟩) hE x hx hg A k c data hr hk).mono ?_
  rintro e w' ⟨rfl, ⟨E', clock', h5⟩, h6⟩
  exact ⟨rfl, ⟨_, ⟨⟨E', clock', left - 3, kp, n + 3, h5.tight, by omega, by omega, by omega⟩, fun k e => e.2⟩, fun k e => e.1⟩, h6⟩

/-- armed -/
structure ArmD (S : Nat → Prop) (w : World) (s d m : Nat) (Ob : List OEnt) (r : Nat) (kp : Int) (j : Nat) : Prop where
  body : ∃ E clock n, Stor S w s d m Ob E clock true (r : Int) kp n ∧ n ≤ j
  lt : ∀ k, S k → k < w.heap.size
theorem ArmD.grew {r : Nat} (h : ArmD S w s d m Ob r kp j) (hc : Grew w w') : ArmD S w' s d m Ob r kp j := by
  obtain ⟨E, clock, n, h1, h2⟩ := h.body
  exact ⟨⟨E, clock, n, h1.grew hc, h2⟩, fun k e => Nat.lt_of_lt_of_le (h.lt k e) hc.size⟩
theorem arm_d (h : LivD S w s d m Ob j) (r : Nat) (kp : Int) :
    Calls Try.prog 20 #[.pointer (some ⟨d, 0, none⟩), .int .i64 (r : Int), .int .i64 kp] w fun e w' => e = .returned (.tuple #[]) ∧ ArmD S w' s d m Ob r kp j ∧ Chg S w w' := by
  obtain ⟨E, clock, left, kp0, n, h1, h2, h3, h4⟩ := h.body
  refine (fs_arm h1.fs r kp).mono ?_
  rintro e w' ⟨rfl, h5, h6⟩
  exact ⟨rfl, ⟨⟨E, clock, n, ⟨h1.st.chg h6 h1.sn, h1.sn, h5, h1.vw, h1.ok⟩, h2⟩, fun k e => Nat.lt_of_lt_of_le (h.lt k e) h6.size⟩, h6⟩

/-- the disk as the power left it: up or down; the objects Ob, and maybe one unfinished file -/
structure RestD (S : Nat → Prop) (w : World) (d m : Nat) (Ob : List OEnt) (t : Option ByteArray) (up : Bool) (j : Nat) : Prop where
  body : ∃ E1 F clock left kp n, FS S w d m (E1 ++ F) clock up false left kp n ∧ E1.map FEnt.view = Ob.map OEnt.view ∧ F.map FEnt.nm = t.toList.map (fun x => tN ++ x) ∧ n ≤ j ∧ -(j : Int) ≤ left ∧ left ≤ j
  ok : ∀ o ∈ Ob, o.Ok
  key : ∀ x ∈ t, keyB x = true
theorem put_d_cut {r : Nat} (h : ArmD S w s d m Ob r kp j) (hr2 : r ≤ 2) (hj : j ≤ 1000000000000000000) (hkp : kp ≤ 9223372036854775807) (hE : Ob.length < 1048576) (x : ByteArray) (hx : keyB x = true) (hg : genO Ob x + 1 < 18446744073709551616) (A : Option Addr) (k c : Nat) (data : List UInt8) (hr : RB w A k data) (hk : k ≤ 1048576) :
    Calls Try.prog 13 #[.pointer (some ⟨s, 0, none⟩), .string x, .slice A k c] w fun e w' => e = .returned (.tuple #[.int .u64 0, .int .i64 60]) ∧ (∃ S', RestD S' w' d m Ob (some x) false (j + 3) ∧ Ext S S' w ∧ ∀ k, S' k → k < w'.heap.size) ∧ Chg S w w' := by
  obtain ⟨E, clock, n, h1, h2⟩ := h.body
  refine (put_cut r h1 hr2 (by omega) hkp hE x hx hg A k c data hr hk).mono ?_
  rintro e w' ⟨rfl, ⟨f, E1, c1, n1, e1, e2, e3, e4⟩, h3⟩
  exact ⟨rfl, ⟨fun k => Up S w k ∧ k < w'.heap.size, ⟨⟨E1, [f], c1, 0, kp, n1, e2.tight, e4, by simp [e1], by omega, by omega, by omega⟩, h1.ok, fun y hy => by
    have : x = y := by simpa using hy
    exact this ▸ hx⟩, fun k e => e.1, fun k e => e.2⟩, h3⟩
theorem put_d_ok {r : Nat} (h : ArmD S w s d m Ob r kp j) (hr3 : 3 ≤ r) (hr5 : r ≤ 5) (hj : j ≤ 1000000000000000000) (hE : Ob.length < 1048576) (x : ByteArray) (hx : keyB x = true) (hg : genO Ob x + 1 < 18446744073709551616) (A : Option Addr) (k c : Nat) (data : List UInt8) (hr : RB w A k data) (hk : k ≤ 1048576) :
    Calls Try.prog 13 #[.pointer (some ⟨s, 0, none⟩), .string x, .slice A k c] w fun e w' => e = .returned (.tuple #[.int .u64 ((genO Ob x + 1 : Nat) : Int), .int .i64 0]) ∧ (∃ S' r', r' ≤ 5 ∧ ArmD S' w' s d m (setO Ob ⟨x, data, genO Ob x + 1⟩) r' kp (j + 3) ∧ Ext S S' w) ∧ Chg S w w' := by
  obtain ⟨E, clock, n, h1, h2⟩ := h.body
  refine (put_ok h1 (fun i hi => ⟨fun _ => by omega, by omega, by omega⟩) hE x hx hg A k c data hr hk).mono ?_
  rintro e w' ⟨rfl, ⟨E', clock', h5⟩, h6⟩
  refine ⟨rfl, ⟨fun k => Up S w k ∧ k < w'.heap.size, r - 3, by omega, ⟨⟨E', clock', n + 3, ?_, by omega⟩, fun k e => e.2⟩, fun k e => e.1⟩, h6⟩
  have := h5.tight
  rwa [show (r : Int) - 3 = ((r - 3 : Nat) : Int) by omega] at this
theorem off_d {r : Nat} (h : ArmD S w s d m Ob r kp j) (hr5 : r ≤ 5) (hj : 5 ≤ j) (keep : Int) (hkp : keep ≤ 9223372036854775807) :
    Calls Try.prog 21 #[.pointer (some ⟨d, 0, none⟩), .int .i64 keep] w fun e w' => e = .returned (.tuple #[]) ∧ RestD S w' d m Ob none false j ∧ Chg S w w' := by
  obtain ⟨E, clock, n, h1, h2⟩ := h.body
  refine (fs_off h1.fs keep hkp).mono ?_
  rintro e w' ⟨rfl, h3, h4⟩
  exact ⟨rfl, ⟨⟨_, [], clock, r, kp, n, by rw [List.append_nil]; exact h3, h1.cut keep, rfl, h2, by omega, by omega⟩, h1.ok, fun y hy => by simp at hy⟩, h4⟩
theorem off_d_down {t : Option ByteArray} (h : RestD S w d m Ob t false j) (keep : Int) :
    Calls Try.prog 21 #[.pointer (some ⟨d, 0, none⟩), .int .i64 keep] w fun e w' => e = .returned (.tuple #[]) ∧ w = w' := by
  obtain ⟨E1, F, clock, left, kp, n, h1, _⟩ := h.body
  exact fs_off_down h1 keep
theorem on_d {t : Option ByteArray} {up : Bool} (h : RestD S w d m Ob t up j) :
    Calls Try.prog 22 #[.pointer (some ⟨d, 0, none⟩)] w fun e w' => e = .returned (.tuple #[]) ∧ RestD S w' d m Ob t true j ∧ Chg S w w' := by
  obtain ⟨E1, F, clock, left, kp, n, h1, h2⟩ := h.body
  refine (fs_on h1).mono ?_
  rintro e w' ⟨rfl, h3, h4⟩
  exact ⟨rfl, ⟨⟨E1, F, clock, left, kp, n, h3, h2⟩, h.ok, h.key⟩, h4⟩

theorem begun_o {E1 : List FEnt} (h : E1.map FEnt.view = Ob.map OEnt.view) : begun E1 tN = [] := by
  unfold begun
  rw [List.map_eq_nil_iff, List.filter_eq_nil_iff]
  intro f hf
  have : f.view ∈ Ob.map OEnt.view := by
    rw [← h]
    exact List.mem_map_of_mem hf
  obtain ⟨o, _, he⟩ := List.mem_map.1 this
  injection he with h1 _
  rw [← h1, lst_append]
  show ¬ Lib.hasPrefix (111 :: 47 :: lst o.key) [116, 47] = true
  unfold Lib.hasPrefix
  simp [List.isPrefixOf]
theorem sortT_one (x : ByteArray) : sortT [x] = [x] := by simp [sortT]
theorem begun_append (E1 F : List FEnt) (p : ByteArray) : begun (E1 ++ F) p = begun E1 p ++ begun F p := by
  unfold begun
  rw [List.filter_append, List.map_append]
set_option maxHeartbeats 2000000 in
theorem open_one (h : FS S w d m E clock true false left kp n) (hc : Cnt false left n) (hE : E.length ≤ 1048576) {x : ByteArray} (hno : begun E tN = [tN ++ x]) {i : Nat} {f : FEnt} (hi : E[i]? = some f) (hf : f.nm = tN ++ x) (hx : keyB x = true) :
    Calls Try.prog 7 #[.pointer (some ⟨d, 0, none⟩)] w fun e w' => ∃ s, e = .returned (.tuple #[.pointer (some ⟨s, 0, none⟩), .int .i64 0]) ∧ Blk w' s 56 #[.pointer (some ⟨d, 0, none⟩)] ∧ w.heap.size ≤ s ∧ FS S w' d m (E.eraseIdx i) clock true false (left - 1) kp (n + 1) ∧ Chg S w w' := by
  have hL := fs_list h hE tN
  have hU := up_any h.dsk
  rw [hno, sortT_one] at hL
  have hDel : Hid (∀ w1, Grew w w1 → Calls Try.prog 26 #[.pointer (some ⟨d, 0, none⟩), .string (tN ++ x)] w1 fun e w' => e = .returned (.int .i64 0) ∧ FS S w' d m (E.eraseIdx i) clock true false (left - 1) kp (n + 1) ∧ Chg S w1 w') := by
    intro w1 hg
    have := fs_delete (h.grew hg) hc hi (hf ▸ nm_t hx)
    rwa [hf] at this
  unfold tN at hL hDel
  simp only [List.length_cons, List.length_nil, Nat.zero_add] at hL
  generalize ((⟨#[116, 47]⟩ : ByteArray) ++ x) = y at *
  clear h hno
  go_enter Try.func7, Try.ntmps7
  go_wp2_with fail
  refine hU.mono ?_
  rintro e w1 ⟨rfl, rfl⟩
  go_wp2_with fail
  refine hL.mono ?_
  rintro e w1 ⟨A, c, rfl, hO, hG⟩
  obtain ⟨ad, y', rfl, hy, hcy⟩ := (hO.re (by decide)).at_ (k := 0) (by omega) (by decide)
  have hcy := hcy 0 _ rfl
  simp only [List.getElem?_cons_zero, Option.some.injEq] at hy
  subst hy
  simp only [Nat.zero_mul, Nat.add_zero] at hcy
  have z1 : ad.add 0 = ad := by unfold Addr.add; simp
  have hcy1 := hcy
  rw [z1] at hcy1
  clear hL z1
  go_wp2
  refine wp_loop_rounds 2 ?_
  rw [rounds_succ]
  go_wp2_with fail
  refine (hDel.out w1 hG).mono ?_
  rintro e w2 ⟨rfl, hF, hc2⟩
  have hF := Lib.hid hF
  go_wp2_with fail
  rw [rounds_succ]
  go_wp2
  go_ret2
  have hgs := hG.size
  have hcs := hc2.size
  exact ⟨w2.heap.size, by simp, Blk.new w2 _ _, by omega, hF.out.grew ((Chg.refl _ w2).alloc _), ((Chg.of_grew hG).trans hc2).alloc _⟩

theorem open_d {t : Option ByteArray} (h : RestD S w d m Ob t true j) (hS : ∀ k, S k → k < w.heap.size) (hj : j ≤ 1000000000000000000) (hE : Ob.length < 1048576) :
    Calls Try.prog 7 #[.pointer (some ⟨d, 0, none⟩)] w fun e w' => ∃ s, e = .returned (.tuple #[.pointer (some ⟨s, 0, none⟩), .int .i64 0]) ∧ LivD S w' s d m Ob (j + 1) ∧ Chg S w w' := by
  obtain ⟨E1, F, clock, left, kp, n, h1, h2, h3, h4, h5, h6⟩ := h.body
  have hl := congrArg List.length h2
  rw [List.length_map, List.length_map] at hl
  cases t with
  | none =>
    have : F = [] := by simpa using h3
    subst this
    rw [List.append_nil] at h1
    refine (open_clean h1 (by omega) (begun_o h2)).mono ?_
    rintro e w' ⟨s, rfl, h7, h8, h9⟩
    exact ⟨s, rfl, ⟨⟨E1, clock, left, kp, n, ⟨h7, fun e => by have := hS _ e; omega, h1.grew h9, h2, h.ok⟩, by omega, by omega, by omega⟩, fun k e => Nat.lt_of_lt_of_le (hS k e) h9.size⟩, Chg.of_grew h9⟩
  | some x =>
    obtain ⟨f, rfl⟩ : ∃ f, F = [f] := by
      have := congrArg List.length h3
      rw [List.length_map] at this
      match F, this with
      | [f], _ => exact ⟨f, rfl⟩
    have hf : f.nm = tN ++ x := by simpa using h3
    have hb : begun (E1 ++ [f]) tN = [tN ++ x] := by
      rw [begun_append, begun_o h2, List.nil_append]
      unfold begun
      have : Lib.hasPrefix (lst f.nm) (lst tN) = true := by
        rw [hf, lst_append]
        exact List.isPrefixOf_iff_prefix.2 (List.prefix_append _ _)
      rw [List.filter_cons, if_pos this]
      simp [hf]
    refine (open_one h1 ⟨by simp, by omega, by omega⟩ (by simp; omega) hb (i := E1.length) (f := f) (by simp) hf (h.key x (by simp))).mono ?_
    rintro e w' ⟨s, rfl, h7, h8, h9, h10⟩
    rw [show (E1 ++ [f]).eraseIdx E1.length = E1 by rw [List.eraseIdx_append_of_length_le (Nat.le_refl _), Nat.sub_self]; simp] at h9
    exact ⟨s, rfl, ⟨⟨E1, clock, left - 1, kp, n + 1, ⟨h7, fun e => by have := hS _ e; omega, h9, h2, h.ok⟩, by omega, by omega, by omega⟩, fun k e => Nat.lt_of_lt_of_le (hS k e) h10.size⟩, h10⟩
/-- no unfinished files are listed -/
theorem list_t (h : LivD S w s d m Ob j) (hE : Ob.length < 1048576) :
    Calls Try.prog 24 #[.pointer (some ⟨d, 0, none⟩), .string tN] w fun e w' => ∃ A c, e = .returned (.slice A 0 c) ∧ Grew w w' := by
  obtain ⟨E, clock, left, kp, n, h1, h2, h3, h4⟩ := h.body
  have := fs_list h1.fs (by rw [h1.len]; omega) tN
  rw [begun_o h1.vw] at this
  refine this.mono ?_
  rintro e w' ⟨A, c, h5, _, h6⟩
  exact ⟨A, c, by rw [h5]; simp [sortT], h6⟩
end
end Go.Proofs.Ytepncgeaehjhiaa

namespace Go.Proofs.Ytepncgeaehjhiaa
open Go.RowKit

theorem low_form (x : Int) : ∃ r : Nat, r < 9223372036854775808 ∧ bits .and .i64 x 9223372036854775807 = (r : Int) := by
  refine ⟨(BitVec.ofInt 64 x &&& BitVec.ofInt 64 9223372036854775807).toNat, ?_, ?_⟩
  · rw [BitVec.toNat_and]
    exact Nat.and_lt_two_pow (n := 63) _ (by decide)
  · show IntKind.i64.wrap ((BitVec.ofInt 64 x &&& BitVec.ofInt 64 9223372036854775807).toNat : Int) = _
    have : (BitVec.ofInt 64 x &&& BitVec.ofInt 64 9223372036854775807).toNat < 2 ^ 63 := by
      rw [BitVec.toNat_and]
      exact Nat.and_lt_two_pow (n := 63) _ (by decide)
    rw [IntKind.wrap_i64]
    omega
/-- a number that is not negative; the world as it was -/
def LowPost (w : World) (e : Ending) (w' : World) : Prop := ∃ r : Nat, r ≤ 9223372036854775807 ∧ e = .returned (.int .i64 (r : Int)) ∧ w = w'
set_option maxHeartbeats 400000 in
theorem low_any (x : Int) (w : World) : Calls Try.prog 18 #[.int .i64 x] w (LowPost w) := by
  obtain ⟨r, hr, he⟩ := low_form x
  have He := Lib.hid he
  clear he
  go_enter Try.func18, Try.ntmps18
  go_wp2
  go_ret
  refine ⟨r, by omega, ?_, rfl⟩
  rw [← He.out]
  simp
end Go.Proofs.Ytepncgeaehjhiaa
