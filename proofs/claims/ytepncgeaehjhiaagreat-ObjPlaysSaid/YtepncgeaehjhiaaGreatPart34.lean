/-
  Several texts in one:
  A store in use, of a disk that stays on: its calls, without the disk's own counts. Conditions: counts that have not come to their ends.
  awake: what every program answers. Conditions: none.
  The law DiskSynced, walked. Conditions: none but what memory bears.
  Arguments that came in, opened: bytes, with the form's own reach. Conditions: none; no program in sight.
  The bound of the second form, opened: bytes that came in are no longer than their bulk. Conditions: none; no program in sight.
  Arguments that came in, opened: slices whose elements take some cells each. Conditions: none.
-/
import Derived.Test.YtepncgeaehjhiaaGreatPart33
import Derived.Test.YtepncgeaehjhiaaGreatPart15
import Derived.OpenShut
import Derived.Test.YtepncgeaehjhiaaGreatPart1
import Derived.ProofKit
import Derived.ShutString
import Derived.ChangeOld
import Derived.SizedLaws
import Derived.Deep.Slices
import Derived.Deep.Fields
import Derived.Test.YtepncgeaehjhiaaGreatRows
import Derived.Test.YtepncgeaehjhiaaGreatPart2
import Derived.Deep.SlicePairs

namespace Go.Proofs.YtepncgeaehjhiaaGreat
open Go.RowKit

/-- the store s: its blocks (all but its own) lie in S; at most j writes were done -/
structure Liv (S : Nat → Prop) (w : World) (s : Nat) (Ob : List OEnt) (j : Nat) : Prop where
  body : ∃ d m E clock left kp n, Stor S w s d m Ob E clock false left kp n ∧ n ≤ j ∧ -9223372036854775808 ≤ left ∧ left ≤ 9223372036854775807
  lt : ∀ k, S k → k < w.heap.size
def Ext (S S' : Nat → Prop) (w : World) : Prop := ∀ k, S' k → S k ∨ w.heap.size ≤ k
theorem Ext.refl (S : Nat → Prop) (w : World) : Ext S S w := fun _ h => .inl h

theorem setO_len : ∀ (Ob : List OEnt) (o : OEnt), (setO Ob o).length ≤ Ob.length + 1
  | [], o => by simp [setO]
  | p :: r, o => by
    unfold setO
    split
    · simp
    · have := setO_len r o
      simp only [List.length_cons]
      omega
theorem look_set : ∀ (Ob : List OEnt) (o : OEnt) (x : ByteArray), lookO (setO Ob o) x = if o.key = x then some o else lookO Ob x
  | [], o, x => by
    unfold setO lookO
    by_cases h : o.key = x <;> simp [List.find?, h]
  | p :: r, o, x => by
    have ih := look_set r o x
    unfold lookO at ih ⊢
    unfold setO
    by_cases hp : p.key = o.key
    · rw [if_pos hp, List.find?_cons, List.find?_cons]
      by_cases h : o.key = x
      · simp [h]
      · simp [h, hp]
    · rw [if_neg hp, List.find?_cons, List.find?_cons, ih]
      by_cases h : o.key = x
      · have : p.key ≠ x := fun e => hp (e.trans h.symm)
        simp [h, this]
      · by_cases h2 : p.key = x <;> simp [h, h2]
theorem gen_set (Ob : List OEnt) (o : OEnt) : genO (setO Ob o) o.key = o.gen := by
  unfold genO
  rw [look_set, if_pos rfl]

section
variable {S : Nat → Prop} {w w' : World} {s j : Nat} {Ob : List OEnt}
theorem Liv.s_lt (h : Liv S w s Ob j) : s < w.heap.size := by
  obtain ⟨d, m, E, clock, left, kp, n, h1, _⟩ := h.body
  exact h1.st.lt
theorem Liv.sn (h : Liv S w s Ob j) : ¬ S s := by
  obtain ⟨d, m, E, clock, left, kp, n, h1, _⟩ := h.body
  exact h1.sn
theorem Liv.grew (h : Liv S w s Ob j) (hc : Grew w w') : Liv S w' s Ob j := by
  obtain ⟨d, m, E, clock, left, kp, n, h1, h2, h3, h4⟩ := h.body
  exact ⟨⟨d, m, E, clock, left, kp, n, h1.grew hc, h2, h3, h4⟩, fun k e => Nat.lt_of_lt_of_le (h.lt k e) hc.size⟩
theorem Liv.chg {T : Nat → Prop} (h : Liv S w s Ob j) (hc : Chg T w w') (hs : ¬ T s) (hT : ∀ k, S k → ¬ T k) : Liv S w' s Ob j := by
  obtain ⟨d, m, E, clock, left, kp, n, h1, h2, h3, h4⟩ := h.body
  exact ⟨⟨d, m, E, clock, left, kp, n, h1.chg hc hs hT, h2, h3, h4⟩, fun k e => Nat.lt_of_lt_of_le (h.lt k e) hc.size⟩
theorem Liv.ok (h : Liv S w s Ob j) : ∀ o ∈ Ob, o.Ok := by
  obtain ⟨d, m, E, clock, left, kp, n, h1, _⟩ := h.body
  exact h1.ok
theorem Liv.nd (h : Liv S w s Ob j) : (Ob.map OEnt.key).Nodup := by
  obtain ⟨d, m, E, clock, left, kp, n, h1, _⟩ := h.body
  exact h1.nd
/-- a disk just made, a store just opened -/
theorem Liv.start {w0 w1 w2 : World} {d m : Nat} (h : FS (fun k => w0.heap.size ≤ k) w1 d m [] 0 true false 0 0 0) (hb : Blk w2 s 51 #[.pointer (some ⟨d, 0, none⟩)]) (hs : w1.heap.size ≤ s) (hg : Grew w1 w2) :
    Liv (fun k => w0.heap.size ≤ k ∧ k < w1.heap.size) w2 s [] 0 :=
  ⟨⟨d, m, [], 0, 0, 0, 0, ⟨hb, fun e => by omega, h.tight.grew hg, rfl, fun o ho => by simp at ho⟩, by omega, by omega, by omega⟩, fun k e => by have := hg.size; omega⟩

theorem liv_put (h : Liv S w s Ob j) (hj : j ≤ 1000000000000000000) (hE : Ob.length < 1048576) (x : ByteArray) (hx : keyB x = true) (hg : genO Ob x + 1 < 18446744073709551616) (A : Option Addr) (k c : Nat) (data : List UInt8) (hr : RB w A k data) (hk : k ≤ 1048576) :
    Calls Tryz.prog 20 #[.pointer (some ⟨s, 0, none⟩), .string x, .slice A k c] w fun e w' => e = .returned (.tuple #[.int .u64 ((genO Ob x + 1 : Nat) : Int), .int .i64 0]) ∧ (∃ S', Liv S' w' s (setO Ob ⟨x, data, genO Ob x + 1⟩) (j + 3) ∧ Ext S S' w) ∧ Chg S w w' := by
  obtain ⟨d, m, E, clock, left, kp, n, h1, h2, h3, h4⟩ := h.body
  refine (put_ok h1 (fun i hi => ⟨by simp, dclN_rng ⟨h3, h4⟩ i, by omega⟩) hE x hx hg A k c data hr hk).mono ?_
  rintro e w' ⟨rfl, ⟨E', clock', h5⟩, h6⟩
  exact ⟨rfl, ⟨_, ⟨⟨d, m, E', clock', dcl (dcl (dcl left)), kp, n + 3, h5.tight, by omega, (dclN_rng ⟨h3, h4⟩ 3).1, (dclN_rng ⟨h3, h4⟩ 3).2⟩, fun k e => e.2⟩, fun k e => e.1⟩, h6⟩
theorem liv_putIf (h : Liv S w s Ob j) (hj : j ≤ 1000000000000000000) (hE : Ob.length < 1048576) (x : ByteArray) (hx : keyB x = true) (hg : genO Ob x + 1 < 18446744073709551616) (A : Option Addr) (k c : Nat) (data : List UInt8) (hr : RB w A k data) (hk : k ≤ 1048576) :
    Calls Tryz.prog 22 #[.pointer (some ⟨s, 0, none⟩), .string x, .slice A k c, .int .u64 (genO Ob x : Int)] w fun e w' => e = .returned (.tuple #[.int .u64 ((genO Ob x + 1 : Nat) : Int), .int .i64 0]) ∧ (∃ S', Liv S' w' s (setO Ob ⟨x, data, genO Ob x + 1⟩) (j + 3) ∧ Ext S S' w) ∧ Chg S w w' := by
  obtain ⟨d, m, E, clock, left, kp, n, h1, h2, h3, h4⟩ := h.body
  refine (putIf_ok h1 (fun i hi => ⟨by simp, dclN_rng ⟨h3, h4⟩ i, by omega⟩) hE x hx hg A k c data hr hk).mono ?_
  rintro e w' ⟨rfl, ⟨E', clock', h5⟩, h6⟩
  exact ⟨rfl, ⟨_, ⟨⟨d, m, E', clock', dcl (dcl (dcl left)), kp, n + 3, h5.tight, by omega, (dclN_rng ⟨h3, h4⟩ 3).1, (dclN_rng ⟨h3, h4⟩ 3).2⟩, fun k e => e.2⟩, fun k e => e.1⟩, h6⟩
theorem liv_putIf_no (h : Liv S w s Ob j) (x : ByteArray) (hx : keyB x = true) (A : Option Addr) (k c : Nat) (hk : k ≤ 1048576) (g : Nat) (hg : genO Ob x ≠ g) :
    Calls Tryz.prog 22 #[.pointer (some ⟨s, 0, none⟩), .string x, .slice A k c, .int .u64 (g : Int)] w fun e w' => e = .returned (.tuple #[.int .u64 (genO Ob x : Int), .int .i64 112]) ∧ Grew w w' := by
  obtain ⟨d, m, E, clock, left, kp, n, h1, h2, h3, h4⟩ := h.body
  exact putIf_no h1 x hx A k c hk g hg
theorem liv_get (h : Liv S w s Ob j) (x : ByteArray) (hx : keyB x = true) :
    Calls Tryz.prog 33 #[.pointer (some ⟨s, 0, none⟩), .string x] w (ReadTo w (lookO Ob x)) := by
  obtain ⟨d, m, E, clock, left, kp, n, h1, h2, h3, h4⟩ := h.body
  exact get_any h1 x hx
theorem liv_gen (h : Liv S w s Ob j) (x : ByteArray) (hx : keyB x = true) :
    Calls Tryz.prog 33 #[.pointer (some ⟨s, 0, none⟩), .string x] w fun e w' => (∃ v u, e = .returned (.tuple #[v, .int .u64 (genO Ob x : Int), u])) ∧ Grew w w' := by
  refine (liv_get h x hx).mono ?_
  intro e w' hr
  unfold ReadTo at hr
  unfold genO
  cases hl : lookO Ob x with
  | none =>
    rw [hl] at hr
    exact ⟨⟨_, _, hr.1⟩, hr.2 ▸ Chg.refl _ _⟩
  | some o =>
    rw [hl] at hr
    obtain ⟨A, c, h1, _, _, _, h2⟩ := hr
    exact ⟨⟨_, _, h1⟩, h2⟩
theorem liv_slice (h : Liv S w s Ob j) (x : ByteArray) (hx : keyB x = true) {o : OEnt} (hl : lookO Ob x = some o) (a b : Nat) (hab : a ≤ b) (hb : b ≤ o.data.length) :
    Calls Tryz.prog 25 #[.pointer (some ⟨s, 0, none⟩), .string x, .int .i64 (a : Int), .int .i64 (b : Int)] w fun e w' => ∃ A c, e = .returned (.tuple #[.slice A (b - a) c, .int .i64 0]) ∧ OB w' w.heap.size 5 A (b - a) c ((o.data.drop a).take (b - a)) ∧ Grew w w' := by
  obtain ⟨d, m, E, clock, left, kp, n, h1, h2, h3, h4⟩ := h.body
  exact slice_ok h1 x hx hl a b hab hb
theorem liv_slice_bad (h : Liv S w s Ob j) (x : ByteArray) (hx : keyB x = true) {o : OEnt} (hl : lookO Ob x = some o) (b : Nat) (hb : o.data.length < b) :
    Calls Tryz.prog 25 #[.pointer (some ⟨s, 0, none⟩), .string x, .int .i64 0, .int .i64 (b : Int)] w fun e w' => e = .returned (.tuple #[.slice none 0 0, .int .i64 113]) ∧ Grew w w' := by
  obtain ⟨d, m, E, clock, left, kp, n, h1, h2, h3, h4⟩ := h.body
  exact slice_bad h1 x hx hl b hb
theorem liv_delete (h : Liv S w s Ob j) (hj : j ≤ 1000000000000000000) {i : Nat} {o : OEnt} (hi : Ob[i]? = some o) :
    Calls Tryz.prog 29 #[.pointer (some ⟨s, 0, none⟩), .string o.key] w fun e w' => e = .returned (.int .i64 0) ∧ Liv S w' s (Ob.eraseIdx i) (j + 1) ∧ Chg S w w' := by
  obtain ⟨d, m, E, clock, left, kp, n, h1, h2, h3, h4⟩ := h.body
  refine (odelete_ok h1 ⟨by simp, by omega, by omega⟩ hi).mono ?_
  rintro e w' ⟨rfl, h5, h6⟩
  exact ⟨rfl, ⟨⟨d, m, _, clock, dcl left, kp, n + 1, h5, by omega, (dcl_rng ⟨h3, h4⟩).1, (dcl_rng ⟨h3, h4⟩).2⟩, fun k e => Nat.lt_of_lt_of_le (h.lt k e) h6.size⟩, h6⟩
theorem liv_delete_none (h : Liv S w s Ob j) (x : ByteArray) (hx : keyB x = true) (hno : ∀ o ∈ Ob, o.key ≠ x) :
    Calls Tryz.prog 29 #[.pointer (some ⟨s, 0, none⟩), .string x] w fun e w' => e = .returned (.int .i64 111) ∧ w = w' := by
  obtain ⟨d, m, E, clock, left, kp, n, h1, h2, h3, h4⟩ := h.body
  exact odelete_none h1 x hx hno
end
end Go.Proofs.YtepncgeaehjhiaaGreat

namespace Go.Proofs.YtepncgeaehjhiaaGreat
open Go.RowKit

theorem writes_any {O : Nat → Prop} {w : World} {d m : Nat} {es : Array MapEntry} {clock : Nat} {up armed : Bool} {left keep : Int} {n : Nat} (hD : Dsk O w d m es clock up armed left keep n) :
    Calls Tryz.prog 38 #[.pointer (some ⟨d, 0, none⟩)] w fun e w' => e = .returned (.int .u64 (n : Int)) ∧ w = w' := by
  have c5 := hD.c5
  go_enter Tryz.func38, Tryz.ntmps38
  go_wp2
  go_ret
  exact ⟨by simp, rfl⟩
theorem list_off {O : Nat → Prop} {w : World} {d m : Nat} {es : Array MapEntry} {clock : Nat} {armed : Bool} {left keep : Int} {n : Nat} (hD : Dsk O w d m es clock false armed left keep n) (x : ByteArray) :
    Calls Tryz.prog 14 #[.pointer (some ⟨d, 0, none⟩), .string x] w fun e w' => e = .returned (.slice none 0 0) ∧ w = w' := by
  have c1 := hD.c1
  go_enter Tryz.func14, Tryz.ntmps14
  go_wp2
  go_ret
  exact ⟨by simp, rfl⟩

section
variable {O : Nat → Prop} {w w' : World} {g : Nat} {A : Option Addr} {c : Nat} {l : List UInt8} {sy : Nat}
theorem Fil.al (h : Fil O w g A c l sy) : ∀ ad, A = some ad → ad.block < w.heap.size := fun ad e => (Own.blk_lt h.hA ad e).2
end

theorem grow_of {S : Nat → Prop} {w w1 w2 : World} (hg : Grew w w1) (hc : Chg S w1 w2) (hS : ∀ k, S k → w.heap.size ≤ k) : Grew w w2 := hg.step hc fun k hk h => absurd (hS k h) (by omega)
theorem grow1 {a : Nat} {w w1 w2 : World} (hg : Grew w w1) (hc : Chg (fun k => k = a) w1 w2) (h : w.heap.size ≤ a) : Grew w w2 := grow_of hg hc fun k e => by
  have e : k = a := e
  omega
theorem grow2 {a b : Nat} {w w1 w2 : World} (hg : Grew w w1) (hc : Chg (fun k => k = a ∨ k = b) w1 w2) (h : w.heap.size ≤ a) (h' : w.heap.size ≤ b) : Grew w w2 := grow_of hg hc fun k e => by
  have e : k = a ∨ k = b := e
  omega
theorem grow3 {a b : Nat} {A : Option Addr} {w w1 w2 : World} (hg : Grew w w1) (hc : Chg (fun k => k = a ∨ k = b ∨ ∃ ad, A = some ad ∧ k = ad.block) w1 w2) (h : w.heap.size ≤ a) (h' : w.heap.size ≤ b) (h'' : ∀ ad, A = some ad → w.heap.size ≤ ad.block) : Grew w w2 := grow_of hg hc fun k e => by
  rcases e with e | e | ⟨ad, e, e2⟩
  · omega
  · omega
  · have := h'' ad e
    omega
theorem find_none (x : ByteArray) : Instr.findNow .string (.string x) (#[] : Array MapEntry).toList 0 = some none := rfl

end Go.Proofs.YtepncgeaehjhiaaGreat

namespace Go.Proofs.YtepncgeaehjhiaaGreat
open Go.RowKit

/-- append onto a row of bytes of the call's own, where the operation has a guard that holds -/
theorem wpList_appBw {ops : Array Oper} {rest : List Oper} {o : Oper} {a : Act} {w : World} {Q : Exit → Act → World → Prop} (hw : Region.wanted o (yielded ops a.tmps) = true) (s x : Operand)
    (ho : o.op = .call { callee := .builtin .append, args := #[s, x], argTypes := #[37, 37] })
    (base : Nat) (A : Option Addr) (n c : Nat) (l : List UInt8) (hs : a.eval s = .slice A n c) (hown : OB w base 5 A n c l) (hbase : base ≤ w.heap.size)
    (B : Option Addr) (m d : Nat) (r : List UInt8) (hx : a.eval x = .slice B m d) (hr : RB w B m r) (hbytes : n + m ≤ 140737488355328)
    (h : ∀ A' c' w', ApB w base A (n + m) c (l ++ r) A' c' w' → wpList Tryz.prog ops Q rest (a.put o.dst (.slice A' (n + m) c')) w') : wpList Tryz.prog ops Q (o :: rest) a w := by
  obtain ⟨i0, hi, hz0, hz1, hz2⟩ := info_parts infoU8
  refine wpList_step fun K hK => ?_
  rw [if_pos hw]
  refine wp_app w s x 37 5 ho i0 (.int .u8 0) 1 1 Tryz.underlying37 hi hz0 hz1 hz2 rfl base A n c _ hs hown hbase B m d _ hx (by simpa using hr.1) hr.2 (byt_one r) (by unfold maxLen; omega) (by omega) ?_
  intro A' c' w' h1
  exact hK _ _ (h A' c' w' (by unfold ApB; rw [List.map_append]; exact h1))

theorem stay_none {a b : Nat} {kp : Int} (h : ¬ 0 < kp) : stayN (a + b) a kp = a := by
  unfold stayN
  split
  · have : kp = 0 := by omega
    subst this
    simp
  · rfl
theorem stay_some {a b k : Nat} : stayN (a + b) a (k : Int) = a + k % (b + 1) := by
  unfold stayN
  rw [if_pos (by omega)]
  have : a + b - a + 1 = b + 1 := by omega
  rw [this]
  rfl
theorem take_both {α : Type} (a b : List α) (k : Nat) : (a ++ b).take (a.length + k) = a ++ b.take k := by
  rw [List.take_append, List.take_of_length_le (by omega), Nat.add_sub_cancel_left]

end Go.Proofs.YtepncgeaehjhiaaGreat

namespace Go.Proofs.YtepncgeaehjhiaaGreat
open Go.ChangeShapes Go.WideShapes Go.ChangeAt Go.RowKit

theorem u8_of_wf {z : Int} (h : (Lit.int .u8 z).wf = true) : ((UInt8.ofNat z.toNat).toNat : Int) = z := by
  have := Go.bounds_u8 h
  rw [UInt8.toNat_ofNat']
  omega

theorem open_bytes {H : Type} {enc : TypeId × Value → H} {P : Program} {W : World} {base : Nat} {spare : Nat → Bool} {held : Bool} {t e : TypeId} (ht : P.underlying t = some (.slice e)) (he : P.underlying e = some (.int .u8)) (hC : P.cellsOf e = 1) (hB : P.bytesOf e = 1)
    {ts : List TypeId} {ds : List (DataW H)} {j : Nat} {d : DataW H} (hsz : (DataW.weightsEach P ts ds).all (· ≤ reachBytes) = true) (htj : ts[j]? = some t) (hdj : ds[j]? = some d)
    {A : Option Addr} {n c : Nat} {p : List MemPlace} (h : DataW.Trod enc P W base spare held t (.slice A n c) d p) : ∃ l : List UInt8, RB W A n l ∧ n ≤ 140737488351232 := by
  obtain ⟨fuel, hf⟩ := h
  rcases open_ints ht he hC hf with ⟨hcs, _⟩ | ⟨x, l, c', zs, hcs, _, hl, hm, hz, hx, hcell, hwz⟩
  · simp [Value.cells] at hcs
    obtain ⟨rfl, rfl, rfl⟩ := hcs
    exact ⟨[], ⟨rfl, Rd.nil _ _⟩, by omega⟩
  · simp [Value.cells] at hcs
    obtain ⟨rfl, rfl, rfl⟩ := hcs
    simp only [Prod.mk.injEq] at hx
    obtain ⟨rfl, _⟩ := hx
    have hlen : n ≤ zs.length := by rw [hz]; split <;> omega
    refine ⟨(zs.take n).map fun z => UInt8.ofNat z.toNat, ⟨by simp; omega, ?_⟩, ?_⟩
    · intro k u hu
      refine ⟨x, rfl, ?_⟩
      simp only [List.map_map, List.getElem?_map, List.getElem?_take] at hu
      split at hu
      · rename_i hk
        rw [hcell k (by omega)]
        rw [List.getElem?_eq_getElem (by omega)] at hu
        simp only [Option.map_some, Option.some.injEq, Function.comp, byt] at hu
        rw [← hu, u8_of_wf (hwz _ (List.getElem_mem _)), List.getD_eq_getElem?_getD, List.getElem?_eq_getElem (by omega)]
        rfl
      · simp at hu
    · have := sized_slice hsz htj hdj ht
      rw [hB] at this
      simp only [Go.ChangeShapes.lits, List.length_map, List.length_take, List.length_drop, reachBytes] at this
      omega

theorem open_bytes2 {H : Type} {enc : TypeId × Value → H} {P : Program} {W : World} {base : Nat} {spare : Nat → Bool} {held : Bool} {t e : TypeId} (ht : P.underlying t = some (.slice e)) (he : P.underlying e = some (.int .u8)) (hC : P.cellsOf e = 1) (hB : P.bytesOf e = 1)
    {ts : List TypeId} {ds : List (DataW H)} {j : Nat} {d : DataW H} (hsz : (DataW.weightsEach P ts ds).all (· ≤ reachBytes) = true) (htj : ts[j]? = some t) (hdj : ds[j]? = some d)
    {A : Option Addr} {n c : Nat} {p : List MemPlace} (h : DataW.Trod enc P W base spare held t (.slice A n c) d p) : ∃ l : List UInt8, RB W A n l ∧ n ≤ 140737488351232 ∧ (n ≤ c ∧ c ≤ 9223372036854775807) := by
  have hc : n ≤ c ∧ c ≤ 9223372036854775807 := by
    obtain ⟨fuel, hf⟩ := h
    rcases open_ints ht he hC hf with ⟨hcs, _⟩ | ⟨x, l, c', zs, hcs, _, hl, hm, hz, hx, hcell, hwz⟩
    · simp [Value.cells] at hcs
      obtain ⟨rfl, rfl, rfl⟩ := hcs
      omega
    · simp [Value.cells] at hcs
      obtain ⟨rfl, rfl, rfl⟩ := hcs
      unfold maxLen at hm
      omega
  obtain ⟨l, h1, h2⟩ := open_bytes ht he hC hB hsz htj hdj h
  exact ⟨l, h1, h2, hc⟩
end Go.Proofs.YtepncgeaehjhiaaGreat

namespace Go.Proofs.YtepncgeaehjhiaaGreat
open Go.ChangeShapes Go.WideShapes Go.ChangeAt Go.RowKit

theorem bulk_one {H : Type} (d : DataW H) : 1 ≤ Rows.uptoBulk d := by
  cases d with
  | lit l => cases l <;> simp [Rows.uptoBulk]
  | _ => simp [Rows.uptoBulk]
theorem bulk_len {H : Type} (l : List (DataW H)) : l.length ≤ Rows.uptoBulkAll l := by
  induction l with
  | nil => simp [Rows.uptoBulkAll]
  | cons x r ih => have := bulk_one x; simp only [Rows.uptoBulkAll, List.length_cons]; omega

theorem open_bulk {H : Type} {enc : TypeId × Value → H} {P : Program} {W : World} {base : Nat} {spare : Nat → Bool} {held : Bool} {t e : TypeId} (ht : P.underlying t = some (.slice e)) (he : P.underlying e = some (.int .u8)) (hC : P.cellsOf e = 1)
    {d : DataW H} {A : Option Addr} {n c : Nat} {p : List MemPlace} (h : DataW.Trod enc P W base spare held t (.slice A n c) d p) : n ≤ Rows.uptoBulk d := by
  obtain ⟨fuel, hf⟩ := h
  rcases open_ints ht he hC hf with ⟨hcs, _⟩ | ⟨x, l, c', zs, hcs, _, hl, hm, hz, hx, hcell, hwz⟩
  · simp [Value.cells] at hcs
    obtain ⟨rfl, rfl, rfl⟩ := hcs
    exact Nat.zero_le _
  · simp [Value.cells] at hcs
    obtain ⟨rfl, rfl, rfl⟩ := hcs
    simp only [Prod.mk.injEq] at hx
    obtain ⟨rfl, _⟩ := hx
    have hlen : n ≤ zs.length := by rw [hz]; split <;> omega
    have := bulk_len (H := H) (Go.ChangeShapes.lits .u8 (zs.take n))
    simp only [Go.ChangeShapes.lits, List.length_map, List.length_take] at this
    simp only [Rows.uptoBulk, Go.ChangeShapes.lits]
    omega
end Go.Proofs.YtepncgeaehjhiaaGreat

namespace Go.Proofs.YtepncgeaehjhiaaGreat
open Go.ChangeShapes Go.WideShapes Go.ChangeAt Go.RowKit Go.Deep

theorem list_of {α : Type} (n : Nat) (p : Nat → α → Prop) (h : ∀ i, i < n → ∃ x, p i x) : ∃ l : List α, l.length = n ∧ ∀ i x, l[i]? = some x → p i x := by
  induction n with
  | zero => exact ⟨[], rfl, fun i x hx => by simp at hx⟩
  | succ n ih =>
    obtain ⟨l, hl, hp⟩ := ih fun i hi => h i (by omega)
    obtain ⟨x, hx⟩ := h n (by omega)
    refine ⟨l ++ [x], by simp [hl], fun i y hy => ?_⟩
    rcases Nat.lt_or_ge i l.length with hi | hi
    · rw [List.getElem?_append_left hi] at hy
      exact hp i y hy
    · rw [List.getElem?_append_right hi] at hy
      have : i - l.length = 0 := by
        rcases Nat.eq_zero_or_pos (i - l.length) with e | e
        · exact e
        · rw [List.getElem?_eq_none (by simp; omega)] at hy; cases hy
      rw [this] at hy
      obtain rfl := Option.some.inj hy
      rw [show i = n by omega]
      exact hx
theorem bulk_all_mem {H : Type} {d : DataW H} : ∀ {l : List (DataW H)}, d ∈ l → Rows.uptoBulk d ≤ Rows.uptoBulkAll l
  | x :: r, h => by
    simp only [Rows.uptoBulkAll]
    rcases List.mem_cons.1 h with rfl | h
    · omega
    · have := bulk_all_mem h; omega

section
variable {H : Type} {enc : TypeId × Value → H} {P : Program} {W : World} {base : Nat} {spare : Nat → Bool} {held : Bool}
theorem open_elems {α : Type} (E : El α) (Q : α → DataW H → Prop) {t e : TypeId} (ht : P.underlying t = some (.slice e)) (ce : P.cellsOf e = E.sz)
    (dec : ∀ n cs x, DataW.trod enc P W base spare held n e cs = some x → cs.length = P.cellsOf e → ∃ y, cs = E.cells y ∧ Q y x.1)
    {A : Option Addr} {n c : Nat} {d : DataW H} {p : List MemPlace} (h : DataW.Trod enc P W base spare held t (.slice A n c) d p) :
    ∃ l : List α, RE E W A n l ∧ n ≤ Rows.uptoBulk d ∧ (n ≤ c ∧ c ≤ 9223372036854775807) ∧ ∀ y ∈ l, ∃ dd, Q y dd ∧ Rows.uptoBulk dd ≤ Rows.uptoBulk d := by
  obtain ⟨fuel, hf⟩ := h
  rcases open_slice ht hf with ⟨hcs, _⟩ | ⟨a, len, cap, m, n', D, Pl, hcs, hb, hl, hm, hmm, hx, hel⟩
  · simp [Value.cells] at hcs
    obtain ⟨rfl, rfl, rfl⟩ := hcs
    exact ⟨[], RE.nil _ _, Nat.zero_le _, by omega, fun y hy => by cases hy⟩
  · simp [Value.cells] at hcs
    obtain ⟨rfl, rfl, rfl⟩ := hcs
    simp only [Prod.mk.injEq] at hx
    obtain ⟨rfl, _⟩ := hx
    have hlm : n ≤ m := by rw [hmm]; split <;> omega
    have key : ∀ i, i < n → ∃ y, (∀ j u, (E.cells y)[j]? = some u → W.cell? (a.add (i * E.sz + j)) = some u) ∧ Q y (D i) := fun i hi => by
      obtain ⟨cs', h1, h2⟩ := hel i (by omega)
      obtain ⟨_, hlen, hcell⟩ := World.cells?_some h1
      obtain ⟨y, rfl, hq⟩ := dec _ _ _ h2 hlen
      refine ⟨y, fun j u hu => ?_, hq⟩
      have hj : j < (E.cells y).length := (List.getElem?_eq_some_iff.1 hu).1
      have h3 := hcell j (by rw [← hlen]; exact hj)
      rw [add_add, ce] at h3
      rw [h3]
      exact hu
    obtain ⟨l, hll, hlp⟩ := list_of n _ key
    refine ⟨l, ⟨hll, fun k u hu => ⟨a, rfl, ?_⟩⟩, ?_, by unfold maxLen at hm; omega, fun y hy => ?_⟩
    · have hk := (List.getElem?_eq_some_iff.1 hu).1
      rw [El.flat_length, hll] at hk
      have hs : 0 < E.sz := by
        rcases Nat.eq_zero_or_pos E.sz with e0 | e0
        · rw [e0] at hk; omega
        · exact e0
      obtain ⟨i, j, rfl, hj⟩ : ∃ i j, k = i * E.sz + j ∧ j < E.sz := ⟨k / E.sz, k % E.sz, by rw [Nat.mul_comm]; exact (Nat.div_add_mod k E.sz).symm, Nat.mod_lt _ hs⟩
      have hi : i < n := by
        rcases Nat.lt_or_ge i n with h1 | h1
        · exact h1
        · have := Nat.mul_le_mul_right E.sz h1; omega
      have hx : l[i]? = some l[i] := List.getElem?_eq_getElem (by omega)
      rw [E.flat_get l hx hj] at hu
      exact (hlp i _ hx).1 j u hu
    · have := bulk_len (H := H) ((List.range n).map D)
      simp only [List.length_map, List.length_range] at this
      simp only [Rows.uptoBulk]
      omega
    · obtain ⟨i, hi⟩ := List.mem_iff_getElem?.1 hy
      have hin : i < n := by have := (List.getElem?_eq_some_iff.1 hi).1; omega
      refine ⟨D i, (hlp i y hi).2, ?_⟩
      have : D i ∈ (List.range n).map D := List.mem_map.2 ⟨i, List.mem_range.2 hin, rfl⟩
      have := bulk_all_mem this
      simp only [Rows.uptoBulk]
      omega
end
end Go.Proofs.YtepncgeaehjhiaaGreat
