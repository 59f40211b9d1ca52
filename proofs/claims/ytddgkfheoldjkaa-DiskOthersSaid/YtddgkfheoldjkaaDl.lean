/-
  The statements' own helpers on lists of bytes: SameBytes, CopyBytes: what each call does. Conditions: lengths that memory bears.
-/
import Derived.Test.YtddgkfheoldjkaaMem
import Derived.Test.YtddgkfheoldjkaaRows
namespace Go.Proofs.Ytddgkfheoldjkaa
open Go.RowKit

theorem infoU8 : (Try.prog.info? 5).map (fun i => (i.zero, i.size, i.bytes)) = some (some (.int .u8 0), 1, 1) := by kernel_rfl

/-- what an append of bytes leaves -/
def ApB (w : World) (base : Nat) (A : Option Addr) (n c : Nat) (l : List UInt8) (A' : Option Addr) (c' : Nat) (w' : World) : Prop := Apped w base 5 1 A n c (l.map byt) A' c' w'
theorem ApB.ob {w w' : World} {base : Nat} {A A' : Option Addr} {n c c' : Nat} {l : List UInt8} (h : ApB w base A n c l A' c' w') : OB w' base 5 A' n c' l := h.1
theorem ApB.chg {w w' : World} {base : Nat} {A A' : Option Addr} {n c c' : Nat} {l : List UInt8} (h : ApB w base A n c l A' c' w') : Chg (fun k => ∃ ad, A = some ad ∧ k = ad.block) w w' := h.2.1
/-- .. onto a row that was made just now: nothing older has turned -/
theorem ApB.grew {w0 w w' : World} {base : Nat} {A A' : Option Addr} {n c c' : Nat} {l : List UInt8} (h : ApB w base A n c l A' c' w') (hg : Grew w0 w) (hA : ∀ ad, A = some ad → w0.heap.size ≤ ad.block) : Grew w0 w' :=
  hg.step h.chg fun k hk ⟨ad, e, he⟩ => by have := hA ad e; omega

/-- append onto a row of bytes of the call's own -/
theorem wpList_appB {ops : Array Oper} {rest : List Oper} {o : Oper} {a : Act} {w : World} {Q : Exit → Act → World → Prop} (hgd : o.guard = none) (s x : Operand)
    (ho : o.op = .call { callee := .builtin .append, args := #[s, x], argTypes := #[22, 22] })
    (base : Nat) (A : Option Addr) (n c : Nat) (l : List UInt8) (hs : a.eval s = .slice A n c) (hown : OB w base 5 A n c l) (hbase : base ≤ w.heap.size)
    (B : Option Addr) (m d : Nat) (r : List UInt8) (hx : a.eval x = .slice B m d) (hr : RB w B m r) (hbytes : n + m ≤ 140737488355328)
    (h : ∀ A' c' w', ApB w base A (n + m) c (l ++ r) A' c' w' → wpList Try.prog ops Q rest (a.put o.dst (.slice A' (n + m) c')) w') : wpList Try.prog ops Q (o :: rest) a w := by
  obtain ⟨i0, hi, hz0, hz1, hz2⟩ := info_parts infoU8
  refine wpList_app w hgd s x 22 5 ho i0 (.int .u8 0) 1 1 Try.underlying22 hi hz0 hz1 hz2 rfl base A n c _ hs hown hbase B m d _ hx (by simpa using hr.1) hr.2 (byt_one r) (by unfold maxLen; omega) (by omega) ?_
  intro A' c' w' h1
  exact h A' c' w' (by unfold ApB; rw [List.map_append]; exact h1)

/-- new memory that holds these bytes; nothing that was there has turned -/
def NewB (w : World) (n : Nat) (l : List UInt8) (e : Ending) (w' : World) : Prop := ∃ A c, e = .returned (.slice A n c) ∧ OB w' w.heap.size 5 A n c l ∧ Grew w w'

theorem head_ge {w : World} {B : Nat} (h : B ≤ w.heap.size) : ∀ ad, (some ⟨w.heap.size, 0, none⟩ : Option Addr) = some ad → B ≤ ad.block := by
  rintro ad e
  injection e with e
  subst e
  exact h

/-- new bytes, laid by the walk -/
theorem RB.new (w : World) (l : List UInt8) (n : Nat) (cs : Array Value) (t : TypeId) (hn : l.length = n) (hc : cs = (l.map byt).toArray) : RB (w.alloc (.cells cs t)) (some ⟨w.heap.size, 0, none⟩) n l :=
  ⟨hn, by subst hc; exact Rd.new w (l.map byt).toArray t⟩
theorem RB.newAt {w : World} {B : Nat} {l : List UInt8} {n : Nat} {cs : Array Value} {t : TypeId} (hB : B = w.heap.size) (hn : l.length = n) (hc : cs = (l.map byt).toArray) : RB (w.alloc (.cells cs t)) (some ⟨B, 0, none⟩) n l := by
  subst hB
  exact RB.new w l n cs t hn hc
theorem RB.drop {w : World} {ad : Addr} {n : Nat} {l : List UInt8} (h : RB w (some ad) n l) (i : Nat) : RB w (some (ad.add i)) (n - i) (l.drop i) := by
  refine ⟨by rw [List.length_drop, h.1], ?_⟩
  rw [List.map_drop]
  exact h.2.drop i
theorem RB.take {w : World} {A : Option Addr} {n : Nat} {l : List UInt8} (h : RB w A n l) {i : Nat} (hi : i ≤ n) : RB w A i (l.take i) := by
  refine ⟨by rw [List.length_take, h.1]; omega, ?_⟩
  rw [List.map_take]
  exact h.2.take i

set_option maxHeartbeats 400000 in
theorem copyBytes_any (A : Option Addr) (n c : Nat) (l : List UInt8) (w : World) (h : RB w A n l) (hn : n ≤ 140737488355328) :
    Calls Try.prog 9 #[.slice A n c] w (NewB w n l) := by
  have hown : OB (w.alloc (.cells #[] 5)) w.heap.size 5 (some ⟨w.heap.size, 0, none⟩) 0 0 [] := Own.made w w.heap.size 5 1 (Nat.le_refl _)
  have hr : RB (w.alloc (.cells #[] 5)) A n l := h.grew ((Chg.refl _ w).alloc _)
  go_enter Try.func9, Try.ntmps9
  go_wp2_with (at_builtin; refine wpList_appB rfl _ _ rfl w.heap.size _ 0 0 [] rfl hown (by simp) A n c l rfl hr (by omega) ?_; intro A' c' w' h1)
  go_ret
  simp only [Nat.zero_add, List.nil_append] at h1
  exact ⟨A', c', by simp, h1.ob, h1.grew ((Chg.refl _ w).alloc _) (head_ge (Nat.le_refl _))⟩

set_option maxHeartbeats 400000 in
theorem sameBytes_any (A B : Option Addr) (n m c d : Nat) (l r : List UInt8) (w : World) (ha : RB w A n l) (hb : RB w B m r) (hn : n ≤ 9223372036854775807) (hm : m ≤ 9223372036854775807) :
    Calls Try.prog 15 #[.slice A n c, .slice B m d] w fun e w' => e = .returned (.bool (l == r)) ∧ ∃ k, w' = w.drewN k := by
  by_cases hnm : n = m
  · subst hnm
    go_enter Try.func15, Try.ntmps15
    go_wp2
    go_loopw [5] (fun i wr => ∃ k : Nat, k ≤ n ∧ i = .int .i64 k ∧ l.take k = r.take k ∧ ∃ j, wr = w.drewN j) (fun i _ => n - (intOf i).toNat)
    case atStart => exact ⟨0, Nat.zero_le _, rfl, rfl, 0, rfl⟩
    case round =>
      obtain ⟨k, hk, rfl, ht, j, rfl⟩ := hrel
      by_cases hlt : k < n
      · obtain ⟨ad, x, rfl, hx, hcx⟩ := ha.at_ hlt
        obtain ⟨bd, y, rfl, hy, hcy⟩ := hb.at_ hlt
        go_wp2
        go_quiet (fail)
        go_wp2
        · have hne : ((x.toNat : Int) != (y.toNat : Int)) = true := by assumption
          go_ret
          refine ⟨?_, j + nq, by simp⟩
          have : (l == r) = false := by
            simp only [beq_eq_false_iff_ne, ne_eq]
            rintro rfl
            rw [hx] at hy
            injection hy with hy
            subst hy
            simp at hne
          simp [this]
        · have he : ((x.toNat : Int) != (y.toNat : Int)) = false := by assumption
          go_roundw
          case rel =>
            refine ⟨k + 1, by omega, by go_num, ?_, _, rfl⟩
            have hxy : x = y := by
              simp only [bne_eq_false_iff_eq] at he
              exact UInt8.toNat_inj.1 (by omega)
            rw [List.take_add_one, List.take_add_one, ht, hx, hy, hxy]
          case measure => simp [intOf]; omega
      · have hkn : k = n := by omega
        subst hkn
        go_wp2
        go_ret
        refine ⟨?_, _, rfl⟩
        have h1 : l.take k = l := List.take_of_length_le (by rw [ha.1]; omega)
        have h2 : r.take k = r := List.take_of_length_le (by rw [hb.1]; omega)
        rw [h1, h2] at ht
        simp [ht]
  · go_enter Try.func15, Try.ntmps15
    go_wp2
    go_ret
    refine ⟨?_, 0, rfl⟩
    have : (l == r) = false := by
      have h1 := ha.1
      have h2 := hb.1
      simp only [beq_eq_false_iff_ne, ne_eq]
      rintro rfl
      omega
    simp [this]

theorem sameBytes_yes (A B : Option Addr) (n m c d : Nat) (l : List UInt8) (w : World) (ha : RB w A n l) (hb : RB w B m l) (hn : n ≤ 9223372036854775807) (hm : m ≤ 9223372036854775807) :
    Calls Try.prog 15 #[.slice A n c, .slice B m d] w fun e w' => e = .returned (.bool true) ∧ ∃ k, w' = w.drewN k := by
  have := sameBytes_any A B n m c d l l w ha hb hn hm
  simpa using this

/-- a list of bytes lent: a copy of them in new memory, two marks behind it -/
def LentB (w : World) (n : Nat) (l : List UInt8) (e : Ending) (w' : World) : Prop := ∃ A c, e = .returned (.slice A n c) ∧ OB w' w.heap.size 5 A (n + 2) c (l ++ [201, 201]) ∧ Grew w w'

end Go.Proofs.Ytddgkfheoldjkaa
