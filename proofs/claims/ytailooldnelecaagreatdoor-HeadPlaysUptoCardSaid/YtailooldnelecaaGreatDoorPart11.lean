/-
  Several texts in one:
  The statements' own helpers on lists of bytes: SameBytes, CopyBytes, LendBytes, KeptBytes, SpoilBytes: what each call does. Conditions: lengths that memory bears.
  Lists of points: CopyPoints, SamePoints, LendPoints, KeptPoints, SpoilPoints: what each call does. Conditions: lengths that memory bears.
  Names of labels; points that rise. Conditions: none.
  The form of a list of labels; points that rise. Conditions: none.
-/
import Derived.Test.YtailooldnelecaaGreatDoorPart1
import Derived.Test.YtailooldnelecaaGreatDoorRows
import Derived.Test.YtailooldnelecaaGreatDoorPart2
import Derived.Test.YtailooldnelecaaGreatDoorPart7
import Derived.Test.YtailooldnelecaaGreatDoorPart9
import Derived.Test.YtailooldnelecaaGreatDoorPart10

namespace Go.Proofs.YtailooldnelecaaGreatDoor
open Go.RowKit

theorem infoU8 : (Tryz.prog.info? 5).map (fun i => (i.zero, i.size, i.bytes)) = some (some (.int .u8 0), 1, 1) := by kernel_rfl

/-- what an append of bytes leaves -/
def ApB (w : World) (base : Nat) (A : Option Addr) (n c : Nat) (l : List UInt8) (A' : Option Addr) (c' : Nat) (w' : World) : Prop := Apped w base 5 1 A n c (l.map byt) A' c' w'
theorem ApB.ob {w w' : World} {base : Nat} {A A' : Option Addr} {n c c' : Nat} {l : List UInt8} (h : ApB w base A n c l A' c' w') : OB w' base 5 A' n c' l := h.1
theorem ApB.chg {w w' : World} {base : Nat} {A A' : Option Addr} {n c c' : Nat} {l : List UInt8} (h : ApB w base A n c l A' c' w') : Chg (fun k => ∃ ad, A = some ad ∧ k = ad.block) w w' := h.2.1
/-- .. onto a row that was made just now: nothing older has turned -/
theorem ApB.grew {w0 w w' : World} {base : Nat} {A A' : Option Addr} {n c c' : Nat} {l : List UInt8} (h : ApB w base A n c l A' c' w') (hg : Grew w0 w) (hA : ∀ ad, A = some ad → w0.heap.size ≤ ad.block) : Grew w0 w' :=
  hg.step h.chg fun k hk ⟨ad, e, he⟩ => by have := hA ad e; omega

/-- append onto a row of bytes of the call's own -/
theorem wpList_appB {ops : Array Oper} {rest : List Oper} {o : Oper} {a : Act} {w : World} {Q : Exit → Act → World → Prop} (hgd : o.guard = none) (s x : Operand)
    (ho : o.op = .call { callee := .builtin .append, args := #[s, x], argTypes := #[73, 73] })
    (base : Nat) (A : Option Addr) (n c : Nat) (l : List UInt8) (hs : a.eval s = .slice A n c) (hown : OB w base 5 A n c l) (hbase : base ≤ w.heap.size)
    (B : Option Addr) (m d : Nat) (r : List UInt8) (hx : a.eval x = .slice B m d) (hr : RB w B m r) (hbytes : n + m ≤ 140737488355328)
    (h : ∀ A' c' w', ApB w base A (n + m) c (l ++ r) A' c' w' → wpList Tryz.prog ops Q rest (a.put o.dst (.slice A' (n + m) c')) w') : wpList Tryz.prog ops Q (o :: rest) a w := by
  obtain ⟨i0, hi, hz0, hz1, hz2⟩ := info_parts infoU8
  refine wpList_app w hgd s x 73 5 ho i0 (.int .u8 0) 1 1 Tryz.underlying73 hi hz0 hz1 hz2 rfl base A n c _ hs hown hbase B m d _ hx (by simpa using hr.1) hr.2 (byt_one r) (by unfold maxLen; omega) (by omega) ?_
  intro A' c' w' h1
  exact h A' c' w' (by unfold ApB; rw [List.map_append]; exact h1)

/-- new memory that holds these bytes; nothing that was there has turned -/
def NewB (w : World) (n : Nat) (l : List UInt8) (e : Ending) (w' : World) : Prop := ∃ A c, e = .returned (.slice A n c) ∧ OB w' w.heap.size 5 A n c l ∧ Grew w w'

theorem head_ge {w : World} {B : Nat} (h : B ≤ w.heap.size) : ∀ ad, (some ⟨w.heap.size, 0, none⟩ : Option Addr) = some ad → B ≤ ad.block := by
  rintro ad e
  injection e with e
  subst e
  exact h

/-- new bytes, laid by the walk -/
theorem RB.new (w : World) (l : List UInt8) (n : Nat) (cs : Array Value) (t : TypeId) (hn : l.length = n) (hc : cs = (l.map byt).toArray) : RB (w.alloc (.cells cs t)) (some ⟨w.heap.size, 0, none⟩) n l :=
  ⟨hn, by subst hc; exact Rd.new w (l.map byt).toArray t⟩
theorem RB.newAt {w : World} {B : Nat} {l : List UInt8} {n : Nat} {cs : Array Value} {t : TypeId} (hB : B = w.heap.size) (hn : l.length = n) (hc : cs = (l.map byt).toArray) : RB (w.alloc (.cells cs t)) (some ⟨B, 0, none⟩) n l := by
  subst hB
  exact RB.new w l n cs t hn hc
theorem RB.drop {w : World} {ad : Addr} {n : Nat} {l : List UInt8} (h : RB w (some ad) n l) (i : Nat) : RB w (some (ad.add i)) (n - i) (l.drop i) := by
  refine ⟨by rw [List.length_drop, h.1], ?_⟩
  rw [List.map_drop]
  exact h.2.drop i
theorem RB.take {w : World} {A : Option Addr} {n : Nat} {l : List UInt8} (h : RB w A n l) {i : Nat} (hi : i ≤ n) : RB w A i (l.take i) := by
  refine ⟨by rw [List.length_take, h.1]; omega, ?_⟩
  rw [List.map_take]
  exact h.2.take i

/-- a list of bytes lent: a copy of them in new memory, two marks behind it -/
def LentB (w : World) (n : Nat) (l : List UInt8) (e : Ending) (w' : World) : Prop := ∃ A c, e = .returned (.slice A n c) ∧ OB w' w.heap.size 5 A (n + 2) c (l ++ [201, 201]) ∧ Grew w w'

end Go.Proofs.YtailooldnelecaaGreatDoor

namespace Go.Proofs.YtailooldnelecaaGreatDoor
open Go.RowKit

/-- a point in cells -/
def elPt : El (Int × Nat) := ⟨fun p => [.int .i64 p.1, .int .u64 (p.2 : Int)], 2, fun _ => rfl, by
  intro x u hu
  simp only [List.mem_cons, List.not_mem_nil, or_false] at hu
  rcases hu with rfl | rfl <;> rfl⟩

theorem infoPt : (Tryz.prog.info? 69).map (fun i => (i.zero, i.size, i.bytes)) = some (some (.agg #[.int .i64 0, .int .u64 0]), 2, 16) := by kernel_rfl

theorem RE.pt {w : World} {A : Option Addr} {n : Nat} {l : List (Int × Nat)} (h : RE elPt w A n l) {k : Nat} (hk : k < n) :
    ∃ ad p, A = some ad ∧ l[k]? = some p ∧ w.cell? (ad.add (k * 2)) = some (.int .i64 p.1) ∧ w.cell? ⟨(ad.add (k * 2)).block, (ad.add (k * 2)).off + 1, none⟩ = some (.int .u64 (p.2 : Int)) := by
  obtain ⟨ad, p, e, hp, hc⟩ := h.at_ hk (by decide)
  exact ⟨ad, p, e, hp, hc 0 _ rfl, cell_off (by decide) (hc 1 _ rfl)⟩

theorem RE.pt0 {w : World} {A : Option Addr} {n : Nat} {l : List (Int × Nat)} (h : RE elPt w A n l) (hn : 0 < n) :
    ∃ ad p, A = some ad ∧ l[0]? = some p ∧ w.cell? ad = some (.int .i64 p.1) ∧ w.cell? ⟨ad.block, ad.off + 1, none⟩ = some (.int .u64 (p.2 : Int)) := by
  obtain ⟨ad, p, e, hp, h1, h2⟩ := h.pt hn
  have e0 : ad.add (0 * 2) = ad := rfl
  rw [e0] at h1 h2
  exact ⟨ad, p, e, hp, h1, h2⟩

set_option maxHeartbeats 400000 in
theorem samePoints_any (A B : Option Addr) (n m c d : Nat) (l r : List (Int × Nat)) (w : World) (ha : RE elPt w A n l) (hb : RE elPt w B m r) (hn : n ≤ 9223372036854775807) (hm : m ≤ 9223372036854775807) :
    Calls Tryz.prog 27 #[.slice A n c, .slice B m d] w fun e w' => e = .returned (.bool (decide (l = r))) ∧ ∃ k, w' = w.drewN k := by
  by_cases hnm : n = m
  · subst hnm
    go_enter Tryz.func27, Tryz.ntmps27
    go_wp2
    go_loopw [5] (fun i wr => ∃ k : Nat, k ≤ n ∧ i = .int .i64 k ∧ l.take k = r.take k ∧ ∃ j, wr = w.drewN j) (fun i _ => n - (intOf i).toNat)
    case atStart => exact ⟨0, Nat.zero_le _, rfl, rfl, 0, rfl⟩
    case round =>
      obtain ⟨k, hk, rfl, ht, j, rfl⟩ := hrel
      by_cases hlt : k < n
      · obtain ⟨ad, x, rfl, hx, hcx1, hcx2⟩ := ha.pt hlt
        obtain ⟨bd, y, rfl, hy, hcy1, hcy2⟩ := hb.pt hlt
        by_cases hxy : x = y
        · subst hxy
          have hst := Lib.hid (take_step ht hx hy)
          clear ht hx hy
          go_wp2
          refine wp_region_text [(3, 1)] (by kernel_rfl) (by kernel_rfl) ?_
          simp only [instr, chk, look, Nat.reduceBEq, Bool.false_eq_true, if_true, if_false, Nat.reduceEqDiff, List.nil_append]
          go_wp2
          refine OnlyN.normal ?_
          go_wp2
          go_roundw
          case rel => exact ⟨k + 1, by omega, by go_num, hst.out, _, rfl⟩
          case measure => simp [intOf]; omega
        · have hne := Lib.hid (ne_at hx hy hxy)
          have hd : ¬ x.1 = y.1 ∨ (x.1 = y.1 ∧ ¬ ((x.2 : Int) = (y.2 : Int))) := by
            by_cases h1 : x.1 = y.1
            · exact .inr ⟨h1, fun h2 => hxy (Prod.ext h1 (by omega))⟩
            · exact .inl h1
          clear ht hx hy hxy
          rcases hd with h1 | ⟨h1, h2⟩
          all_goals
            go_wp2
            refine wp_region_text [(3, 1)] (by kernel_rfl) (by kernel_rfl) ?_
            simp only [instr, chk, look, Nat.reduceBEq, Bool.false_eq_true, if_true, if_false, Nat.reduceEqDiff, List.nil_append]
            go_wp2
            refine OnlyN.normal ?_
            go_wp2
            go_ret
            exact ⟨by simp [hne.out], _, rfl⟩
      · have hkn : k = n := by omega
        subst hkn
        have h1 : l.take k = l := List.take_of_length_le (by rw [ha.1]; omega)
        have h2 : r.take k = r := List.take_of_length_le (by rw [hb.1]; omega)
        rw [h1, h2] at ht
        have ht := Lib.hid ht
        go_wp2
        go_ret
        exact ⟨by simp [ht.out], _, rfl⟩
  · have hlr : Hid (l ≠ r) := by
      show l ≠ r
      have h1 := ha.1
      have h2 := hb.1
      rintro rfl
      omega
    go_enter Tryz.func27, Tryz.ntmps27
    go_wp2
    go_ret
    exact ⟨by simp [hlr.out], 0, rfl⟩

theorem samePoints_yes (A B : Option Addr) (n m c d : Nat) (l : List (Int × Nat)) (w : World) (ha : RE elPt w A n l) (hb : RE elPt w B m l) (hn : n ≤ 9223372036854775807) (hm : m ≤ 9223372036854775807) :
    Calls Tryz.prog 27 #[.slice A n c, .slice B m d] w fun e w' => e = .returned (.bool true) ∧ ∃ k, w' = w.drewN k := by
  have := samePoints_any A B n m c d l l w ha hb hn hm
  simpa using this

/-- new memory that holds these points; nothing that was there has turned -/
def NewPt (w : World) (n : Nat) (l : List (Int × Nat)) (e : Ending) (w' : World) : Prop := ∃ A c, e = .returned (.slice A n c) ∧ OE elPt w' w.heap.size 69 A n c l ∧ Grew w w'

/-- a list lent: a copy of it in new memory, two marks behind it -/
def LentPt (w : World) (n : Nat) (l : List (Int × Nat)) (e : Ending) (w' : World) : Prop := ∃ A c, e = .returned (.slice A n c) ∧ OE elPt w' w.heap.size 69 A (n + 2) c (l ++ [(-7, 77), (-7, 77)]) ∧ Grew w w'

set_option maxHeartbeats 400000 in
theorem spoilPoints_any (A : Option Addr) (n c : Nat) (l : List (Int × Nat)) (base : Nat) (w : World) (h : OE elPt w base 69 A n c l) (hbase : base ≤ w.heap.size) (hn : n ≤ 8796093022200) :
    Calls Tryz.prog 41 #[.slice A n c] w fun e w' => e = .returned (.tuple #[]) ∧ Chg (fun k => ∃ ad, A = some ad ∧ k = ad.block) w w' := by
  have hc := h.cap
  have h1 : OE elPt (w.alloc (.cells #[.int .i64 (-7), .int .u64 77] 69)) base 69 A n c l := h.grew ((Chg.refl _ w).alloc _)
  have hr : RE elPt (w.alloc (.cells #[.int .i64 (-7), .int .u64 77] 69)) (some ⟨w.heap.size, 0, none⟩) 1 [(-7, 77)] := RE.newAt rfl rfl rfl
  go_enter Tryz.func41, Tryz.ntmps41
  go_wp2_with (at_builtin; refine wpList_appE rfl _ _ 59 69 infoPt rfl Tryz.underlying59 rfl base A n c l rfl h1 (by simp; omega) _ 1 1 [(-7, 77)] rfl hr (by unfold maxLen; omega) (by omega) ?_; intro A2 c2 w2 h2; have hc2 := h2.oe.cap)
  have hw2 : Wr w2 A2 ((n + 1) * 2) := Own.wr h2.oe
  have hg2 : Chg (fun k => ∃ ad, A = some ad ∧ k = ad.block) w w2 := ((Chg.refl _ w).alloc _).trans h2.chg
  have hw1 : Wr w2 A (n * 2) := by
    rcases h2.2.2 with ⟨e1, _⟩ | ⟨_, e2, _⟩
    · rw [← e1]; exact hw2.mono (by omega)
    · exact (Own.wr h1).chg e2 (fun _ _ e => e)
  have hA2 : ∀ ad, A2 = some ad → w.heap.size ≤ ad.block ∨ ∃ bd, A = some bd ∧ ad.block = bd.block := by
    rintro ad rfl
    rcases h2.2.2 with ⟨e1, _⟩ | ⟨e1, _⟩
    · exact .inr ⟨ad, e1.symm, rfl⟩
    · injection e1 with e1
      subst e1
      exact .inl (by simp)
  obtain ⟨g2, rfl⟩ : ∃ g2, A2 = some ⟨g2, 0, none⟩ := (Own.at_ h2.oe (by omega)).imp fun _ h => h.1
  have hA : A = none ∨ ∃ g, A = some ⟨g, 0, none⟩ := by
    rcases Own.form h with ⟨e, _⟩ | ⟨g, e, _⟩
    · exact .inl e
    · exact .inr ⟨g, e⟩
  have HA := Lib.hid hA
  clear h2 h1 hr h hA
  go_loopw [3] (fun i wr => ∃ k : Nat, k ≤ n + 1 ∧ i = .int .i64 k ∧ Wr wr (some ⟨g2, 0, none⟩) ((n + 1) * 2) ∧ Wr wr A (n * 2) ∧ Chg (fun k => ∃ ad, A = some ad ∧ k = ad.block) w wr) (fun i _ => n + 1 - (intOf i).toNat)
  case atStart => exact ⟨0, Nat.zero_le _, rfl, hw2, hw1, hg2⟩
  case round =>
    clear hw2 hw1 hg2 w2
    obtain ⟨k, hk, rfl, hw2, hw1, hg2⟩ := hrel
    by_cases hlt : k < n + 1
    · obtain ⟨ad, u, he, hcell, hfr⟩ := hw2.at_ (j := k * 2) (by omega)
      injection he with he
      subst he
      obtain ⟨ad, u', he, hcell', hfr'⟩ := hw2.at_ (j := k * 2 + 1) (by omega)
      injection he with he
      subst he
      rw [add_head] at hcell hfr hcell' hfr'
      go_wp2
      go_roundw
      case rel => exact ⟨k + 1, by omega, by go_num, (hw2.set _ _).set _ _, (hw1.set _ _).set _ _, (hg2.setCell (p := ⟨g2, k * 2, none⟩) (hA2 ⟨g2, 0, none⟩ rfl) _).setCell (p := ⟨g2, k * 2 + 1, none⟩) (hA2 ⟨g2, 0, none⟩ rfl) _⟩
      case measure => simp [intOf]; omega
    · go_wp2
      obtain ⟨wo, rfl⟩ : ∃ wo : World, wo = wr := ⟨_, rfl⟩
      go_loopw [4] (fun i wr => ∃ k : Nat, k ≤ n ∧ i = .int .i64 k ∧ Wr wr A (n * 2) ∧ Chg (fun k => ∃ ad, A = some ad ∧ k = ad.block) w wr) (fun i _ => n - (intOf i).toNat)
      case atStart => exact ⟨0, Nat.zero_le _, rfl, hw1, hg2⟩
      case round =>
        clear hw1 hw2 hg2
        obtain ⟨k2, hk2, rfl, hw1, hg2⟩ := hrel
        by_cases hlt2 : k2 < n
        · rcases HA.out with rfl | ⟨g, rfl⟩
          · obtain ⟨ad, u, he, _⟩ := hw1.at_ (j := k2 * 2) (by omega)
            cases he
          · obtain ⟨ad, u, he, hcell, hfr⟩ := hw1.at_ (j := k2 * 2) (by omega)
            injection he with he
            subst he
            obtain ⟨ad, u', he, hcell', hfr'⟩ := hw1.at_ (j := k2 * 2 + 1) (by omega)
            injection he with he
            subst he
            rw [add_head] at hcell hfr hcell' hfr'
            go_wp2
            go_roundw
            case rel => exact ⟨k2 + 1, by omega, by go_num, (hw1.set _ _).set _ _, (hg2.setCell (p := ⟨g, k2 * 2, none⟩) (.inr ⟨_, rfl, rfl⟩) _).setCell (p := ⟨g, k2 * 2 + 1, none⟩) (.inr ⟨_, rfl, rfl⟩) _⟩
            case measure => simp [intOf]; omega
        · go_wp2
          go_end0
          exact ⟨by simp, hg2⟩
end Go.Proofs.YtailooldnelecaaGreatDoor

namespace Go.Proofs.YtailooldnelecaaGreatDoor
open Go.RowKit

def nmc (z : Nat) : Prop := z = 95 ∨ (48 ≤ z ∧ z ≤ 57) ∨ (65 ≤ z ∧ z ≤ 90) ∨ (97 ≤ z ∧ z ≤ 122)
instance (z : Nat) : Decidable (nmc z) := by unfold nmc; infer_instance
def nameL (x : ByteArray) : Bool := decide (0 < x.size) && decide (x.size ≤ 64) && (match x.data.toList with | c :: _ => decide ¬(48 ≤ c.toNat ∧ c.toNat ≤ 57) | [] => false) && x.data.toList.all fun c => decide (nmc c.toNat)

theorem data_len (x : ByteArray) : x.data.toList.length = x.size := by rw [Array.length_toList]; rfl
theorem data_get (x : ByteArray) (i : Nat) (h : i < x.size) : x.data.toList[i]? = some (x[i]'h) := by
  rw [Array.getElem?_toList]
  exact Array.getElem?_eq_getElem _

set_option maxHeartbeats 4000000 in
theorem lname_any (x : ByteArray) (w : World) : Calls Tryz.prog 51 #[.string x] w fun e w' => e = .returned (.bool (nameL x)) ∧ w = w' := by
  obtain ⟨n, hn⟩ : ∃ n, x.size = n := ⟨_, rfl⟩
  by_cases h0 : n = 0
  · obtain rfl : x = ⟨#[]⟩ := data_inj (List.eq_nil_of_length_eq_zero (by rw [data_len]; omega))
    clear h0
    go_enter Tryz.func51, Tryz.ntmps51
    go_wp2
    go_ret
    exact ⟨by simp [nameL], rfl⟩
  have hne : (x.toList == ([] : List UInt8)) = false := by
    rw [beq_eq_false_iff_ne, ByteArray.toList_eq]
    intro e
    have := data_len x
    rw [e] at this
    simp at this
    omega
  have hnil : ¬ x.toList = [] := by simpa using hne
  have hem : x.toList.isEmpty = false := by
    cases h : x.toList with
    | nil => exact absurd h hnil
    | cons a b => rfl
  by_cases h64 : 64 < n
  · have hF : nameL x = false := by
      unfold nameL
      rw [hn, decide_eq_false (p := n ≤ 64) (by omega)]
      simp
    rw [hF]
    have e64 : decide ((64 : Int) < (n : Int)) = true := decide_eq_true (by omega)
    clear hF h0 h64
    go_enter Tryz.func51, Tryz.ntmps51
    go_wp2
    go_ret
    exact ⟨by simp, rfl⟩
  have e64 : decide ((64 : Int) < (n : Int)) = false := decide_eq_false (by omega)
  obtain ⟨fn, hfn⟩ : ∃ fn : Nat, (x[0]'(by omega)).toNat = fn := ⟨_, rfl⟩
  have hf0 : ∀ h, ((x[0]'h).toNat : Int) = (fn : Int) := fun h => by rw [← hfn]
  have hfb : fn ≤ 255 := by
    have := (x[0]'(by omega)).toNat_lt
    omega
  have h64' : n ≤ 64 := by omega
  have hn0 : 0 < n := by omega
  have hB : Hid (nameL x = true ↔ ¬(48 ≤ fn ∧ fn ≤ 57) ∧ ∀ (i : Nat) (h : i < x.size), nmc (x[i]'h).toNat) := by
    have hhead : (match x.data.toList with | c :: _ => decide ¬(48 ≤ c.toNat ∧ c.toNat ≤ 57) | [] => false) = decide ¬(48 ≤ fn ∧ fn ≤ 57) := by
      have h9 := data_get x 0 (by omega)
      cases hd : x.data.toList with
      | nil => rw [hd] at h9; cases h9
      | cons c r =>
        rw [hd] at h9
        injection h9 with h9
        simp only
        rw [h9, hfn]
    show _ ↔ _
    unfold nameL
    have p1 : decide (0 < x.size) = true := decide_eq_true (by omega)
    have p2 : decide (x.size ≤ 64) = true := decide_eq_true (by omega)
    rw [hhead, p1, p2]
    simp only [Bool.true_and, Bool.and_eq_true, decide_eq_true_eq, List.all_eq_true]
    refine and_congr_right fun _ => ⟨fun h i hi => h _ (List.mem_of_getElem? (data_get x i hi)), fun h c hc => ?_⟩
    obtain ⟨i, hi⟩ := List.getElem?_of_mem hc
    have hil : i < x.size := by
      have := (List.getElem?_eq_some_iff.1 hi).1
      rwa [data_len] at this
    rw [data_get x i hil] at hi
    injection hi with hi
    subst hi
    exact h i hil
  obtain ⟨b, hb⟩ : ∃ b, nameL x = b := ⟨_, rfl⟩
  rw [hb] at hB ⊢
  clear h0 h64 hb hfn
  by_cases hdig : 48 ≤ fn ∧ fn ≤ 57
  · have d1 : decide ((48 : Int) ≤ (fn : Int)) = true := decide_eq_true (by omega)
    have d2 : decide ((fn : Int) ≤ 57) = true := decide_eq_true (by omega)
    have hbf : b = false := by
      cases b with
      | false => rfl
      | true => exact absurd hdig (hB.out.1 rfl).1
    subst hbf
    clear hdig
    go_enter Tryz.func51, Tryz.ntmps51
    go_wp2
    go_ret
    exact ⟨by simp, rfl⟩
  have hnd : Hid (¬(48 ≤ fn ∧ fn ≤ 57)) := hdig
  have hdd : decide ((48 : Int) ≤ (fn : Int)) = false ∨ (decide ((48 : Int) ≤ (fn : Int)) = true ∧ decide ((fn : Int) ≤ 57) = false) := by
    by_cases h1 : 48 ≤ fn
    · exact .inr ⟨decide_eq_true (by omega), decide_eq_false (by omega)⟩
    · exact .inl (decide_eq_false (by omega))
  clear hdig
  go_enter Tryz.func51, Tryz.ntmps51
  rcases hdd with d1 | ⟨d1, d2⟩
  all_goals
    go_wp2
    go_loopw [3] (fun si wr => ∃ j : Nat, si = .int .i64 (j : Int) ∧ j ≤ n ∧ w = wr ∧ Hid (∀ (i : Nat) (h : i < x.size), i < j → nmc (x[i]'h).toNat)) (fun si _ => n - (intOf si).toNat)
    case atStart => exact ⟨0, rfl, by omega, rfl, fun i h h' => by omega⟩
    case round =>
      obtain ⟨j, rfl, hj, rfl, Hok⟩ := hrel
      by_cases hlt : j < n
      · obtain ⟨zn, hzn⟩ : ∃ zn : Nat, (x[j]'(by omega)).toNat = zn := ⟨_, rfl⟩
        have hzb : zn ≤ 255 := by
          have := (x[j]'(by omega)).toNat_lt
          omega
        have hz : ∀ h, ((x[j]'h).toNat : Int) = (zn : Int) := fun h => by rw [← hzn]
        clear hf0 d1
        by_cases hc : nmc zn
        · have Hok' : Hid (∀ (i : Nat) (h : i < x.size), i < j + 1 → nmc (x[i]'h).toNat) := fun i h h' => by
            by_cases hij : i = j
            · subst hij
              rw [hzn]
              exact hc
            · exact Hok.out i h (by omega)
          unfold nmc at hc
          clear hzn
          rcases hc with rfl | ⟨k1, k2⟩ | ⟨k1, k2⟩ | ⟨k1, k2⟩
          · go_wp2
            go_roundw
            case rel => exact ⟨j + 1, by go_num, by omega, trivial, Hok'⟩
            case measure => simp [intOf]; omega
          · have t0 : ((zn : Int) != 95) = true := by simp; omega
            have t1 : decide ((zn : Int) < 48) = false := decide_eq_false (by omega)
            have t2 : decide ((57 : Int) < (zn : Int)) = false := decide_eq_false (by omega)
            go_wp2
            go_roundw
            case rel => exact ⟨j + 1, by go_num, by omega, trivial, Hok'⟩
            case measure => simp [intOf]; omega
          · have t0 : ((zn : Int) != 95) = true := by simp; omega
            have t1 : decide ((zn : Int) < 48) = false := decide_eq_false (by omega)
            have t2 : decide ((57 : Int) < (zn : Int)) = true := decide_eq_true (by omega)
            have t3 : decide ((zn : Int) < 65) = false := decide_eq_false (by omega)
            have t4 : decide ((90 : Int) < (zn : Int)) = false := decide_eq_false (by omega)
            go_wp2
            go_roundw
            case rel => exact ⟨j + 1, by go_num, by omega, trivial, Hok'⟩
            case measure => simp [intOf]; omega
          · have t0 : ((zn : Int) != 95) = true := by simp; omega
            have t1 : decide ((zn : Int) < 48) = false := decide_eq_false (by omega)
            have t2 : decide ((57 : Int) < (zn : Int)) = true := decide_eq_true (by omega)
            have t3 : decide ((zn : Int) < 65) = false := decide_eq_false (by omega)
            have t4 : decide ((90 : Int) < (zn : Int)) = true := decide_eq_true (by omega)
            have t5 : decide ((zn : Int) < 97) = false := decide_eq_false (by omega)
            have t6 : decide ((122 : Int) < (zn : Int)) = false := decide_eq_false (by omega)
            go_wp2
            go_roundw
            case rel => exact ⟨j + 1, by go_num, by omega, trivial, Hok'⟩
            case measure => simp [intOf]; omega
        · have hbf : b = false := by
            cases b with
            | false => rfl
            | true => exact absurd (hzn ▸ (hB.out.1 rfl).2 j (by omega)) hc
          subst hbf
          unfold nmc at hc
          have t0 : ((zn : Int) != 95) = true := by simp; omega
          clear hzn
          have hcase : zn < 48 ∨ (57 < zn ∧ zn < 65) ∨ (90 < zn ∧ zn < 97) ∨ 122 < zn := by omega
          rcases hcase with h1 | h1 | h1 | h1
          · have t1 : decide ((zn : Int) < 48) = true := decide_eq_true (by omega)
            have t3 : decide ((zn : Int) < 65) = true := decide_eq_true (by omega)
            have t5 : decide ((zn : Int) < 97) = true := decide_eq_true (by omega)
            clear hc h1
            go_wp2
            go_ret
            exact ⟨by simp, rfl⟩
          · have t1 : decide ((zn : Int) < 48) = false := decide_eq_false (by omega)
            have t2 : decide ((57 : Int) < (zn : Int)) = true := decide_eq_true (by omega)
            have t3 : decide ((zn : Int) < 65) = true := decide_eq_true (by omega)
            have t5 : decide ((zn : Int) < 97) = true := decide_eq_true (by omega)
            clear hc h1
            go_wp2
            go_ret
            exact ⟨by simp, rfl⟩
          · have t1 : decide ((zn : Int) < 48) = false := decide_eq_false (by omega)
            have t2 : decide ((57 : Int) < (zn : Int)) = true := decide_eq_true (by omega)
            have t3 : decide ((zn : Int) < 65) = false := decide_eq_false (by omega)
            have t4 : decide ((90 : Int) < (zn : Int)) = true := decide_eq_true (by omega)
            have t5 : decide ((zn : Int) < 97) = true := decide_eq_true (by omega)
            clear hc h1
            go_wp2
            go_ret
            exact ⟨by simp, rfl⟩
          · have t1 : decide ((zn : Int) < 48) = false := decide_eq_false (by omega)
            have t2 : decide ((57 : Int) < (zn : Int)) = true := decide_eq_true (by omega)
            have t3 : decide ((zn : Int) < 65) = false := decide_eq_false (by omega)
            have t4 : decide ((90 : Int) < (zn : Int)) = true := decide_eq_true (by omega)
            have t5 : decide ((zn : Int) < 97) = false := decide_eq_false (by omega)
            have t6 : decide ((122 : Int) < (zn : Int)) = true := decide_eq_true (by omega)
            clear hc h1
            go_wp2
            go_ret
            exact ⟨by simp, rfl⟩
      · obtain rfl : j = n := by omega
        have hbt : b = true := hB.out.2 ⟨hnd.out, fun i h => Hok.out i h (by omega)⟩
        subst hbt
        go_wp2
        go_ret
        exact ⟨by simp, rfl⟩
end Go.Proofs.YtailooldnelecaaGreatDoor

namespace Go.Proofs.YtailooldnelecaaGreatDoor
open Go.RowKit

def txtB (v : ByteArray) : Bool := decide (0 < v.size) && decide (v.size ≤ 256) && vld 0 128 191 v.data.toList
def upB (l : ByteArray) : Option ByteArray → Bool
  | some p => decide (l.data.toList ≤ p.data.toList)
  | none => false
def chkG : Option ByteArray → List Lab → Nat
  | _, [] => 0
  | prev, l :: r => if nameL l.1 = false then 31 else if txtB l.2 = false then 32 else if upB l.1 prev = true then 33 else chkG (some l.1) r
theorem chkG_cons (prev : Option ByteArray) (l : Lab) (r : List Lab) : chkG prev (l :: r) = if nameL l.1 = false then 31 else if txtB l.2 = false then 32 else if upB l.1 prev = true then 33 else chkG (some l.1) r := rfl
def chkL (ls : List Lab) : Nat := if 16 < ls.length then 30 else chkG none ls
def prevL (ls : List Lab) (k : Nat) : Option ByteArray := if k = 0 then none else (ls[k - 1]?).map Prod.fst

theorem less_eq : ∀ (x y : List UInt8), Op.bytesLess x y = decide (x < y)
  | [], [] => by simp [Op.bytesLess]
  | _ :: _, [] => by simp [Op.bytesLess]
  | [], _ :: _ => by simp [Op.bytesLess]
  | a :: x, b :: y => by
    rw [Op.bytesLess, less_eq x y]
    by_cases h : a = b
    · subst h
      simp
    · simp [List.cons_lt_cons_iff, h]
theorem leqT (a b : ByteArray) : (Op.bytesLess a.toList b.toList || a.toList == b.toList) = decide (a.data.toList ≤ b.data.toList) := by
  rw [ByteArray.toList_eq, ByteArray.toList_eq, less_eq, Bool.eq_iff_iff]
  simp only [Bool.or_eq_true, decide_eq_true_eq, beq_iff_eq]
  constructor
  · rintro (h | h)
    · exact List.le_of_lt h
    · rw [h]
      exact List.le_refl _
  · intro h
    by_cases he : a.data.toList = b.data.toList
    · exact .inr he
    · refine .inl ?_
      by_cases hl : a.data.toList < b.data.toList
      · exact hl
      · exact absurd (List.le_antisymm h (List.not_lt.1 hl)) he

set_option maxRecDepth 100000 in
set_option maxHeartbeats 4000000 in
theorem chk_any (A : Option Addr) (n c : Nat) (ls : List Lab) (w : World) (h : RE elLb w A n ls) (hn : n ≤ 9223372036854775807) :
    Calls Tryz.prog 34 #[.slice A n c] w fun e w' => e = .returned (.int .i64 (chkL ls : Int)) ∧ Grew w w' := by
  have hln := h.1
  unfold chkL
  rw [hln]
  by_cases h16 : 16 < n
  · rw [if_pos h16]
    have e0 : decide ((16 : Int) < (n : Int)) = true := decide_eq_true (by omega)
    clear h16
    go_enter Tryz.func34, Tryz.ntmps34
    go_wp2
    go_ret
    exact ⟨by simp, Chg.refl _ _⟩
  rw [if_neg h16]
  have e0 : decide ((16 : Int) < (n : Int)) = false := decide_eq_false (by omega)
  have hn16 : n ≤ 16 := by omega
  obtain ⟨z, hz⟩ : ∃ z, chkG none ls = z := ⟨_, rfl⟩
  rw [hz]
  have hz0 : Hid (z = chkG (prevL ls 0) (ls.drop 0)) := hz.symm
  clear h16 hz
  go_enter Tryz.func34, Tryz.ntmps34
  go_wp2
  go_loopw [10] (fun i wr => ∃ k : Nat, k ≤ n ∧ i = .int .i64 (k : Int) ∧ Hid (z = chkG (prevL ls k) (ls.drop k)) ∧ Grew w wr) (fun i _ => n - (intOf i).toNat)
  case atStart => exact ⟨0, by omega, rfl, hz0, Chg.refl _ _⟩
  case round =>
    obtain ⟨k, hk, rfl, hc, hg⟩ := hrel
    by_cases hlt : k < n
    · obtain ⟨ad, x, rfl, hx, x0, x1⟩ := (h.grew hg).lb hlt
      have hxd : ls.drop k = x :: ls.drop (k + 1) := by
        obtain ⟨h1, h2⟩ := List.getElem?_eq_some_iff.1 hx
        rw [List.drop_eq_getElem_cons h1, h2]
      have hv := hc.out
      rw [hxd, chkG_cons] at hv
      have hpn : prevL ls (k + 1) = some x.1 := by
        unfold prevL
        rw [if_neg (by omega), Nat.add_sub_cancel, hx]
        rfl
      rw [← hpn] at hv
      have hgW : Grew w (wr.alloc (.cells #[.string x.1, .string x.2] 72)) := hg.alloc _
      have hN := fun w => lname_any x.1 w
      have hV := fun w (hs : x.2.size ≤ 256) => valid_any x.2 w hs
      obtain ⟨vn, hvn⟩ : ∃ vn, x.2.size = vn := ⟨_, rfl⟩
      clear hc hxd hpn
      go_wp2_with fail
      refine (hN _).mono ?_
      rintro e w1 ⟨rfl, rfl⟩
      cases hnm : nameL x.1
      · rw [hnm, if_pos rfl] at hv
        have hv := Lib.hid hv
        clear hN hV
        go_wp2
        go_ret
        exact ⟨by rw [hv.out]; simp, hgW⟩
      rw [hnm, if_neg (by simp)] at hv
      unfold txtB at hv
      rw [hvn] at hv
      by_cases hv0 : vn = 0
      · rw [decide_eq_false (p := 0 < vn) (by omega)] at hv
        simp only [Bool.false_and, if_true] at hv
        have hv := Lib.hid hv
        have hem : (x.2.toList == ([] : List UInt8)) = true := by
          rw [beq_iff_eq, ByteArray.toList_eq]
          exact List.eq_nil_of_length_eq_zero (by rw [data_len]; omega)
        have hem2 : x.2.toList = [] := by simpa using hem
        have hem3 : x.2.toList.isEmpty = true := by rw [hem2]; rfl
        clear hN hV
        go_wp2
        go_ret
        exact ⟨by rw [hv.out]; simp, hgW⟩
      have hem : x.2.toList.isEmpty = false := by
        cases hq : x.2.toList with
        | nil =>
          have := data_len x.2
          rw [← ByteArray.toList_eq, hq] at this
          simp at this
          omega
        | cons p q => rfl
      have hem2 : ¬ x.2.toList = [] := fun e => by rw [e] at hem; cases hem
      rw [decide_eq_true (p := 0 < vn) (by omega), Bool.true_and] at hv
      by_cases hv256 : 256 < vn
      · rw [decide_eq_false (p := vn ≤ 256) (by omega), Bool.false_and, if_pos rfl] at hv
        have hv := Lib.hid hv
        have e2 : decide ((256 : Int) < (vn : Int)) = true := decide_eq_true (by omega)
        clear hN hV
        go_wp2
        go_ret
        exact ⟨by rw [hv.out]; simp, hgW⟩
      rw [decide_eq_true (p := vn ≤ 256) (by omega), Bool.true_and] at hv
      have e2 : decide ((256 : Int) < (vn : Int)) = false := decide_eq_false (by omega)
      go_wp2_with fail
      refine (hV _ (by omega)).mono ?_
      rintro e w1 ⟨rfl, rfl⟩
      clear hN hV
      cases hvl : vld 0 128 191 x.2.data.toList
      · rw [hvl, if_pos rfl] at hv
        have hv := Lib.hid hv
        go_wp2
        go_ret
        exact ⟨by rw [hv.out]; simp, hgW⟩
      rw [hvl, if_neg (by simp)] at hv
      clear hvl hnm
      rcases k with _ | k
      · rw [show upB x.1 (prevL ls 0) = false from rfl, if_neg (by simp)] at hv
        have hv := Lib.hid hv
        clear hx
        go_wp2_with fail
        refine wp_region_text [(9, 2), (3, 1)] (by kernel_rfl) (by kernel_rfl) ?_
        simp only [instr, chk, look, Nat.reduceBEq, if_true, if_false, Nat.reduceEqDiff, List.cons_append, List.nil_append]
        go_wp2_with fail
        refine OnlyN.normal ?_
        go_wp2
        go_roundw
        case rel => exact ⟨1, by omega, by go_num, hv, hgW.drew⟩
        case measure => simp [intOf]; omega
      · obtain ⟨pd, y, hpe, hy, y0, y1⟩ := (h.grew hgW).lb (show k < n by omega)
        injection hpe with hpe
        subst hpe
        have hpl : prevL ls (k + 1) = some y.1 := by
          unfold prevL
          rw [if_neg (by omega), Nat.add_sub_cancel, hy]
          rfl
        rw [hpl] at hv
        have hleq := leqT x.1 y.1
        rw [show upB x.1 (some y.1) = decide (x.1.data.toList ≤ y.1.data.toList) from rfl] at hv
        generalize decide (x.1.data.toList ≤ y.1.data.toList) = b at *
        clear hx hy hpl
        cases b
        · rw [if_neg (by simp)] at hv
          have hv := Lib.hid hv
          go_wp2_with fail
          refine wp_region_text [(9, 2), (3, 1)] (by kernel_rfl) (by kernel_rfl) ?_
          simp only [instr, chk, look, Nat.reduceBEq, if_true, if_false, Nat.reduceEqDiff, List.cons_append, List.nil_append]
          go_wp2_with fail
          refine OnlyN.normal ?_
          go_wp2
          go_roundw
          case rel => exact ⟨k + 1 + 1, by omega, by go_num, hv, hgW.drew⟩
          case measure => simp [intOf]; omega
        · rw [if_pos rfl] at hv
          have hv := Lib.hid hv
          go_wp2_with fail
          refine wp_region_text [(9, 2), (3, 1)] (by kernel_rfl) (by kernel_rfl) ?_
          simp only [instr, chk, look, Nat.reduceBEq, if_true, if_false, Nat.reduceEqDiff, List.cons_append, List.nil_append]
          go_wp2_with fail
          refine OnlyN.normal ?_
          go_wp2
          go_ret
          exact ⟨by rw [hv.out]; simp, hgW.drew⟩
    · obtain rfl : k = n := by omega
      have hv := hc.out
      rw [List.drop_of_length_le (by omega), chkG] at hv
      have hv := Lib.hid hv
      clear hc
      go_wp2
      go_ret
      exact ⟨by rw [hv.out]; simp, hg⟩
end Go.Proofs.YtailooldnelecaaGreatDoor
