/-
  Several texts in one:
  The statements' own helpers on lists of bytes: SameBytes, CopyBytes, LendBytes, KeptBytes, SpoilBytes: what each call does. Conditions: lengths that memory bears.
  (The statements' own helpers on lists of bytes stand in XLa.)
  The disk in memory; a new one; names; names. Conditions: none.
-/
import Derived.Test.YtepncgeaehjhiaaGreatPart1
import Derived.Test.YtepncgeaehjhiaaGreatRows
import Derived.Test.YtepncgeaehjhiaaGreatPart3

namespace Go.Proofs.YtepncgeaehjhiaaGreat
open Go.RowKit

theorem infoU8 : (Tryz.prog.info? 5).map (fun i => (i.zero, i.size, i.bytes)) = some (some (.int .u8 0), 1, 1) := by kernel_rfl

/-- what an append of bytes leaves -/
def ApB (w : World) (base : Nat) (A : Option Addr) (n c : Nat) (l : List UInt8) (A' : Option Addr) (c' : Nat) (w' : World) : Prop := Apped w base 5 1 A n c (l.map byt) A' c' w'
theorem ApB.ob {w w' : World} {base : Nat} {A A' : Option Addr} {n c c' : Nat} {l : List UInt8} (h : ApB w base A n c l A' c' w') : OB w' base 5 A' n c' l := h.1
theorem ApB.chg {w w' : World} {base : Nat} {A A' : Option Addr} {n c c' : Nat} {l : List UInt8} (h : ApB w base A n c l A' c' w') : Chg (fun k => ∃ ad, A = some ad ∧ k = ad.block) w w' := h.2.1
/-- .. onto a row that was made just now: nothing older has turned -/
theorem ApB.grew {w0 w w' : World} {base : Nat} {A A' : Option Addr} {n c c' : Nat} {l : List UInt8} (h : ApB w base A n c l A' c' w') (hg : Grew w0 w) (hA : ∀ ad, A = some ad → w0.heap.size ≤ ad.block) : Grew w0 w' :=
  hg.step h.chg fun k hk ⟨ad, e, he⟩ => by have := hA ad e; omega

/-- append onto a row of bytes of the call's own -/
theorem wpList_appB {ops : Array Oper} {rest : List Oper} {o : Oper} {a : Act} {w : World} {Q : Exit → Act → World → Prop} (hgd : o.guard = none) (s x : Operand)
    (ho : o.op = .call { callee := .builtin .append, args := #[s, x], argTypes := #[37, 37] })
    (base : Nat) (A : Option Addr) (n c : Nat) (l : List UInt8) (hs : a.eval s = .slice A n c) (hown : OB w base 5 A n c l) (hbase : base ≤ w.heap.size)
    (B : Option Addr) (m d : Nat) (r : List UInt8) (hx : a.eval x = .slice B m d) (hr : RB w B m r) (hbytes : n + m ≤ 140737488355328)
    (h : ∀ A' c' w', ApB w base A (n + m) c (l ++ r) A' c' w' → wpList Tryz.prog ops Q rest (a.put o.dst (.slice A' (n + m) c')) w') : wpList Tryz.prog ops Q (o :: rest) a w := by
  obtain ⟨i0, hi, hz0, hz1, hz2⟩ := info_parts infoU8
  refine wpList_app w hgd s x 37 5 ho i0 (.int .u8 0) 1 1 Tryz.underlying37 hi hz0 hz1 hz2 rfl base A n c _ hs hown hbase B m d _ hx (by simpa using hr.1) hr.2 (byt_one r) (by unfold maxLen; omega) (by omega) ?_
  intro A' c' w' h1
  exact h A' c' w' (by unfold ApB; rw [List.map_append]; exact h1)

/-- new memory that holds these bytes; nothing that was there has turned -/
def NewB (w : World) (n : Nat) (l : List UInt8) (e : Ending) (w' : World) : Prop := ∃ A c, e = .returned (.slice A n c) ∧ OB w' w.heap.size 5 A n c l ∧ Grew w w'

theorem head_ge {w : World} {B : Nat} (h : B ≤ w.heap.size) : ∀ ad, (some ⟨w.heap.size, 0, none⟩ : Option Addr) = some ad → B ≤ ad.block := by
  rintro ad e
  injection e with e
  subst e
  exact h

/-- new bytes, laid by the walk -/
theorem RB.new (w : World) (l : List UInt8) (n : Nat) (cs : Array Value) (t : TypeId) (hn : l.length = n) (hc : cs = (l.map byt).toArray) : RB (w.alloc (.cells cs t)) (some ⟨w.heap.size, 0, none⟩) n l :=
  ⟨hn, by subst hc; exact Rd.new w (l.map byt).toArray t⟩
theorem RB.newAt {w : World} {B : Nat} {l : List UInt8} {n : Nat} {cs : Array Value} {t : TypeId} (hB : B = w.heap.size) (hn : l.length = n) (hc : cs = (l.map byt).toArray) : RB (w.alloc (.cells cs t)) (some ⟨B, 0, none⟩) n l := by
  subst hB
  exact RB.new w l n cs t hn hc
theorem RB.drop {w : World} {ad : Addr} {n : Nat} {l : List UInt8} (h : RB w (some ad) n l) (i : Nat) : RB w (some (ad.add i)) (n - i) (l.drop i) := by
  refine ⟨by rw [List.length_drop, h.1], ?_⟩
  rw [List.map_drop]
  exact h.2.drop i
theorem RB.take {w : World} {A : Option Addr} {n : Nat} {l : List UInt8} (h : RB w A n l) {i : Nat} (hi : i ≤ n) : RB w A i (l.take i) := by
  refine ⟨by rw [List.length_take, h.1]; omega, ?_⟩
  rw [List.map_take]
  exact h.2.take i

set_option maxHeartbeats 400000 in
theorem copyBytes_any (A : Option Addr) (n c : Nat) (l : List UInt8) (w : World) (h : RB w A n l) (hn : n ≤ 140737488355328) :
    Calls Tryz.prog 49 #[.slice A n c] w (NewB w n l) := by
  have hown : OB (w.alloc (.cells #[] 5)) w.heap.size 5 (some ⟨w.heap.size, 0, none⟩) 0 0 [] := Own.made w w.heap.size 5 1 (Nat.le_refl _)
  have hr : RB (w.alloc (.cells #[] 5)) A n l := h.grew ((Chg.refl _ w).alloc _)
  go_enter Tryz.func49, Tryz.ntmps49
  go_wp2_with (at_builtin; refine wpList_appB rfl _ _ rfl w.heap.size _ 0 0 [] rfl hown (by simp) A n c l rfl hr (by omega) ?_; intro A' c' w' h1)
  go_ret
  simp only [Nat.zero_add, List.nil_append] at h1
  exact ⟨A', c', by simp, h1.ob, h1.grew ((Chg.refl _ w).alloc _) (head_ge (Nat.le_refl _))⟩

set_option maxHeartbeats 400000 in
theorem sameBytes_any (A B : Option Addr) (n m c d : Nat) (l r : List UInt8) (w : World) (ha : RB w A n l) (hb : RB w B m r) (hn : n ≤ 9223372036854775807) (hm : m ≤ 9223372036854775807) :
    Calls Tryz.prog 27 #[.slice A n c, .slice B m d] w fun e w' => e = .returned (.bool (l == r)) ∧ ∃ k, w' = w.drewN k := by
  by_cases hnm : n = m
  · subst hnm
    go_enter Tryz.func27, Tryz.ntmps27
    go_wp2
    go_loopw [5] (fun i wr => ∃ k : Nat, k ≤ n ∧ i = .int .i64 k ∧ l.take k = r.take k ∧ ∃ j, wr = w.drewN j) (fun i _ => n - (intOf i).toNat)
    case atStart => exact ⟨0, Nat.zero_le _, rfl, rfl, 0, rfl⟩
    case round =>
      obtain ⟨k, hk, rfl, ht, j, rfl⟩ := hrel
      by_cases hlt : k < n
      · obtain ⟨ad, x, rfl, hx, hcx⟩ := ha.at_ hlt
        obtain ⟨bd, y, rfl, hy, hcy⟩ := hb.at_ hlt
        go_wp2
        go_quiet (fail)
        go_wp2
        · have hne : ((x.toNat : Int) != (y.toNat : Int)) = true := by assumption
          go_ret
          refine ⟨?_, j + nq, by simp⟩
          have : (l == r) = false := by
            simp only [beq_eq_false_iff_ne, ne_eq]
            rintro rfl
            rw [hx] at hy
            injection hy with hy
            subst hy
            simp at hne
          simp [this]
        · have he : ((x.toNat : Int) != (y.toNat : Int)) = false := by assumption
          go_roundw
          case rel =>
            refine ⟨k + 1, by omega, by go_num, ?_, _, rfl⟩
            have hxy : x = y := by
              simp only [bne_eq_false_iff_eq] at he
              exact UInt8.toNat_inj.1 (by omega)
            rw [List.take_add_one, List.take_add_one, ht, hx, hy, hxy]
          case measure => simp [intOf]; omega
      · have hkn : k = n := by omega
        subst hkn
        go_wp2
        go_ret
        refine ⟨?_, _, rfl⟩
        have h1 : l.take k = l := List.take_of_length_le (by rw [ha.1]; omega)
        have h2 : r.take k = r := List.take_of_length_le (by rw [hb.1]; omega)
        rw [h1, h2] at ht
        simp [ht]
  · go_enter Tryz.func27, Tryz.ntmps27
    go_wp2
    go_ret
    refine ⟨?_, 0, rfl⟩
    have : (l == r) = false := by
      have h1 := ha.1
      have h2 := hb.1
      simp only [beq_eq_false_iff_ne, ne_eq]
      rintro rfl
      omega
    simp [this]

theorem sameBytes_yes (A B : Option Addr) (n m c d : Nat) (l : List UInt8) (w : World) (ha : RB w A n l) (hb : RB w B m l) (hn : n ≤ 9223372036854775807) (hm : m ≤ 9223372036854775807) :
    Calls Tryz.prog 27 #[.slice A n c, .slice B m d] w fun e w' => e = .returned (.bool true) ∧ ∃ k, w' = w.drewN k := by
  have := sameBytes_any A B n m c d l l w ha hb hn hm
  simpa using this

/-- a list of bytes lent: a copy of them in new memory, two marks behind it -/
def LentB (w : World) (n : Nat) (l : List UInt8) (e : Ending) (w' : World) : Prop := ∃ A c, e = .returned (.slice A n c) ∧ OB w' w.heap.size 5 A (n + 2) c (l ++ [201, 201]) ∧ Grew w w'

set_option maxHeartbeats 400000 in
theorem lendBytes_any (A : Option Addr) (n c : Nat) (l : List UInt8) (w : World) (h : RB w A n l) (hn : n ≤ 140737488355320) :
    Calls Tryz.prog 19 #[.slice A n c] w (LentB w n l) := by
  go_enter Tryz.func19, Tryz.ntmps19
  go_wp2_with fail
  refine (copyBytes_any A n c l _ h (by omega)).mono ?_
  rintro e w1 ⟨A1, c1, rfl, h1, hg1⟩
  have h1a := h1.grew ((Chg.refl _ w1).alloc (.cells #[.int .u8 201, .int .u8 201] 5))
  have hr : RB (w1.alloc (.cells #[.int .u8 201, .int .u8 201] 5)) (some ⟨w1.heap.size, 0, none⟩) 2 [201, 201] := RB.new w1 [201, 201] 2 _ _ rfl rfl
  have hs1 := hg1.size
  go_wp2_with (at_builtin; refine wpList_appB rfl _ _ rfl w.heap.size A1 n c1 l rfl h1a (by simp; omega) _ 2 2 [201, 201] rfl hr (by omega) ?_; intro A2 c2 w2 h2; have hc2 := h2.ob.cap)
  go_ret
  refine ⟨A2, c2, by simp, h2.ob, ?_⟩
  exact h2.grew (hg1.alloc _) fun ad e => (Own.blk_lt h1 ad e).1

set_option maxHeartbeats 400000 in
theorem keptBytes_any (A : Option Addr) (n c : Nat) (l : List UInt8) (B : Option Addr) (d : Nat) (base : Nat) (w : World) (h : OB w base 5 A (n + 2) c (l ++ [201, 201])) (hb : RB w B n l) (hn : n ≤ 140737488355320) :
    Calls Tryz.prog 24 #[.slice A n c, .slice B n d] w fun e w' => e = .returned (.bool true) ∧ Chg (fun k => ∃ ad, A = some ad ∧ k = ad.block) w w' := by
  have hc := h.cap
  obtain ⟨g, rfl, hbg, hg, _⟩ := Own.at_ h (by omega)
  have hl : l.length = n := hb.1
  have ha : RB w (some ⟨g, 0, none⟩) n l := by have := h.rb.take (i := n) (by omega); rwa [List.take_left' hl] at this
  have hz : RB w (some ⟨g, n, none⟩) 2 [201, 201] := by
    have := h.rb.drop n
    rw [List.drop_left' hl, add_head] at this
    simpa using this
  go_enter Tryz.func24, Tryz.ntmps24
  go_wp2_with fail
  refine (sameBytes_yes _ _ n n c d l _ ha hb (by omega) (by omega)).mono ?_
  rintro e w1 ⟨rfl, k1, rfl⟩
  go_wp2_with fail
  have hr2 : RB ((w.drewN k1).alloc (.cells #[.int .u8 201, .int .u8 201] 5)) (some ⟨w.heap.size, 0, none⟩) 2 [201, 201] := RB.new (w.drewN k1) [201, 201] 2 _ _ rfl rfl
  refine (sameBytes_yes _ _ 2 2 _ _ [201, 201] _ ((hz.drewN k1).grew ((Chg.refl _ _).alloc _)) hr2 (by omega) (by omega)).mono ?_
  rintro e w2 ⟨rfl, k2, rfl⟩
  have hw : Wr (((w.drewN k1).alloc (.cells #[.int .u8 201, .int .u8 201] 5)).drewN k2) (some ⟨g, 0, none⟩) (n + 2) := by
    have := (Own.wr h).chg ((((Chg.refl (fun _ => False) w).drewN k1).alloc (.cells #[.int .u8 201, .int .u8 201] 5)).drewN k2) (fun _ _ e => e)
    simpa using this
  have hcg : Chg (fun k => ∃ ad, some (⟨g, 0, none⟩ : Addr) = some ad ∧ k = ad.block) w (((w.drewN k1).alloc (.cells #[.int .u8 201, .int .u8 201] 5)).drewN k2) := (((Chg.refl _ w).drewN k1).alloc _).drewN k2
  generalize (((w.drewN k1).alloc (.cells #[.int .u8 201, .int .u8 201] 5)).drewN k2) = w2 at hw hcg ⊢
  go_wp2
  go_loopw [7] (fun i wr => ∃ k : Nat, k ≤ n + 2 ∧ i = .int .i64 k ∧ Wr wr (some ⟨g, 0, none⟩) (n + 2) ∧ Chg (fun k => ∃ ad, some (⟨g, 0, none⟩ : Addr) = some ad ∧ k = ad.block) w wr) (fun i _ => n + 2 - (intOf i).toNat)
  case atStart => exact ⟨0, Nat.zero_le _, rfl, hw, hcg⟩
  case round =>
    obtain ⟨k, hk, rfl, hw, hcg⟩ := hrel
    by_cases hlt : k < n + 2
    · obtain ⟨ad, u, he, hcell, hfr⟩ := hw.at_ hlt
      injection he with he
      subst he
      rw [add_head] at hcell hfr
      go_wp2
      go_roundw
      case rel => exact ⟨k + 1, by omega, by go_num, hw.set _ _, hcg.setCell (p := ⟨g, k, none⟩) (.inr ⟨_, rfl, rfl⟩) _⟩
      case measure => simp [intOf]; omega
    · go_wp2
      go_ret
      exact ⟨by simp, hcg⟩

set_option maxHeartbeats 400000 in
theorem spoilBytes_any (A : Option Addr) (n c : Nat) (l : List UInt8) (base : Nat) (w : World) (h : OB w base 5 A n c l) (hbase : base ≤ w.heap.size) (hn : n ≤ 140737488355320) :
    Calls Tryz.prog 28 #[.slice A n c] w fun e w' => e = .returned (.tuple #[]) ∧ Chg (fun k => ∃ ad, A = some ad ∧ k = ad.block) w w' := by
  have hc := h.cap
  have h1 : OB (w.alloc (.cells #[.int .u8 201] 5)) base 5 A n c l := h.grew ((Chg.refl _ w).alloc _)
  have hr : RB (w.alloc (.cells #[.int .u8 201] 5)) (some ⟨w.heap.size, 0, none⟩) 1 [201] := RB.new w [201] 1 _ _ rfl rfl
  go_enter Tryz.func28, Tryz.ntmps28
  go_wp2_with (at_builtin; refine wpList_appB rfl _ _ rfl base A n c l rfl h1 (by simp; omega) _ 1 1 [201] rfl hr (by omega) ?_; intro A2 c2 w2 h2; have hc2 := h2.ob.cap)
  have hw2 : Wr w2 A2 (n + 1) := by have := Own.wr h2.ob; simpa using this
  have hg2 : Chg (fun k => ∃ ad, A = some ad ∧ k = ad.block) w w2 := ((Chg.refl _ w).alloc _).trans h2.chg
  have hw1 : Wr w2 A n := by
    rcases h2.2.2 with ⟨e1, _⟩ | ⟨_, e2, _⟩
    · rw [← e1]; exact hw2.mono (by omega)
    · have := (Own.wr h1).chg e2 (fun _ _ e => e)
      simpa using this
  have hA2 : ∀ ad, A2 = some ad → w.heap.size ≤ ad.block ∨ ∃ bd, A = some bd ∧ ad.block = bd.block := by
    rintro ad rfl
    rcases h2.2.2 with ⟨e1, _⟩ | ⟨e1, _⟩
    · exact .inr ⟨ad, e1.symm, rfl⟩
    · injection e1 with e1
      subst e1
      exact .inl (by simp)
  clear h2 h1 hr h
  go_loopw [3] (fun i wr => ∃ k : Nat, k ≤ n + 1 ∧ i = .int .i64 k ∧ Wr wr A2 (n + 1) ∧ Wr wr A n ∧ Chg (fun k => ∃ ad, A = some ad ∧ k = ad.block) w wr) (fun i _ => n + 1 - (intOf i).toNat)
  case atStart => exact ⟨0, Nat.zero_le _, rfl, hw2, hw1, hg2⟩
  case round =>
    clear hw2 hw1 hg2 w2
    obtain ⟨k, hk, rfl, hw2, hw1, hg2⟩ := hrel
    by_cases hlt : k < n + 1
    · obtain ⟨ad, u, rfl, hcell, hfr⟩ := hw2.at_ hlt
      go_wp2
      go_roundw
      case rel =>
        refine ⟨k + 1, by omega, by go_num, hw2.set _ _, hw1.set _ _, hg2.setCell ?_ _⟩
        rw [block_add]
        exact hA2 ad rfl
      case measure => simp [intOf]; omega
    · go_wp2
      obtain ⟨wo, rfl⟩ : ∃ wo : World, wo = wr := ⟨_, rfl⟩
      go_loopw [4] (fun i wr => ∃ k : Nat, k ≤ n ∧ i = .int .i64 k ∧ Wr wr A n ∧ Chg (fun k => ∃ ad, A = some ad ∧ k = ad.block) w wr) (fun i _ => n - (intOf i).toNat)
      case atStart => exact ⟨0, Nat.zero_le _, rfl, hw1, hg2⟩
      case round =>
        clear hw1 hw2 hg2
        obtain ⟨k2, hk2, rfl, hw1, hg2⟩ := hrel
        by_cases hlt2 : k2 < n
        · obtain ⟨ad, u, rfl, hcell, hfr⟩ := hw1.at_ hlt2
          go_wp2
          go_roundw
          case rel =>
            refine ⟨k2 + 1, by omega, by go_num, hw1.set _ _, hg2.setCell ?_ _⟩
            rw [block_add]
            exact .inr ⟨ad, rfl, rfl⟩
          case measure => simp [intOf]; omega
        · go_wp2
          go_end0
          exact ⟨by simp, hg2⟩

end Go.Proofs.YtepncgeaehjhiaaGreat

namespace Go.Proofs.YtepncgeaehjhiaaGreat
end Go.Proofs.YtepncgeaehjhiaaGreat

namespace Go.Proofs.YtepncgeaehjhiaaGreat
open Go.RowKit

def dskC (m : Nat) (up armed : Bool) (left keep : Int) (n : Nat) : Array Value := #[.map (some m), .bool up, .bool armed, .int .i64 left, .int .i64 keep, .int .u64 (n : Int)]
structure Dsk (O : Nat → Prop) (w : World) (d m : Nat) (es : Array MapEntry) (clock : Nat) (up armed : Bool) (left keep : Int) (n : Nat) : Prop where
  hd : Blk w d 46 (dskC m up armed left keep n)
  hm : MapB w m es clock
  od : O d
  om : O m
structure Fil (O : Nat → Prop) (w : World) (g : Nat) (A : Option Addr) (c : Nat) (l : List UInt8) (sy : Nat) : Prop where
  hg : Blk w g 77 #[.slice A l.length c, .int .i64 (sy : Int)]
  hA : OB w 0 5 A l.length c l
  og : O g
  oA : ∀ ad, A = some ad → O ad.block
def entF (nm : ByteArray) (g born : Nat) : MapEntry := ⟨.string nm, .pointer (some ⟨g, 0, none⟩), born⟩

set_option maxHeartbeats 400000 in
theorem new_any (w : World) : Calls Tryz.prog 4 #[] w fun e w' => ∃ d m, e = .returned (.pointer (some ⟨d, 0, none⟩)) ∧ Dsk (fun k => w.heap.size ≤ k) w' d m #[] 0 true false 0 0 0 ∧ Grew w w' := by
  have hmm := @run_makeMap Tryz.prog
  go_enter Tryz.func4, Tryz.ntmps4
  go_wp2
  go_ret
  refine ⟨w.heap.size + 1, w.heap.size, by simp, ⟨?_, ?_, Nat.le_succ _, Nat.le_refl _⟩, ((Chg.refl _ w).alloc _).alloc _⟩
  · have := Blk.new (w.alloc (.map #[] 0)) 46 (dskC w.heap.size true false 0 0 0)
    rw [show (w.alloc (.map #[] 0)).heap.size = w.heap.size + 1 by simp] at this
    exact this
  · exact (MapB.new w #[] 0).grew ((Chg.refl _ _).alloc _)

def okc (z : Nat) : Prop := (97 ≤ z ∧ z ≤ 122) ∨ (48 ≤ z ∧ z ≤ 57) ∨ z = 47 ∨ z = 46 ∨ z = 45
def NmOk (x : ByteArray) : Prop := 0 < x.size ∧ x.size ≤ 64 ∧ ∀ (i : Nat) (h : i < x.size), okc (x[i]'h).toNat
theorem nm_one (c : UInt8) (h : okc c.toNat) : NmOk ⟨#[c]⟩ := ⟨(by show 0 < 1; omega), (by show 1 ≤ 64; omega), fun i hi => by
  obtain rfl : i = 0 := by
    have : i < 1 := hi
    omega
  exact h⟩
theorem nm97 : NmOk ⟨#[97]⟩ := nm_one 97 (.inl ⟨by decide, by decide⟩)
theorem nm98 : NmOk ⟨#[98]⟩ := nm_one 98 (.inl ⟨by decide, by decide⟩)
theorem nm99 : NmOk ⟨#[99]⟩ := nm_one 99 (.inl ⟨by decide, by decide⟩)
theorem nm102 : NmOk ⟨#[102]⟩ := nm_one 102 (.inl ⟨by decide, by decide⟩)
theorem nm103 : NmOk ⟨#[103]⟩ := nm_one 103 (.inl ⟨by decide, by decide⟩)
set_option maxHeartbeats 1000000 in
theorem name_ok (x : ByteArray) (hx : NmOk x) (w : World) : Calls Tryz.prog 68 #[.string x] w fun e w' => e = .returned (.bool true) ∧ w = w' := by
  obtain ⟨hs, hs2, hok⟩ := hx
  have h9 : ¬ x.toList = [] := fun e => by
    have := congrArg List.length e
    rw [ByteArray.toList_eq] at this
    simp at this
    have h8 : x.size = 0 := this ▸ rfl
    omega
  have h0 : x.toList.isEmpty = false := by
    cases h : x.toList with
    | nil => exact absurd h h9
    | cons a b => rfl
  obtain ⟨n, hn⟩ : ∃ n, x.size = n := ⟨_, rfl⟩
  have Hok : Hid (∀ (i : Nat) (h : i < x.size), okc (x[i]'h).toNat) := hok
  have e64 : decide ((64 : Int) < (n : Int)) = false := decide_eq_false (by omega)
  clear hok
  go_enter Tryz.func68, Tryz.ntmps68
  go_wp2
  go_loopw [3] (fun si wr => ∃ j : Nat, si = .int .i64 (j : Int) ∧ j ≤ n ∧ w = wr) (fun si _ => n - (intOf si).toNat)
  case atStart => exact ⟨0, rfl, by omega, rfl⟩
  case round =>
    obtain ⟨j, rfl, hj, rfl⟩ := hrel
    by_cases hlt : j < n
    · have hc := Hok.out j (by omega)
      obtain ⟨z, hz⟩ : ∃ z : Int, ∀ h, ((x[j]'h).toNat : Int) = z := ⟨((x[j]'(by omega)).toNat : Int), fun _ => rfl⟩
      have hc2 : (97 ≤ z ∧ z ≤ 122) ∨ (48 ≤ z ∧ z ≤ 57) ∨ z = 47 ∨ z = 46 ∨ z = 45 := by
        have := hz (by omega)
        unfold okc at hc
        omega
      clear hc
      have hb : 0 ≤ z ∧ z ≤ 255 := by omega
      obtain ⟨b1, d1⟩ : ∃ b, decide (z < 97) = b := ⟨_, rfl⟩
      rcases hc2 with ⟨k1, k2⟩ | ⟨k1, k2⟩ | rfl | rfl | rfl
      · have t1 : decide (z < 97) = false := decide_eq_false (by omega)
        have t2 : decide (122 < z) = false := decide_eq_false (by omega)
        clear d1
        go_wp2
        go_roundw
        case rel => exact ⟨j + 1, by go_num, by omega, trivial⟩
        case measure => simp [intOf]; omega
      · have t1 : decide (z < 97) = true := decide_eq_true (by omega)
        have t2 : decide (z < 48) = false := decide_eq_false (by omega)
        have t3 : decide (57 < z) = false := decide_eq_false (by omega)
        clear d1
        go_wp2
        go_roundw
        case rel => exact ⟨j + 1, by go_num, by omega, trivial⟩
        case measure => simp [intOf]; omega
      all_goals
        clear d1
        go_wp2
        go_roundw
        case rel => exact ⟨j + 1, by go_num, by omega, trivial⟩
        case measure => simp [intOf]; omega
    · obtain rfl : j = n := by omega
      go_wp2
      go_ret
      exact ⟨by simp, rfl⟩
end Go.Proofs.YtepncgeaehjhiaaGreat
