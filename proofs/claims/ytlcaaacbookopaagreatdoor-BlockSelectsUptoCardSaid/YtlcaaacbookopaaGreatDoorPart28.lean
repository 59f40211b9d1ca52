/-
  Several texts in one:
  A block's reader on any bytes, by what is left to read: (reader).number, (reader).text, (reader).rows for any closure. Conditions: lengths that memory bears.
  What is left of a block's bytes while they are read, in plain words. Conditions: none; no program in sight.
  (block.open) on a block's bytes: read, or given up. Conditions: lengths that memory bears.
-/
import Derived.Test.YtlcaaacbookopaaGreatDoorPart27
import Derived.Test.YtlcaaacbookopaaGreatDoorPart13
import Derived.Test.YtlcaaacbookopaaGreatDoorPart21
import Derived.Test.YtlcaaacbookopaaGreatDoorPart26

namespace Go.Proofs.YtlcaaacbookopaaGreatDoor
open Go.RowKit

/-- no number stands here -/
def NoNum (l : List UInt8) : Prop := ∀ v r, v < 18446744073709551616 → l ≠ uv v ++ r
def NoTxt (l : List UInt8) : Prop := ∀ s r, s.length < 18446744073709551616 → l ≠ wrdB s ++ r
theorem drop_of_take {l m : List UInt8} {q q2 : Nat} (h : l.take q2 = l.take q ++ m) : l.drop q = m ++ l.drop q2 := by
  have h1 := List.take_append_drop q2 l
  rw [h, List.append_assoc] at h1
  have h2 := List.take_append_drop q l
  exact List.append_cancel_left (h2.trans h1.symm)
theorem uintR_none {l : List UInt8} {q : Nat} (h : (uintR l (q : Int)).2.2 ≠ 0) : NoNum (l.drop q) := fun v r hv e => by
  have hq : q ≤ l.length := by
    by_cases hq : q ≤ l.length
    · exact hq
    · rw [List.drop_of_length_le (by omega)] at e
      have h1 := congrArg List.length e
      have h2 := uv_len1 v
      rw [List.length_append] at h1
      simp only [List.length_nil] at h1
      omega
  have h1 := uintR_at (l.take q) r v hv
  rw [← e, List.take_append_drop, List.length_take, Nat.min_eq_left hq] at h1
  rw [h1] at h
  exact h rfl
theorem textR_some {l : List UInt8} {q : Nat} (h : (textR l (q : Int)).2.2 = 0) : ∃ s q2, textR l (q : Int) = (s, q2, 0) ∧ s.length < 18446744073709551616 ∧ l.drop q = wrdB s ++ l.drop q2 := by
  by_cases h0 : (uintR l (q : Int)).2.2 = 0
  · obtain ⟨v, q2, h1, h2, h3, h4, h5⟩ := uintR_part h0
    unfold textR at *
    rw [h1] at h ⊢
    unfold textOf at *
    simp only [ne_eq, not_true_eq_false, if_false] at h ⊢
    by_cases hv : l.length - q2 < v
    · rw [if_pos hv] at h
      simp at h
    · rw [if_neg hv]
      have hl : ((l.drop q2).take v).length = v := by rw [List.length_take, List.length_drop]; omega
      refine ⟨_, _, rfl, by rw [hl]; exact h2, ?_⟩
      unfold wrdB
      rw [hl, drop_of_take h5, List.append_assoc]
      congr 1
      rw [← List.drop_drop, List.take_append_drop]
  · exfalso
    unfold textR textOf at h
    rw [if_pos h0] at h
    exact h0 h
theorem textR_none {l : List UInt8} {q : Nat} (h : (textR l (q : Int)).2.2 ≠ 0) : NoTxt (l.drop q) := fun s r hs e => by
  have hq : q ≤ l.length := by
    by_cases hq : q ≤ l.length
    · exact hq
    · rw [List.drop_of_length_le (by omega)] at e
      have h1 := congrArg List.length e
      have h2 := uv_len1 s.length
      unfold wrdB at h1
      rw [List.length_append, List.length_append] at h1
      simp only [List.length_nil] at h1
      omega
  unfold wrdB at e
  rw [List.append_assoc] at e
  have h1 := textR_at (l.take q) s r s.length rfl hs
  rw [← e, List.take_append_drop, List.length_take, Nat.min_eq_left hq] at h1
  rw [h1] at h
  exact h rfl

theorem rnum_any (g : Nat) (B : Option Addr) (n c : Nat) (l : List UInt8) (q : Nat) (w : World) (h : RdS w g B n c l q) (hn : n ≤ 140737488355328) :
    Calls Tryz.prog 43 #[.pointer (some ⟨g, 0, none⟩)] w fun e w' =>
      (∃ v q2, v < 18446744073709551616 ∧ l.drop q = uv v ++ l.drop q2 ∧ e = .returned (.int .u64 (v : Int)) ∧ RdT w w' g B n c l q2) ∨ (GvU e ∧ Grew w w' ∧ NoNum (l.drop q)) := by
  by_cases hr : (uintR l (q : Int)).2.2 = 0
  · obtain ⟨v, q2, h1, h2, h3, _, h4⟩ := uintR_part hr
    exact (rnumber_ok g B n c l q v q2 w h hn h1).mono fun e w' ⟨he, hT⟩ => .inl ⟨v, q2, h2, drop_of_take h4, he, hT⟩
  · exact (rnumber_no g B n c l q w h hn hr).mono fun e w' ⟨h1, h2⟩ => .inr ⟨h1, h2, uintR_none hr⟩

set_option maxRecDepth 100000 in
set_option maxHeartbeats 4000000 in
theorem rtext_ok (g : Nat) (B : Option Addr) (n c : Nat) (l s : List UInt8) (q q2 : Nat) (w : World) (h : RdS w g B n c l q) (hn : n ≤ 140737488355328) (hc : n ≤ c ∧ c ≤ 9223372036854775807) (hr : textR l (q : Int) = (s, q2, 0)) :
    Calls Tryz.prog 83 #[.pointer (some ⟨g, 0, none⟩)] w fun e w' => e = .returned (.string ⟨s.toArray⟩) ∧ RdT w w' g B n c l q2 := by
  have hU := fun W (hW : Grew w W) => text_any B n c l (q : Int) W (h.rb.grew hW) hn hc
  rw [hr] at hU
  unfold TextPost textEnd at hU
  replace hU := Lib.hid hU
  have c0 := h.bk.cell 0
  have c1 := h.bk.cell 1
  simp only [List.getElem?_toArray, List.getElem?_cons_succ, List.getElem?_cons_zero] at c0 c1
  clear hr
  go_enter Tryz.func83, Tryz.ntmps83
  go_wp2
  refine wp_region_text [] (by kernel_rfl) (by kernel_rfl) ?_
  simp only [instr, chk, List.nil_append]
  go_wp2_with fail
  refine (hU.out _ (Chg.refl _ w).drew).mono ?_
  rintro e w1 ⟨rfl, rfl⟩
  go_wp2_with fail
  refine OnlyN.normal ?_
  go_wp2_with fail
  refine (must_yes _).mono ?_
  rintro e w2 ⟨rfl, rfl⟩
  clear hU
  have hto := h.to ((Chg.refl _ w).drew) q2
  have k1 := h.bk.cell 1
  have kf := h.bk.frozen 1
  simp only [List.getElem?_toArray, List.getElem?_cons_succ, List.getElem?_cons_zero] at k1
  go_wp2
  go_ret
  exact ⟨by simp, hto⟩

set_option maxRecDepth 100000 in
set_option maxHeartbeats 4000000 in
theorem rtext_no (g : Nat) (B : Option Addr) (n c : Nat) (l : List UInt8) (q : Nat) (w : World) (h : RdS w g B n c l q) (hn : n ≤ 140737488355328) (hc : n ≤ c ∧ c ≤ 9223372036854775807) (hr : (textR l (q : Int)).2.2 ≠ 0) :
    Calls Tryz.prog 83 #[.pointer (some ⟨g, 0, none⟩)] w fun e w' => GvU e ∧ Grew w w' := by
  have hU := fun W (hW : Grew w W) => text_any B n c l (q : Int) W (h.rb.grew hW) hn hc
  obtain ⟨er, he⟩ : ∃ er, (textR l (q : Int)).2.2 = er := ⟨_, rfl⟩
  unfold TextPost textEnd at hU
  rw [he] at hU hr
  generalize (⟨(textR l (q : Int)).1.toArray⟩ : ByteArray) = r1 at hU
  generalize (textR l (q : Int)).2.1 = r2 at hU
  have her : ((er : Int) == 0) = false := by simp; omega
  have her2 : ¬ (er : Int) = 0 := by omega
  have her3 : ¬ er = 0 := hr
  replace hU := Lib.hid hU
  have c0 := h.bk.cell 0
  have c1 := h.bk.cell 1
  simp only [List.getElem?_toArray, List.getElem?_cons_succ, List.getElem?_cons_zero] at c0 c1
  clear he
  go_enter Tryz.func83, Tryz.ntmps83
  go_wp2
  refine wp_region_text [] (by kernel_rfl) (by kernel_rfl) ?_
  simp only [instr, chk, List.nil_append]
  go_wp2_with fail
  refine (hU.out _ (Chg.refl _ w).drew).mono ?_
  rintro e w1 ⟨rfl, rfl⟩
  go_wp2_with fail
  refine OnlyN.normal ?_
  go_wp2_with fail
  refine (must_no _).mono ?_
  rintro e w2 ⟨he, rfl⟩
  unfold GvU at he
  subst he
  go_wp2
  exact ⟨rfl, rfl, (Chg.refl _ w).drew⟩

theorem rtext_any (g : Nat) (B : Option Addr) (n c : Nat) (l : List UInt8) (q : Nat) (w : World) (h : RdS w g B n c l q) (hn : n ≤ 140737488355328) (hc : n ≤ c ∧ c ≤ 9223372036854775807) :
    Calls Tryz.prog 83 #[.pointer (some ⟨g, 0, none⟩)] w fun e w' =>
      (∃ s q2, s.length < 18446744073709551616 ∧ l.drop q = wrdB s ++ l.drop q2 ∧ e = .returned (.string ⟨s.toArray⟩) ∧ RdT w w' g B n c l q2) ∨ (GvU e ∧ Grew w w' ∧ NoTxt (l.drop q)) := by
  by_cases hr : (textR l (q : Int)).2.2 = 0
  · obtain ⟨s, q2, h1, h2, h3⟩ := textR_some hr
    exact (rtext_ok g B n c l s q q2 w h hn hc h1).mono fun e w' ⟨he, hT⟩ => .inl ⟨s, q2, h2, h3, he, hT⟩
  · exact (rtext_no g B n c l q w h hn hc hr).mono fun e w' ⟨h1, h2⟩ => .inr ⟨h1, h2, textR_none hr⟩

/-- some rows read by any closure: what holds behind each row (I), what holds where it gives up (G) -/
structure RowsX (g : Nat) (B : Option Addr) (n c : Nat) (l : List UInt8) (q : Nat) (most : Nat) (fn : Nat) (cap : Array Value) (w : World) (I : Nat → Nat → World → Prop) (G : World → Prop) : Prop where
  en : ∀ args w, (callFunc fn args).run Tryz.prog w = .ok (.enter fn args) w
  rd : RdS w g B n c l q
  nb : n ≤ 140737488355328
  m : most < 18446744073709551616
  st : ∀ p q2 W, RdT w W g B n c l q2 → l.drop q = uv p ++ l.drop q2 → p ≤ most → I p 0 W
  gn : ∀ W, Grew w W → NoNum (l.drop q) → G W
  gm : ∀ p q2 W, RdT w W g B n c l q2 → l.drop q = uv p ++ l.drop q2 → p < 18446744073709551616 → most < p → G W
  ea : ∀ p j W, j < p → p ≤ most → I p j W → Calls Tryz.prog fn cap W fun e W' => (e = .returned (.tuple #[]) ∧ I p (j + 1) W') ∨ (GvU e ∧ G W')

set_option maxRecDepth 100000 in
set_option maxHeartbeats 4000000 in
theorem rows_gen (g : Nat) (B : Option Addr) (n c : Nat) (l : List UInt8) (q : Nat) (most : Nat) (fn : Nat) (cap : Array Value) (w : World) (I : Nat → Nat → World → Prop) (G : World → Prop) (h : RowsX g B n c l q most fn cap w I G) :
    Calls Tryz.prog 46 #[.pointer (some ⟨g, 0, none⟩), .int .u64 (most : Int), .func (.func fn) #[] cap] w
      fun e W' => (∃ p, p ≤ most ∧ e = .returned (.tuple #[]) ∧ I p p W') ∨ (GvU e ∧ G W') := by
  have hen := h.en
  have hmo := h.m
  unfold GvU
  go_enter Tryz.func46, Tryz.ntmps46
  go_wp2_with fail
  refine (rnum_any g B n c l q _ h.rd h.nb).mono ?_
  rintro e W1 (⟨p, q1, hp, hd, rfl, hT⟩ | ⟨he, hg, hno⟩)
  · by_cases hle : p ≤ most
    · have h0 := h.st p q1 W1 hT hd hle
      have ho6 : (p : Int) ≤ (most : Int) := by omega
      clear hT hd
      go_wp2_with fail
      refine (must_yes _).mono ?_
      rintro e W2 ⟨rfl, rfl⟩
      go_wp2
      go_loopw [6] (fun s wr => ∃ j : Nat, j ≤ p ∧ s = .int .u64 ((p - j : Nat) : Int) ∧ Hid (I p j wr)) (fun s _ => (intOf s).toNat)
      case atStart => exact ⟨0, by omega, rfl, Lib.hid h0⟩
      case round =>
        clear h0
        obtain ⟨j, hj, rfl, hI⟩ := hrel
        by_cases hlt : j < p
        · have hE := h.ea p j wr hlt hle hI.out
          obtain ⟨r, hr⟩ : ∃ r, p - j = r + 1 := ⟨p - j - 1, by omega⟩
          rw [hr]
          have hr2 : p - (j + 1) = r := by omega
          have hwq : IntKind.u64.wrap (r : Int) = (r : Int) := by rw [IntKind.wrap_u64]; omega
          replace hr2 := Lib.hid hr2
          clear hr
          go_wp2_with fail
          refine hE.mono ?_
          rintro e W3 (⟨rfl, hI3⟩ | ⟨he, hG⟩)
          · replace hI3 := Lib.hid hI3
            clear hE hI
            go_wp2
            go_roundw
            case rel => exact ⟨j + 1, by omega, by rw [hr2.out], hI3⟩
            case measure => simp [intOf]
          · unfold GvU at he
            subst he
            clear hE hI
            go_wp2
            exact ⟨rfl, .inr ⟨rfl, hG⟩⟩
        · obtain rfl : p = j := by omega
          rw [Nat.sub_self]
          go_wp2
          first
            | go_end0
            | refine bodyPost_ret (results_none rfl _ _ _) rfl ?_
          exact .inl ⟨p, hle, rfl, hI.out⟩
    · have hG := h.gm p q1 W1 hT hd hp (by omega)
      have ho6 : ¬ (p : Int) ≤ (most : Int) := by omega
      clear hT hd
      go_wp2_with fail
      refine (must_no _).mono ?_
      rintro e W2 ⟨he, rfl⟩
      unfold GvU at he
      subst he
      go_wp2
      exact ⟨rfl, .inr ⟨rfl, hG⟩⟩
  · unfold GvU at he
    subst he
    have hG := h.gn _ hg hno
    go_wp2
    exact ⟨rfl, .inr ⟨rfl, hG⟩⟩
end Go.Proofs.YtlcaaacbookopaaGreatDoor

namespace Go.Proofs.YtlcaaacbookopaaGreatDoor

def remP (ss : List Ser) (k : Nat) : List UInt8 := ((ss.map Ser.pts).drop k).flatMap pntsB
def remL (T : List ByteArray) (ss : List Ser) (k : Nat) : List UInt8 := ((ss.map Ser.lbs).drop k).flatMap (labsB T) ++ remP ss 0
def remB (T : List ByteArray) (ls : List Lab) (j : Nat) (r : List UInt8) : List UInt8 := (ls.drop j).flatMap (labB T) ++ r
def remT (T : List ByteArray) (ss : List Ser) (j : Nat) : List UInt8 := (T.drop j).flatMap (fun t => wrdB t.data.toList) ++ (uv ss.length ++ remL T ss 0)
theorem bodyK_rem (T : List ByteArray) (ss : List Ser) : bodyK T ss = headK ++ (uv T.length ++ remT T ss 0) := by
  unfold bodyK remT remL remP
  simp
theorem drop_cons {α : Type} {l : List α} {j : Nat} {x : α} (h : l[j]? = some x) : l.drop j = x :: l.drop (j + 1) := by
  obtain ⟨h1, h2⟩ := List.getElem?_eq_some_iff.1 h
  rw [List.drop_eq_getElem_cons h1, h2]
theorem remT_step {T : List ByteArray} {ss : List Ser} {j : Nat} {t : ByteArray} (h : T[j]? = some t) : remT T ss j = wrdB t.data.toList ++ remT T ss (j + 1) := by
  unfold remT
  rw [drop_cons h, List.flatMap_cons, List.append_assoc]
theorem remT_end (T : List ByteArray) (ss : List Ser) : remT T ss T.length = uv ss.length ++ remL T ss 0 := by
  unfold remT
  rw [List.drop_of_length_le (Nat.le_refl _)]
  rfl
theorem remL_step {T : List ByteArray} {ss : List Ser} {k : Nat} {s : Ser} (h : ss[k]? = some s) : remL T ss k = uv s.lbs.length ++ remB T s.lbs 0 (remL T ss (k + 1)) := by
  unfold remL remB
  rw [drop_cons (l := ss.map Ser.lbs) (x := s.lbs) (by rw [List.getElem?_map, h]; rfl), List.flatMap_cons, List.append_assoc]
  unfold labsB
  rw [List.append_assoc]
  rfl
theorem remB_step {T : List ByteArray} {ls : List Lab} {j : Nat} {x : Lab} {r : List UInt8} (h : ls[j]? = some x) : remB T ls j r = uv (plc T x.1) ++ (uv (plc T x.2) ++ remB T ls (j + 1) r) := by
  unfold remB
  rw [drop_cons h, List.flatMap_cons, List.append_assoc]
  unfold labB
  rw [List.append_assoc]
theorem remB_end (T : List ByteArray) (ls : List Lab) (r : List UInt8) : remB T ls ls.length r = r := by
  unfold remB
  rw [List.drop_of_length_le (Nat.le_refl _)]
  rfl
theorem remL_end (T : List ByteArray) (ss : List Ser) : remL T ss ss.length = remP ss 0 := by
  unfold remL
  rw [List.drop_of_length_le (by simp)]
  rfl
theorem remP_step {ss : List Ser} {k : Nat} {s : Ser} (h : ss[k]? = some s) : remP ss k = wrdB (pack (encB s.pts)) ++ remP ss (k + 1) := by
  unfold remP
  rw [drop_cons (l := ss.map Ser.pts) (x := s.pts) (by rw [List.getElem?_map, h]; rfl), List.flatMap_cons]
  rfl
theorem remT_len (T : List ByteArray) (ss : List Ser) : T.length ≤ (remT T ss 0).length := by
  unfold remT
  rw [List.length_append, List.drop_zero]
  have : T.length ≤ (T.flatMap (fun t : ByteArray => wrdB t.data.toList)).length := by
    induction T with
    | nil => simp
    | cons a T ih =>
      rw [List.flatMap_cons, List.length_append, List.length_cons]
      have h1 := uv_len1 a.data.toList.length
      unfold wrdB at ih ⊢
      rw [List.length_append]
      omega
  omega
/-- series that may be in a block, with values of 64 bits -/
def BkV (ss : List Ser) : Prop := BkOk ss ∧ ∀ s ∈ ss, Okv s.pts
theorem BkV.bks {ss : List Ser} (h : BkV ss) : BkS ss := h.1.bks h.2
theorem BkV.w {ss : List Ser} (h : BkV ss) : BkW (tabT ss) ss := h.bks.bkw
theorem BkV.inj {ss zs : List Ser} (h : BkV ss) (h' : BkV zs) (e : blkB (tabT ss) ss = blkB (tabT zs) zs) : ss = zs :=
  (blk_tell h.bks h'.bks (x := []) (y := []) (by rw [List.append_nil, List.append_nil]; exact e)).1
theorem no_num {l r : List UInt8} {p : Nat} (h : NoNum l) (hp : p < 18446744073709551616) (e : l = uv p ++ r) : False := h p r hp e
theorem no_txt {l s r : List UInt8} (h : NoTxt l) (hp : s.length < 18446744073709551616) (e : l = wrdB s ++ r) : False := h s r hp e
end Go.Proofs.YtlcaaacbookopaaGreatDoor

namespace Go.Proofs.YtlcaaacbookopaaGreatDoor
open Go.RowKit

set_option maxRecDepth 100000 in
set_option maxHeartbeats 4000000 in
theorem kopen_ok (B : Option Addr) (n c : Nat) (l r : List UInt8) (w : World) (h : RB w B (n + 4) (sealB l)) (hl : l = headK ++ r) (hn : n ≤ 140737488350000) (hc : n + 4 ≤ c ∧ c ≤ 9223372036854775807) :
    Calls Tryz.prog 42 #[.slice B (n + 4) c, .string ⟨#[84, 87, 66, 1]⟩] w fun e w' => ∃ g, e = .returned (.pointer (some ⟨g, 0, none⟩)) ∧ w.heap.size ≤ g ∧ RdS w' g B n c l 4 ∧ Grew w w' := by
  have hll : l.length = n := by have := h.1; rw [sealB_len] at this; omega
  have h4n : 4 ≤ n := by rw [← hll, hl, List.length_append]; show 4 ≤ 4 + _; omega
  have hbl : ∀ ad, B = some ad → ad.block < w.heap.size := fun ad e => h.lt ad e (by omega)
  have hr4 : RB w B 4 headK := by
    refine ⟨rfl, ?_⟩
    have := h.2.take 4
    rwa [← List.map_take, show (sealB l).take 4 = headK by rw [hl]; rfl] at this
  have hrn : RB w B n l := by
    refine ⟨hll, ?_⟩
    have := h.2.take n
    rwa [← List.map_take, show (sealB l).take n = l by unfold sealB; exact List.take_left' hll] at this
  have hcv := run_conv_RB (P := Tryz.prog) (c := c) Tryz.underlying26 Tryz.underlying5 Tryz.underlying9 hr4
  have oL : OB (w.alloc (.cells #[] 5)) w.heap.size 5 (some ⟨w.heap.size, 0, none⟩) 0 0 [] := Own.made w w.heap.size 5 1 (Nat.le_refl _)
  have rL := hrn.grew ((Chg.refl _ w).alloc (.cells #[] 5))
  have h4i : (4 : Int) ≤ (n : Int) := by omega
  replace hll := Lib.hid hll
  replace hl := Lib.hid hl
  unfold headK at hcv
  clear hr4
  go_enter Tryz.func42, Tryz.ntmps42
  go_wp2_with (at_builtin; go_loud (refine wpList_appBw rfl _ _ rfl w.heap.size (some ⟨w.heap.size, 0, none⟩) 0 0 [] rfl oL (by simp) B n c l rfl rL (by omega) ?_); intro A2 c2 w2 h2)
  have ho2 : OB w2 w.heap.size 5 A2 n c2 l := by
    have := h2.ob
    rwa [Nat.zero_add, List.nil_append] at this
  have g2 : Grew w w2 := h2.grew ((Chg.refl _ w).alloc _) (head_le0 (Nat.le_refl _))
  clear h2 oL rL hcv
  refine (bsealed_any w.heap.size A2 n c2 l w2 ho2 g2.size (by omega)).mono ?_
  rintro e w3 ⟨A3, c3, rfl, ho3, hc3⟩
  have g3 : Grew w w3 := g2.step hc3 fun k hk ⟨ad, e, he⟩ => by have := (Own.blk_lt ho2 ad e).1; omega
  go_wp2_with fail
  refine (bytesEqual_any A3 B (n + 4) (n + 4) c3 c _ _ w3 ho3.rb (h.grew g3)).mono ?_
  rintro e w4 ⟨rfl, rfl⟩
  rw [beq_self_eq_true]
  go_wp2_with fail
  refine (must_yes _).mono ?_
  rintro e w5 ⟨rfl, rfl⟩
  go_wp2
  go_ret
  have hg3 := g3.size
  refine ⟨_, by simp, hg3, ⟨by simpa using Blk.new _ _ _, (hrn.grew g3).grew ((Chg.refl _ _).alloc _), fun ad e h0 => ?_⟩, g3.alloc _⟩
  have := hbl ad e
  omega

set_option maxRecDepth 100000 in
set_option maxHeartbeats 4000000 in
theorem kopen_short (B : Option Addr) (n c : Nat) (w : World) (hn : n < 8) :
    Calls Tryz.prog 42 #[.slice B n c, .string ⟨#[84, 87, 66, 1]⟩] w fun e w' => GvU e ∧ Grew w w' := by
  have h1 : ¬ (4 : Int) ≤ (n : Int) - 4 := by omega
  have h2 : wrap64 ((n : Int) - 4) = (n : Int) - 4 := by unfold wrap64; omega
  unfold GvU
  go_enter Tryz.func42, Tryz.ntmps42
  go_wp2_with fail
  refine (must_no _).mono ?_
  rintro e w2 ⟨he, rfl⟩
  unfold GvU at he
  subst he
  go_wp2
  exact ⟨rfl, rfl, Chg.refl _ _⟩

set_option maxRecDepth 100000 in
set_option maxHeartbeats 4000000 in
theorem kopen_head (B : Option Addr) (n c : Nat) (lb : List UInt8) (w : World) (h : RB w B (n + 4) lb) (hh : lb.take 4 ≠ headK) (h4n : 4 ≤ n) (hn : n ≤ 140737488350000) (hc : n + 4 ≤ c ∧ c ≤ 9223372036854775807) :
    Calls Tryz.prog 42 #[.slice B (n + 4) c, .string ⟨#[84, 87, 66, 1]⟩] w fun e w' => GvU e ∧ Grew w w' := by
  have hr4 : RB w B 4 (lb.take 4) := by
    refine ⟨by rw [List.length_take, h.1]; omega, ?_⟩
    have := h.2.take 4
    rwa [← List.map_take] at this
  have hcv := run_conv_RB (P := Tryz.prog) (c := c) Tryz.underlying26 Tryz.underlying5 Tryz.underlying9 hr4
  have h4i : (4 : Int) ≤ (n : Int) := by omega
  have hne : ¬ (⟨(lb.take 4).toArray⟩ : ByteArray).toList = [84, 87, 66, 1] := fun e => hh (by
    rw [ByteArray.toList_eq] at e
    simpa [headK] using e)
  generalize (⟨(lb.take 4).toArray⟩ : ByteArray) = x at hcv hne
  clear hr4 hh
  unfold GvU
  go_enter Tryz.func42, Tryz.ntmps42
  go_wp2_with fail
  refine (must_no _).mono ?_
  rintro e w2 ⟨he, rfl⟩
  unfold GvU at he
  subst he
  go_wp2
  exact ⟨rfl, rfl, Chg.refl _ _⟩

set_option maxRecDepth 100000 in
set_option maxHeartbeats 4000000 in
theorem kopen_sum (B : Option Addr) (n c : Nat) (lb : List UInt8) (w : World) (h : RB w B (n + 4) lb) (hh : lb.take 4 = headK) (hs : sealB (lb.take n) ≠ lb) (h4n : 4 ≤ n) (hn : n ≤ 140737488350000) (hc : n + 4 ≤ c ∧ c ≤ 9223372036854775807) :
    Calls Tryz.prog 42 #[.slice B (n + 4) c, .string ⟨#[84, 87, 66, 1]⟩] w fun e w' => GvU e ∧ Grew w w' := by
  have hr4 : RB w B 4 headK := by
    refine ⟨rfl, ?_⟩
    have := h.2.take 4
    rwa [← List.map_take, hh] at this
  have hrn : RB w B n (lb.take n) := by
    refine ⟨by rw [List.length_take, h.1]; omega, ?_⟩
    have := h.2.take n
    rwa [← List.map_take] at this
  have hcv := run_conv_RB (P := Tryz.prog) (c := c) Tryz.underlying26 Tryz.underlying5 Tryz.underlying9 hr4
  have oL : OB (w.alloc (.cells #[] 5)) w.heap.size 5 (some ⟨w.heap.size, 0, none⟩) 0 0 [] := Own.made w w.heap.size 5 1 (Nat.le_refl _)
  have rL := hrn.grew ((Chg.refl _ w).alloc (.cells #[] 5))
  have h4i : (4 : Int) ≤ (n : Int) := by omega
  have hb : (sealB (lb.take n) == lb) = false := by simp [hs]
  generalize lb.take n = l at *
  replace hb := Lib.hid hb
  unfold headK at hcv
  clear hr4 hh hs
  unfold GvU
  go_enter Tryz.func42, Tryz.ntmps42
  go_wp2_with (at_builtin; go_loud (refine wpList_appBw rfl _ _ rfl w.heap.size (some ⟨w.heap.size, 0, none⟩) 0 0 [] rfl oL (by simp) B n c l rfl rL (by omega) ?_); intro A2 c2 w2 h2)
  have ho2 : OB w2 w.heap.size 5 A2 n c2 l := by
    have := h2.ob
    rwa [Nat.zero_add, List.nil_append] at this
  have g2 : Grew w w2 := h2.grew ((Chg.refl _ w).alloc _) (head_le0 (Nat.le_refl _))
  clear h2 oL rL hcv
  refine (bsealed_any w.heap.size A2 n c2 l w2 ho2 g2.size (by omega)).mono ?_
  rintro e w3 ⟨A3, c3, rfl, ho3, hc3⟩
  have g3 : Grew w w3 := g2.step hc3 fun k hk ⟨ad, e, he⟩ => by have := (Own.blk_lt ho2 ad e).1; omega
  go_wp2_with fail
  refine (bytesEqual_any A3 B (n + 4) (n + 4) c3 c _ _ w3 ho3.rb (h.grew g3)).mono ?_
  rintro e w4 ⟨rfl, rfl⟩
  rw [hb.out]
  go_wp2_with fail
  refine (must_no _).mono ?_
  rintro e w5 ⟨he, rfl⟩
  unfold GvU at he
  subst he
  go_wp2
  exact ⟨rfl, rfl, g3⟩

/-- bytes that begin so and bear their sum are read; others are given up -/
theorem kopen_any (B : Option Addr) (n c : Nat) (lb : List UInt8) (w : World) (h : RB w B n lb) (hn : n ≤ 140737488350000) (hc : n ≤ c ∧ c ≤ 9223372036854775807) :
    Calls Tryz.prog 42 #[.slice B n c, .string ⟨#[84, 87, 66, 1]⟩] w fun e w' =>
      (∃ g l r k, lb = sealB l ∧ l = headK ++ r ∧ n = k + 4 ∧ e = .returned (.pointer (some ⟨g, 0, none⟩)) ∧ w.heap.size ≤ g ∧ RdS w' g B k c l 4 ∧ Grew w w') ∨ (GvU e ∧ (∀ r, lb ≠ sealB (headK ++ r)) ∧ Grew w w') := by
  have hl := h.1
  by_cases h8 : n < 8
  · refine (kopen_short B n c w h8).mono fun e w' ⟨he, hg⟩ => .inr ⟨he, fun r e => ?_, hg⟩
    rw [e, sealB_len, List.length_append] at hl
    have : headK.length = 4 := rfl
    omega
  · obtain ⟨k, rfl⟩ : ∃ k, n = k + 4 := ⟨n - 4, by omega⟩
    by_cases hh : lb.take 4 = headK
    · by_cases hs : sealB (lb.take k) = lb
      · have hlr : lb.take k = headK ++ (lb.take k).drop 4 := by
          have h1 := List.take_append_drop 4 (lb.take k)
          rw [List.take_take, Nat.min_eq_left (by omega), hh] at h1
          exact h1.symm
        refine (kopen_ok B k c (lb.take k) _ w (by rw [hs]; exact h) hlr (by omega) hc).mono fun e w' ⟨g, he, hg, hr, hgr⟩ => .inl ⟨g, lb.take k, _, k, hs.symm, hlr, rfl, he, hg, hr, hgr⟩
      · refine (kopen_sum B k c lb w h hh hs (by omega) (by omega) hc).mono fun e w' ⟨he, hg⟩ => .inr ⟨he, fun r e => hs ?_, hg⟩
        have h2 : (headK ++ r).length = k := by
          have := hl
          rw [e, sealB_len] at this
          omega
        have h3 : lb.take k = headK ++ r := by
          rw [e]
          unfold sealB
          exact List.take_left' h2
        rw [h3, ← e]
    · refine (kopen_head B k c lb w h hh (by omega) (by omega) hc).mono fun e w' ⟨he, hg⟩ => .inr ⟨he, fun r e => hh ?_, hg⟩
      rw [e]
      rfl
end Go.Proofs.YtlcaaacbookopaaGreatDoor
