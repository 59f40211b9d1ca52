/-
  Several texts in one:
  Package match: what matchers ask: label.Get, the kinds. Conditions: texts that memory bears.
-/
import Derived.Test.YtlcaaacbookopaaGreatDoorPart34
import Derived.Test.YtlcaaacbookopaaGreatDoorPart7
import Derived.Test.YtlcaaacbookopaaGreatDoorPart14

namespace Go.Proofs.YtlcaaacbookopaaGreatDoor
open Go.RowKit

abbrev Mat := Int × ByteArray × ByteArray
/-- a matcher in cells -/
def elMa : El Mat := ⟨fun x => [.int .i64 x.1, .string x.2.1, .string x.2.2], 3, fun _ => rfl, by
  intro x u hu
  simp only [List.mem_cons, List.not_mem_nil, or_false] at hu
  rcases hu with rfl | rfl | rfl <;> rfl⟩
theorem RE.ma {w : World} {A : Option Addr} {n : Nat} {l : List Mat} (h : RE elMa w A n l) {k : Nat} (hk : k < n) :
    ∃ ad p, A = some ad ∧ l[k]? = some p ∧ w.cell? (ad.add (k * 3)) = some (.int .i64 p.1) ∧ w.cell? ⟨(ad.add (k * 3)).block, (ad.add (k * 3)).off + 1, none⟩ = some (.string p.2.1) ∧ w.cell? ⟨(ad.add (k * 3)).block, (ad.add (k * 3)).off + 2, none⟩ = some (.string p.2.2) := by
  obtain ⟨ad, p, e, hp, hc⟩ := h.at_ hk (by decide)
  exact ⟨ad, p, e, hp, hc 0 _ rfl, cell_off (by decide) (hc 1 _ rfl), cell_off (by decide) (hc 2 _ rfl)⟩

/-- the value of a name, or none -/
def getB (ls : List (ByteArray × ByteArray)) (nm : ByteArray) : ByteArray :=
  match ls with
  | [] => ⟨#[]⟩
  | x :: r => if glst x.1 == glst nm then x.2 else getB r nm
theorem getB_drop {ls : List (ByteArray × ByteArray)} {nm : ByteArray} {j : Nat} {x : ByteArray × ByteArray} (hx : ls[j]? = some x) : getB (ls.drop j) nm = if glst x.1 == glst nm then x.2 else getB (ls.drop (j + 1)) nm := by
  obtain ⟨hlt, he⟩ := List.getElem?_eq_some_iff.1 hx
  rw [List.drop_eq_getElem_cons hlt, he]
  rfl
theorem getB_size {ls : List (ByteArray × ByteArray)} {nm : ByteArray} {b : Nat} (h : ∀ x ∈ ls, x.2.size ≤ b) : (getB ls nm).size ≤ b := by
  induction ls with
  | nil => exact Nat.zero_le _
  | cons x r ih =>
    unfold getB
    split
    · exact h x (by simp)
    · exact ih fun y hy => h y (by simp [hy])

set_option maxRecDepth 100000 in
set_option maxHeartbeats 2000000 in
theorem get_any (A : Option Addr) (n c : Nat) (ls : List (ByteArray × ByteArray)) (nm : ByteArray) (w : World) (h : RE elLb w A n ls) (hn : n ≤ 9223372036854775807) :
    Calls Tryz.prog 96 #[.slice A n c, .string nm] w fun e w' => e = .returned (.string (getB ls nm)) ∧ Grew w w' := by
  have Hlen := Lib.hid h.1
  go_enter Tryz.func96, Tryz.ntmps96
  go_wp2
  go_loopw [9] (fun i wr => ∃ (j : Nat), i = .int .i64 (j : Int) ∧ j ≤ n ∧ Hid (getB (ls.drop j) nm = getB ls nm) ∧ RE elLb wr A n ls ∧ Grew w wr) (fun i _ => n - (intOf i).toNat)
  case atStart => exact ⟨0, rfl, by omega, rfl, h, Chg.refl _ _⟩
  case round =>
    clear h
    obtain ⟨j, rfl, hj, Hj, hre, hg⟩ := hrel
    by_cases hlt : j < n
    · obtain ⟨ad, x, rfl, hx, c0, c1⟩ := hre.lb hlt
      have hjj := Hj.out
      rw [getB_drop hx] at hjj
      have hga : Grew wr (wr.alloc (.cells #[.string x.1, .string x.2] 79)) := (Chg.refl _ wr).alloc _
      cases hb : glst x.1 == glst nm
      · have hb2 : (x.1.toList == nm.toList) = false := by rw [ByteArray.toList_eq, ByteArray.toList_eq]; exact hb
        rw [hb, if_neg (by simp)] at hjj
        have Hjj := Lib.hid hjj
        clear hb hjj hx Hj
        go_wp2
        go_roundw
        case rel => exact ⟨j + 1, by go_num, by omega, Hjj.out, hre.grew hga, hg.trans hga⟩
        case measure => simp [intOf]; omega
      · have hb2 : (x.1.toList == nm.toList) = true := by rw [ByteArray.toList_eq, ByteArray.toList_eq]; exact hb
        rw [hb, if_pos rfl] at hjj
        have Hjj := Lib.hid hjj
        clear hb hjj hx Hj
        go_wp2
        go_ret
        exact ⟨by rw [← Hjj.out]; simp, hg.trans hga⟩
    · obtain rfl : j = n := by omega
      have Hf : Hid (getB ls nm = ⟨#[]⟩) := by
        show _ = _
        rw [← Hj.out, ← Hlen.out, List.drop_length]
        rfl
      clear Hj hre
      go_wp2
      go_ret
      exact ⟨by rw [Hf.out]; simp, hg⟩

set_option maxRecDepth 100000 in
theorem eq_any (x y : Value) (want v : ByteArray) (w : World) (hx : x = .string want) :
    Calls Tryz.prog 110 #[.agg #[y, x], .string v] w fun e w' => e = .returned (.bool (glst v == glst want)) ∧ Grew w w' := by
  subst hx
  have Hb : Hid ((glst v == glst want) = (v.toList == want.toList)) := by show _ = _; rw [ByteArray.toList_eq, ByteArray.toList_eq]
  go_enter Tryz.func110, Tryz.ntmps110
  go_wp2
  go_ret
  exact ⟨by rw [Hb.out]; simp, (Chg.refl _ w).alloc _⟩

set_option maxRecDepth 100000 in
theorem ne_any (y : Value) (want v : ByteArray) (w : World) :
    Calls Tryz.prog 111 #[.agg #[y, .string want], .string v] w fun e w' => e = .returned (.bool (!(glst v == glst want))) ∧ Grew w w' := by
  have Hb : Hid ((glst v == glst want) = (v.toList == want.toList)) := by show _ = _; rw [ByteArray.toList_eq, ByteArray.toList_eq]
  go_enter Tryz.func111, Tryz.ntmps111
  go_wp2
  go_ret
  exact ⟨by rw [Hb.out]; simp, (Chg.refl _ w).alloc _⟩

set_option maxRecDepth 100000 in
set_option maxHeartbeats 1000000 in
theorem yes_any (B : Option Addr) (k C : Nat) (alts : List (List ByteArray)) (want v : ByteArray) (w : World) (h : PatIs w B k C alts) (hal : ∀ ts ∈ alts, 0 < ts.length ∧ ts.length ≤ 9223372036854775807 ∧ ∀ t ∈ ts, t.size < 4294967281) (hv : v.size < 4294967281) (hm : MaxL w) :
    Calls Tryz.prog 112 #[.agg #[.slice B k C, .string want], .string v] w fun e w' => e = .returned (.bool (allB alts v)) ∧ Grew w w' := by
  have hg0 : Grew w (w.alloc (.cells #[.slice B k C, .string want] 146)) := (Chg.refl _ w).alloc _
  have hL := Lib.hid (fun w' (hg : Grew w w') => like_any B k C alts v w' (by
    obtain ⟨l, h1, h2, h3, h4⟩ := h
    exact ⟨l, h1.grew hg, h2, h3.chg hg (fun _ _ _ e => e), h4⟩) hal hv (hm.grew hg))
  clear h hal hm
  go_enter Tryz.func112, Tryz.ntmps112
  go_wp2_with fail
  refine (hL.out _ (by exact hg0)).mono ?_
  rintro e w1 ⟨rfl, hg1⟩
  go_wp2
  go_ret
  exact ⟨by simp, hg0.trans hg1⟩
set_option maxRecDepth 100000 in
set_option maxHeartbeats 1000000 in
theorem not_any (B : Option Addr) (k C : Nat) (alts : List (List ByteArray)) (want v : ByteArray) (w : World) (h : PatIs w B k C alts) (hal : ∀ ts ∈ alts, 0 < ts.length ∧ ts.length ≤ 9223372036854775807 ∧ ∀ t ∈ ts, t.size < 4294967281) (hv : v.size < 4294967281) (hm : MaxL w) :
    Calls Tryz.prog 113 #[.agg #[.slice B k C, .string want], .string v] w fun e w' => e = .returned (.bool (!allB alts v)) ∧ Grew w w' := by
  have hg0 : Grew w (w.alloc (.cells #[.slice B k C, .string want] 146)) := (Chg.refl _ w).alloc _
  have hL := Lib.hid (fun w' (hg : Grew w w') => like_any B k C alts v w' (by
    obtain ⟨l, h1, h2, h3, h4⟩ := h
    exact ⟨l, h1.grew hg, h2, h3.chg hg (fun _ _ _ e => e), h4⟩) hal hv (hm.grew hg))
  clear h hal hm
  go_enter Tryz.func113, Tryz.ntmps113
  go_wp2_with fail
  refine (hL.out _ (by exact hg0)).mono ?_
  rintro e w1 ⟨rfl, hg1⟩
  go_wp2
  go_ret
  exact ⟨by simp, hg0.trans hg1⟩

theorem kind_yes (k : Int) (w : World) (h1 : 1 ≤ k) (h2 : k ≤ 4) : Calls Tryz.prog 94 #[.int .i64 k] w fun e w' => e = .returned (.bool true) ∧ w = w' := by
  go_enter Tryz.func94, Tryz.ntmps94
  go_wp2
  go_ret
  exact ⟨by simp, rfl⟩
theorem kind_no (k : Int) (w : World) (h : k < 1 ∨ 4 < k) : Calls Tryz.prog 94 #[.int .i64 k] w fun e w' => e = .returned (.bool false) ∧ w = w' := by
  rcases h with h | h
  · go_enter Tryz.func94, Tryz.ntmps94
    go_wp2
    go_ret
    exact ⟨by simp, rfl⟩
  · go_enter Tryz.func94, Tryz.ntmps94
    go_wp2
    go_ret
    exact ⟨by simp; omega, rfl⟩

def kindsC : Array Value := #[.nilFunc, .func (.func 110) #[] #[], .func (.func 111) #[] #[], .func (.func 112) #[] #[], .func (.func 113) #[] #[]]
theorem kinds_any (w : World) : Calls Tryz.prog 93 #[] w fun e w' => e = .returned (.slice (some ⟨w.heap.size, 0, none⟩) 5 5) ∧ Blk w' w.heap.size 140 kindsC ∧ Grew w w' := by
  go_enter Tryz.func93, Tryz.ntmps93
  go_wp2
  go_ret
  exact ⟨by simp, Blk.new w _ _, (Chg.refl _ w).alloc _⟩

theorem PatIs.grew {w w' : World} {B : Option Addr} {k C : Nat} {alts : List (List ByteArray)} (h : PatIs w B k C alts) (hg : Grew w w') : PatIs w' B k C alts := by
  obtain ⟨l, h1, h2, h3, h4⟩ := h
  exact ⟨l, h1.grew hg, h2, h3.chg hg (fun _ _ _ e => e), h4⟩
/-- what one matcher says of a label set -/
def oneB (m : Mat) (ls : List (ByteArray × ByteArray)) : Bool :=
  if m.1 = 1 then glst (getB ls m.2.1) == glst m.2.2 else if m.1 = 2 then !(glst (getB ls m.2.1) == glst m.2.2) else if m.1 = 3 then likeB (glst m.2.2) (glst (getB ls m.2.1)) else if m.1 = 4 then !likeB (glst m.2.2) (glst (getB ls m.2.1)) else false
def saysB (ms : List Mat) (ls : List (ByteArray × ByteArray)) : Bool := ms.all fun m => oneB m ls
theorem all_take {α : Type} {l : List α} {f : α → Bool} {j : Nat} {x : α} (h : (l.take j).all f = true) (hx : l[j]? = some x) (hf : f x = true) : (l.take (j + 1)).all f = true := by
  rw [List.take_add_one, hx, List.all_append, h]
  simp [hf]
theorem all_hit {α : Type} {l : List α} {f : α → Bool} {j : Nat} {x : α} (hx : l[j]? = some x) (hf : f x = false) : l.all f = false := by
  rw [List.all_eq_false]
  exact ⟨x, List.mem_of_getElem? hx, by simp [hf]⟩

set_option maxRecDepth 100000 in
set_option maxHeartbeats 4000000 in
theorem says_any (A : Option Addr) (n c : Nat) (ms : List Mat) (L : Option Addr) (m d : Nat) (ls : List (ByteArray × ByteArray)) (w : World) (h : RE elMa w A n ms) (hl : RE elLb w L m ls) (hn : n ≤ 9223372036854775807) (hm : m ≤ 9223372036854775807)
    (hms : ∀ x ∈ ms, x.2.2.size ≤ 16777216) (hls : ∀ x ∈ ls, x.2.size ≤ 16777216) (hx : MaxL w) :
    Calls Tryz.prog 60 #[.slice A n c, .slice L m d] w fun e w' => e = .returned (.bool (saysB ms ls)) ∧ Grew w w' := by
  have Hlen := Lib.hid h.1
  have Hms := Lib.hid hms
  have Hgs := Lib.hid (fun nm => getB_size (nm := nm) hls)
  have Hmx := Lib.hid hx
  clear hms hls hx
  go_enter Tryz.func60, Tryz.ntmps60
  go_wp2_with fail
  refine (kinds_any _).mono ?_
  rintro e w1 ⟨rfl, hr1, hg1⟩
  have hms1 := h.grew hg1
  have hls1 := hl.grew hg1
  clear h hl
  generalize w.heap.size = r at *
  go_wp2
  go_loopw [11] (fun i wr => ∃ (j : Nat), i = .int .i64 (j : Int) ∧ j ≤ n ∧ Hid ((ms.take j).all (fun x => oneB x ls) = true) ∧ Blk wr r 140 kindsC ∧ RE elMa wr A n ms ∧ RE elLb wr L m ls ∧ Grew w wr) (fun i _ => n - (intOf i).toNat)
  case atStart => exact ⟨0, rfl, by omega, rfl, hr1, hms1, hls1, hg1⟩
  case round =>
    clear hr1 hms1 hls1 hg1 w1
    obtain ⟨j, rfl, hj, Hj, hr, hre, hll, hg⟩ := hrel
    by_cases hlt : j < n
    · obtain ⟨ad, x, rfl, hx, c0, c1, c2⟩ := hre.ma hlt
      have hv := Hms.out x (List.mem_of_getElem? hx)
      have hone : Hid (oneB x ls = false → saysB ms ls = false) := fun hf => all_hit hx hf
      have hall : Hid (oneB x ls = true → ((ms.take (j + 1)).all fun x => oneB x ls) = true) := fun hf => all_take Hj.out hx hf
      obtain ⟨k, nm, v⟩ := x
      dsimp only at c0 c1 c2 hv
      have hga : Grew wr (wr.alloc (.cells #[.int .i64 k, .string nm, .string v] 139)) := (Chg.refl _ wr).alloc _
      have hb0 : Blk (wr.alloc (.cells #[.int .i64 k, .string nm, .string v] 139)) wr.heap.size 139 #[.int .i64 k, .string nm, .string v] := Blk.new wr _ _
      have hr0 := hr.grew hga
      have hre0 := hre.grew hga
      have hll0 := hll.grew hga
      have hg0 := hg.trans hga
      have hgv := Hgs.out nm
      clear hx Hj hr hre hll hg
      go_wp2_with fail
      generalize wr.alloc (.cells #[.int .i64 k, .string nm, .string v] 139) = W at *
      generalize wr.heap.size = hh at *
      clear c0 c1 c2 hga
      have p0 : W.cell? ⟨hh, 0, none⟩ = some (.int .i64 k) := by rw [hb0.cell]; rfl
      have p1 : W.cell? ⟨hh, 1, none⟩ = some (.string nm) := by rw [hb0.cell]; rfl
      have p2 : W.cell? ⟨hh, 2, none⟩ = some (.string v) := by rw [hb0.cell]; rfl
      have hhl := hb0.lt
      have hrl := hr0.lt
      refine wp_region_textS [(3, 1)] [hh, r] (by kernel_rfl) (by kernel_rfl) (cellsIn_two hb0 hr0) ?_
      simp only [wpU, tagOf, chk, List.cons_append, List.nil_append]
      by_cases hk : k < 1 ∨ 4 < k
      · have hof : Hid (saysB ms ls = false) := hone.out (by
          unfold oneB
          simp only
          rw [if_neg (by omega), if_neg (by omega), if_neg (by omega), if_neg (by omega)])
        intro K hK
        go_wp2_with fail
        refine OnlyN.normal (hK _ _ (fun _ => ⟨_, _, _, rfl, rfl, by simp⟩) ?_)
        clear hK K
        intro K hK
        go_wp2_with fail
        refine (kind_no k _ hk).mono ?_
        rintro e w2 ⟨rfl, rfl⟩
        go_wp2_with fail
        refine OnlyN.normal (hK _ _ (fun _ _ => rfl) ?_)
        clear hK K
        intro K hK
        go_wp2_with fail
        refine OnlyN.normal (hK _ _ (fun hw => by cases (show false = true from hw)) ?_)
        clear hK K
        intro K hK
        go_wp2_with fail
        refine OnlyN.normal (hK _ _ (fun hw => by cases (show false = true from hw)) ?_)
        clear hK K
        intro K hK
        go_wp2_with fail
        refine OnlyN.normal (hK _ _ (fun hw => by cases (show false = true from hw)) ?_)
        clear hK K
        intro K hK
        go_wp2_with fail
        refine OnlyN.normal (hK _ _ (fun _ _ => rfl) ?_)
        clear hK K
        intro K hK
        go_wp2_with fail
        refine OnlyN.normal (hK _ _ (fun hw => by cases (show false = true from hw)) ?_)
        clear hK K
        intro K hK
        go_wp2_with fail
        refine OnlyN.normal (hK _ _ (fun hw => by cases (show false = true from hw)) ?_)
        clear hK K
        intro K hK
        go_wp2_with fail
        refine OnlyN.normal (hK _ _ (fun _ _ => rfl) ?_)
        clear hK K
        intro K hK
        go_wp2_with fail
        refine OnlyN.normal (hK _ _ (fun _ _ => rfl) ?_)
        clear hK K
        go_wp2_with fail
        refine OnlyN.normal ?_
        go_wp2
        go_ret
        exact ⟨by rw [hof.out]; simp, hg0.drew⟩
      · obtain ⟨o, ho⟩ : ∃ o, oneB (k, nm, v) ls = o := ⟨_, rfl⟩
        have hone2 := hone.out
        have hall2 := hall.out
        rw [ho] at hone2 hall2
        have hone := Lib.hid hone2
        have hall := Lib.hid hall2
        clear hone2 hall2
        obtain ⟨gv, hgvv⟩ : ∃ gv, gv = getB ls nm := ⟨_, rfl⟩
        have HGV : Hid (getB ls nm = gv) := hgvv.symm
        rw [← hgvv] at hgv
        unfold oneB at ho
        simp only at ho
        rw [← hgvv] at ho
        clear hgvv
        have hmW : MaxL W := Hmx.out.grew hg0
        have hk4 : k = 1 ∨ k = 2 ∨ k = 3 ∨ k = 4 := by omega
        clear hk
        rcases hk4 with rfl | rfl | rfl | rfl
        · have HT : Hid (∀ (B : Option Addr) (K C : Nat) (w' : World), PatIs w' B K C (altsOf v) → MaxL w' → Calls Tryz.prog 110 #[.agg #[.slice B K C, .string v], .string gv] w' fun e w2 => e = .returned (.bool o) ∧ Grew w' w2) := fun B K C w' hp hm => by
              have hq : o = (glst gv == glst v) := ho.symm
              rw [hq]
              exact eq_any _ _ _ _ _ rfl
          have k0 : W.cell? ⟨r, 1, none⟩ = some (.func (.func 110) #[] #[]) := by rw [hr0.cell]; rfl
          clear ho
          cases o
          all_goals
            intro K hK
            go_wp2_with fail
            refine OnlyN.normal (hK _ _ (fun _ => ⟨_, _, _, rfl, rfl, by simp⟩) ?_)
            clear hK K
            intro K hK
            go_wp2_with fail
            refine (kind_yes _ _ (by omega) (by omega)).mono ?_
            rintro e w2 ⟨rfl, rfl⟩
            go_wp2_with fail
            refine OnlyN.normal (hK _ _ (fun _ _ => rfl) ?_)
            clear hK K
            intro K hK
            go_wp2_with fail
            refine OnlyN.normal (hK _ _ (fun _ => ⟨_, _, _, rfl, rfl, by simp⟩) ?_)
            clear hK K
            intro K hK
            go_wp2_with fail
            refine OnlyN.normal (hK _ _ (fun _ => ⟨_, _, _, rfl, rfl, by simp⟩) ?_)
            clear hK K
            intro K hK
            go_wp2_with fail
            refine OnlyN.normal (hK _ _ (fun _ => ⟨_, _, _, rfl, rfl, by simp⟩) ?_)
            clear hK K
            intro K hK
            go_wp2_with fail
            refine (compile_any v _ hv (by exact hmW)).mono ?_
            rintro e w3 ⟨B, kk, C, rfl, hpat, hg3⟩
            have hg3' : Grew W w3 := (Chg.refl _ W).drew.trans hg3
            have q1 : w3.cell? ⟨hh, 1, none⟩ = some (.string nm) := hg3'.cell p1 (fun e => e)
            have q2 : w3.cell? ⟨hh, 2, none⟩ = some (.string v) := hg3'.cell p2 (fun e => e)
            go_wp2_with fail
            refine OnlyN.normal (hK _ _ (sameIn_two (S := fun _ => False) hg3' hhl hrl (fun e => e) (fun e => e)) ?_)
            clear hK K
            intro K hK
            go_wp2_with fail
            refine OnlyN.normal (hK _ _ (fun _ => ⟨_, _, _, rfl, rfl, by simp⟩) ?_)
            clear hK K
            intro K hK
            go_wp2_with fail
            refine OnlyN.normal (hK _ _ (fun _ => ⟨_, _, _, rfl, rfl, by simp⟩) ?_)
            clear hK K
            intro K hK
            go_wp2_with fail
            refine (get_any L m d ls nm _ (by exact hll0.grew hg3') hm).mono ?_
            rintro e w4 ⟨rfl, hg4⟩
            have hg4' := hg3'.trans hg4
            go_wp2_with fail
            refine OnlyN.normal (hK _ _ (sameIn_two (S := fun _ => False) hg4' hhl hrl (fun e => e) (fun e => e)) ?_)
            clear hK K
            intro K hK
            go_wp2_with fail
            rw [HGV.out]
            refine (HT.out B kk C _ (by exact hpat.grew hg4) (by exact hmW.grew hg4')).mono ?_
            rintro e w5 ⟨rfl, hg5⟩
            have hg5' := hg4'.trans hg5
            go_wp2_with fail
            refine OnlyN.normal (hK _ _ (sameIn_two (S := fun _ => False) hg5' hhl hrl (fun e => e) (fun e => e)) ?_)
            clear hK K
            go_wp2_with fail
            refine OnlyN.normal ?_
          · go_wp2
            go_ret
            exact ⟨by rw [hone.out (by trivial)]; simp, hg0.trans hg5'⟩
          · go_wp2
            go_roundw
            case rel => exact ⟨j + 1, by go_num, by omega, hall.out (by trivial), hr0.grew hg5', hre0.grew hg5', hll0.grew hg5', hg0.trans hg5'⟩
            case measure => simp [intOf]; omega
        · have HT : Hid (∀ (B : Option Addr) (K C : Nat) (w' : World), PatIs w' B K C (altsOf v) → MaxL w' → Calls Tryz.prog 111 #[.agg #[.slice B K C, .string v], .string gv] w' fun e w2 => e = .returned (.bool o) ∧ Grew w' w2) := fun B K C w' hp hm => by
              have hq : o = (!(glst gv == glst v)) := ho.symm
              rw [hq]
              exact ne_any _ _ _ _
          have k0 : W.cell? ⟨r, 2, none⟩ = some (.func (.func 111) #[] #[]) := by rw [hr0.cell]; rfl
          clear ho
          cases o
          all_goals
            intro K hK
            go_wp2_with fail
            refine OnlyN.normal (hK _ _ (fun _ => ⟨_, _, _, rfl, rfl, by simp⟩) ?_)
            clear hK K
            intro K hK
            go_wp2_with fail
            refine (kind_yes _ _ (by omega) (by omega)).mono ?_
            rintro e w2 ⟨rfl, rfl⟩
            go_wp2_with fail
            refine OnlyN.normal (hK _ _ (fun _ _ => rfl) ?_)
            clear hK K
            intro K hK
            go_wp2_with fail
            refine OnlyN.normal (hK _ _ (fun _ => ⟨_, _, _, rfl, rfl, by simp⟩) ?_)
            clear hK K
            intro K hK
            go_wp2_with fail
            refine OnlyN.normal (hK _ _ (fun _ => ⟨_, _, _, rfl, rfl, by simp⟩) ?_)
            clear hK K
            intro K hK
            go_wp2_with fail
            refine OnlyN.normal (hK _ _ (fun _ => ⟨_, _, _, rfl, rfl, by simp⟩) ?_)
            clear hK K
            intro K hK
            go_wp2_with fail
            refine (compile_any v _ hv (by exact hmW)).mono ?_
            rintro e w3 ⟨B, kk, C, rfl, hpat, hg3⟩
            have hg3' : Grew W w3 := (Chg.refl _ W).drew.trans hg3
            have q1 : w3.cell? ⟨hh, 1, none⟩ = some (.string nm) := hg3'.cell p1 (fun e => e)
            have q2 : w3.cell? ⟨hh, 2, none⟩ = some (.string v) := hg3'.cell p2 (fun e => e)
            go_wp2_with fail
            refine OnlyN.normal (hK _ _ (sameIn_two (S := fun _ => False) hg3' hhl hrl (fun e => e) (fun e => e)) ?_)
            clear hK K
            intro K hK
            go_wp2_with fail
            refine OnlyN.normal (hK _ _ (fun _ => ⟨_, _, _, rfl, rfl, by simp⟩) ?_)
            clear hK K
            intro K hK
            go_wp2_with fail
            refine OnlyN.normal (hK _ _ (fun _ => ⟨_, _, _, rfl, rfl, by simp⟩) ?_)
            clear hK K
            intro K hK
            go_wp2_with fail
            refine (get_any L m d ls nm _ (by exact hll0.grew hg3') hm).mono ?_
            rintro e w4 ⟨rfl, hg4⟩
            have hg4' := hg3'.trans hg4
            go_wp2_with fail
            refine OnlyN.normal (hK _ _ (sameIn_two (S := fun _ => False) hg4' hhl hrl (fun e => e) (fun e => e)) ?_)
            clear hK K
            intro K hK
            go_wp2_with fail
            rw [HGV.out]
            refine (HT.out B kk C _ (by exact hpat.grew hg4) (by exact hmW.grew hg4')).mono ?_
            rintro e w5 ⟨rfl, hg5⟩
            have hg5' := hg4'.trans hg5
            go_wp2_with fail
            refine OnlyN.normal (hK _ _ (sameIn_two (S := fun _ => False) hg5' hhl hrl (fun e => e) (fun e => e)) ?_)
            clear hK K
            go_wp2_with fail
            refine OnlyN.normal ?_
          · go_wp2
            go_ret
            exact ⟨by rw [hone.out (by trivial)]; simp, hg0.trans hg5'⟩
          · go_wp2
            go_roundw
            case rel => exact ⟨j + 1, by go_num, by omega, hall.out (by trivial), hr0.grew hg5', hre0.grew hg5', hll0.grew hg5', hg0.trans hg5'⟩
            case measure => simp [intOf]; omega
        · have HT : Hid (∀ (B : Option Addr) (K C : Nat) (w' : World), PatIs w' B K C (altsOf v) → MaxL w' → Calls Tryz.prog 112 #[.agg #[.slice B K C, .string v], .string gv] w' fun e w2 => e = .returned (.bool o) ∧ Grew w' w2) := fun B K C w' hp hm => by
              have hq : o = likeB (glst v) (glst gv) := ho.symm
              rw [hq]
              exact (by rw [← allB_like]; exact yes_any B K C _ v gv w' hp (altsOf_ok hv) (by omega) hm)
          have k0 : W.cell? ⟨r, 3, none⟩ = some (.func (.func 112) #[] #[]) := by rw [hr0.cell]; rfl
          clear ho
          cases o
          all_goals
            intro K hK
            go_wp2_with fail
            refine OnlyN.normal (hK _ _ (fun _ => ⟨_, _, _, rfl, rfl, by simp⟩) ?_)
            clear hK K
            intro K hK
            go_wp2_with fail
            refine (kind_yes _ _ (by omega) (by omega)).mono ?_
            rintro e w2 ⟨rfl, rfl⟩
            go_wp2_with fail
            refine OnlyN.normal (hK _ _ (fun _ _ => rfl) ?_)
            clear hK K
            intro K hK
            go_wp2_with fail
            refine OnlyN.normal (hK _ _ (fun _ => ⟨_, _, _, rfl, rfl, by simp⟩) ?_)
            clear hK K
            intro K hK
            go_wp2_with fail
            refine OnlyN.normal (hK _ _ (fun _ => ⟨_, _, _, rfl, rfl, by simp⟩) ?_)
            clear hK K
            intro K hK
            go_wp2_with fail
            refine OnlyN.normal (hK _ _ (fun _ => ⟨_, _, _, rfl, rfl, by simp⟩) ?_)
            clear hK K
            intro K hK
            go_wp2_with fail
            refine (compile_any v _ hv (by exact hmW)).mono ?_
            rintro e w3 ⟨B, kk, C, rfl, hpat, hg3⟩
            have hg3' : Grew W w3 := (Chg.refl _ W).drew.trans hg3
            have q1 : w3.cell? ⟨hh, 1, none⟩ = some (.string nm) := hg3'.cell p1 (fun e => e)
            have q2 : w3.cell? ⟨hh, 2, none⟩ = some (.string v) := hg3'.cell p2 (fun e => e)
            go_wp2_with fail
            refine OnlyN.normal (hK _ _ (sameIn_two (S := fun _ => False) hg3' hhl hrl (fun e => e) (fun e => e)) ?_)
            clear hK K
            intro K hK
            go_wp2_with fail
            refine OnlyN.normal (hK _ _ (fun _ => ⟨_, _, _, rfl, rfl, by simp⟩) ?_)
            clear hK K
            intro K hK
            go_wp2_with fail
            refine OnlyN.normal (hK _ _ (fun _ => ⟨_, _, _, rfl, rfl, by simp⟩) ?_)
            clear hK K
            intro K hK
            go_wp2_with fail
            refine (get_any L m d ls nm _ (by exact hll0.grew hg3') hm).mono ?_
            rintro e w4 ⟨rfl, hg4⟩
            have hg4' := hg3'.trans hg4
            go_wp2_with fail
            refine OnlyN.normal (hK _ _ (sameIn_two (S := fun _ => False) hg4' hhl hrl (fun e => e) (fun e => e)) ?_)
            clear hK K
            intro K hK
            go_wp2_with fail
            rw [HGV.out]
            refine (HT.out B kk C _ (by exact hpat.grew hg4) (by exact hmW.grew hg4')).mono ?_
            rintro e w5 ⟨rfl, hg5⟩
            have hg5' := hg4'.trans hg5
            go_wp2_with fail
            refine OnlyN.normal (hK _ _ (sameIn_two (S := fun _ => False) hg5' hhl hrl (fun e => e) (fun e => e)) ?_)
            clear hK K
            go_wp2_with fail
            refine OnlyN.normal ?_
          · go_wp2
            go_ret
            exact ⟨by rw [hone.out (by trivial)]; simp, hg0.trans hg5'⟩
          · go_wp2
            go_roundw
            case rel => exact ⟨j + 1, by go_num, by omega, hall.out (by trivial), hr0.grew hg5', hre0.grew hg5', hll0.grew hg5', hg0.trans hg5'⟩
            case measure => simp [intOf]; omega
        · have HT : Hid (∀ (B : Option Addr) (K C : Nat) (w' : World), PatIs w' B K C (altsOf v) → MaxL w' → Calls Tryz.prog 113 #[.agg #[.slice B K C, .string v], .string gv] w' fun e w2 => e = .returned (.bool o) ∧ Grew w' w2) := fun B K C w' hp hm => by
              have hq : o = (!likeB (glst v) (glst gv)) := ho.symm
              rw [hq]
              exact (by rw [← allB_like]; exact not_any B K C _ v gv w' hp (altsOf_ok hv) (by omega) hm)
          have k0 : W.cell? ⟨r, 4, none⟩ = some (.func (.func 113) #[] #[]) := by rw [hr0.cell]; rfl
          clear ho
          cases o
          all_goals
            intro K hK
            go_wp2_with fail
            refine OnlyN.normal (hK _ _ (fun _ => ⟨_, _, _, rfl, rfl, by simp⟩) ?_)
            clear hK K
            intro K hK
            go_wp2_with fail
            refine (kind_yes _ _ (by omega) (by omega)).mono ?_
            rintro e w2 ⟨rfl, rfl⟩
            go_wp2_with fail
            refine OnlyN.normal (hK _ _ (fun _ _ => rfl) ?_)
            clear hK K
            intro K hK
            go_wp2_with fail
            refine OnlyN.normal (hK _ _ (fun _ => ⟨_, _, _, rfl, rfl, by simp⟩) ?_)
            clear hK K
            intro K hK
            go_wp2_with fail
            refine OnlyN.normal (hK _ _ (fun _ => ⟨_, _, _, rfl, rfl, by simp⟩) ?_)
            clear hK K
            intro K hK
            go_wp2_with fail
            refine OnlyN.normal (hK _ _ (fun _ => ⟨_, _, _, rfl, rfl, by simp⟩) ?_)
            clear hK K
            intro K hK
            go_wp2_with fail
            refine (compile_any v _ hv (by exact hmW)).mono ?_
            rintro e w3 ⟨B, kk, C, rfl, hpat, hg3⟩
            have hg3' : Grew W w3 := (Chg.refl _ W).drew.trans hg3
            have q1 : w3.cell? ⟨hh, 1, none⟩ = some (.string nm) := hg3'.cell p1 (fun e => e)
            have q2 : w3.cell? ⟨hh, 2, none⟩ = some (.string v) := hg3'.cell p2 (fun e => e)
            go_wp2_with fail
            refine OnlyN.normal (hK _ _ (sameIn_two (S := fun _ => False) hg3' hhl hrl (fun e => e) (fun e => e)) ?_)
            clear hK K
            intro K hK
            go_wp2_with fail
            refine OnlyN.normal (hK _ _ (fun _ => ⟨_, _, _, rfl, rfl, by simp⟩) ?_)
            clear hK K
            intro K hK
            go_wp2_with fail
            refine OnlyN.normal (hK _ _ (fun _ => ⟨_, _, _, rfl, rfl, by simp⟩) ?_)
            clear hK K
            intro K hK
            go_wp2_with fail
            refine (get_any L m d ls nm _ (by exact hll0.grew hg3') hm).mono ?_
            rintro e w4 ⟨rfl, hg4⟩
            have hg4' := hg3'.trans hg4
            go_wp2_with fail
            refine OnlyN.normal (hK _ _ (sameIn_two (S := fun _ => False) hg4' hhl hrl (fun e => e) (fun e => e)) ?_)
            clear hK K
            intro K hK
            go_wp2_with fail
            rw [HGV.out]
            refine (HT.out B kk C _ (by exact hpat.grew hg4) (by exact hmW.grew hg4')).mono ?_
            rintro e w5 ⟨rfl, hg5⟩
            have hg5' := hg4'.trans hg5
            go_wp2_with fail
            refine OnlyN.normal (hK _ _ (sameIn_two (S := fun _ => False) hg5' hhl hrl (fun e => e) (fun e => e)) ?_)
            clear hK K
            go_wp2_with fail
            refine OnlyN.normal ?_
          · go_wp2
            go_ret
            exact ⟨by rw [hone.out (by trivial)]; simp, hg0.trans hg5'⟩
          · go_wp2
            go_roundw
            case rel => exact ⟨j + 1, by go_num, by omega, hall.out (by trivial), hr0.grew hg5', hre0.grew hg5', hll0.grew hg5', hg0.trans hg5'⟩
            case measure => simp [intOf]; omega
    · obtain rfl : j = n := by omega
      have Hf : Hid (saysB ms ls = true) := by
        show _ = _
        have := Hj.out
        rwa [← Hlen.out, List.take_length] at this
      clear Hj hre hll hr
      go_wp2
      go_ret
      exact ⟨by rw [Hf.out]; simp, hg⟩
end Go.Proofs.YtlcaaacbookopaaGreatDoor
