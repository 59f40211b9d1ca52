/-
  Several texts in one:
  Matchers lent and looked at again; the document's Get and Says. Conditions: lengths that memory bears.
  The document's Between. Conditions: lengths that memory bears.
  The document's Covers. Conditions: lengths that memory bears.
  The document's Count of a list of series. Conditions: lengths that memory bears.
  The law SeriesParts, walked. Conditions: lengths that memory bears; the longest text that the library takes is as it is set.
-/
import Derived.Test.YtjgbdkokcgcpjaaDoorPart38
import Derived.Test.YtjgbdkokcgcpjaaDoorPart36
import Derived.Test.YtjgbdkokcgcpjaaDoorPart33
import Derived.Test.YtjgbdkokcgcpjaaDoorPart47
import Derived.Test.YtjgbdkokcgcpjaaDoorPart48
import Derived.Test.YtjgbdkokcgcpjaaDoorPart45
import Derived.Test.YtjgbdkokcgcpjaaDoorPart49
import Derived.Test.YtjgbdkokcgcpjaaDoorPart42
import Derived.Test.YtjgbdkokcgcpjaaDoorPart43

namespace Go.Proofs.YtjgbdkokcgcpjaaDoor
open Go.RowKit

set_option maxHeartbeats 2000000 in
theorem sameMa_yes (A B : Option Addr) (n c d : Nat) (l : List Mat) (w : World) (ha : RE elMa w A n l) (hb : RE elMa w B n l) (hn : n ≤ 9223372036854775807) :
    Calls Tryd.prog 46 #[.slice A n c, .slice B n d] w fun e w' => e = .returned (.bool true) ∧ ∃ k, w' = w.drewN k := by
  go_enter Tryd.func46, Tryd.ntmps46
  go_wp2
  go_loopw [5] (fun i wr => ∃ k : Nat, k ≤ n ∧ i = .int .i64 k ∧ ∃ j, wr = w.drewN j) (fun i _ => n - (intOf i).toNat)
  case atStart => exact ⟨0, Nat.zero_le _, rfl, 0, rfl⟩
  case round =>
    obtain ⟨k, hk, rfl, j, rfl⟩ := hrel
    by_cases hlt : k < n
    · obtain ⟨ad, x, rfl, hx, x0, x1, x2⟩ := ha.ma hlt
      obtain ⟨bd, y, rfl, hy, y0, y1, y2⟩ := hb.ma hlt
      obtain rfl : x = y := by
        rw [hx] at hy
        injection hy
      clear hx hy
      go_wp2
      refine wp_region_text [(3, 1)] (by kernel_rfl) (by kernel_rfl) ?_
      simp only [instr, chk, look, Nat.reduceBEq, Bool.false_eq_true, if_true, if_false, Nat.reduceEqDiff, List.nil_append]
      go_wp2
      refine OnlyN.normal ?_
      go_wp2
      go_roundw
      case rel => exact ⟨k + 1, by omega, by go_num, _, rfl⟩
      case measure => simp [intOf]; omega
    · go_wp2
      go_ret
      exact ⟨by simp, _, rfl⟩

/-- a mark -/
def maX : Mat := (77, ⟨#[]⟩, ⟨#[]⟩)
def LentMa (w : World) (n : Nat) (l : List Mat) (e : Ending) (w' : World) : Prop := ∃ A c, e = .returned (.slice A n c) ∧ OE elMa w' w.heap.size 69 A (n + 2) c (l ++ [maX, maX]) ∧ Grew w w'

set_option maxHeartbeats 400000 in
theorem lendMa_any (A : Option Addr) (n c : Nat) (l : List Mat) (w : World) (h : RE elMa w A n l) (hn : n ≤ 3298534883320) :
    Calls Tryd.prog 17 #[.slice A n c] w (LentMa w n l) := by
  go_enter Tryd.func17, Tryd.ntmps17
  go_wp2_with fail
  refine (copyMatchers_any A n c l _ h (by omega)).mono ?_
  rintro e w1 ⟨A1, c1, rfl, h1, hg1⟩
  have h1a := h1.grew ((Chg.refl _ w1).alloc (.cells #[.int .i64 77, .string ⟨#[]⟩, .string ⟨#[]⟩, .int .i64 77, .string ⟨#[]⟩, .string ⟨#[]⟩] 69))
  have hr : RE elMa (w1.alloc (.cells #[.int .i64 77, .string ⟨#[]⟩, .string ⟨#[]⟩, .int .i64 77, .string ⟨#[]⟩, .string ⟨#[]⟩] 69)) (some ⟨w1.heap.size, 0, none⟩) 2 [maX, maX] := RE.newAt rfl rfl rfl
  have hs1 := hg1.size
  go_wp2_with (at_builtin; refine wpList_appE rfl _ _ 34 69 infoMa rfl Tryd.underlying34 rfl w.heap.size A1 n c1 l rfl h1a (by simp; omega) _ 2 2 [maX, maX] rfl hr (by unfold maxLen; omega) (by omega) ?_; intro A2 c2 w2 h2; have hc2 := h2.oe.cap)
  go_ret
  refine ⟨A2, c2, by simp, h2.oe, ?_⟩
  exact h2.grew (hg1.alloc _) fun ad e => (Own.blk_lt h1 ad e).1

set_option maxHeartbeats 1000000 in
theorem keptMa_any (A : Option Addr) (n c : Nat) (l : List Mat) (B : Option Addr) (d : Nat) (base : Nat) (w : World) (h : OE elMa w base 69 A (n + 2) c (l ++ [maX, maX])) (hb : RE elMa w B n l) (hn : n ≤ 3298534883320) :
    Calls Tryd.prog 22 #[.slice A n c, .slice B n d] w fun e w' => e = .returned (.bool true) ∧ Chg (fun k => ∃ ad, A = some ad ∧ k = ad.block) w w' := by
  have hc := h.cap
  obtain ⟨g, rfl, hbg, hg, _⟩ := Own.at_ h (by omega)
  have hl : l.length = n := hb.1
  have hre := h.re (by decide)
  have ha : RE elMa w (some ⟨g, 0, none⟩) n l := by have := hre.take (i := n) (by omega); rwa [List.take_left' hl] at this
  have hz : RE elMa w (some ⟨g, n * 3, none⟩) 2 [maX, maX] := by
    have := hre.drop n
    rw [List.drop_left' hl, add_head] at this
    simpa [elMa] using this
  clear hre
  go_enter Tryd.func22, Tryd.ntmps22
  go_wp2_with fail
  refine (sameMa_yes _ _ n c d l _ ha hb (by omega)).mono ?_
  rintro e w1 ⟨rfl, k1, rfl⟩
  go_wp2_with fail
  refine (sameMa_yes _ _ 2 _ _ [maX, maX] _ (by exact (hz.drewN k1).grew ((Chg.refl _ _).alloc _)) (by exact RE.newAt (by simp) rfl rfl) (by omega)).mono ?_
  rintro e w2 ⟨rfl, k2, rfl⟩
  have hw : Wr (((w.drewN k1).alloc (.cells #[.int .i64 77, .string ⟨#[]⟩, .string ⟨#[]⟩, .int .i64 77, .string ⟨#[]⟩, .string ⟨#[]⟩] 69)).drewN k2) (some ⟨g, 0, none⟩) ((n + 2) * 3) := by
    have := (Own.wr h).chg ((((Chg.refl (fun _ => False) w).drewN k1).alloc (.cells #[.int .i64 77, .string ⟨#[]⟩, .string ⟨#[]⟩, .int .i64 77, .string ⟨#[]⟩, .string ⟨#[]⟩] 69)).drewN k2) (fun _ _ e => e)
    exact this
  have hcg : Chg (fun k => ∃ ad, some (⟨g, 0, none⟩ : Addr) = some ad ∧ k = ad.block) w (((w.drewN k1).alloc (.cells #[.int .i64 77, .string ⟨#[]⟩, .string ⟨#[]⟩, .int .i64 77, .string ⟨#[]⟩, .string ⟨#[]⟩] 69)).drewN k2) := (((Chg.refl _ w).drewN k1).alloc _).drewN k2
  generalize (((w.drewN k1).alloc (.cells #[.int .i64 77, .string ⟨#[]⟩, .string ⟨#[]⟩, .int .i64 77, .string ⟨#[]⟩, .string ⟨#[]⟩] 69)).drewN k2) = w2 at hw hcg ⊢
  clear h hb ha hz
  go_wp2
  go_loopw [7] (fun i wr => ∃ k : Nat, k ≤ n + 2 ∧ i = .int .i64 k ∧ Wr wr (some ⟨g, 0, none⟩) ((n + 2) * 3) ∧ Chg (fun k => ∃ ad, some (⟨g, 0, none⟩ : Addr) = some ad ∧ k = ad.block) w wr) (fun i _ => n + 2 - (intOf i).toNat)
  case atStart => exact ⟨0, Nat.zero_le _, rfl, hw, hcg⟩
  case round =>
    clear hw hcg w2
    obtain ⟨k, hk, rfl, hw, hcg⟩ := hrel
    by_cases hlt : k < n + 2
    · obtain ⟨ad, u, he, hcell, hfr⟩ := hw.at_ (j := k * 3) (by omega)
      injection he with he
      subst he
      obtain ⟨ad, u', he, hcell', hfr'⟩ := hw.at_ (j := k * 3 + 1) (by omega)
      injection he with he
      subst he
      obtain ⟨ad, u2, he, hcell2, hfr2⟩ := hw.at_ (j := k * 3 + 2) (by omega)
      injection he with he
      subst he
      rw [add_head] at hcell hfr hcell' hfr' hcell2 hfr2
      go_wp2
      go_roundw
      case rel => exact ⟨k + 1, by omega, by go_num, ((hw.set _ _).set _ _).set _ _, ((hcg.setCell (p := ⟨g, k * 3, none⟩) (.inr ⟨_, rfl, rfl⟩) _).setCell (p := ⟨g, k * 3 + 1, none⟩) (.inr ⟨_, rfl, rfl⟩) _).setCell (p := ⟨g, k * 3 + 2, none⟩) (.inr ⟨_, rfl, rfl⟩) _⟩
      case measure => simp [intOf]; omega
    · go_wp2
      go_ret
      exact ⟨by simp, hcg⟩

set_option maxHeartbeats 1000000 in
theorem get3_any (A : Option Addr) (n c : Nat) (ls : List (ByteArray × ByteArray)) (nm : ByteArray) (w : World) (h : RE elLb w A n ls) (hn : n ≤ 9223372036854775807) :
    Calls Tryd.prog 67 #[.slice A n c, .string nm] w fun e w' => e = .returned (.string (getB ls nm)) ∧ Grew w w' := by
  have Hlen := Lib.hid h.1
  go_enter Tryd.func67, Tryd.ntmps67
  go_wp2
  go_loopw [5] (fun i wr => ∃ (j : Nat), i = .int .i64 (j : Int) ∧ j ≤ n ∧ Hid (getB (ls.drop j) nm = getB ls nm) ∧ Grew w wr) (fun i _ => n - (intOf i).toNat)
  case atStart => exact ⟨0, rfl, by omega, rfl, Chg.refl _ _⟩
  case round =>
    obtain ⟨j, rfl, hj, Hj, hg⟩ := hrel
    by_cases hlt : j < n
    · obtain ⟨ad, x, rfl, hx, c0, c1⟩ := (h.grew hg).lb hlt
      have hjj := Hj.out
      rw [getB_drop hx] at hjj
      cases hb : lst x.1 == lst nm
      · have hb2 : (x.1.toList == nm.toList) = false := by rw [ByteArray.toList_eq, ByteArray.toList_eq]; exact hb
        rw [hb, if_neg (by simp)] at hjj
        replace hjj := Lib.hid hjj
        clear hb hx Hj
        go_wp2
        go_roundw
        case rel => exact ⟨j + 1, by go_num, by omega, hjj, hg⟩
        case measure => simp [intOf]; omega
      · have hb2 : (x.1.toList == nm.toList) = true := by rw [ByteArray.toList_eq, ByteArray.toList_eq]; exact hb
        rw [hb, if_pos rfl] at hjj
        replace hjj := Lib.hid hjj
        clear hb hx Hj
        go_wp2
        go_ret
        exact ⟨by rw [← hjj.out]; simp, hg⟩
    · obtain rfl : j = n := by omega
      have Hf : Hid (getB ls nm = ⟨#[]⟩) := by
        show _ = _
        rw [← Hj.out, ← Hlen.out, List.drop_length]
        rfl
      clear Hj
      go_wp2
      go_ret
      exact ⟨by rw [Hf.out]; simp, hg⟩

set_option maxRecDepth 100000 in
set_option maxHeartbeats 8000000 in
theorem says4_any (A : Option Addr) (n c : Nat) (ms : List Mat) (L : Option Addr) (m d : Nat) (ls : List (ByteArray × ByteArray)) (w : World) (h : RE elMa w A n ms) (hl : RE elLb w L m ls) (hn : n ≤ 9223372036854775807) (hm : m ≤ 9223372036854775807)
    (hms : ∀ x ∈ ms, x.2.2.size ≤ 16777216) (hls : ∀ x ∈ ls, x.2.size ≤ 16777216) :
    Calls Tryd.prog 47 #[.slice A n c, .slice L m d] w fun e w' => e = .returned (.bool (saysB ms ls)) ∧ Grew w w' := by
  have Hlen := Lib.hid h.1
  have Hms := Lib.hid hms
  have Hgs := Lib.hid (fun nm => getB_size (nm := nm) hls)
  clear hms hls
  go_enter Tryd.func47, Tryd.ntmps47
  go_wp2
  go_loopw [5] (fun i wr => ∃ (j : Nat), i = .int .i64 (j : Int) ∧ j ≤ n ∧ Hid ((ms.take j).all (fun x => oneB x ls) = true) ∧ Grew w wr) (fun i _ => n - (intOf i).toNat)
  case atStart => exact ⟨0, rfl, by omega, by rw [List.take_zero]; rfl, Chg.refl _ _⟩
  case round =>
    obtain ⟨j, rfl, hj, Hall, hg⟩ := hrel
    by_cases hlt : j < n
    · obtain ⟨ad, ⟨k, nm, v⟩, rfl, hx, c0, c1, c2⟩ := (h.grew hg).ma hlt
      have hvs := Hms.out _ (List.mem_of_getElem? hx)
      have hgs := Hgs.out nm
      have hgt := get3_any L m d ls nm wr (hl.grew hg) hm
      have hLk := fun w' => rLike_any v (getB ls nm) w' hvs hgs
      replace hLk := Lib.hid hLk
      obtain ⟨o, ho⟩ : ∃ o, oneB (k, nm, v) ls = o := ⟨_, rfl⟩
      have hoD : o = if k = 1 then lst (getB ls nm) == lst v else if k = 2 then !(lst (getB ls nm) == lst v) else if k = 3 then likeB (lst v) (lst (getB ls nm)) else if k = 4 then !likeB (lst v) (lst (getB ls nm)) else false := by
        rw [← ho]
        rfl
      have hno : Hid (o = false → saysB ms ls = false) := fun e => all_hit hx (ho.trans e)
      have hyes : Hid (o = true → ((ms.take (j + 1)).all (fun x => oneB x ls) = true)) := fun e => all_take Hall.out hx (ho.trans e)
      have heq : ((getB ls nm).toList == v.toList) = (lst (getB ls nm) == lst v) := by rw [ByteArray.toList_eq, ByteArray.toList_eq]
      generalize getB ls nm = gv at *
      generalize (lst gv == lst v) = q at *
      generalize likeB (lst v) (lst gv) = lk at *
      clear ho hx Hall
      go_wp2_with fail
      refine hgt.mono ?_
      rintro e w1 ⟨rfl, hg1⟩
      have hg2 := hg.trans hg1
      have c0 := hg1.cell c0 (fun e => e)
      have c2 := hg1.cell c2 (fun e => e)
      clear hgt hg c1
      by_cases h1 : k = 1
      · subst h1
        rw [if_pos rfl] at hoD
        subst hoD
        clear hLk
        cases o
        · have hs := Lib.hid (hno.out rfl)
          go_wp2
          go_ret
          exact ⟨by rw [hs.out]; simp, hg2⟩
        · have hs := Lib.hid (hyes.out rfl)
          go_wp2
          go_roundw
          case rel => exact ⟨j + 1, by go_num, by omega, hs, hg2⟩
          case measure => simp [intOf]; omega
      have e1 : (k == 1) = false := by simpa using h1
      rw [if_neg h1] at hoD
      by_cases h2 : k = 2
      · subst h2
        rw [if_pos rfl] at hoD
        clear hLk
        cases q
        · have hs := Lib.hid (hyes.out hoD)
          clear hoD
          go_wp2
          go_roundw
          case rel => exact ⟨j + 1, by go_num, by omega, hs, hg2⟩
          case measure => simp [intOf]; omega
        · have hs := Lib.hid (hno.out hoD)
          clear hoD
          go_wp2
          go_ret
          exact ⟨by rw [hs.out]; simp, hg2⟩
      have e2 : (k == 2) = false := by simpa using h2
      rw [if_neg h2] at hoD
      by_cases h3 : k = 3
      · subst h3
        rw [if_pos rfl] at hoD
        subst hoD
        go_wp2_with fail
        refine (hLk.out _).mono ?_
        rintro e w3 ⟨rfl, hg3⟩
        have hg4 := hg2.trans hg3
        cases o
        · have hs := Lib.hid (hno.out rfl)
          go_wp2
          go_ret
          exact ⟨by rw [hs.out]; simp, hg4⟩
        · have hs := Lib.hid (hyes.out rfl)
          go_wp2
          go_roundw
          case rel => exact ⟨j + 1, by go_num, by omega, hs, hg4⟩
          case measure => simp [intOf]; omega
      have e3 : (k == 3) = false := by simpa using h3
      rw [if_neg h3] at hoD
      by_cases h4 : k = 4
      · subst h4
        rw [if_pos rfl] at hoD
        go_wp2_with fail
        refine (hLk.out _).mono ?_
        rintro e w3 ⟨rfl, hg3⟩
        have hg4 := hg2.trans hg3
        cases lk
        · have hs := Lib.hid (hyes.out hoD)
          clear hoD
          go_wp2
          go_roundw
          case rel => exact ⟨j + 1, by go_num, by omega, hs, hg4⟩
          case measure => simp [intOf]; omega
        · have hs := Lib.hid (hno.out hoD)
          clear hoD
          go_wp2
          go_ret
          exact ⟨by rw [hs.out]; simp, hg4⟩
      have e4 : (k == 4) = false := by simpa using h4
      rw [if_neg h4] at hoD
      have hs := Lib.hid (hno.out hoD)
      clear hoD hLk
      go_wp2
      go_ret
      exact ⟨by rw [hs.out]; simp, hg2⟩
    · obtain rfl : j = n := by omega
      have hs : Hid (saysB ms ls = true) := by
        have := Hall.out
        rwa [List.take_of_length_le (by have := Hlen.out; omega)] at this
      go_wp2
      go_ret
      exact ⟨by rw [hs.out]; simp, hg⟩
end Go.Proofs.YtjgbdkokcgcpjaaDoor

namespace Go.Proofs.YtjgbdkokcgcpjaaDoor
open Go.RowKit

/-- the series that matchers say yes of, their points of a stretch, none without any -/
def betS (mt : List Mat) (f t : Int) (ss : List Ser) : List Ser := clipS f t (pickS mt ss)
theorem betS_no {mt : List Mat} {f t : Int} {ss : List Ser} {k : Nat} {s : Ser} (h : ss[k]? = some s) (h1 : saysB mt s.lbs = false) : betS mt f t (ss.take (k + 1)) = betS mt f t (ss.take k) := by
  unfold betS
  rw [pickS_no h h1]
theorem betS_yes {mt : List Mat} {f t : Int} {ss : List Ser} {k : Nat} {s : Ser} (h : ss[k]? = some s) (h1 : saysB mt s.lbs = true) : betS mt f t (ss.take (k + 1)) = betS mt f t (ss.take k) ++ if clipP f t s.pts = [] then [] else [⟨s.lbs, clipP f t s.pts⟩] := by
  unfold betS
  rw [pickS_yes h h1, clipS_snoc]
theorem OE.notS {α : Type} {E : El α} {w : World} {base : Nat} {t u : TypeId} {A : Option Addr} {n c g : Nat} {l : List α} {cs : Array Value} (h : OE E w base t A n c l) (hb : Blk w g u cs) (hne : t ≠ u) : ¬ ∃ ad, A = some ad ∧ g = ad.block := fun ⟨ad, e, e2⟩ => Own.ne_blk h hb hne ad e e2.symm

set_option maxRecDepth 100000 in
set_option maxHeartbeats 16000000 in
theorem between8_any (A : Option Addr) (n c : Nat) (ss : List Ser) (M : Option Addr) (mn mc : Nat) (mt : List Mat) (f t : Int) (w : World) (h : RS w A n ss) (hs : Small ss) (hM : RE elMa w M mn mt) (hmn : mn ≤ 9223372036854775807)
    (hmt : ∀ x ∈ mt, x.2.2.size ≤ 16777216) (hlb : ∀ s ∈ ss, ∀ x ∈ s.lbs, x.2.size ≤ 16777216) :
    Calls Tryd.prog 25 #[.slice A n c, .slice M mn mc, .int .i64 f, .int .i64 t] w (NewS w (betS mt f t ss)) := by
  have hln := h.len
  have hn : n ≤ 1073741824 := by rw [← hln]; exact hs.n
  replace hln := Lib.hid hln
  replace hs := Lib.hid hs
  replace hmt := Lib.hid hmt
  replace hlb := Lib.hid hlb
  go_enter Tryd.func25, Tryd.ntmps25
  go_wp2
  go_loopw [9, 10] (fun o i wr => ∃ (k s0 e0 : Nat) (B : Option Addr), k ≤ n ∧ i = .int .i64 (k : Int) ∧ o = .slice B s0 e0 ∧ s0 ≤ k ∧ NS wr w.heap.size B s0 e0 (betS mt f t (ss.take k)) ∧ Grew w wr) (fun _ i _ => n - (intOf i).toNat)
  case atStart => exact ⟨0, 0, 0, none, by omega, rfl, rfl, by omega, NS.nil _ _, Chg.refl _ _⟩
  case round =>
    obtain ⟨k, s0, e0, B, hk, rfl, rfl, hsk, ho, hg⟩ := hrel
    by_cases hlt : k < n
    · obtain ⟨ad, ⟨la, ln, lc, pa, pn, pc⟩, s, rfl, hx, hsi, z0, z1⟩ := h.at_ hlt
      dsimp only at z0 z1
      have hmem := List.mem_of_getElem? hx
      have hel := small_at (m := ⟨la, ln, lc, pa, pn, pc⟩) hs.out hmem hsi
      have hlc := hsi.lc
      have hpc := hsi.pc
      dsimp only at hel hlc hpc
      have hS := says4_any M mn mc mt la ln lc s.lbs wr (hM.grew hg) (hsi.lb.grew hg) hmn (by omega) hmt.out (hlb.out s hmem)
      have hn1 := fun hh => betS_no (f := f) (t := t) hx (mt := mt) hh
      have hy1 := fun hh => betS_yes (f := f) (t := t) hx (mt := mt) hh
      have x0 := hg.cell z0 (fun e => e)
      generalize saysB mt s.lbs = yes at *
      clear hx hmem
      go_wp2_with fail
      refine hS.mono ?_
      rintro e w1 ⟨rfl, hg1⟩
      have hg01 := hg.trans hg1
      have ho1 := ho.grew hg1
      clear hS ho hg hg1 x0
      cases yes
      · have hb := hn1 rfl
        rw [← hb] at ho1
        clear hn1 hy1 hb
        go_wp2
        go_roundw
        case rel => exact ⟨k + 1, s0, e0, B, by omega, by go_num, rfl, by omega, ho1, hg01⟩
        case measure => simp [intOf]; omega
      · have hy := hy1 rfl
        clear hn1 hy1
        generalize hnx : betS mt f t (ss.take (k + 1)) = nxt at *
        replace hnx := Lib.hid hnx
        replace hy := Lib.hid hy
        have x0 := hg01.cell z0 (fun e => e)
        have gX : Grew w1 (w1.alloc (.cells #[] 67)) := (Chg.refl _ w1).alloc _
        have oL : OE elLb (w1.alloc (.cells #[] 67)) w1.heap.size 67 (some ⟨w1.heap.size, 0, none⟩) 0 0 [] := OE.made w1 w1.heap.size 67 (Nat.le_refl _)
        have rL := hsi.lb.grew (hg01.trans gX)
        have x0' := gX.cell x0 (fun e => e)
        go_wp2_with (at_builtin; refine wpList_appE rfl _ _ 43 67 infoLab rfl Tryd.underlying43 rfl w1.heap.size (some ⟨w1.heap.size, 0, none⟩) 0 0 [] rfl oL (gX.size) la ln lc s.lbs rfl rL (by unfold maxLen; omega) (by omega) ?_; intro A2 c2 w2 h2)
        have g2 : Grew w1 w2 := h2.grew gX (head_le (Nat.le_refl _))
        have hX := Blk.new w2 46 #[.slice A2 ln c2, .slice none 0 0]
        have oA := (h2.at0).grew ((Chg.refl _ w2).alloc (.cells #[.slice A2 ln c2, .slice none 0 0] 46))
        have g3 : Grew w1 (w2.alloc (.cells #[.slice A2 ln c2, .slice none 0 0] 46)) := g2.alloc _
        have hgx1 : w1.heap.size ≤ w2.heap.size := g2.size
        have gW : Grew w1 (w2.alloc (.cells #[.slice A2 ln c2, .slice none 0 0] 46)) := g3
        have hgx2 : w2.heap.size < (w2.alloc (.cells #[.slice A2 ln c2, .slice none 0 0] 46)).heap.size := hX.lt
        clear h2 oL rL gX x0 x0' g2 g3
        go_wp2
        go_loopw [12] (fun i wr => ∃ (q sd ed : Nat) (D : Option Addr), q ≤ pn ∧ i = .int .i64 (q : Int) ∧ sd ≤ q ∧ Blk wr w2.heap.size 46 #[.slice A2 ln c2, .slice D sd ed] ∧ OE elLb wr w1.heap.size 67 A2 ln c2 s.lbs ∧ OE elPt wr w1.heap.size 49 D sd ed (clipP f t (s.pts.take q)) ∧ Grew w1 wr) (fun i _ => pn - (intOf i).toNat)
        case atStart => exact ⟨0, 0, 0, none, by omega, rfl, by omega, hX, oA, OE.nil _ _ _, gW⟩
        case round =>
          clear hX oA gW hgx2
          obtain ⟨q, sd, ed, D, hq, rfl, hsd, hX, oA, oP, gW⟩ := hrel
          have hgW := hg01.trans gW
          have x1 := hgW.cell z1 (fun e => e)
          have hgxl := hX.lt
          have hszW := gW.size
          by_cases hql : q < pn
          · have hp1 := hsi.pt
            dsimp only at hp1
            obtain ⟨pd, p, hpa, hp, p0, p1⟩ := (hp1.grew hgW).pt hql
            subst hpa
            have gY : Grew wr (wr.alloc (.cells #[.int .i64 p.1, .int .u64 (p.2 : Int)] 49)) := (Chg.refl _ wr).alloc _
            have hbY : Blk (wr.alloc (.cells #[.int .i64 p.1, .int .u64 (p.2 : Int)] 49)) wr.heap.size 49 #[.int .i64 p.1, .int .u64 (p.2 : Int)] := Blk.new wr _ _
            have b0 := hbY.cell 0
            have b1 := hbY.cell 1
            by_cases h1 : f ≤ p.1
            · have e1 : decide (f ≤ p.1) = true := decide_eq_true h1
              by_cases h2 : p.1 ≤ t
              · have e2 : decide (p.1 ≤ t) = true := decide_eq_true h2
                have hcl := clipP_yes (f := f) (t := t) hp h1 h2
                generalize clipP f t (s.pts.take q) = out at *
                replace hcl := Lib.hid hcl
                have gY2 : Grew wr ((wr.alloc (.cells #[.int .i64 p.1, .int .u64 (p.2 : Int)] 49)).alloc (.cells #[.int .i64 p.1, .int .u64 (p.2 : Int)] 49)) := gY.alloc _
                have xg1 : (wr.alloc (.cells #[.int .i64 p.1, .int .u64 (p.2 : Int)] 49)).cell? ⟨w2.heap.size, 1, none⟩ = some (.slice D sd ed) := (hX.grew gY).cell 1
                have hX2 := hX.grew gY2
                have ho2 := OE.grew oP gY2
                have oA2 := OE.grew oA gY2
                have hgz := gY2.size
                have hsrc : RE elPt ((wr.alloc (.cells #[.int .i64 p.1, .int .u64 (p.2 : Int)] 49)).alloc (.cells #[.int .i64 p.1, .int .u64 (p.2 : Int)] 49)) (some ⟨(wr.alloc (.cells #[.int .i64 p.1, .int .u64 (p.2 : Int)] 49)).heap.size, 0, none⟩) 1 [p] := RE.newAt rfl rfl rfl
                rw [World.size_alloc] at hsrc
                have hc2 := ho2.cap
                clear hp h1 h2
                go_wp2_with (at_builtin; refine wpList_appE rfl _ _ 44 49 infoPt rfl Tryd.underlying44 rfl w1.heap.size D sd ed out rfl ho2 (by simp; omega) _ 1 1 [p] rfl hsrc (by unfold maxLen; omega) (by omega) ?_; intro D2 e2 w3 h3; have hX3 := hX2.chg h3.chg (ho2.notS hX2 (by decide)); have y1 := hX3.cell 1; have f1 := hX3.frozen 1)
                have hch : Chg (fun x => x = w2.heap.size) w3 (w3.setCell ⟨w2.heap.size, 1, none⟩ (.slice D2 (sd + 1) e2)) := Chg.one _ _ _ _
                have hX4 : Blk (w3.setCell ⟨w2.heap.size, 1, none⟩ (.slice D2 (sd + 1) e2)) w2.heap.size 46 #[.slice A2 ln c2, .slice D2 (sd + 1) e2] := by simpa using hX3.set 1 (.slice D2 (sd + 1) e2)
                have oA3 := oA2.apart ho2 (by decide) h3.chg
                have oA4 := OE.chg oA3 hch (fun ad e => Own.ne_blk oA3 hX3 (by decide) ad e)
                have oP4 := OE.chg h3.oe hch (fun ad e => Own.ne_blk h3.oe hX3 (by decide) ad e)
                have gW4 : Grew w1 (w3.setCell ⟨w2.heap.size, 1, none⟩ (.slice D2 (sd + 1) e2)) := (h3.grew (gW.trans gY2) (fun ad e => (Own.blk_lt oP ad e).1)).setCell (p := ⟨w2.heap.size, 1, none⟩) (.inl hgx1) _
                rw [← hcl.out] at oP4
                clear hX hX2 hX3 ho2 oA oA2 oA3 oP gY gY2 h3 y1 f1 hch hbY
                go_roundw
                case rel => exact ⟨q + 1, sd + 1, e2, D2, by omega, by go_num, by omega, hX4, oA4, oP4, gW4⟩
                case measure => simp [intOf]; omega
              · have e2 : decide (p.1 ≤ t) = false := decide_eq_false h2
                have hcl := clipP_no (f := f) (t := t) hp (fun e => h2 e.2)
                rw [← hcl] at oP
                clear hp h1 h2 hcl
                go_wp2
                go_roundw
                case rel => exact ⟨q + 1, sd, ed, D, by omega, by go_num, by omega, hX.grew gY, OE.grew oA gY, OE.grew oP gY, gW.trans gY⟩
                case measure => simp [intOf]; omega
            · have e1 : decide (f ≤ p.1) = false := decide_eq_false h1
              have hcl := clipP_no (f := f) (t := t) hp (fun e => h1 e.1)
              rw [← hcl] at oP
              clear hp h1 hcl
              go_wp2
              go_roundw
              case rel => exact ⟨q + 1, sd, ed, D, by omega, by go_num, by omega, hX.grew gY, OE.grew oA gY, OE.grew oP gY, gW.trans gY⟩
              case measure => simp [intOf]; omega
          · obtain rfl : q = pn := by omega
            have hpl := hsi.pt.1
            dsimp only at hpl
            rw [List.take_of_length_le (by omega)] at oP
            have hlen : (clipP f t s.pts).length = sd := oP.len (by decide)
            generalize clipP f t s.pts = cp at *
            have y0 := hX.cell 0
            have y1 := hX.cell 1
            by_cases hs0 : sd = 0
            · subst hs0
              have hcp : cp = [] := List.eq_nil_of_length_eq_zero hlen
              have hyy := hy.out
              rw [if_pos hcp, List.append_nil] at hyy
              have ho2 := ho1.grew gW
              rw [← hyy] at ho2
              clear hlen hcp hyy hpl
              go_wp2
              go_roundw
              case rel => exact ⟨k + 1, s0, e0, B, by omega, by go_num, rfl, by omega, by rw [hnx.out]; exact ho2, hgW⟩
              case measure => simp [intOf]; omega
            · have hcp : cp ≠ [] := fun e => by rw [e] at hlen; exact hs0 hlen.symm
              have hyy := hy.out
              rw [if_neg hcp] at hyy
              replace hyy := Lib.hid hyy
              have e1 : decide (0 < sd) = true := decide_eq_true (by omega)
              obtain ⟨ms, ho4⟩ := (ho1.grew gW).op
              have hN : NsE wr w1.heap.size ⟨A2, ln, c2, D, sd, ed⟩ ⟨s.lbs, cp⟩ := ⟨oA, oP⟩
              have hszb := hg01.size
              have hszw := hgW.size
              have hc4 := ho4.row.cap
              have hE5 : OE elSr (wr.alloc (.cells #[.slice A2 ln c2, .slice D sd ed] 46)) w.heap.size 46 B s0 e0 ms := ho4.row.grew ((Chg.refl _ wr).alloc _)
              have hsrc : RE elSr (wr.alloc (.cells #[.slice A2 ln c2, .slice D sd ed] 46)) (some ⟨wr.heap.size, 0, none⟩) 1 [⟨A2, ln, c2, D, sd, ed⟩] := RE.newAt rfl rfl rfl
              clear hlen hcp hpl
              go_wp2_with (at_builtin; refine wpList_appE rfl _ _ 22 46 infoSer rfl Tryd.underlying22 rfl w.heap.size B s0 e0 ms rfl hE5 (by simp; omega) _ 1 1 [⟨A2, ln, c2, D, sd, ed⟩] rfl hsrc (by unfold maxLen; omega) (by omega) ?_; intro B2 C2 w5 h5)
              have hNS := (ho4.grew ((Chg.refl _ wr).alloc (.cells #[.slice A2 ln c2, .slice D sd ed] 46))).app ((NsE.mono hN hszb).grew ((Chg.refl _ wr).alloc _)) h5
              have hg5 : Grew w w5 := h5.grew (hgW.alloc _) (fun ad e => (Own.blk_lt ho4.row ad e).1)
              rw [← hyy.out] at hNS
              clear ho4 hE5 hsrc h5 hN hX oA oP
              go_roundw
              case rel => exact ⟨k + 1, s0 + 1, C2, B2, by omega, by go_num, rfl, by omega, by rw [hnx.out]; exact hNS, hg5⟩
              case measure => simp [intOf]; omega
    · obtain rfl : k = n := by omega
      have hl := ho.len
      rw [List.take_of_length_le (by have := hln.out; omega)] at ho hl
      subst hl
      go_wp2
      go_ret
      exact ⟨B, e0, by simp, ho, hg⟩
end Go.Proofs.YtjgbdkokcgcpjaaDoor

namespace Go.Proofs.YtjgbdkokcgcpjaaDoor
open Go.RowKit

theorem cov_at {a b : List Ser} (ha : OkL a) (hb : OkL b) : covB' a b = true ↔ ∀ s ∈ b, ∀ p ∈ s.pts, atV a s.lbs p.1 = some p.2 := by
  rw [covB_iff ha hb]
  constructor
  · intro h s hs p hp
    obtain ⟨s', h1, h2, h3⟩ := h s hs
    exact (atV_some ha.1).2 ⟨s', h1, h2, h3 p hp⟩
  · intro h s hs
    obtain ⟨p0, r, hp0⟩ := List.exists_cons_of_ne_nil (hb.1.some s hs)
    obtain ⟨s', h1, h2, _⟩ := (atV_some ha.1).1 (h s hs p0 (by rw [hp0]; simp))
    refine ⟨s', h1, h2, fun q hq => ?_⟩
    obtain ⟨s2, k1, k2, k3⟩ := (atV_some ha.1).1 (h s hs q hq)
    rw [vs_uniq ha.1 h1 k1 (h2.trans k2.symm)]
    exact k3

set_option maxRecDepth 100000 in
set_option maxHeartbeats 8000000 in
theorem covers10_any (A B : Option Addr) (n c m0 d : Nat) (sa sb : List Ser) (w : World) (h : RS w A n sa) (hb : RS w B m0 sb) (hn : n ≤ 9223372036854775807) (hm : m0 ≤ 9223372036854775807) :
    Calls Tryd.prog 23 #[.slice A n c, .slice B m0 d] w fun e w' => e = .returned (.bool (covB' sa sb)) ∧ Grew w w' := by
  obtain ⟨z, hz⟩ : ∃ z, covB' sa sb = z := ⟨_, rfl⟩
  rw [hz]
  have hCa := fun w' (hg : Grew w w') => check10_any A n c sa w' (h.grew hg) hn
  have hCb := fun w' (hg : Grew w w') => check10_any B m0 d sb w' (hb.grew hg) hm
  replace hCb := Lib.hid hCb
  by_cases ha : OkL sa
  · rw [errS_ok ha] at hCa
    by_cases hob : OkL sb
    · have hC2 := fun w' (hg : Grew w w') => hCb.out w' hg
      rw [errS_ok hob] at hC2
      have hcov : Hid (z = true ↔ ∀ s ∈ sb, ∀ p ∈ s.pts, atV sa s.lbs p.1 = some p.2) := by
        show _ ↔ _
        rw [← hz]
        exact cov_at ha hob
      have hva := ha.1
      have hlm : Hid (sb.length = m0) := hb.len
      replace hC2 := Lib.hid hC2
      clear hz hCb hob
      go_enter Tryd.func23, Tryd.ntmps23
      go_wp2_with fail
      refine (hCa _ (Chg.refl _ w)).mono ?_
      rintro e w1 ⟨rfl, g1⟩
      clear hCa
      go_wp2_with fail
      refine (hC2.out _ g1).mono ?_
      rintro e w2 ⟨rfl, g2⟩
      have g02 := g1.trans g2
      clear hC2 g1 g2
      go_wp2
      go_loopw [5] (fun i wr => ∃ k : Nat, k ≤ m0 ∧ i = .int .i64 (k : Int) ∧ Hid (∀ s ∈ sb.take k, ∀ p ∈ s.pts, atV sa s.lbs p.1 = some p.2) ∧ Grew w wr) (fun i _ => m0 - (intOf i).toNat)
      case atStart => exact ⟨0, by omega, rfl, (fun s hs => by simp at hs), g02⟩
      case round =>
        clear g02
        obtain ⟨k, hk, rfl, hall, hg⟩ := hrel
        by_cases hlt : k < m0
        · obtain ⟨ad, ⟨la, ln, lc, pa, pn, pc⟩, s, rfl, hs, hsi, z0, z1⟩ := hb.at_ hlt
          dsimp only at z0 z1
          have hlc := hsi.lc
          have hpc := hsi.pc
          have hpl := hsi.pt.1
          dsimp only at hlc hpc hpl
          replace hpl := Lib.hid hpl
          have hsn := Lib.hid (take_snoc hs)
          have hmem := Lib.hid (List.mem_of_getElem? hs)
          clear hs
          go_wp2
          obtain ⟨wo, rfl⟩ : ∃ wo : World, wo = wr := ⟨_, rfl⟩
          go_loopw [6] (fun i wr => ∃ q : Nat, q ≤ pn ∧ i = .int .i64 (q : Int) ∧ Hid (∀ p ∈ s.pts.take q, atV sa s.lbs p.1 = some p.2) ∧ Grew w wr) (fun i _ => pn - (intOf i).toNat)
          case atStart => exact ⟨0, by omega, rfl, (fun p hp => by simp at hp), hg⟩
          case round =>
            clear hg
            obtain ⟨q, hq, rfl, hin, hg⟩ := hrel
            have x0 := hg.cell z0 (fun e => e)
            have x1 := hg.cell z1 (fun e => e)
            by_cases hql : q < pn
            · have hp1 := hsi.pt
              dsimp only at hp1
              obtain ⟨pd, p, hpa, hp, p0, p1⟩ := (hp1.grew hg).pt hql
              have hpm := Lib.hid (List.mem_of_getElem? hp)
              have hpsn := Lib.hid (take_snoc hp)
              rw [hpa] at x1
              have hAt := fun w' (hg' : Grew wr w') => at_any A la n c ln lc sa s.lbs p.1 w' ((h.grew hg).grew hg') ((hsi.lb.grew hg).grew hg') hva hn (by omega)
              obtain ⟨o, hao⟩ : ∃ o, atV sa s.lbs p.1 = o := ⟨_, rfl⟩
              rw [hao] at hAt
              have hbad : Hid (o ≠ some p.2 → z = false) := fun hne => by
                cases z with
                | false => rfl
                | true => exact absurd (hao.symm.trans (hcov.out.1 rfl s hmem.out p hpm.out)) hne
              have hgood : Hid (o = some p.2 → ∀ p ∈ s.pts.take (q + 1), atV sa s.lbs p.1 = some p.2) := fun e x hx => by
                rw [hpsn.out] at hx
                rcases List.mem_append.1 hx with hx | hx
                · exact hin.out x hx
                · obtain rfl : x = p := by simpa using hx
                  exact hao.trans e
              replace hAt := Lib.hid hAt
              replace hpa := Lib.hid hpa
              clear hp hp1 hao
              have hgd : Grew wr wr.drew := (Chg.refl _ wr).drew
              rcases o with _ | v
              · have hzf := hbad.out (by simp)
                clear hbad hgood
                subst hzf
                go_wp2_with fail
                refine wp_region_text [(3, 1)] (by kernel_rfl) (by kernel_rfl) ?_
                simp only [instr, chk, List.nil_append]
                go_wp2_with fail
                refine (hAt.out _ hgd).mono ?_
                rw [show AtRes none = .tuple #[.int .u64 0, .bool false] from rfl]
                rintro e w3 ⟨rfl, g3⟩
                go_wp2_with fail
                refine OnlyN.normal ?_
                go_wp2
                go_ret
                exact ⟨by simp, hg.trans (hgd.trans g3)⟩
              · by_cases hvp : v = p.2
                · subst hvp
                  have hgd2 := Lib.hid (hgood.out rfl)
                  clear hbad hgood
                  have e1 : (((p.2 : Nat) : Int) != ((p.2 : Nat) : Int)) = false := by simp
                  go_wp2_with fail
                  refine wp_region_text [(3, 1)] (by kernel_rfl) (by kernel_rfl) ?_
                  simp only [instr, chk, List.nil_append]
                  go_wp2_with fail
                  refine (hAt.out _ hgd).mono ?_
                  rw [show AtRes (some p.2) = .tuple #[.int .u64 ((p.2 : Nat) : Int), .bool true] from rfl]
                  rintro e w3 ⟨rfl, g3⟩
                  have g03 := hgd.trans g3
                  have x1' := g03.cell x1 (fun e => e)
                  have p1' := g03.cell p1 (fun e => e)
                  go_wp2_with fail
                  refine OnlyN.normal ?_
                  go_wp2
                  go_roundw
                  case rel => exact ⟨q + 1, by omega, by go_num, hgd2, hg.trans g03⟩
                  case measure => simp [intOf]; omega
                · have hzf := hbad.out (by simpa using hvp)
                  have e1 : (((v : Nat) : Int) != ((p.2 : Nat) : Int)) = true := by simp; omega
                  clear hbad hgood hvp
                  subst hzf
                  go_wp2_with fail
                  refine wp_region_text [(3, 1)] (by kernel_rfl) (by kernel_rfl) ?_
                  simp only [instr, chk, List.nil_append]
                  go_wp2_with fail
                  refine (hAt.out _ hgd).mono ?_
                  rw [show AtRes (some v) = .tuple #[.int .u64 ((v : Nat) : Int), .bool true] from rfl]
                  rintro e w3 ⟨rfl, g3⟩
                  have g03 := hgd.trans g3
                  have x1' := g03.cell x1 (fun e => e)
                  have p1' := g03.cell p1 (fun e => e)
                  go_wp2_with fail
                  refine OnlyN.normal ?_
                  go_wp2
                  go_ret
                  exact ⟨by simp, hg.trans g03⟩
            · obtain rfl : q = pn := by omega
              have hall2 : Hid (∀ s ∈ sb.take (k + 1), ∀ p ∈ s.pts, atV sa s.lbs p.1 = some p.2) := fun x hx => by
                rw [hsn.out] at hx
                rcases List.mem_append.1 hx with hx | hx
                · exact hall.out x hx
                · obtain rfl : x = s := by simpa using hx
                  have := hin.out
                  rw [List.take_of_length_le (by have := hpl.out; omega)] at this
                  exact this
              go_wp2
              go_roundw
              case rel => exact ⟨k + 1, by omega, by go_num, hall2, hg⟩
              case measure => simp [intOf]; omega
        · have hzt : z = true := hcov.out.2 fun s hs => hall.out s (by rw [List.take_of_length_le (by have := hlm.out; omega)]; exact hs)
          subst hzt
          go_wp2
          go_ret
          exact ⟨by simp, hg⟩
    · have hC2 := fun w' (hg : Grew w w') => hCb.out w' hg
      rw [errS_no hob] at hC2
      have hzf : z = false := by rw [← hz]; exact covB_no fun e => hob e.2
      subst hzf
      replace hC2 := Lib.hid hC2
      clear hz hCb hob
      go_enter Tryd.func23, Tryd.ntmps23
      go_wp2_with fail
      refine (hCa _ (Chg.refl _ w)).mono ?_
      rintro e w1 ⟨rfl, g1⟩
      go_wp2_with fail
      refine (hC2.out _ g1).mono ?_
      rintro e w2 ⟨rfl, g2⟩
      go_wp2
      go_ret
      exact ⟨by simp, g1.trans g2⟩
  · rw [errS_no ha] at hCa
    have hzf : z = false := by rw [← hz]; exact covB_no fun e => ha e.1
    subst hzf
    clear hz hCb ha
    go_enter Tryd.func23, Tryd.ntmps23
    go_wp2_with fail
    refine (hCa _ (Chg.refl _ w)).mono ?_
    rintro e w1 ⟨rfl, g1⟩
    go_wp2
    go_ret
    exact ⟨by simp, g1⟩
end Go.Proofs.YtjgbdkokcgcpjaaDoor

namespace Go.Proofs.YtjgbdkokcgcpjaaDoor
open Go.RowKit

set_option maxHeartbeats 2000000 in
theorem count10_any (A : Option Addr) (n c : Nat) (ss : List Ser) (w : World) (h : RS w A n ss) (hn : n ≤ 9223372036854775807) (ht : tot ss ≤ 9223372036854775807) :
    Calls Tryd.prog 24 #[.slice A n c] w fun e w' => e = .returned (.tuple #[.int .i64 (n : Int), .int .i64 (tot ss : Int)]) ∧ Grew w w' := by
  have hln := h.len
  go_enter Tryd.func24, Tryd.ntmps24
  go_wp2
  go_loopw [4, 5] (fun s i wr => ∃ (k t : Nat), k ≤ n ∧ i = .int .i64 (k : Int) ∧ s = .int .i64 (t : Int) ∧ Hid (t = tot (ss.take k)) ∧ Grew w wr) (fun s i _ => n - (intOf i).toNat)
  case atStart => exact ⟨0, 0, by omega, rfl, rfl, rfl, Chg.refl _ _⟩
  case round =>
    obtain ⟨k, t, hk, rfl, rfl, hm, hg⟩ := hrel
    by_cases hlt : k < n
    · obtain ⟨ad, m, s, rfl, hs, hsi, x0, x1⟩ := (h.grew hg).at_ hlt
      have hst := tot_snoc hs
      have htk := tot_take ss (k + 1)
      rw [hst, ← hm.out] at htk
      have hpl := hsi.pt.1
      rw [hpl] at htk hst
      rw [← hm.out] at hst
      have hst := Lib.hid hst.symm
      clear hs hsi hpl
      go_wp2
      go_roundw
      case rel => exact ⟨k + 1, t + m.pn, by omega, by go_num, by go_num, hst, hg⟩
      case measure => simp [intOf] <;> omega
    · obtain rfl : k = n := by omega
      rw [List.take_of_length_le (by omega)] at hm
      have hm := Lib.hid hm.out
      go_wp2
      refine bodyPost_ret (v := .tuple #[.int .i64 (k : Int), .int .i64 (t : Int)]) ?_ rfl ⟨by rw [← hm.out], hg⟩
      simp [results, Tryd.results24, go_sem]

end Go.Proofs.YtjgbdkokcgcpjaaDoor

namespace Go.Proofs.YtjgbdkokcgcpjaaDoor
open Go.RowKit

theorem pickS_nil (ss : List Ser) : pickS [] ss = ss := by simp [pickS, saysB]
theorem betS_nil (f t : Int) (ss : List Ser) : betS [] f t ss = clipS f t ss := by rw [betS, pickS_nil]
theorem clipP_all {f t : Int} {ps : List Ptn} (h : ∀ p ∈ ps, f ≤ p.1 ∧ p.1 ≤ t) : clipP f t ps = ps := List.filter_eq_self.2 fun p hp => by
  unfold okP
  rw [decide_eq_true (h p hp).1, decide_eq_true (h p hp).2]
  rfl
theorem clipS_all {f t : Int} : ∀ {ss : List Ser}, (∀ s ∈ ss, s.pts ≠ [] ∧ ∀ p ∈ s.pts, f ≤ p.1 ∧ p.1 ≤ t) → clipS f t ss = ss
  | [], _ => rfl
  | s :: r, h => by
    rw [clipS, clipP_all (h s (by simp)).2, if_neg (h s (by simp)).1, clipS_all fun x hx => h x (by simp [hx])]
theorem SpS.chg {S : Nat → Prop} {w w' : World} {lo hi : Nat} {A : Option Addr} {n c : Nat} {ms : List SerM} (h : SpS w lo hi A n c ms) (hc : Chg S w w') (hn : ∀ k, lo ≤ k → ¬ S k) : SpS w' lo hi A n c ms :=
  ⟨h.row.chg hc fun ad e => hn _ (Own.blk_lt h.row ad e).1, h.top, fun m hm => by
    obtain ⟨⟨cs, p1⟩, p2, p3⟩ := h.lb m hm
    exact ⟨⟨cs, p1.chg hc fun ad e => hn _ (p1.blk_lt ad e).1⟩, p2, p3⟩, fun m hm => by
    obtain ⟨⟨cs, p1⟩, p2, p3⟩ := h.pt m hm
    exact ⟨⟨cs, p1.chg hc fun ad e => hn _ (p1.blk_lt ad e).1⟩, p2, p3⟩⟩
/-- a list that may be, of a size, clipped and picked -/
theorem clip_small {f t : Int} {ss : List Ser} (h : OkL ss) (h1 : ss.length ≤ 4194304) (h2 : tot ss ≤ 4194304) : Small (clipS f t ss) := okL_small (clipS_ok h) (by have := clipS_len f t ss; omega) (by have := clipS_tot f t ss; omega)
theorem pick_small {mt : List Mat} {ss : List Ser} (h : OkL ss) (h1 : ss.length ≤ 4194304) (h2 : tot ss ≤ 4194304) : Small (pickS mt ss) := okL_small (pickS_ok h) (by have := List.length_filter_le (fun s => saysB mt s.lbs) ss; show (List.filter _ _).length ≤ _; omega) (by have := pickS_tot mt ss; omega)

set_option maxRecDepth 100000 in
set_option maxHeartbeats 16000000 in
theorem parts_no (A : Option Addr) (n cn : Nat) (a : List Ser) (B : Option Addr) (m cm : Nat) (b : List Ser) (M : Option Addr) (mn mc : Nat) (mt : List Mat) (f t : Int) (w : World) (ha : InS w A n cn a) (hb : InS w B m cm b) (hM : RE elMa w M mn mt) (hmn : mn ≤ 1048576) (hm : MaxL w) (hno : ¬ OkL a) :
    Calls Tryd.prog 4 #[.slice A n cn, .slice B m cm, .slice M mn mc, .int .i64 f, .int .i64 t] w fun e w' => e = .returned (.bool true) ∧ Grew w w' := by
  have hal := ha.rs.len
  have hbl := hb.rs.len
  subst hal
  subst hbl
  have han := ha.cap
  have hbn := hb.cap
  have hat := ha.tot
  obtain ⟨cv, hcv⟩ : ∃ cv, covB' a b = cv := ⟨_, rfl⟩
  replace hno := Lib.hid hno
  have hED := fun w' (hg : Grew w w') => check10_any A a.length cn a w' (ha.rs.grew hg) (by omega)
  rw [errS_no hno.out] at hED
  go_enter Tryd.func4, Tryd.ntmps4
  go_wp2_with fail
  refine (hED w (Chg.refl _ _)).mono ?_
  rintro e w0 ⟨rfl, g0⟩
  go_wp2_with fail
  refine (copyIn w0 ha g0).mono ?_
  rintro e w1 ⟨A1, c1, rfl, h1, g1⟩
  have g01 := g0.trans g1
  have k1 := h1.cap
  go_wp2_with fail
  refine (lendMa_any M mn mc mt w1 (hM.grew g01) (by omega)).mono ?_
  rintro e w2 ⟨A2, c2, rfl, h2, g2⟩
  have g02 := g01.trans g2
  go_wp2_with fail
  refine (clip_no A1 a.length c1 a f t w2 (h1.rs.grew g2) (by omega) hno.out).mono ?_
  rintro e w3 ⟨rfl, g3⟩
  have g13 := g2.trans g3
  go_wp2_with fail
  refine (pick_no A1 a.length c1 a A2 mn c2 w3 (h1.rs.grew g13) (by omega) hno.out).mono ?_
  rintro e w4 ⟨rfl, g4⟩
  have g24 := g3.trans g4
  have g14 := g13.trans g4
  go_wp2_with fail
  refine (count_any A1 a.length c1 a w4 (h1.rs.grew g14) (by omega) (by omega)).mono ?_
  rintro e w5 ⟨rfl, g5⟩
  have g25 := g24.trans g5
  have g15 := g14.trans g5
  go_wp2_with fail
  have hCv := covers_any A1 B a.length c1 b.length cm a b w5 (h1.rs.grew g15) (hb.rs.grew (g01.trans g15)) k1 (by omega)
  rw [hcv] at hCv
  refine hCv.mono ?_
  rintro e w6 ⟨rfl, g6⟩
  have g26 := g25.trans g6
  have g16 := g15.trans g6
  clear hCv g24 g25 g14 g15 g13 g3 g4 g5 g6 hED
  go_wp2_with fail
  refine (sameNS (c := c1) (d := cn) (h1.rs.grew g16) (ha.rs.grew (g01.trans g16)) (by omega) (by omega) rfl).mono ?_
  rintro e w7 ⟨rfl, g7⟩
  have g27 := g26.trans g7
  have g17 := g16.trans g7
  go_wp2_with fail
  refine (keptMa_any A2 mn c2 mt M mc w1.heap.size w7 (h2.grew g27) (hM.grew (g01.trans g17)) (by omega)).mono ?_
  rintro e w8 ⟨rfl, c8⟩
  have g18 : Grew w1 w8 := Chg.old g17 c8 fun k ⟨ad, e1, e2⟩ => by rw [e2]; exact (Own.blk_lt h2 ad e1).1
  have g08 := g01.trans g18
  clear g16 g17 g26 g27 g7 c8 h2
  go_wp2_with fail
  have hC10 := covers10_any A B a.length cn b.length cm a b w8 (ha.rs.grew g08) (hb.rs.grew g08) (by omega) (by omega)
  rw [hcv] at hC10
  refine hC10.mono ?_
  rintro e w9 ⟨rfl, g9⟩
  have g09 := g08.trans g9
  clear hC10
  have ecv : (cv != cv) = false := by cases cv <;> rfl
  go_wp2_with fail
  refine (count10_any A a.length cn a w9 (ha.rs.grew g09) (by omega) (by omega)).mono ?_
  rintro e w10 ⟨rfl, g10⟩
  have g0a := g09.trans g10
  go_wp2_with fail
  refine (awake_any w10 (hm.grew g0a)).mono ?_
  rintro e w11 ⟨rfl, g11⟩
  go_wp2
  go_ret
  exact ⟨by simp, g0a.trans g11⟩

set_option maxRecDepth 100000 in
set_option maxHeartbeats 16000000 in
theorem parts_yes (A : Option Addr) (n cn : Nat) (a : List Ser) (B : Option Addr) (m cm : Nat) (b : List Ser) (M : Option Addr) (mn mc : Nat) (mt : List Mat) (f t : Int) (w : World) (ha : InS w A n cn a) (hpa : PtsOk a) (hb : InS w B m cm b) (hM : RE elMa w M mn mt) (hmn : mn ≤ 1048576) (hval : ∀ x ∈ mt, x.2.2.size ≤ 16777216) (hm : MaxL w) (hok : OkL a) :
    Calls Tryd.prog 4 #[.slice A n cn, .slice B m cm, .slice M mn mc, .int .i64 f, .int .i64 t] w fun e w' => e = .returned (.bool true) ∧ Grew w w' := by
  have hal := ha.rs.len
  have hbl := hb.rs.len
  subst hal
  subst hbl
  have han := ha.cap
  have hbn := hb.cap
  have hat := ha.tot
  have hle := ha.len
  obtain ⟨cv, hcv⟩ : ∃ cv, covB' a b = cv := ⟨_, rfl⟩
  have hsc := clip_small (f := f) (t := t) hok hle hat
  have hsp := pick_small (mt := mt) hok hle hat
  have ebn := betS_nil f t a
  have ebm : betS mt (-9223372036854775808) 9223372036854775807 a = pickS mt a := clipS_all fun s hs => ⟨(pickS_ok hok).1.some s hs, fun p hp => by
    have := hpa s (List.mem_filter.1 hs).1 p hp
    exact ⟨this.1, this.2.1⟩⟩
  have hB1 := fun w' (hg : Grew w w') => between8_any A a.length cn a none 0 0 [] f t w' (ha.rs.grew hg) ha.small (RE.nil _ _) (by decide) (fun x hx => by cases hx) (fun s hs => chkL_val (hok.2 s hs))
  have hB2 := fun w' (hg : Grew w w') => between8_any A a.length cn a M mn mc mt (-9223372036854775808) 9223372036854775807 w' (ha.rs.grew hg) ha.small (hM.grew hg) (by omega) hval (fun s hs => chkL_val (hok.2 s hs))
  rw [ebn] at hB1
  rw [ebm] at hB2
  have hED := fun w' (hg : Grew w w') => check10_any A a.length cn a w' (ha.rs.grew hg) (by omega)
  rw [errS_ok hok] at hED
  have hcy := fun A1 c1 w' (h : RS w' A1 a.length a) => clip_yes A1 a.length c1 a f t w' h (by omega) hok ha.small
  have hpy := fun A1 c1 A2 c2 w' (h : RS w' A1 a.length a) (h2 : RE elMa w' A2 mn mt) (hx : MaxL w') => pick_yes A1 a.length c1 a A2 mn c2 mt w' h (by omega) hok ha.small h2 (by omega) hval (fun s hs => chkL_val (hok.2 s hs)) hx
  generalize clipS f t a = C at *
  generalize pickS mt a = P at *
  have hcn := hsc.n
  have hpn := hsp.n
  replace hsc := Lib.hid hsc
  replace hsp := Lib.hid hsp
  replace hok := Lib.hid hok
  replace hB1 := Lib.hid hB1
  replace hB2 := Lib.hid hB2
  replace hcy := Lib.hid hcy
  replace hpy := Lib.hid hpy
  clear ebn ebm hpa hval
  go_enter Tryd.func4, Tryd.ntmps4
  go_wp2_with fail
  refine (hED w (Chg.refl _ _)).mono ?_
  rintro e w0 ⟨rfl, g0⟩
  go_wp2_with fail
  refine (copyIn w0 ha g0).mono ?_
  rintro e w1 ⟨A1, c1, rfl, h1, g1⟩
  have g01 := g0.trans g1
  have k1 := h1.cap
  go_wp2_with fail
  refine (lendMa_any M mn mc mt w1 (hM.grew g01) (by omega)).mono ?_
  rintro e w2 ⟨A2, c2, rfl, h2, g2⟩
  have g02 := g01.trans g2
  have r2 : RE elMa w2 A2 mn mt := by
    have := (h2.re (by decide)).take (i := mn) (by omega)
    rwa [List.take_left' hM.1] at this
  have z2 := g2.size
  go_wp2_with fail
  refine (hcy.out A1 c1 w2 (h1.rs.grew g2)).mono ?_
  rintro e w3 ⟨A3, c3, rfl, h3, g3⟩
  have g13 := g2.trans g3
  have z3 := g3.size
  have k3 := h3.cap
  go_wp2_with fail
  refine (hpy.out A1 c1 A2 c2 w3 (h1.rs.grew g13) (r2.grew g3) (hm.grew (g01.trans g13))).mono ?_
  rintro e w4 ⟨A4, c4, rfl, h4, g4⟩
  have k4 := h4.cap
  have g14 := g13.trans g4
  have g24 := g3.trans g4
  go_wp2_with fail
  refine (count_any A1 a.length c1 a w4 (h1.rs.grew g14) (by omega) (by omega)).mono ?_
  rintro e w5 ⟨rfl, g5⟩
  have g25 := g24.trans g5
  have g15 := g14.trans g5
  have g35 := g4.trans g5
  go_wp2_with fail
  have hCv := covers_any A1 B a.length c1 b.length cm a b w5 (h1.rs.grew g15) (hb.rs.grew (g01.trans g15)) k1 (by omega)
  rw [hcv] at hCv
  refine hCv.mono ?_
  rintro e w6 ⟨rfl, g6⟩
  have g26 := g25.trans g6
  have g16 := g15.trans g6
  have g36 := g35.trans g6
  have g46 := g5.trans g6
  clear hCv g24 g25 g14 g15 g13 g3 g4 g5 g6 g35 hED
  go_wp2_with fail
  refine (sameNS (c := c1) (d := cn) (h1.rs.grew g16) (ha.rs.grew (g01.trans g16)) (by omega) (by omega) rfl).mono ?_
  rintro e w7 ⟨rfl, g7⟩
  have g27 := g26.trans g7
  have g17 := g16.trans g7
  have g37 := g36.trans g7
  have g47 := g46.trans g7
  obtain ⟨m3, s3⟩ := h3.sps hsc.out g37
  obtain ⟨m4, s4⟩ := h4.sps hsp.out g47
  go_wp2_with fail
  refine (keptMa_any A2 mn c2 mt M mc w1.heap.size w7 (h2.grew g27) (hM.grew (g01.trans g17)) (by omega)).mono ?_
  rintro e w8 ⟨rfl, c8⟩
  have hS8 : ∀ k, (∃ ad, A2 = some ad ∧ k = ad.block) → w1.heap.size ≤ k ∧ k < w2.heap.size := fun k ⟨ad, e1, e2⟩ => by rw [e2]; exact Own.blk_lt h2 ad e1
  have g18 : Grew w1 w8 := Chg.old g17 c8 fun k hk => (hS8 k hk).1
  have g08 := g01.trans g18
  have h3' := (h3.grew g37).chg c8 fun k hk e => by have := hS8 k e; omega
  have h4' := (h4.grew g47).chg c8 fun k hk e => by have := hS8 k e; omega
  have s3' := s3.chg c8 fun k hk e => by have := hS8 k e; omega
  have s4' := s4.chg c8 fun k hk e => by have := hS8 k e; omega
  have z8 := c8.size
  have z7 := g27.size
  have z38 : w3.heap.size ≤ w8.heap.size := Nat.le_trans g37.size z8
  clear g16 g17 g26 g27 g36 g46 g37 g47 g7 c8 h2 hS8 h3 h4 s3 s4 r2
  go_wp2_with fail
  have hC10 := covers10_any A B a.length cn b.length cm a b w8 (ha.rs.grew g08) (hb.rs.grew g08) (by omega) (by omega)
  rw [hcv] at hC10
  refine hC10.mono ?_
  rintro e w9 ⟨rfl, g9⟩
  have g09 := g08.trans g9
  clear hC10
  have ecv : (cv != cv) = false := by cases cv <;> rfl
  go_wp2_with fail
  refine (count10_any A a.length cn a w9 (ha.rs.grew g09) (by omega) (by omega)).mono ?_
  rintro e w10 ⟨rfl, g10⟩
  have g0a := g09.trans g10
  have g8a := g9.trans g10
  clear g9 g10 g09
  go_wp2_with fail
  refine (hB1.out w10 g0a).mono ?_
  rintro e w11 ⟨A5, c5, rfl, h5, g11⟩
  have k5 := h5.cap
  have g8b := g8a.trans g11
  have g0b := g0a.trans g11
  go_wp2_with fail
  refine (sameNS (c := c3) (d := c5) (h3'.rs.grew g8b) h5.rs (by omega) (by omega) rfl).mono ?_
  rintro e w12 ⟨rfl, g12⟩
  have g8c := g8b.trans g12
  have g0c := g0b.trans g12
  clear h5 g11 g12 g8a g0a g8b g0b
  go_wp2_with fail
  refine (hB2.out w12 g0c).mono ?_
  rintro e w13 ⟨A6, c6, rfl, h6, g13⟩
  have k6 := h6.cap
  have g8d := g8c.trans g13
  have g0d := g0c.trans g13
  go_wp2_with fail
  refine (sameNS (c := c4) (d := c6) (h4'.rs.grew g8d) h6.rs (by omega) (by omega) rfl).mono ?_
  rintro e w14 ⟨rfl, g14⟩
  have g8e := g8d.trans g14
  have g0e := g0d.trans g14
  have g1e := g18.trans g8e
  have z8e := g8e.size
  clear h6 g13 g14 g8c g0c g8d g0d
  go_wp2_with fail
  refine (spoilS_any A3 C.length c3 w2.heap.size w3.heap.size m3 w14 (s3'.chg g8e fun _ _ e => e) (by omega) (by omega)).mono ?_
  rintro e w15 ⟨rfl, d15⟩
  have g1f : Grew w1 w15 := Chg.old g1e d15 fun k hk => Nat.le_trans z2 hk.1
  have s4f := (s4'.chg g8e fun _ _ e => e).chg d15 fun k hk e => by have := e.2; omega
  have z15 := d15.size
  clear g1e
  go_wp2_with fail
  refine (spoilS_any A4 P.length c4 w3.heap.size w4.heap.size m4 w15 s4f (by omega) (by omega)).mono ?_
  rintro e w16 ⟨rfl, d16⟩
  have g1g : Grew w1 w16 := Chg.old g1f d16 fun k hk => Nat.le_trans (Nat.le_trans z2 z3) hk.1
  have g0g := g01.trans g1g
  clear s4f d15 d16 g1f
  go_wp2_with fail
  refine (sameNS (c := c1) (d := cn) (h1.rs.grew g1g) (ha.rs.grew g0g) (by omega) (by omega) rfl).mono ?_
  rintro e w17 ⟨rfl, g17⟩
  have g0h := g0g.trans g17
  go_wp2_with fail
  refine (awake_any w17 (hm.grew g0h)).mono ?_
  rintro e w18 ⟨rfl, g18⟩
  go_wp2
  go_ret
  exact ⟨by simp, g0h.trans g18⟩
theorem walk_seriesParts (A : Option Addr) (n cn : Nat) (a : List Ser) (B : Option Addr) (m cm : Nat) (b : List Ser) (M : Option Addr) (mn mc : Nat) (mt : List Mat) (f t : Int) (w : World) (ha : InS w A n cn a) (hpa : PtsOk a) (hb : InS w B m cm b) (_ : PtsOk b) (hM : RE elMa w M mn mt) (hmn : mn ≤ 1048576) (_ : mn ≤ mc ∧ mc ≤ 9223372036854775807) (hval : ∀ x ∈ mt, x.2.2.size ≤ 16777216)
    (_ : (Lit.int .i64 f).wf = true) (_ : (Lit.int .i64 t).wf = true) (hm : MaxL w) :
    Calls Tryd.prog 4 #[.slice A n cn, .slice B m cm, .slice M mn mc, .int .i64 f, .int .i64 t] w fun e w' => e = .returned (.bool true) ∧ Grew w w' := by
  by_cases h : OkL a
  · exact parts_yes A n cn a B m cm b M mn mc mt f t w ha hpa hb hM hmn hval hm h
  · exact parts_no A n cn a B m cm b M mn mc mt f t w ha hb hM hmn hm h
end Go.Proofs.YtjgbdkokcgcpjaaDoor
