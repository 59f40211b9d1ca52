/-
  Several texts in one:
  The law SeriesOrder, walked. Conditions: lengths that memory bears; the longest text that the library takes is as it is set.
-/
import Derived.Test.YtjgbdkokcgcpjaaDoorPart38
import Derived.Test.YtjgbdkokcgcpjaaDoorPart39

namespace Go.Proofs.YtjgbdkokcgcpjaaDoor
open Go.RowKit

theorem order_n {a b c m : List Ser} (h : Mrg [a, b, c] m) : Mrg [c, a, b, a] m := h.to fun K t => by
  simp only [maxL_cons, maxL_nil, maxO_none]
  rw [maxO_left (atV a K t) (atV b K t) (atV c K t), maxO_comm (atV b K t) (atV a K t), maxO_self2 (atV a K t) (atV b K t)]
  rw [maxO_left (atV c K t) (atV a K t), maxO_comm (atV c K t), maxO_left (atV b K t)]
theorem order_y {a b c x m : List Ser} (h : Mrg [a, b, c] m) (hx : Mrg [b, c] x) : Mrg [a, x] m := h.to fun K t => by
  have := hx.at_ K t
  simp only [maxL_cons, maxL_nil, maxO_none] at this ⊢
  rw [this]
theorem order_z {m : List Ser} (h : Vs m) : Mrg [m, m] m := ⟨h, fun K t => by
  simp only [maxL_cons, maxL_nil, maxO_none]
  rw [maxO_self]⟩

/-- a list of series that came in, of a size that memory bears -/
structure InS (w : World) (A : Option Addr) (n c : Nat) (ss : List Ser) : Prop where
  rs : RS w A n ss
  cap : n ≤ c ∧ c ≤ 9223372036854775807
  small : Small ss
  len : ss.length ≤ 4194304
  tot : tot ss ≤ 4194304
theorem InS.grew {w w' : World} {A : Option Addr} {n c : Nat} {ss : List Ser} (h : InS w A n c ss) (hg : Grew w w') : InS w' A n c ss := ⟨h.rs.grew hg, h.cap, h.small, h.len, h.tot⟩
theorem okL_small {ss : List Ser} (h : OkL ss) (hl : ss.length ≤ 1073741824) (ht : tot ss ≤ 1099511627776) : Small ss := ⟨hl, fun s hs => ⟨chkL_len (h.2 s hs), by have := tot_mem hs; omega⟩⟩
/-- a list copied -/
theorem copyIn {w : World} {A : Option Addr} {n c : Nat} {ss : List Ser} (w' : World) (h : InS w A n c ss) (hg : Grew w w') : Calls Tryd.prog 10 #[.slice A n c] w' (NewS w' ss) := copySeries_any A n c ss w' (h.rs.grew hg) h.small

theorem all1 {α : Type} {P : α → Prop} {x : α} (hx : P x) : ∀ z ∈ [x], P z := fun z hz => by
  obtain rfl : z = x := by simpa using hz
  exact hx
theorem all2 {α : Type} {P : α → Prop} {x y : α} (hx : P x) (hy : P y) : ∀ z ∈ [x, y], P z := fun z hz => by
  rcases List.mem_cons.1 hz with rfl | hz
  · exact hx
  · exact all1 hy z hz
theorem all3 {α : Type} {P : α → Prop} {x y u : α} (hx : P x) (hy : P y) (hu : P u) : ∀ z ∈ [x, y, u], P z := fun z hz => by
  rcases List.mem_cons.1 hz with rfl | hz
  · exact hx
  · exact all2 hy hu z hz
theorem all4 {α : Type} {P : α → Prop} {x y u v : α} (hx : P x) (hy : P y) (hu : P u) (hv : P v) : ∀ z ∈ [x, y, u, v], P z := fun z hz => by
  rcases List.mem_cons.1 hz with rfl | hz
  · exact hx
  · exact all3 hy hu hv z hz
/-- a list that may be, in memory, of a size -/
structure InM (w : World) (A : Option Addr) (n c : Nat) (ss : List Ser) (N : Nat) : Prop where
  rs : RS w A n ss
  cap : n ≤ c ∧ c ≤ 9223372036854775807
  ok : OkL ss
  len : ss.length ≤ N
  tot : tot ss ≤ N
theorem InM.grew {w w' : World} {A : Option Addr} {n c N : Nat} {ss : List Ser} (h : InM w A n c ss N) (hg : Grew w w') : InM w' A n c ss N := ⟨h.rs.grew hg, h.cap, h.ok, h.len, h.tot⟩
theorem InM.ls {w : World} {A : Option Addr} {n c N : Nat} {ss : List Ser} (h : InM w A n c ss N) : LsIn w ⟨A, n, c, ss⟩ := ⟨h.rs, h.cap⟩
theorem copyM {w : World} {A : Option Addr} {n c N : Nat} {ss : List Ser} (h : InM w A n c ss N) (hN : N ≤ 1073741824) : Calls Tryd.prog 10 #[.slice A n c] w fun e w' => ∃ B d, e = .returned (.slice B ss.length d) ∧ InM w' B ss.length d ss N ∧ Grew w w' :=
  (copySeries_any A n c ss w h.rs (okL_small h.ok (Nat.le_trans h.len hN) (by have := h.tot; omega))).mono fun e w' ⟨B, d, he, hNS, hg⟩ => ⟨B, d, he, ⟨hNS.rs, hNS.cap, h.ok, h.len, h.tot⟩, hg⟩
def MgM (w : World) (L : List (List Ser)) (N : Nat) (e : Ending) (w' : World) : Prop := ∃ A c m, e = .returned (.tuple #[.slice A m.length c, .int .i64 0]) ∧ InM w' A m.length c m N ∧ Mrg L m ∧ Grew w w'
theorem mgM {La : Option Addr} {Ln Lc N : Nat} {ls : List Lst} {w : World} (hls : RE elLs w La Ln ls) (hin : ∀ x ∈ ls, LsIn w x) (hok : ∀ x ∈ ls, OkL x.ss) (hn : Ln ≤ 1048576) (hN : (sss ls).flatten.length ≤ N) (hT : tot (sss ls).flatten ≤ N) (hNN : N ≤ 1073741824) :
    Calls Tryd.prog 11 #[.slice La Ln Lc] w (MgM w (sss ls) N) :=
  (merge_yes La Ln Lc ls w hls hin hok hn (by omega) (by omega)).mono fun e w' ⟨m, A, c, hM, ⟨h1, h2⟩, he, hNS, hg⟩ => ⟨A, c, m, he, ⟨hNS.rs, hNS.cap, hM.ok fun a ha => by
    obtain ⟨x, hx, rfl⟩ := List.mem_map.1 ha
    exact hok x hx, by omega, by omega⟩, hM, hg⟩
theorem mg1 {w : World} {A : Option Addr} {n c N : Nat} {a : List Ser} {B : Nat} (hB : B = w.heap.size) (ha : InM w A n c a N) (hN : N ≤ 1073741824) :
    Calls Tryd.prog 11 #[.slice (some ⟨B, 0, none⟩) 1 1] (w.alloc (.cells #[.slice A n c] 22)) (MgM (w.alloc (.cells #[.slice A n c] 22)) [a] N) :=
  mgM (ls := [⟨A, n, c, a⟩]) (RE.newAt hB rfl rfl) (all1 (ha.ls.grew ((Chg.refl _ _).alloc _))) (all1 ha.ok) (by decide) (by have := ha.len; simp [sss]; omega) (by have := ha.tot; simp [sss]; omega) hN
theorem mg2 {w : World} {A A' : Option Addr} {n c n' c' N N' : Nat} {a b : List Ser} {B : Nat} (hB : B = w.heap.size) (ha : InM w A n c a N) (hb : InM w A' n' c' b N') (hN : N + N' ≤ 1073741824) :
    Calls Tryd.prog 11 #[.slice (some ⟨B, 0, none⟩) 2 2] (w.alloc (.cells #[.slice A n c, .slice A' n' c'] 22)) (MgM (w.alloc (.cells #[.slice A n c, .slice A' n' c'] 22)) [a, b] (N + N')) :=
  mgM (ls := [⟨A, n, c, a⟩, ⟨A', n', c', b⟩]) (RE.newAt hB rfl rfl) (all2 (ha.ls.grew ((Chg.refl _ _).alloc _)) (hb.ls.grew ((Chg.refl _ _).alloc _))) (all2 ha.ok hb.ok) (by decide) (by have := ha.len; have := hb.len; simp [sss]; omega) (by have := ha.tot; have := hb.tot; simp [sss, tot_append]; omega) hN
theorem mg3 {w : World} {A A' A'' : Option Addr} {n c n' c' n'' c'' N N' N'' : Nat} {a b d : List Ser} {B : Nat} (hB : B = w.heap.size) (ha : InM w A n c a N) (hb : InM w A' n' c' b N') (hd : InM w A'' n'' c'' d N'') (hN : N + N' + N'' ≤ 1073741824) :
    Calls Tryd.prog 11 #[.slice (some ⟨B, 0, none⟩) 3 3] (w.alloc (.cells #[.slice A n c, .slice A' n' c', .slice A'' n'' c''] 22)) (MgM (w.alloc (.cells #[.slice A n c, .slice A' n' c', .slice A'' n'' c''] 22)) [a, b, d] (N + N' + N'')) :=
  mgM (ls := [⟨A, n, c, a⟩, ⟨A', n', c', b⟩, ⟨A'', n'', c'', d⟩]) (RE.newAt hB rfl rfl) (all3 (ha.ls.grew ((Chg.refl _ _).alloc _)) (hb.ls.grew ((Chg.refl _ _).alloc _)) (hd.ls.grew ((Chg.refl _ _).alloc _))) (all3 ha.ok hb.ok hd.ok) (by decide)
    (by have := ha.len; have := hb.len; have := hd.len; simp [sss]; omega) (by have := ha.tot; have := hb.tot; have := hd.tot; simp [sss, tot_append]; omega) hN
theorem mg4 {w : World} {A A' A'' A3 : Option Addr} {n c n' c' n'' c'' n3 c3 N N' N'' N3 : Nat} {a b d f : List Ser} {B : Nat} (hB : B = w.heap.size) (ha : InM w A n c a N) (hb : InM w A' n' c' b N') (hd : InM w A'' n'' c'' d N'') (hf : InM w A3 n3 c3 f N3) (hN : N + N' + N'' + N3 ≤ 1073741824) :
    Calls Tryd.prog 11 #[.slice (some ⟨B, 0, none⟩) 4 4] (w.alloc (.cells #[.slice A n c, .slice A' n' c', .slice A'' n'' c'', .slice A3 n3 c3] 22)) (MgM (w.alloc (.cells #[.slice A n c, .slice A' n' c', .slice A'' n'' c'', .slice A3 n3 c3] 22)) [a, b, d, f] (N + N' + N'' + N3)) :=
  mgM (ls := [⟨A, n, c, a⟩, ⟨A', n', c', b⟩, ⟨A'', n'', c'', d⟩, ⟨A3, n3, c3, f⟩]) (RE.newAt hB rfl rfl) (all4 (ha.ls.grew ((Chg.refl _ _).alloc _)) (hb.ls.grew ((Chg.refl _ _).alloc _)) (hd.ls.grew ((Chg.refl _ _).alloc _)) (hf.ls.grew ((Chg.refl _ _).alloc _))) (all4 ha.ok hb.ok hd.ok hf.ok) (by decide)
    (by have := ha.len; have := hb.len; have := hd.len; have := hf.len; simp [sss]; omega) (by have := ha.tot; have := hb.tot; have := hd.tot; have := hf.tot; simp [sss, tot_append]; omega) hN
theorem InS.m {w : World} {A : Option Addr} {n c : Nat} {ss : List Ser} (h : InS w A n c ss) (hok : OkL ss) : InM w A n c ss 4194304 := ⟨h.rs, h.cap, hok, h.len, h.tot⟩
theorem sameM {w : World} {A B : Option Addr} {n m c d N M : Nat} {l r : List Ser} (ha : InM w A n c l N) (hb : InM w B m d r M) : Calls Tryd.prog 13 #[.slice A n c, .slice B m d] w fun e w' => e = .returned (.bool (eqB l r)) ∧ Grew w w' :=
  sameS_any A B n m c d l r w ha.rs hb.rs (by have := ha.cap; omega) (by have := hb.cap; omega)

set_option maxRecDepth 100000 in
set_option maxHeartbeats 8000000 in
theorem order_no (A B C : Option Addr) (n m k cn cm ck : Nat) (a b c : List Ser) (w : World) (ha : InS w A n cn a) (hb : InS w B m cm b) (hc : InS w C k ck c) (hm : MaxL w) (hno : ¬ (OkL a ∧ OkL b ∧ OkL c)) :
    Calls Tryd.prog 5 #[.slice A n cn, .slice B m cm, .slice C k ck] w fun e w' => e = .returned (.bool true) ∧ Grew w w' := by
  replace hno := Lib.hid hno
  go_enter Tryd.func5, Tryd.ntmps5
  go_wp2_with fail
  refine (copyIn w ha (Chg.refl _ _)).mono ?_
  rintro e w1 ⟨A1, c1, rfl, h1, g1⟩
  go_wp2_with fail
  refine (copyIn w1 hb g1).mono ?_
  rintro e w2 ⟨A2, c2, rfl, h2, g2⟩
  have g02 := g1.trans g2
  go_wp2_with fail
  refine (copyIn w2 hc g02).mono ?_
  rintro e w3 ⟨A3, c3, rfl, h3, g3⟩
  have g03 := g02.trans g3
  have g13 := g2.trans g3
  go_wp2_with fail
  have hga : Grew w3 (w3.alloc (.cells #[.slice A1 a.length c1, .slice A2 b.length c2, .slice A3 c.length c3] 22)) := (Chg.refl _ _).alloc _
  refine (merge_no _ 3 3 [⟨A1, a.length, c1, a⟩, ⟨A2, b.length, c2, b⟩, ⟨A3, c.length, c3, c⟩] _ (RE.newAt rfl rfl rfl) (fun x hx => ?_) (fun h => hno.out ⟨?_, ?_, ?_⟩) (by decide)).mono ?_
  · simp only [List.mem_cons, List.not_mem_nil, or_false] at hx
    rcases hx with rfl | rfl | rfl
    · exact ((h1.grew g13).ls).grew hga
    · exact ((h2.grew g3).ls).grew hga
    · exact (h3.ls).grew hga
  · exact h ⟨A1, a.length, c1, a⟩ (by simp)
  · exact h ⟨A2, b.length, c2, b⟩ (by simp)
  · exact h ⟨A3, c.length, c3, c⟩ (by simp)
  rintro e w4 ⟨rfl, g4⟩
  have g04 := g03.trans (hga.trans g4)
  go_wp2_with fail
  refine (awake_any w4 (hm.grew g04)).mono ?_
  rintro e w5 ⟨rfl, g5⟩
  go_wp2
  go_ret
  exact ⟨by simp, g04.trans g5⟩

set_option maxRecDepth 100000 in
set_option maxHeartbeats 16000000 in
theorem order_yes (A B C : Option Addr) (n m k cn cm ck : Nat) (a b c : List Ser) (w : World) (ha : InM w A n cn a 4194304) (hb : InM w B m cm b 4194304) (hc : InM w C k ck c 4194304) (hm : MaxL w) :
    Calls Tryd.prog 5 #[.slice A n cn, .slice B m cm, .slice C k ck] w fun e w' => e = .returned (.bool true) ∧ Grew w w' := by
  go_enter Tryd.func5, Tryd.ntmps5
  go_wp2_with fail
  refine (copyM ha (by decide)).mono ?_
  rintro e w1 ⟨A1, c1, rfl, h1, g1⟩
  go_wp2_with fail
  refine (copyM (hb.grew g1) (by decide)).mono ?_
  rintro e w2 ⟨A2, c2, rfl, h2, g2⟩
  have g02 := g1.trans g2
  go_wp2_with fail
  refine (copyM (hc.grew g02) (by decide)).mono ?_
  rintro e w3 ⟨A3, c3, rfl, h3, g3⟩
  have g03 := g02.trans g3
  go_wp2_with fail
  refine (mg3 rfl (h1.grew (g2.trans g3)) (h2.grew g3) h3 (by decide)).mono ?_
  rintro e w4 ⟨AM, cM, mm, rfl, hM, hMm, g4⟩
  have g04 := g03.trans (((Chg.refl _ w3).alloc _).trans g4)
  clear h1 h2 h3 g1 g2 g3 g4 g02 g03
  go_wp2_with fail
  refine (copyM (hc.grew g04) (by decide)).mono ?_
  rintro e w5 ⟨A5, c5, rfl, h5, g5⟩
  go_wp2_with fail
  refine (copyM (ha.grew (g04.trans g5)) (by decide)).mono ?_
  rintro e w6 ⟨A6, c6, rfl, h6, g6⟩
  go_wp2_with fail
  refine (copyM (hb.grew ((g04.trans g5).trans g6)) (by decide)).mono ?_
  rintro e w7 ⟨A7, c7, rfl, h7, g7⟩
  go_wp2_with fail
  refine (copyM (ha.grew (((g04.trans g5).trans g6).trans g7)) (by decide)).mono ?_
  rintro e w8 ⟨A8, c8, rfl, h8, g8⟩
  have g48 := ((g5.trans g6).trans g7).trans g8
  go_wp2_with fail
  refine (mg4 rfl (h5.grew ((g6.trans g7).trans g8)) (h6.grew (g7.trans g8)) (h7.grew g8) h8 (by decide)).mono ?_
  rintro e w9 ⟨AN, cN, nn, rfl, hN, hNm, g9⟩
  have g49 := g48.trans (((Chg.refl _ w8).alloc _).trans g9)
  have g09 := g04.trans g49
  have hM9 := hM.grew g49
  clear h5 h6 h7 h8 g5 g6 g7 g8 g9 g48 g49 hM
  obtain rfl := (order_n hMm).uniq hNm
  -- x: b and c
  go_wp2_with fail
  refine (copyM (hb.grew g09) (by decide)).mono ?_
  rintro e w10 ⟨B1, d1, rfl, h1, g1⟩
  go_wp2_with fail
  refine (copyM (hc.grew (g09.trans g1)) (by decide)).mono ?_
  rintro e w11 ⟨B2, d2, rfl, h2, g2⟩
  go_wp2_with fail
  refine (mg2 rfl (h1.grew g2) h2 (by decide)).mono ?_
  rintro e w12 ⟨AX, cX, xx, rfl, hX, hXm, g3⟩
  have g912 := (g1.trans g2).trans (((Chg.refl _ w11).alloc _).trans g3)
  have g012 := g09.trans g912
  have hM12 := hM9.grew g912
  have hN12 := hN.grew g912
  clear h1 h2 g1 g2 g3 g912 hM9 hN
  -- y: a and x
  go_wp2_with fail
  refine (copyM (ha.grew g012) (by decide)).mono ?_
  rintro e w13 ⟨B1, d1, rfl, h1, g1⟩
  go_wp2_with fail
  refine (mg2 rfl h1 (hX.grew g1) (by decide)).mono ?_
  rintro e w14 ⟨AY, cY, yy, rfl, hY, hYm, g2⟩
  obtain rfl := (order_y hMm hXm).uniq hYm
  have g1214 := g1.trans (((Chg.refl _ w13).alloc _).trans g2)
  have g014 := g012.trans g1214
  have hM14 := hM12.grew g1214
  have hN14 := hN12.grew g1214
  clear h1 g1 g2 hX g1214 hM12 hN12
  -- z: m and m
  go_wp2_with fail
  refine (copyM hM14 (by decide)).mono ?_
  rintro e w15 ⟨B1, d1, rfl, h1, g1⟩
  go_wp2_with fail
  refine (copyM (hM14.grew g1) (by decide)).mono ?_
  rintro e w16 ⟨B2, d2, rfl, h2, g2⟩
  go_wp2_with fail
  refine (mg2 rfl (h1.grew g2) h2 (by decide)).mono ?_
  rintro e w17 ⟨AZ, cZ, zz, rfl, hZ, hZm, g3⟩
  obtain rfl := (order_z hMm.vs).uniq hZm
  have g1417 := (g1.trans g2).trans (((Chg.refl _ w16).alloc _).trans g3)
  have g017 := g014.trans g1417
  have hM17 := hM14.grew g1417
  have hN17 := hN14.grew g1417
  have hY17 := hY.grew g1417
  clear h1 h2 g1 g2 g3 g1417 hM14 hN14 hY
  -- own: a
  go_wp2_with fail
  refine (copyM (ha.grew g017) (by decide)).mono ?_
  rintro e w18 ⟨B1, d1, rfl, h1, g1⟩
  go_wp2_with fail
  refine (mg1 rfl h1 (by decide)).mono ?_
  rintro e w19 ⟨AO, cO, oo, rfl, hO, hOm, g2⟩
  have eo := (mrg_own ha.ok.1).uniq hOm
  subst eo
  have g1719 := g1.trans (((Chg.refl _ w18).alloc _).trans g2)
  have g019 := g017.trans g1719
  have hM19 := hM17.grew g1719
  have hN19 := hN17.grew g1719
  have hY19 := hY17.grew g1719
  have hZ19 := hZ.grew g1719
  clear h1 g1 g2 g1719 hM17 hN17 hY17 hZ
  -- none
  go_wp2_with fail
  refine (mgM (ls := []) (RE.nil _ _) (fun x hx => by cases hx) (fun x hx => by cases hx) (by decide) (Nat.zero_le 0) (Nat.zero_le 0) (by decide)).mono ?_
  rintro e w20 ⟨AE, cE, ee, rfl, hE, hEm, g1⟩
  have ee' := mrg_nil.uniq hEm
  subst ee'
  have g020 := g019.trans g1
  have hM20 := hM19.grew g1
  have hN20 := hN19.grew g1
  have hY20 := hY19.grew g1
  have hZ20 := hZ19.grew g1
  have hO20 := hO.grew g1
  clear hM19 hN19 hY19 hZ19 hO g1 hEm hZm hYm hXm hNm
  rw [show ([] : List Ser).length = 0 from rfl] at *
  go_wp2_with fail
  refine (sameM hN20 hM20).mono ?_
  rw [eqB_true rfl]
  rintro e w21 ⟨rfl, g1⟩
  go_wp2_with fail
  refine (sameM (hY20.grew g1) (hM20.grew g1)).mono ?_
  rw [eqB_true rfl]
  rintro e w22 ⟨rfl, g2⟩
  have g2 := g1.trans g2
  go_wp2_with fail
  refine (sameM (hZ20.grew g2) (hM20.grew g2)).mono ?_
  rw [eqB_true rfl]
  rintro e w23 ⟨rfl, g3⟩
  have g3 := g2.trans g3
  go_wp2_with fail
  refine (sameM (hO20.grew g3) (ha.grew (g020.trans g3))).mono ?_
  rw [eqB_true rfl]
  rintro e w24 ⟨rfl, g4⟩
  have g4 := g3.trans g4
  go_wp2_with fail
  refine (copyM (hM20.grew g4) (by decide)).mono ?_
  rintro e w25 ⟨B1, d1, rfl, h1, g5⟩
  go_wp2_with fail
  refine (checkS_any B1 _ d1 _ w25 h1.rs (by have := h1.cap; omega)).mono ?_
  rw [errS_ok h1.ok]
  rintro e w26 ⟨rfl, g6⟩
  have g026 := ((g020.trans g4).trans g5).trans g6
  go_wp2_with fail
  refine (awake_any w26 (hm.grew g026)).mono ?_
  rintro e w27 ⟨rfl, g7⟩
  go_wp2
  go_ret
  exact ⟨by simp, g026.trans g7⟩
theorem walk_seriesOrder (A : Option Addr) (n cn : Nat) (a : List Ser) (B : Option Addr) (m cm : Nat) (b : List Ser) (C : Option Addr) (k ck : Nat) (c : List Ser) (w : World) (ha : InS w A n cn a) (hb : InS w B m cm b) (hc : InS w C k ck c) (hm : MaxL w) :
    Calls Tryd.prog 5 #[.slice A n cn, .slice B m cm, .slice C k ck] w fun e w' => e = .returned (.bool true) ∧ Grew w w' := by
  by_cases h : OkL a ∧ OkL b ∧ OkL c
  · exact order_yes A B C n m k cn cm ck a b c w (ha.m h.1) (hb.m h.2.1) (hc.m h.2.2) hm
  · exact order_no A B C n m k cn cm ck a b c w ha hb hc hm h
end Go.Proofs.YtjgbdkokcgcpjaaDoor
