/-
  Several texts in one:
  The reference of match: Like: a text is like a pattern just if likeB says so. Conditions: texts that memory bears.
  What every program of match answers, call by call (awake); the law MatchLikes, walked. Conditions: texts that memory bears.
  What every program of series answers, call by call (awake). Conditions: the longest text that the library takes is as it is set.
  Labels and matchers copied; a number without its sign; the opposite of a kind. Conditions: lengths that memory bears.
-/
import Derived.Test.YtjgbdkokcgcpjaaDoorPart37
import Derived.Test.YtjgbdkokcgcpjaaDoorPart32
import Derived.Test.YtjgbdkokcgcpjaaDoorPart36

namespace Go.Proofs.YtjgbdkokcgcpjaaDoor
open Go.RowKit

/-- what is left to ask, from an alternative's beginning on, with no bar ahead of place i -/
def Asks (P S : List UInt8) (a i : Nat) : Prop := (i ≤ P.length ∧ a ≤ i ∧ likeB P S = (splitC 124 (P.drop a)).any (fun x => glob x S) ∧ ∀ j, a ≤ j → j < i → P[j]? ≠ some 124) ∨ (P.length < i ∧ likeB P S = false)
theorem Asks.start (P S : List UInt8) : Asks P S 0 0 := .inl ⟨Nat.zero_le _, Nat.le_refl _, rfl, fun j h1 h2 => by omega⟩
theorem Asks.piece {P S : List UInt8} {a i : Nat} (h : Asks P S a i) (hi : i ≤ P.length) (hb : i = P.length ∨ P[i]? = some 124) :
    (glob ((P.take i).drop a) S = true → likeB P S = true) ∧ (glob ((P.take i).drop a) S = false → Asks P S (i + 1) (i + 1)) := by
  rcases h with ⟨_, ha, he, hn⟩ | ⟨h, _⟩
  · have hfree : ∀ x ∈ (P.take i).drop a, x ≠ 124 := fun x hx => by
      obtain ⟨j, hj⟩ := List.mem_iff_getElem?.1 hx
      rw [List.getElem?_drop, List.getElem?_take] at hj
      split at hj
      · rename_i hlt
        rintro rfl
        exact hn (a + j) (by omega) (by omega) hj
      · cases hj
    rcases hb with rfl | hb
    · have hd : P.drop a = (P.take P.length).drop a := by rw [List.take_length]
      rw [hd, splitC_none hfree] at he
      simp only [List.any_cons, List.any_nil, Bool.or_false] at he
      exact ⟨fun hg => by rw [he, hg], fun hg => .inr ⟨by omega, by rw [he, hg]⟩⟩
    · obtain ⟨hlt, hc⟩ := List.getElem?_eq_some_iff.1 hb
      have hd : P.drop a = (P.take i).drop a ++ 124 :: P.drop (i + 1) := by
        conv => lhs; rw [← List.take_append_drop i P]
        rw [List.drop_append_of_le_length (by rw [List.length_take]; omega), List.drop_eq_getElem_cons hlt, hc]
      rw [hd, splitC_cut _ hfree] at he
      simp only [List.any_cons] at he
      exact ⟨fun hg => by rw [he, hg]; rfl, fun hg => .inl ⟨by omega, Nat.le_refl _, by rw [he, hg]; rfl, fun j h1 h2 => by omega⟩⟩
  · omega
theorem Asks.more {P S : List UInt8} {a i : Nat} (h : Asks P S a i) (hi : i < P.length) (hb : P[i]? ≠ some 124) : Asks P S a (i + 1) := by
  rcases h with ⟨_, ha, he, hn⟩ | ⟨h, _⟩
  · refine .inl ⟨by omega, by omega, he, fun j h1 h2 => ?_⟩
    rcases Nat.lt_or_ge j i with h3 | h3
    · exact hn j h1 h3
    · obtain rfl : j = i := by omega
      exact hb
  · omega

set_option maxRecDepth 100000 in
set_option maxHeartbeats 2000000 in
theorem rLike_any (p s : ByteArray) (w : World) (hp : p.size ≤ 16777216) (hs : s.size ≤ 16777216) :
    Calls Tryd.prog 68 #[.string p, .string s] w fun e w' => e = .returned (.bool (likeB (lst p) (lst s))) ∧ Grew w w' := by
  have Hp : Hid (∀ i (h : i < p.size), (lst p)[i]? = some p[i]) := fun i h => by
    show (p.data.toList)[i]? = _
    rw [Array.getElem?_toList]
    exact Array.getElem?_eq_getElem h
  have Hl := Lib.hid (lst_length p)
  go_enter Tryd.func68, Tryd.ntmps68
  go_wp2
  go_loopw [5, 6] (fun sf si wr => ∃ (a i : Nat), sf = .int .i64 (a : Int) ∧ si = .int .i64 (i : Int) ∧ a ≤ i ∧ i ≤ p.size + 1 ∧ Hid (Asks (lst p) (lst s) a i) ∧ Grew w wr) (fun _ si _ => p.size + 1 - (intOf si).toNat)
  case atStart => exact ⟨0, 0, rfl, rfl, by omega, by omega, Asks.start _ _, Chg.refl _ _⟩
  case round =>
    obtain ⟨a, i, rfl, rfl, ha, hi, HA, hg⟩ := hrel
    by_cases hle : i ≤ p.size
    · have hO : ∀ w, Calls Tryd.prog 78 #[.string (p.extract a i), .string s] w fun e w' => e = .returned (.bool (glob (((lst p).take i).drop a) (lst s))) ∧ Grew w w' := fun w => by
        have := rone_any (p.extract a i) s w (by rw [ByteArray.size_extract]; omega) hs
        rwa [lst_extract] at this
      by_cases hb : i = p.size ∨ (lst p)[i]? = some 124
      · obtain ⟨h1, h2⟩ := HA.out.piece (by rw [Hl.out]; exact hle) (by rw [Hl.out]; exact hb)
        have hway : (((i : Int) == (p.size : Int)) = true) ∨ (((i : Int) == (p.size : Int)) = false ∧ i < p.size ∧ ∀ h : i < p.size, ((p[i].toNat : Int) == 124) = true) := by
          by_cases he : i = p.size
          · left; simp [he]
          · right
            have hlt : i < p.size := by omega
            refine ⟨by simp; omega, hlt, fun h => ?_⟩
            rcases hb with hb | hb
            · exact (he hb).elim
            · rw [Hp.out i hlt] at hb
              injection hb with hb
              rw [hb]
              rfl
        cases hg1 : glob (((lst p).take i).drop a) (lst s)
        · rw [hg1] at hO
          have HO := Lib.hid hO
          have HA2 := Lib.hid (h2 hg1)
          clear hO h1 h2 hg1 hb HA
          rcases hway with c1 | ⟨c1, hlt, c2⟩
          · obtain rfl : i = p.size := by have := beq_iff_eq.1 c1; omega
            clear c1
            go_wp2_with fail
            refine (HO.out _).mono ?_
            rintro e w2 ⟨rfl, hg2⟩
            go_wp2
            go_roundw
            case rel => exact ⟨p.size + 1, p.size + 1, by first | rfl | go_num, by first | rfl | go_num, by omega, by omega, HA2.out, hg.trans hg2⟩
            case measure => simp [intOf] <;> omega
          · have c3 := c2 hlt
            clear c2
            go_wp2_with fail
            refine (HO.out _).mono ?_
            rintro e w2 ⟨rfl, hg2⟩
            go_wp2
            go_roundw
            case rel => exact ⟨i + 1, i + 1, by first | rfl | go_num, by first | rfl | go_num, by omega, by omega, HA2.out, hg.trans hg2⟩
            case measure => simp [intOf] <;> omega
        · rw [hg1] at hO
          have HO := Lib.hid hO
          have HA2 := Lib.hid (h1 hg1)
          clear hO h1 h2 hg1 hb HA
          rcases hway with c1 | ⟨c1, hlt, c2⟩
          · obtain rfl : i = p.size := by have := beq_iff_eq.1 c1; omega
            clear c1
            go_wp2_with fail
            refine (HO.out _).mono ?_
            rintro e w2 ⟨rfl, hg2⟩
            go_wp2
            go_ret
            exact ⟨by rw [HA2.out]; simp, hg.trans hg2⟩
          · have c3 := c2 hlt
            clear c2
            go_wp2_with fail
            refine (HO.out _).mono ?_
            rintro e w2 ⟨rfl, hg2⟩
            go_wp2
            go_ret
            exact ⟨by rw [HA2.out]; simp, hg.trans hg2⟩
      · have hlt : i < p.size := by
          rcases Nat.lt_or_ge i p.size with h | h
          · exact h
          · exact (hb (.inl (by omega))).elim
        have hn : (lst p)[i]? ≠ some 124 := fun e => hb (.inr e)
        have HA2 := Lib.hid (HA.out.more (by rw [Hl.out]; exact hlt) hn)
        have c1 : ((i : Int) == (p.size : Int)) = false := by simp; omega
        have c3 : ((p[i].toNat : Int) == 124) = false := by
          rw [beq_eq_false_iff_ne]
          intro e
          refine hn ?_
          rw [Hp.out i hlt]
          congr 1
          exact UInt8.toNat_inj.1 (show p[i].toNat = 124 by omega)
        clear hb hn HA hO
        go_wp2
        go_roundw
        case rel => exact ⟨a, i + 1, rfl, by go_num, by omega, by omega, HA2.out, hg⟩
        case measure => simp [intOf] <;> omega
    · have hf : Hid (likeB (lst p) (lst s) = false) := by
        rcases HA.out with ⟨h, _⟩ | ⟨_, h⟩
        · have := Hl.out; omega
        · exact h
      clear HA
      go_wp2
      go_ret
      exact ⟨by rw [hf.out]; simp, hg⟩
end Go.Proofs.YtjgbdkokcgcpjaaDoor

namespace Go.Proofs.YtjgbdkokcgcpjaaDoor
open Go.RowKit

end Go.Proofs.YtjgbdkokcgcpjaaDoor

namespace Go.Proofs.YtjgbdkokcgcpjaaDoor
open Go.RowKit

/-- what a merge of lists leaves -/
def MergeOk (w : World) (L : List (List Ser)) (e : Ending) (w' : World) : Prop := ∃ A c, e = .returned (.tuple #[.slice A (mrg L).length c, .int .i64 0]) ∧ NS w' w.heap.size A (mrg L).length c (mrg L) ∧ Grew w w' ∧ Mrg L (mrg L) ∧ (mrg L).length ≤ L.flatten.length ∧ tot (mrg L) ≤ tot L.flatten
theorem merge_ok (La : Option Addr) (Ln Lc : Nat) (ls : List Lst) (w : World) (hls : RE elLs w La Ln ls) (hin : ∀ x ∈ ls, LsIn w x) (hok : ∀ x ∈ ls, OkL x.ss) (hn : Ln ≤ 1048576) (hN : (sss ls).flatten.length ≤ 1073741824) (hT : tot (sss ls).flatten ≤ 1099511627776) :
    Calls Tryd.prog 11 #[.slice La Ln Lc] w (MergeOk w (sss ls)) :=
  (merge_yes La Ln Lc ls w hls hin hok hn hN hT).mono fun e w' ⟨m, A, c, hM, ⟨h1, h2⟩, he, hNS, hg⟩ => by
    have := mrg_of hM
    subst this
    exact ⟨A, c, he, hNS, hg, hM, h1, h2⟩
theorem NS.ls {w : World} {base : Nat} {A : Option Addr} {n c : Nat} {ss : List Ser} (h : NS w base A n c ss) : LsIn w ⟨A, n, c, ss⟩ := ⟨h.rs, h.cap⟩
/-- one series as a literal lays it -/
theorem rs_one {w : World} {A P : Option Addr} {n c m d : Nat} {s : Ser} (hl : RE elLb w A n s.lbs) (hp : RE elPt w P m s.pts) (hc : n ≤ c ∧ c ≤ 9223372036854775807) (hd : m ≤ d ∧ d ≤ 9223372036854775807) {B : Option Addr} (hr : RE elSr w B 1 [⟨A, n, c, P, m, d⟩]) : RS w B 1 [s] :=
  ⟨[⟨A, n, c, P, m, d⟩], hr, rfl, fun i mm s' hm hs => by
    cases i with
    | zero =>
      obtain rfl := Option.some.inj hm
      obtain rfl := Option.some.inj hs
      exact ⟨hl, hp, hc, hd⟩
    | succ i => simp at hm⟩

theorem new_re {α : Type} (E : El α) (w : World) (t : TypeId) (n : Nat) (l : List α) (cs : Array Value) (B : Nat) (hB : B = w.heap.size) (hn : l.length = n) (hc : cs = (E.flat l).toArray) :
    ∃ W, W = w.alloc (.cells cs t) ∧ Grew w W ∧ W.heap.size = B + 1 ∧ RE E W (some ⟨B, 0, none⟩) n l := ⟨_, rfl, (Chg.refl _ w).alloc _, by rw [hB]; simp, RE.newAt hB hn hc⟩
theorem lits (w : World) : ∃ W, W = (((((((w.alloc (.cells #[.string ⟨#[97]⟩, .string ⟨#[120]⟩] 67)).alloc (.cells #[.int .i64 1, .int .u64 5, .int .i64 2, .int .u64 6] 49)).alloc
    (.cells #[.slice (some ⟨w.heap.size, 0, none⟩) 1 1, .slice (some ⟨w.heap.size + 1, 0, none⟩) 2 2] 46)).alloc (.cells #[.string ⟨#[97]⟩, .string ⟨#[120]⟩] 67)).alloc (.cells #[.int .i64 2, .int .u64 7] 49)).alloc
    (.cells #[.slice (some ⟨w.heap.size + 1 + 1 + 1, 0, none⟩) 1 1, .slice (some ⟨w.heap.size + 1 + 1 + 1 + 1, 0, none⟩) 1 1] 46)).alloc
    (.cells #[.slice (some ⟨w.heap.size + 1 + 1, 0, none⟩) 1 1, .slice (some ⟨w.heap.size + 1 + 1 + 1 + 1 + 1, 0, none⟩) 1 1] 22)) ∧ Grew w W ∧
    RS W (some ⟨w.heap.size + 1 + 1, 0, none⟩) 1 serA ∧ RS W (some ⟨w.heap.size + 1 + 1 + 1 + 1 + 1, 0, none⟩) 1 serB ∧ RE elLs W (some ⟨w.heap.size + 1 + 1 + 1 + 1 + 1 + 1, 0, none⟩) 2 [⟨some ⟨w.heap.size + 1 + 1, 0, none⟩, 1, 1, serA⟩, ⟨some ⟨w.heap.size + 1 + 1 + 1 + 1 + 1, 0, none⟩, 1, 1, serB⟩] := by
  obtain ⟨w1, e1, g1, z1, r1⟩ := new_re elLb w 67 1 lbA #[.string ⟨#[97]⟩, .string ⟨#[120]⟩] w.heap.size rfl rfl rfl
  obtain ⟨w2, e2, g2, z2, r2⟩ := new_re elPt w1 49 2 [(1, 5), (2, 6)] #[.int .i64 1, .int .u64 5, .int .i64 2, .int .u64 6] (w.heap.size + 1) z1.symm rfl rfl
  obtain ⟨w3, e3, g3, z3, r3⟩ := new_re elSr w2 46 1 [⟨some ⟨w.heap.size, 0, none⟩, 1, 1, some ⟨w.heap.size + 1, 0, none⟩, 2, 2⟩] #[.slice (some ⟨w.heap.size, 0, none⟩) 1 1, .slice (some ⟨w.heap.size + 1, 0, none⟩) 2 2] (w.heap.size + 1 + 1) z2.symm rfl rfl
  obtain ⟨w4, e4, g4, z4, r4⟩ := new_re elLb w3 67 1 lbA #[.string ⟨#[97]⟩, .string ⟨#[120]⟩] (w.heap.size + 1 + 1 + 1) z3.symm rfl rfl
  obtain ⟨w5, e5, g5, z5, r5⟩ := new_re elPt w4 49 1 [(2, 7)] #[.int .i64 2, .int .u64 7] (w.heap.size + 1 + 1 + 1 + 1) z4.symm rfl rfl
  obtain ⟨w6, e6, g6, z6, r6⟩ := new_re elSr w5 46 1 [⟨some ⟨w.heap.size + 1 + 1 + 1, 0, none⟩, 1, 1, some ⟨w.heap.size + 1 + 1 + 1 + 1, 0, none⟩, 1, 1⟩] #[.slice (some ⟨w.heap.size + 1 + 1 + 1, 0, none⟩) 1 1, .slice (some ⟨w.heap.size + 1 + 1 + 1 + 1, 0, none⟩) 1 1] (w.heap.size + 1 + 1 + 1 + 1 + 1) z5.symm rfl rfl
  obtain ⟨w7, e7, g7, z7, r7⟩ := new_re elLs w6 22 2 [⟨some ⟨w.heap.size + 1 + 1, 0, none⟩, 1, 1, serA⟩, ⟨some ⟨w.heap.size + 1 + 1 + 1 + 1 + 1, 0, none⟩, 1, 1, serB⟩] #[.slice (some ⟨w.heap.size + 1 + 1, 0, none⟩) 1 1, .slice (some ⟨w.heap.size + 1 + 1 + 1 + 1 + 1, 0, none⟩) 1 1] (w.heap.size + 1 + 1 + 1 + 1 + 1 + 1) z6.symm rfl rfl
  have g37 := g4.trans (g5.trans (g6.trans g7))
  refine ⟨w7, by rw [e7, e6, e5, e4, e3, e2, e1], g1.trans (g2.trans (g3.trans g37)), ?_, ?_, r7⟩
  · exact rs_one (r1.grew (g2.trans (g3.trans g37))) (r2.grew (g3.trans g37)) (by decide) (by decide) (r3.grew g37)
  · exact rs_one (r4.grew (g5.trans (g6.trans g7))) (r5.grew (g6.trans g7)) (by decide) (by decide) (r6.grew g7)
theorem smallA : Small serA := ⟨by decide, fun s hs => by
  obtain rfl : s = ⟨lbA, [(1, 5), (2, 6)]⟩ := by simpa [serA] using hs
  exact ⟨by decide, by decide⟩⟩
theorem smallM : Small serM := ⟨by decide, fun s hs => by
  obtain rfl : s = ⟨lbA, [(1, 5), (2, 7)]⟩ := by simpa [serM] using hs
  exact ⟨by decide, by decide⟩⟩

set_option maxRecDepth 100000 in
set_option maxHeartbeats 8000000 in
theorem awake_any (w : World) (hm : MaxL w) : Calls Tryd.prog 16 #[] w fun e w' => e = .returned (.bool true) ∧ Grew w w' := by
  obtain ⟨W, hW, gW, rA, rB, rL⟩ := lits w
  have hMg := merge_ok _ 2 2 _ W rL (fun x hx => by
    simp only [List.mem_cons, List.not_mem_nil, or_false] at hx
    rcases hx with rfl | rfl
    · exact ⟨rA, by dsimp only; omega⟩
    · exact ⟨rB, by dsimp only; omega⟩) (fun x hx => by
    simp only [List.mem_cons, List.not_mem_nil, or_false] at hx
    rcases hx with rfl | rfl
    · exact okA
    · exact okB_) (by decide) (by simp [sss, serA, serB]) (by simp [sss, serA, serB, tot])
  unfold MergeOk at hMg
  rw [show sss _ = [serA, serB] from rfl, mrg_of mrgAB] at hMg
  go_enter Tryd.func16, Tryd.ntmps16
  go_wp2_with fail
  rw [← hW]
  clear hW
  refine hMg.mono ?_
  rintro e w1 ⟨A, c, rfl, hNS, hg1, _⟩
  have rM := hNS.rs
  have hcM := hNS.cap
  have g01 := gW.trans hg1
  have rB1 := rB.grew hg1
  have rA1 := rA.grew hg1
  rw [show serM.length = 1 from rfl] at *
  go_wp2_with fail
  refine (clip_yes A 1 c serM 2 2 w1 rM (by decide) okM smallM).mono ?_
  rw [clipM, show serB.length = 1 from rfl]
  rintro e w2 ⟨B, d, rfl, hNB, hg2⟩
  have rC := hNB.rs
  have g02 := g01.trans hg2
  go_wp2_with fail
  have hP := pick_yes A 1 c serM (some ⟨w2.heap.size, 0, none⟩) 1 1 [(1, ⟨#[97]⟩, ⟨#[121]⟩)] (w2.alloc (.cells #[.int .i64 1, .string ⟨#[97]⟩, .string ⟨#[121]⟩] 69)) ((rM.grew hg2).grew ((Chg.refl _ _).alloc _)) (by decide) okM smallM (RE.newAt rfl rfl rfl) (by decide)
    (fun x hx => by
      obtain rfl : x = _ := by simpa using hx
      decide) (fun s hs x hx => by
      obtain rfl : s = ⟨lbA, [(1, 5), (2, 7)]⟩ := by simpa [serM] using hs
      obtain rfl : x = _ := by simpa [lbA] using hx
      decide) (hm.grew (g02.alloc _))
  rw [pickM, show ([] : List Ser).length = 0 from rfl] at hP
  refine hP.mono ?_
  rintro e w3 ⟨C, f, rfl, hNC, hg3⟩
  have hga : Grew w2 (w2.alloc (.cells #[.int .i64 1, .string ⟨#[97]⟩, .string ⟨#[121]⟩] 69)) := (Chg.refl _ _).alloc _
  have g23 := hga.trans hg3
  have g03 := g02.trans g23
  have rM3 := (rM.grew hg2).grew g23
  have rC3 := rC.grew g23
  have rB3 := (rB1.grew hg2).grew g23
  have rA3 := (rA1.grew hg2).grew g23
  clear hP hMg hNC hNB hNS rM rC rB rA rL rB1 rA1 hg3 hga g23
  go_wp2_with fail
  refine (count_any A 1 c serM w3 rM3 (by decide) (by decide)).mono ?_
  rw [totM]
  rintro e w4 ⟨rfl, hg4⟩
  have g04 := g03.trans hg4
  go_wp2_with fail
  refine (sameS_any B _ 1 1 d 1 serB serB w4 (rC3.grew hg4) (rB3.grew hg4) (by decide) (by decide)).mono ?_
  rw [eqB_true rfl]
  rintro e w5 ⟨rfl, hg5⟩
  have hg45 := hg4.trans hg5
  go_wp2_with fail
  refine (covers_any A _ 1 c 1 1 serM serB w5 (rM3.grew hg45) (rB3.grew hg45) hcM (by decide)).mono ?_
  rw [covMB]
  rintro e w6 ⟨rfl, hg6⟩
  have hg46 := hg45.trans hg6
  go_wp2_with fail
  refine (covers_any A _ 1 c 1 1 serM serA w6 (rM3.grew hg46) (rA3.grew hg46) hcM (by decide)).mono ?_
  rw [covMA]
  rintro e w7 ⟨rfl, hg7⟩
  have hg47 := hg46.trans hg7
  go_wp2_with fail
  refine (checkS_any _ 1 1 [⟨[], []⟩] _ (rs_one (A := none) (P := none) (RE.nil _ _) (RE.nil _ _) (by decide) (by decide) (RE.newAt rfl rfl rfl)) (by decide)).mono ?_
  rw [errEmpty]
  rintro e w8 ⟨rfl, hg8⟩
  have g08 := ((g03.trans hg47).alloc (.cells #[.slice none 0 0, .slice none 0 0] 46)).trans hg8
  go_wp2
  go_ret
  exact ⟨by simp, g08⟩
end Go.Proofs.YtjgbdkokcgcpjaaDoor

namespace Go.Proofs.YtjgbdkokcgcpjaaDoor
open Go.RowKit

theorem infoLb : (Tryd.prog.info? 67).map (fun i => (i.zero, i.size, i.bytes)) = some (some (.agg #[.string ⟨#[]⟩, .string ⟨#[]⟩]), 2, 32) := by kernel_rfl
theorem infoMa : (Tryd.prog.info? 69).map (fun i => (i.zero, i.size, i.bytes)) = some (some (.agg #[.int .i64 0, .string ⟨#[]⟩, .string ⟨#[]⟩]), 3, 40) := by kernel_rfl
def NewLb (w : World) (n : Nat) (l : List (ByteArray × ByteArray)) (e : Ending) (w' : World) : Prop := ∃ A c, e = .returned (.slice A n c) ∧ OE elLb w' w.heap.size 67 A n c l ∧ Grew w w'
def NewMa (w : World) (n : Nat) (l : List Mat) (e : Ending) (w' : World) : Prop := ∃ A c, e = .returned (.slice A n c) ∧ OE elMa w' w.heap.size 69 A n c l ∧ Grew w w'
theorem head_of (a : Nat) : ∀ ad, some (⟨a, 0, none⟩ : Addr) = some ad → a ≤ ad.block := fun ad e => by
  injection e with e
  subst e
  exact Nat.le_refl _

set_option maxHeartbeats 400000 in
theorem copyLabels_any (A : Option Addr) (n c : Nat) (l : List (ByteArray × ByteArray)) (w : World) (h : RE elLb w A n l) (hn : n ≤ 4398046511104) :
    Calls Tryd.prog 28 #[.slice A n c] w (NewLb w n l) := by
  have hown : OE elLb (w.alloc (.cells #[] 67)) w.heap.size 67 (some ⟨w.heap.size, 0, none⟩) 0 0 [] := OE.made w w.heap.size 67 (Nat.le_refl _)
  have hr : RE elLb (w.alloc (.cells #[] 67)) A n l := h.grew ((Chg.refl _ w).alloc _)
  go_enter Tryd.func28, Tryd.ntmps28
  go_wp2_with (at_builtin; refine wpList_appE rfl _ _ 43 67 infoLb rfl Tryd.underlying43 rfl w.heap.size _ 0 0 [] rfl hown (by simp) A n c l rfl hr (by unfold maxLen; omega) (by omega) ?_; intro A' c' w' h1)
  go_ret
  simp only [Nat.zero_add, List.nil_append] at h1
  exact ⟨A', c', by simp, h1.oe, h1.grew ((Chg.refl _ w).alloc _) (head_of _)⟩
set_option maxHeartbeats 400000 in
theorem copyMatchers_any (A : Option Addr) (n c : Nat) (l : List Mat) (w : World) (h : RE elMa w A n l) (hn : n ≤ 3298534883328) :
    Calls Tryd.prog 42 #[.slice A n c] w (NewMa w n l) := by
  have hown : OE elMa (w.alloc (.cells #[] 69)) w.heap.size 69 (some ⟨w.heap.size, 0, none⟩) 0 0 [] := OE.made w w.heap.size 69 (Nat.le_refl _)
  have hr : RE elMa (w.alloc (.cells #[] 69)) A n l := h.grew ((Chg.refl _ w).alloc _)
  go_enter Tryd.func42, Tryd.ntmps42
  go_wp2_with (at_builtin; refine wpList_appE rfl _ _ 34 69 infoMa rfl Tryd.underlying34 rfl w.heap.size _ 0 0 [] rfl hown (by simp) A n c l rfl hr (by unfold maxLen; omega) (by omega) ?_; intro A' c' w' h1)
  go_ret
  simp only [Nat.zero_add, List.nil_append] at h1
  exact ⟨A', c', by simp, h1.oe, h1.grew ((Chg.refl _ w).alloc _) (head_of _)⟩

/-- the opposite of a kind -/
def oppZ (k : Int) : Int := if k = 1 then 2 else if k = 2 then 1 else if k = 3 then 4 else if k = 4 then 3 else 0
end Go.Proofs.YtjgbdkokcgcpjaaDoor
