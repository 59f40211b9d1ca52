/-
  Several texts in one:
  The law ObjKeys, walked. Conditions: none but what memory bears.
-/
import Derived.Test.YtepncgeaehjhiaaPart10
import Derived.Laws.Cover1

namespace Go.Proofs.Ytepncgeaehjhiaa
open Go.RowKit

theorem rb_small (w : World) {k : Nat} (hk : k < 256) : RB (w.alloc (.cells #[.int .u8 (k : Int)] 5)) (some ⟨w.heap.size, 0, none⟩) 1 [UInt8.ofNat k] := RB.newAt rfl rfl (by
  rw [List.map_cons, List.map_nil, byt_of]
  congr 3
  omega)
/-- the store after one more put, whether it was taken or not -/
def nextO (lb : List UInt8) (Ob : List OEnt) (x : ByteArray) (k : Nat) : List OEnt := if keyB x then setO Ob ⟨x, lb ++ [UInt8.ofNat k], genO Ob x + 1⟩ else Ob
def errO (x : ByteArray) : Nat := if keyB x then 0 else 110

theorem Liv.blk {S : Nat → Prop} {w : World} {s j : Nat} {Ob : List OEnt} (h : Liv S w s Ob j) : ∃ d, Blk w s 56 #[.pointer (some ⟨d, 0, none⟩)] := by
  obtain ⟨d, m, E, clock, left, kp, n, h1, _⟩ := h.body
  exact ⟨d, h1.st⟩
/-- what one put of the loop leaves -/
def PutK (lb : List UInt8) (ks : List ByteArray) (b s k : Nat) (S : Nat → Prop) (Ob : List OEnt) (x : ByteArray) (wq : World) (e : Ending) (w' : World) : Prop :=
  ∃ v, e = .returned (.tuple #[v, .int .i64 (errO x : Int)]) ∧ ∃ S', Liv S' w' s (nextO lb Ob x k) (3 * (k + 1)) ∧ (∀ j, S' j → b ≤ j) ∧ (∀ j, S' j → S j ∨ wq.heap.size ≤ j) ∧ Keyed lb ks (k + 1) (nextO lb Ob x k) ∧ Chg S wq w'

theorem put_k {lb : List UInt8} {ks : List ByteArray} {b s k : Nat} {S : Nat → Prop} {Ob : List OEnt} {x : ByteArray} {wq : World} (hL : Liv S wq s Ob (3 * k)) (hS : ∀ j, S j → b ≤ j) (hb : b ≤ wq.heap.size) (hK : Keyed lb ks k Ob) (hx : ks[k]? = some x) (hk : k < 50) (hl : Ob.length ≤ k) {A : Option Addr} {n c : Nat} (hr : RB wq A n (lb ++ [UInt8.ofNat k])) (hn : n ≤ 1048576) :
    Calls Try.prog 13 #[.pointer (some ⟨s, 0, none⟩), .string x, .slice A n c] wq (PutK lb ks b s k S Ob x wq) := by
  unfold PutK nextO errO
  cases hkb : keyB x with
  | false =>
    have hm : mayC x n = 110 := by unfold mayC; rw [if_pos hkb]
    have := put_no x A n c (by rw [hm]; omega) (.pointer (some ⟨s, 0, none⟩)) wq
    rw [hm] at this
    refine this.mono ?_
    rintro e w' ⟨rfl, rfl⟩
    have hno : ∀ o ∈ Ob, o.key ≠ x := fun o ho e => by
      have := (hL.ok o ho).key
      rw [e, hkb] at this
      cases this
    obtain ⟨d, m, E, clock, left, kp, n', h1, h2, h3, h4⟩ := hL.body
    exact ⟨_, rfl, S, ⟨⟨d, m, E, clock, left, kp, n', h1, by omega, by omega, by omega⟩, hL.lt⟩, hS, fun _ e => .inl e, keyed_skip hK hx hno, Chg.refl _ _⟩
  | true =>
    refine (liv_put hL (by omega) (by omega) x hkb (by have := keyed_gen hK x; omega) A n c _ hr hn).mono ?_
    rintro e w' ⟨rfl, ⟨S', h1, h2⟩, h3⟩
    exact ⟨_, rfl, S', h1, fun j e => (h2 j e).elim (hS j) (fun e => Nat.le_trans hb e), h2, keyed_put hK hx h1.nd, h3⟩

set_option maxRecDepth 100000 in
set_option maxHeartbeats 8000000 in
theorem walk_objKeys (A : Option Addr) (n ca : Nat) (ks : List ByteArray) (B : Option Addr) (m cb : Nat) (lb : List UInt8) (px : ByteArray) (w : World) (ha : RE elNm w A n ks) (hca : n ≤ ca ∧ ca ≤ 9223372036854775807) (hb : RB w B m lb) (hm : m ≤ 140737488351232) (hpx : px.size ≤ 140737488351232) :
    Calls Try.prog 4 #[.slice A n ca, .slice B m cb, .string px] w fun e w' => e = .returned (.bool true) ∧ Grew w w' := by
  go_enter Try.func4, Try.ntmps4
  go_wp2_with fail
  refine (fs_new w).mono ?_
  rintro e w1 ⟨d, mm, rfl, hF, hg1⟩
  go_wp2_with fail
  refine (open_clean hF (by simp) rfl).mono ?_
  rintro e w2 ⟨s, rfl, hbk, hs, hg2⟩
  obtain ⟨S2, L2, hS2⟩ := start_ex hF hbk hs hg2
  have G2 := hg1.trans hg2
  clear hF hbk hg1 hg2
  by_cases hbig : 1000 < m
  · have e1 : decide ((1000 : Int) < (m : Int)) = true := decide_eq_true (by omega)
    clear hbig
    go_wp2_with fail
    refine (awake_any _).mono ?_
    rintro e w3 ⟨rfl, hg3⟩
    go_wp2
    go_ret
    exact ⟨by simp, G2.trans hg3⟩
  have e1 : decide ((1000 : Int) < (m : Int)) = false := decide_eq_false (by omega)
  by_cases hmany : 50 < n
  · have e2 : decide ((50 : Int) < (n : Int)) = true := decide_eq_true (by omega)
    clear hbig hmany
    go_wp2_with fail
    refine (awake_any _).mono ?_
    rintro e w3 ⟨rfl, hg3⟩
    go_wp2
    go_ret
    exact ⟨by simp, G2.trans hg3⟩
  have e2 : decide ((50 : Int) < (n : Int)) = false := decide_eq_false (by omega)
  have hn50 : n ≤ 50 := by omega
  have hm1000 : m ≤ 1000 := by omega
  clear hbig hmany
  go_wp2
  go_loopw [9, 10] (fun th i wr => ∃ k : Nat, k ≤ n ∧ i = .int .i64 (k : Int) ∧ ∃ S Ob T ct, th = .slice T Ob.length ct ∧ Hid (Ob.length ≤ k) ∧ Hid (Keyed lb ks k Ob) ∧ Hid (Liv S wr s Ob (3 * k)) ∧ Hid (∀ j, S j → w.heap.size ≤ j) ∧ OE elNm wr w.heap.size 9 T Ob.length ct (Ob.map OEnt.key) ∧ Hid (∀ ad, T = some ad → ¬ S ad.block) ∧ Grew w wr) (fun _ i _ => n - (intOf i).toNat)
  case atStart => exact ⟨0, by omega, rfl, S2, [], none, 0, rfl, Nat.le_refl 0, fun o ho => by simp at ho, L2, hS2, OE.nil _ _ _, (fun ad e => by cases e), G2⟩
  case round =>
    obtain ⟨k, hk, rfl, S, Ob, T, ct, rfl, hlen, hKd, hL, hS, hT, hTS, hG⟩ := hrel
    by_cases hlt : k < n
    · obtain ⟨ad, x, rfl, hx, hcx⟩ := (ha.grew hG).at_ hlt (by decide)
      have hcx : wr.cell? (ad.add k) = some (.string x) := by simpa [elNm] using hcx 0 _ rfl
      have hadl : (ad.add k).block < w.heap.size := by
        rw [block_add]
        exact ha.lt (by decide) ad rfl (by omega)
      have hadr : (ad.add k).block < wr.heap.size := Nat.lt_of_lt_of_le hadl hG.size
      have hblk := cellsIn_cell hcx
      have hPut : Hid (∀ wq A3 c3, Grew wr wq → RB wq A3 (m + 1) (lb ++ [UInt8.ofNat k]) → Calls Try.prog 13 #[.pointer (some ⟨s, 0, none⟩), .string x, .slice A3 (m + 1) c3] wq (PutK lb ks w.heap.size s k S Ob x wq)) := by
        intro wq A3 c3 hgq hr
        exact put_k (hL.out.grew hgq) hS.out (Nat.le_trans hG.size hgq.size) hKd.out hx (by omega) hlen.out hr (by omega)
      have hnS : ¬ S (ad.add k).block := fun e => by have := hS.out _ e; omega
      go_wp2_with fail
      refine wp_region_texts [(9, 2), (3, 1), (5, 1)] [(ad.add k).block] [[0, 1, 2, 3, 4, 5, 6, 7, 8, 9, 10, 11, 12, 13, 14, 15, 16], [0, 1, 2, 3, 4, 5, 7, 8, 9, 6, 10, 11, 12, 13, 14, 15, 16]] (by kernel_rfl) (by kernel_rfl) hblk ?_
      intro t ht
      simp only [List.mem_cons, List.not_mem_nil, or_false] at ht
      rcases ht with rfl | rfl
      all_goals
        simp only [opsOf, List.filterMap_cons, List.filterMap_nil, List.getElem?_toArray, List.getElem?_cons_zero, List.getElem?_cons_succ]
        simp only [wpU, tagOf, chk, look, Nat.reduceBEq, Bool.false_eq_true, if_true, if_false, List.cons_append, List.nil_append]
        intro K hK
        go_wp2_with fail
        refine OnlyN.normal (hK _ _ (fun _ => ⟨_, _, _, rfl, rfl, by simp⟩) ?_)
        clear hK K
        intro K hK
        go_wp2_with fail
      refine (copyBytes_any B m cb lb _ (by exact (hb.grew hG).grew (Chg.refl _ wr).drew) (by omega)).mono ?_
      rintro e w3 ⟨X, cx, rfl, hX, hg3⟩
      have hgc : Grew wr w3 := (Chg.refl _ wr).drew.trans hg3
      go_wp2_with fail
      refine OnlyN.normal (hK _ _ (sameIn_chg (S := fun _ => False) hgc hadr (fun e => e)) ?_)
      clear hK K
      intro K hK
      go_wp2_with fail
      have hgq : Grew wr (w3.alloc (.cells #[.int .u8 (k : Int)] 5)) := hgc.alloc _
      refine OnlyN.normal (hK _ _ (sameIn_chg (S := fun _ => False) hgq hadr (fun e => e)) ?_)
      clear hK K
      have hXq : OB (w3.alloc (.cells #[.int .u8 (k : Int)] 5)) wr.heap.size 5 X m cx lb := hX.grew ((Chg.refl _ w3).alloc _)
      have hrq := rb_small w3 (show k < 256 by omega)
      have hs3 := hgc.size
      generalize w3.heap.size = bp at *
      generalize w3.alloc (.cells #[.int .u8 (k : Int)] 5) = wq at *
      clear hX hg3 hgc
      rotate_left
      have hal : Grew wr (wr.alloc (.cells #[.int .u8 (k : Int)] 5)).drew := ((Chg.refl _ wr).alloc _).drew
      refine OnlyN.normal (hK _ _ (sameIn_chg (S := fun _ => False) hal hadr (fun e => e)) ?_)
      clear hK K
      intro K hK
      go_wp2_with fail
      refine (copyBytes_any B m cb lb _ (by exact (hb.grew hG).grew hal) (by omega)).mono ?_
      rintro e wq ⟨X, cx, rfl, hX, hg3⟩
      have hgq : Grew wr wq := hal.trans hg3
      go_wp2_with fail
      refine OnlyN.normal (hK _ _ (sameIn_chg (S := fun _ => False) hgq hadr (fun e => e)) ?_)
      clear hK K
      have hXq : OB wq wr.heap.size 5 X m cx lb := Own.mono hX (by have := hal.size; omega)
      have hrq : RB wq (some ⟨wr.heap.size, 0, none⟩) 1 [UInt8.ofNat k] := RB.grew (RB.grew (rb_small wr (show k < 256 by omega)) (Chg.refl _ _).drew) hg3
      have hs3 : wr.heap.size ≤ wr.heap.size := Nat.le_refl _
      generalize hbp : wr.heap.size = bp at hrq ⊢
      clear hX hg3 hal
      rotate_left
      all_goals
        intro K hK
        go_wp2_with (at_builtin; refine wpList_appB rfl _ _ rfl wr.heap.size X m cx lb rfl (by exact hXq) hgq.size _ 1 1 [UInt8.ofNat k] rfl (by exact hrq) (by omega) ?_; intro A3 c3 w4 h4)
        have hc4 : Grew wr w4 := h4.grew hgq fun ad e => (Own.blk_lt hXq ad e).1
        have hr4 := h4.ob.rb
        refine OnlyN.normal (hK _ _ (sameIn_chg (S := fun _ => False) hc4 hadr (fun e => e)) ?_)
        clear hK K h4 hrq
        intro K hK
        have hP := hPut.out w4 A3 c3 hc4 hr4
        unfold PutK nextO errO at hP
        cases hkb : keyB x
        all_goals
          rw [hkb] at hP
          simp only [if_true, if_false, Bool.false_eq_true] at hP
          go_wp2_with fail
          refine hP.mono ?_
          rintro e w5 ⟨v, rfl, S5, L5, hS5, x5, hK5, hc5⟩
          have hcr5 : Chg S wr w5 := (Chg.of_grew hc4).step hc5 fun _ _ e => e
          have hcx5 := hcr5.cell hcx hnS
          have L5 := Lib.hid L5
          have hS5 := Lib.hid hS5
          have hK5 := Lib.hid hK5
          have hT5 := hT.chg hcr5 hTS.out
          have hTS5 : Hid (∀ ad, T = some ad → ¬ S5 ad.block) := fun ad e h5 => (x5 _ h5).elim (hTS.out ad e) fun h6 => by
            have := (Own.blk_lt hT ad e).2
            have := hc4.size
            omega
          have hG5 : Grew w w5 := liv_grow hG hcr5 hS.out
          go_wp2_with fail
          refine OnlyN.normal (hK _ _ (sameIn_chg (S := S) hcr5 hadr hnS) ?_)
          clear hK K hP hPut hL hKd hXq hc4 hr4 hgq hcx hblk hc5 x5 hs3
          go_wp2_with fail
          refine OnlyN.normal ?_
          go_wp2_with fail
          refine (rKey_any x _).mono ?_
          rw [hkb]
          rintro e w6 ⟨rfl, rfl⟩
        · have hlen5 : Hid (Ob.length ≤ k + 1) := Nat.le_succ_of_le hlen.out
          clear hlen hcr5 hcx5
          go_wp2
          go_roundw
          case rel => exact ⟨k + 1, by omega, by go_num, S5, Ob, T, ct, rfl, hlen5, hK5, L5, hS5, hT5, hTS5, hG5⟩
          case measure => simp [intOf] <;> omega
        · have hlen5 : Hid ((setO Ob ⟨x, lb ++ [UInt8.ofNat k], genO Ob x + 1⟩).length ≤ k + 1) := Nat.le_trans (setO_len _ _) (Nat.succ_le_succ hlen.out)
          have hlenk := hlen.out
          have hkk : Hid (x ∈ Ob.map OEnt.key → (setO Ob ⟨x, lb ++ [UInt8.ofNat k], genO Ob x + 1⟩).map OEnt.key = Ob.map OEnt.key) := fun h => setO_keys Ob ⟨x, lb ++ [UInt8.ofNat k], genO Ob x + 1⟩ h
          have hkn : Hid (x ∉ Ob.map OEnt.key → (setO Ob ⟨x, lb ++ [UInt8.ofNat k], genO Ob x + 1⟩).map OEnt.key = Ob.map OEnt.key ++ [x]) := fun h => setO_keys_new Ob ⟨x, lb ++ [UInt8.ofNat k], genO Ob x + 1⟩ h
          generalize setO Ob ⟨x, lb ++ [UInt8.ofNat k], genO Ob x + 1⟩ = Ob5 at *
          obtain ⟨tn, htn⟩ : ∃ tn, Ob.length = tn := ⟨_, rfl⟩
          rw [htn] at hT5 hlenk ⊢
          have htn := Lib.hid htn
          have hkm : Hid ((Ob.map OEnt.key).length = Ob.length) := List.length_map _
          generalize Ob.map OEnt.key = Kk at *
          clear hlen hcr5 hT
          go_wp2_with fail
          refine (in_any T tn ct Kk x _ (hT5.re (by decide)) (by omega)).mono ?_
          rintro e w6 ⟨⟨b, rfl, hbm⟩, rfl⟩
          cases b
          · have e5 := hkn.out fun h => by simpa using hbm.2 h
            have el : Ob5.length = tn + 1 := by
              have := congrArg List.length e5
              rw [List.length_map, List.length_append, hkm.out, htn.out] at this
              simpa using this
            have e5 := Lib.hid e5
            have el := Lib.hid el
            clear hkk hkn hbm hkm
            have hown : OE elNm (w5.alloc (.cells #[.string x] 9)) w.heap.size 9 T tn ct Kk := hT5.grew ((Chg.refl _ w5).alloc _)
            have hsrc : RE elNm (w5.alloc (.cells #[.string x] 9)) (some ⟨w5.heap.size, 0, none⟩) 1 [x] := RE.newAt rfl rfl rfl
            have hw5 := hG5.size
            go_wp2_with (at_builtin; refine wpList_appE rfl _ _ 38 9 infoNm rfl Try.underlying38 rfl w.heap.size T tn ct Kk rfl hown (by simp; omega) _ 1 1 [x] rfl hsrc (by unfold maxLen; omega) (by omega) ?_; intro T6 c6 w6 h6)
            have ho6 := h6.oe
            have hch : Chg (fun j => ∃ ad, T = some ad ∧ j = ad.block) w5 w6 := Chg.step (S := fun j => ∃ ad, T = some ad ∧ j = ad.block) ((Chg.refl _ w5).alloc _) h6.chg fun _ _ e => e
            have G6 : Grew w w6 := hG5.step hch fun j hj ⟨ad, e, he⟩ => by
              have := (Own.blk_lt hT5 ad e).1
              omega
            have L6 : Hid (Liv S5 w6 s Ob5 (3 * (k + 1))) := L5.out.chg hch (fun ⟨ad, e, he⟩ => by
                obtain ⟨d5, hb5⟩ := L5.out.blk
                exact hT5.ne_blk hb5 (by decide) ad e he.symm) fun j hj ⟨ad, e, he⟩ => hTS5.out ad e (he ▸ hj)
            have hTS6 : Hid (∀ ad, T6 = some ad → ¬ S5 ad.block) := by
              intro ad e
              rcases h6.2.2 with ⟨h7, _⟩ | ⟨h7, _⟩
              · exact hTS5.out ad (h7 ▸ e)
              · intro h8
                have h9 := L5.out.lt _ h8
                rw [h7] at e
                injection e with e
                subst e
                have hz : (w5.alloc (.cells #[.string x] 9)).heap.size = w5.heap.size + 1 := by simp
                have h9 : (w5.alloc (.cells #[.string x] 9)).heap.size < w5.heap.size := h9
                omega
            clear h6 hown hsrc hch
            go_roundw
            case rel => exact ⟨k + 1, by omega, by go_num, S5, Ob5, T6, c6, by rw [el.out], hlen5, hK5, L6, hS5, by rw [el.out, e5.out]; exact ho6, hTS6, G6⟩
            case measure => simp [intOf] <;> omega
          · have e5 := hkk.out (hbm.1 rfl)
            have el : Ob5.length = tn := by
              have := congrArg List.length e5
              rw [List.length_map, hkm.out, htn.out] at this
              exact this
            have e5 := Lib.hid e5
            have el := Lib.hid el
            clear hkk hkn hbm hkm
            go_wp2
            go_roundw
            case rel => exact ⟨k + 1, by omega, by go_num, S5, Ob5, T, ct, by rw [el.out], hlen5, hK5, L5, hS5, by rw [el.out, e5.out]; exact hT5, hTS5, hG5⟩
            case measure => simp [intOf] <;> omega
    · obtain rfl : n = k := by omega
      have hlk := hlen.out
      have hnd := Lib.hid hL.out.nd
      have hTl := Own.blk_lt hT
      go_wp2_with fail
      refine (liv_list hL.out (by omega) px (by omega)).mono ?_
      rintro e w5 ⟨Z, cz, rfl, hZ, hg5⟩
      have hZ := hZ.re (by decide)
      have L5 := Lib.hid (hL.out.grew hg5)
      have hT5 := (hT.re (by decide)).grew hg5
      have hG5 := hG.trans hg5
      have hmem : Hid (∀ o ∈ Ob, hasP o.key px = true → o.key ∈ keysO Ob px) := fun o ho h => keys_mem ho h
      have hup : Hid (∀ k x y, (keysO Ob px)[k]? = some x → (keysO Ob px)[k + 1]? = some y → ¬ lst y ≤ lst x) := fun k x y h1 h2 => keys_up hnd.out px h1 h2
      have hcnt : Hid (∀ k, Ob.length ≤ k → cntP Ob px k = (keysO Ob px).length) := fun k h => cntP_all Ob px h
      have hkz : (keysO Ob px).length ≤ 50 := Nat.le_trans (keysO_len Ob px) (by omega)
      generalize keysO Ob px = Kz at *
      obtain ⟨kn, hkn⟩ : ∃ kn, Kz.length = kn := ⟨_, rfl⟩
      rw [hkn] at hZ hkz hcnt
      obtain ⟨tn, htn⟩ : ∃ tn, Ob.length = tn := ⟨_, rfl⟩
      rw [htn] at hT5 hlk hcnt
      have hc0 : cntP Ob px 0 = 0 := by simp [cntP]
      have hcle : Hid (∀ k, cntP Ob px k ≤ tn) := fun k => by
        unfold cntP
        refine Nat.le_trans (List.length_filter_le _ _) ?_
        rw [List.length_take]
        omega
      clear hL hT hG hTS hlen
      rw [hkn, htn]
      have hkn := Lib.hid hkn
      have htn := Lib.hid htn
      go_wp2
      go_loopw [14, 15] (fun c i wr' => ∃ k : Nat, k ≤ tn ∧ i = .int .i64 (k : Int) ∧ c = .int .i64 (cntP Ob px k : Int) ∧ Grew w5 wr') (fun _ i _ => tn - (intOf i).toNat)
      case atStart => exact ⟨0, by omega, rfl, by rw [hc0]; rfl, Chg.refl _ _⟩
      case round =>
        obtain ⟨k, hk, rfl, rfl, hg⟩ := hrel
        by_cases hlt : k < tn
        · obtain ⟨td, y, hTe, hy, hcy⟩ := (hT5.grew hg).at_ hlt (by decide)
          subst hTe
          have hcy : wr.cell? (td.add k) = some (.string y) := by simpa [elNm] using hcy 0 _ rfl
          rw [List.getElem?_map] at hy
          cases hok : Ob[k]? with
          | none => rw [hok] at hy; cases hy
          | some o =>
          rw [hok] at hy
          injection hy with hy
          have hoi := List.mem_of_getElem? hok
          obtain ⟨j, hjk, hkj, hdat, hlast, hgn⟩ := hKd.out o hoi
          rw [hy] at hkj hlast
          have hlook := mem_look hnd.out hoi
          rw [hy] at hlook
          have hstep : cntP Ob px (k + 1) = cntP Ob px k + if hasP y px then 1 else 0 := by
            have := cntP_step (p := px) hok
            rwa [hy] at this
          have hmy : Hid (hasP y px = true → y ∈ Kz) := fun h => hy ▸ hmem.out o hoi (by rw [hy]; exact h)
          have hyk := hy ▸ (L5.out.ok o hoi).key
          have hcb := hcle.out k
          have hkj := Lib.hid hkj
          have hlast := Lib.hid hlast
          have hlook := Lib.hid hlook
          have hdat := Lib.hid hdat
          generalize cntP Ob px k = ck at *
          obtain ⟨ck1, hck1⟩ : ∃ ck1, cntP Ob px (k + 1) = ck1 := ⟨_, rfl⟩
          rw [hck1] at hstep
          have hck1 := Lib.hid hck1
          have hys := keyB_size hyk
          clear hok hoi hy hgn
          have hcase : (hasP y px = true ∧ px.size ≤ y.size ∧ ((y.extract 0 px.size).toList == px.toList) = true) ∨ (hasP y px = false ∧ px.size ≤ y.size ∧ ((y.extract 0 px.size).toList == px.toList) = false) ∨ (hasP y px = false ∧ y.size < px.size) := by
            cases hp : hasP y px
            · by_cases hs : px.size ≤ y.size
              · exact .inr (.inl ⟨rfl, hs, hasP_no hp hs⟩)
              · exact .inr (.inr ⟨rfl, by omega⟩)
            · exact .inl ⟨rfl, hasP_yes hp⟩
          have hnext : ∀ w', Grew wr w' → Grew w5 w' := fun w' h => hg.trans h
          rcases hcase with ⟨hp, hps, hpe⟩ | ⟨hp, hps, hpe⟩ | ⟨hp, hps⟩
          rw [hp] at hstep
          simp only [if_true] at hstep
          go_wp2_with fail
          refine (in_any Z kn cz Kz y _ (hZ.grew hg) (by omega)).mono ?_
          rintro e w6 ⟨⟨b, rfl, hbm⟩, rfl⟩
          obtain rfl : b = true := hbm.2 (hmy.out hp)
          clear hbm hpe hps hp hmy hmem hup
          go_wp2
          rotate_left
          rw [hp] at hstep
          simp only [if_false, Bool.false_eq_true, Nat.add_zero] at hstep
          clear hp hmy hmem hup
          go_wp2
          rotate_left
          rw [hp] at hstep
          simp only [if_false, Bool.false_eq_true, Nat.add_zero] at hstep
          clear hp hmy hmem hup
          go_wp2
          rotate_left
          all_goals
            go_loopw [16, 17] (fun la qq wr' => ∃ q l : Nat, q ≤ n ∧ la = .int .i64 (l : Int) ∧ qq = .int .i64 (q : Int) ∧ Hid (j < q → l = j) ∧ l ≤ n ∧ Grew wr wr') (fun _ qq _ => n - (intOf qq).toNat)
            case atStart => exact ⟨0, 0, by omega, rfl, rfl, fun h => by omega, by omega, Chg.refl _ _⟩
            case round =>
              obtain ⟨q, l, hq, rfl, rfl, hjl, hln, hgr⟩ := hrel
              have hcy6 := hgr.cell hcy (fun e => e)
              by_cases hqn : q < n
              · obtain ⟨ad, x, hAe, hx, hcx⟩ := ((ha.grew (hG5.trans hg)).grew hgr).at_ hqn (by decide)
                subst hAe
                have hcx := hcx 0 _ rfl
                simp only [elNm, Nat.mul_one, Nat.add_zero] at hcx
                have hxy : (x.toList == y.toList) = decide (x = y) := by
                  rw [Bool.eq_iff_iff, beq_iff_eq, decide_eq_true_iff, ByteArray.toList_eq, ByteArray.toList_eq]
                  exact lst_inj
                go_wp2_with fail
                refine wp_region_text [(9, 2)] (by kernel_rfl) (by kernel_rfl) ?_
                simp only [instr, chk, look, Nat.reduceBEq, if_true, if_false, Nat.reduceEqDiff, List.cons_append, List.nil_append]
                go_wp2_with fail
                refine OnlyN.normal ?_
                by_cases hex : x = y
                · rw [decide_eq_true hex] at hxy
                  have hqj : Hid (j < q + 1 → q = j) := fun h => by
                    have h1 := hkj.out
                    rcases Nat.lt_or_ge j q with h2 | h2
                    · exact absurd (by rw [← hex]; exact hx) (hlast.out q h2 hqn)
                    · omega
                  clear hcx hx
                  subst hex
                  go_wp2
                  go_roundw
                  case rel => exact ⟨q + 1, q, by omega, rfl, by go_num, hqj, by omega, hgr.drew⟩
                  case measure => simp [intOf] <;> omega
                · rw [decide_eq_false hex] at hxy
                  have hqj : Hid (j < q + 1 → l = j) := fun h => by
                    have h1 := hkj.out
                    rcases Nat.lt_or_ge j q with h2 | h2
                    · exact hjl.out h2
                    · have h3 : j = q := by omega
                      rw [h3, hx] at h1
                      injection h1 with h1
                      exact absurd h1 hex
                  clear hcx hx
                  go_wp2
                  go_roundw
                  case rel => exact ⟨q + 1, l, by omega, rfl, by go_num, hqj, hln, hgr.drew⟩
                  case measure => simp [intOf] <;> omega
              · obtain rfl : l = j := hjl.out (by omega)
                have hGet := liv_get (L5.out.grew (hg.trans hgr)) y hyk
                rw [hlook.out] at hGet
                have hdl : o.data.length = m + 1 := by rw [hdat.out, List.length_append, hb.1]; rfl
                have hGet2 : Calls Try.prog 12 #[.pointer (some ⟨s, 0, none⟩), .string y] wr fun e w' => ∃ X c v, e = .returned (.tuple #[.slice X (m + 1) c, v, .int .i64 0]) ∧ RB w' X (m + 1) (lb ++ [UInt8.ofNat l]) ∧ (m + 1 ≤ c ∧ c ≤ 9223372036854775807) ∧ Grew wr w' := by
                  refine hGet.mono ?_
                  rintro e w' ⟨X, c, h1, h2, h3, _, h4⟩
                  rw [hdl] at h1 h2 h3
                  rw [hdat.out] at h2
                  exact ⟨X, c, _, h1, h2, h3, h4⟩
                clear hGet
                go_wp2_with fail
                refine hGet2.mono ?_
                rintro e w7 ⟨X, cx, v, rfl, hX, hXc, hg7⟩
                have hg57 := (hg.trans hgr).trans hg7
                clear hGet2 hcy6
                go_wp2_with fail
                refine (copyBytes_any B m cb lb _ (by exact hb.grew (hG5.trans hg57)) (by omega)).mono ?_
                rintro e w8 ⟨Y, cy, rfl, hY, hg8⟩
                have hs8 := hg8.size
                have hown := hY.grew ((Chg.refl _ w8).alloc (.cells #[.int .u8 (l : Int)] 5))
                go_wp2_with (at_builtin; refine wpList_appBw rfl _ _ rfl w7.heap.size Y m cy lb rfl (by exact hown) (by simp; omega) _ 1 1 [UInt8.ofNat l] rfl (by exact rb_small w8 (show l < 256 by omega)) (by omega) ?_; intro A3 c3 w9 h9)
                have hr9 := h9.ob.rb
                have hg79 : Grew w7 w9 := h9.grew (hg8.alloc _) fun ad e => (Own.blk_lt hY ad e).1
                have hc9 := h9.ob.cap
                clear h9 hown hY
                go_wp2_with fail
                refine (sameBytes_yes X A3 _ (m + 1) cx c3 _ _ (by exact hX.grew hg79) (by exact hr9) (by omega) (by omega)).mono ?_
                rintro e w10 ⟨rfl, kk, rfl⟩
                go_wp2
                go_roundw
                case rel => exact ⟨k + 1, by omega, by go_num, by rw [hck1.out, hstep] <;> simp, (hg57.trans hg79).drewN kk⟩
                case measure => simp [intOf] <;> omega
        · obtain rfl : tn = k := by omega
          have hcn := hcnt.out tn (Nat.le_refl tn)
          rw [hcn]
          clear hcn hcnt hcle hmem hKd hT5 hc0
          go_wp2
          go_loopw [21] (fun i wr' => ∃ q : Nat, i = .int .i64 ((q : Int) + 1) ∧ q ≤ kn ∧ Grew w5 wr') (fun i _ => kn + 1 - (intOf i).toNat)
          case atStart => exact ⟨0, rfl, by omega, hg⟩
          case round =>
            obtain ⟨q, rfl, hq, hgr⟩ := hrel
            by_cases hqn : q + 1 < kn
            · obtain ⟨zd, x, hZe, hx, hcx⟩ := (hZ.grew hgr).at_ (show q < kn by omega) (by decide)
              obtain ⟨zd2, x2, hZe2, hx2, hcx2⟩ := (hZ.grew hgr).at_ hqn (by decide)
              subst hZe
              injection hZe2 with hZe2
              subst hZe2
              have hcx : wr.cell? (zd.add q) = some (.string x) := by simpa [elNm] using hcx 0 _ rfl
              have hcx2 : wr.cell? (zd.add (q + 1)) = some (.string x2) := by simpa [elNm] using hcx2 0 _ rfl
              rw [add_pos (by omega)] at hcx2
              have hno := leq_no (hup.out q x x2 hx hx2)
              clear hx hx2
              go_wp2_with fail
              refine wp_region_text [(9, 2), (3, 1)] (by kernel_rfl) (by kernel_rfl) ?_
              simp only [instr, chk, look, Nat.reduceBEq, if_true, if_false, Nat.reduceEqDiff, List.cons_append, List.nil_append]
              go_wp2_with fail
              refine OnlyN.normal ?_
              go_wp2
              go_roundw
              case rel => exact ⟨q + 1, by go_num, by omega, hgr.drew⟩
              case measure => simp [intOf] <;> omega
            · go_wp2_with fail
              refine (awake_any _).mono ?_
              rintro e w7 ⟨rfl, hg7⟩
              go_wp2
              go_ret
              exact ⟨by simp, (hG5.trans hgr).trans hg7⟩
end Go.Proofs.Ytepncgeaehjhiaa
