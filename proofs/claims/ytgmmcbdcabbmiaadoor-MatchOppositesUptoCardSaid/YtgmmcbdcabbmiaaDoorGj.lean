/-
  The law MatchOpposites, walked. Conditions: texts that memory bears.
-/
import Derived.Test.YtgmmcbdcabbmiaaDoorGi
import Derived.Test.YtgmmcbdcabbmiaaDoorTm
import Derived.Test.YtgmmcbdcabbmiaaDoorLo
namespace Go.Proofs.YtgmmcbdcabbmiaaDoor
open Go.RowKit

theorem oneB_no {k : Int} {nm v : ByteArray} {ls : List (ByteArray × ByteArray)} (h : oppZ k = 0) : oneB (k, nm, v) ls = false := by
  unfold oppZ at h
  unfold oneB
  simp only
  repeat' split at h
  all_goals first | omega | skip
  rw [if_neg ‹_›, if_neg ‹_›, if_neg ‹_›, if_neg ‹_›]
theorem oneB_opp {k : Int} {nm v : ByteArray} {ls : List (ByteArray × ByteArray)} (h : oppZ k ≠ 0) : oneB (oppZ k, nm, v) ls = !oneB (k, nm, v) ls := by
  have hk : k = 1 ∨ k = 2 ∨ k = 3 ∨ k = 4 := by
    unfold oppZ at h
    repeat' split at h
    all_goals first | omega | exact (h rfl).elim
  rcases hk with rfl | rfl | rfl | rfl <;> simp [oppZ, oneB]
theorem saysB_one (x : Mat) (ls : List (ByteArray × ByteArray)) : saysB [x] ls = oneB x ls := by simp [saysB]
theorem saysB_cut (ms : List Mat) (ls : List (ByteArray × ByteArray)) (k : Nat) : (saysB (ms.take k) ls && saysB (ms.drop k) ls) = saysB ms ls := by
  unfold saysB
  rw [← List.all_append, List.take_append_drop]

/-- matchers asked of a copy of labels -/
def AskT (w : World) (ls : List (ByteArray × ByteArray)) : Prop := ∀ (w' : World) (B : Option Addr) (k C : Nat) (xs : List Mat) (L : Option Addr) (m d : Nat), Grew w w' → RE elMa w' B k xs → k ≤ 1048576 → (∀ x ∈ xs, x.2.2.size ≤ 16777216) → RE elLb w' L m ls → m ≤ 1048576 →
  Calls Tryd.prog 9 #[.slice B k C, .slice L m d] w' fun e w2 => e = .returned (.bool (saysB xs ls)) ∧ Grew w' w2

set_option maxRecDepth 100000 in
set_option maxHeartbeats 8000000 in
theorem walk_matchOpposites (A : Option Addr) (n c : Nat) (ms : List Mat) (L : Option Addr) (m d : Nat) (ls : List (ByteArray × ByteArray)) (z : Int) (w : World) (h : RE elMa w A n ms) (hn : n ≤ 1048576) (hc : n ≤ c ∧ c ≤ 9223372036854775807) (hms : ∀ x ∈ ms, x.2.2.size ≤ 1048576)
    (hl : RE elLb w L m ls) (hm : m ≤ 1048576) (_ : m ≤ d ∧ d ≤ 9223372036854775807) (hls : ∀ x ∈ ls, x.2.size ≤ 1048576) (_ : (Lit.int .i64 z).wf = true) (hx : MaxL w) :
    Calls Tryd.prog 5 #[.slice A n c, .slice L m d, .int .i64 z] w fun e w' => e = .returned (.bool true) ∧ Grew w w' := by
  have HT : Hid (AskT w ls) := fun w' B k C xs L m d hg h1 h2 h3 h4 h5 => says_any B k C xs L m d ls w' h1 h4 (by omega) (by omega) h3 (fun x hx => by have := hls x hx; omega) (hx.grew hg)
  have HA : Hid (∀ w', Grew w w' → Calls Tryd.prog 8 #[] w' fun e w2 => e = .returned (.bool true) ∧ Grew w' w2) := fun w' hg => awake_any w' (hx.grew hg)
  have Hms := Lib.hid hms
  have Hlen := Lib.hid h.1
  have HR := Lib.hid h
  have HL := Lib.hid hl
  clear hms hls hx h hl
  go_enter Tryd.func5, Tryd.ntmps5
  go_wp2
  go_loopw [7, 8] (fun sa si wr => ∃ (j : Nat) (a : Bool), si = .int .i64 (j : Int) ∧ j ≤ n ∧ sa = .bool a ∧ Hid (a = (ms.take j).all fun x => oneB x ls) ∧ Grew w wr) (fun _ si _ => n - (intOf si).toNat)
  case atStart => exact ⟨0, true, rfl, by omega, rfl, rfl, Chg.refl _ _⟩
  case round =>
    obtain ⟨j, a, rfl, hj, rfl, Ha, hg⟩ := hrel
    by_cases hlt : j < n
    · have hre := HR.out.grew hg
      have hlb := HL.out.grew hg
      obtain ⟨ad, x, rfl, hx, c0, c1, c2⟩ := hre.ma hlt
      have hv := Hms.out x (List.mem_of_getElem? hx)
      have hnext : Hid (∀ o, oneB x ls = o → (a && o) = (ms.take (j + 1)).all fun x => oneB x ls) := fun o ho => by
        rw [List.take_add_one, hx, List.all_append, ← Ha.out]
        simp [ho]
      have hone := saysB_one x ls
      obtain ⟨k, nm, v⟩ := x
      dsimp only at c0 c1 c2 hv
      obtain ⟨o, ho⟩ : ∃ o, oneB (k, nm, v) ls = o := ⟨_, rfl⟩
      have hnx := hnext.out o ho
      have Hnx := Lib.hid hnx
      have hga : Grew wr (wr.alloc (.cells #[.int .i64 k, .string nm, .string v] 28)) := (Chg.refl _ wr).alloc _
      have hS1 : Hid (∀ (w' : World) (g : Nat) (C : Nat) (L : Option Addr) (m d : Nat), Grew w w' → RE elMa w' (some ⟨g, 0, none⟩) 1 [(k, nm, v)] → RE elLb w' L m ls → m ≤ 1048576 → Calls Tryd.prog 9 #[.slice (some ⟨g, 0, none⟩) 1 C, .slice L m d] w' fun e w2 => e = .returned (.bool o) ∧ Grew w' w2) := fun w' g C L m d hg h1 h2 h3 => by
        have := HT.out w' (some ⟨g, 0, none⟩) 1 C [(k, nm, v)] L m d hg h1 (by omega) (fun x hx => by simp at hx; subst hx; show v.size ≤ _; omega) h2 h3
        rwa [hone, ho] at this
      have Hx := Lib.hid hx
      have Hone := Lib.hid ho
      clear hnext hnx hre hx hone Ha ho
      go_wp2_with fail
      refine (copyLabels_any L m d ls _ (by exact hlb.grew hga) (by omega)).mono ?_
      rintro e w2 ⟨L2, d2, rfl, hl2, hg2⟩
      have hg02 := (hg.trans hga).trans hg2
      go_wp2_with fail
      refine (hS1.out _ _ _ _ _ _ hg02 (by exact RE.grew (RE.newAt rfl rfl rfl) hg2) (hl2.re (by decide)) hm).mono ?_
      rintro e w3 ⟨rfl, hg3⟩
      have hg03 := hg02.trans hg3
      have hre3 := HR.out.grew hg03
      obtain ⟨ad', x', e, hx', c0', c1', c2'⟩ := hre3.ma hlt
      injection e with e
      subst e
      obtain rfl := Option.some.inj (hx'.symm.trans Hx.out)
      dsimp only at c0' c1' c2'
      have hlb3 := HL.out.grew hg03
      have hblk : (ad.add (j * 3)).block < w3.heap.size := by
        have := World.block_lt_of_cell? w3 _ c0'
        exact this
      clear hx' hg hga hg2 hg02 hg3 hl2 hre3 c0 c1 c2
      by_cases hk : oppZ k = 0
      · obtain rfl : o = false := by rw [← Hone.out]; exact oneB_no hk
        have hM : Hid (∀ w, Calls Tryd.prog 11 #[.int .i64 k] w fun e w' => e = .returned (.int .i64 0) ∧ w = w') := fun w => by
          have := map4_any k w
          rwa [hk] at this
        clear hk
        cases a
        all_goals
          go_wp2_with fail
          refine (hM.out _).mono ?_
          rintro e w4 ⟨rfl, rfl⟩
          go_wp2
          go_roundw
          case rel => exact ⟨j + 1, _, by go_num, by omega, rfl, Hnx.out, hg03⟩
          case measure => simp [intOf]; omega
      · obtain ⟨kk, hkk⟩ : ∃ kk, kk = oppZ k := ⟨_, rfl⟩
        have hM : Hid (∀ w, Calls Tryd.prog 11 #[.int .i64 k] w fun e w' => e = .returned (.int .i64 kk) ∧ w = w') := fun w => by
          have := map4_any k w
          rwa [← hkk] at this
        have hS2 : Hid (∀ (w' : World) (g : Nat) (C : Nat) (L : Option Addr) (m d : Nat), Grew w w' → RE elMa w' (some ⟨g, 0, none⟩) 1 [(kk, nm, v)] → RE elLb w' L m ls → m ≤ 1048576 → Calls Tryd.prog 9 #[.slice (some ⟨g, 0, none⟩) 1 C, .slice L m d] w' fun e w2 => e = .returned (.bool (!o)) ∧ Grew w' w2) := fun w' g C L m d hg h1 h2 h3 => by
          have := HT.out w' (some ⟨g, 0, none⟩) 1 C [(kk, nm, v)] L m d hg h1 (by omega) (fun x hx => by simp at hx; subst hx; show v.size ≤ _; omega) h2 h3
          rwa [saysB_one, hkk, oneB_opp hk, Hone.out] at this
        have kk0 : (kk == 0) = false := by rw [hkk]; simpa using hk
        clear hk hkk
        cases a
        all_goals
          cases o
          all_goals
            go_wp2_with fail
            refine (hM.out _).mono ?_
            rintro e w4 ⟨rfl, rfl⟩
            go_wp2_with fail
            refine wp_region_texts [(3, 1)] [(ad.add (j * 3)).block] [[0, 1, 2, 3, 4, 5, 6, 7, 8, 9, 10, 11, 12, 13, 14, 15, 16, 17], [0, 1, 2, 3, 4, 5, 6, 7, 8, 9, 10, 11, 13, 14, 12, 15, 16, 17]] (by kernel_rfl) (by kernel_rfl) (cellsIn_cell (ad := ⟨(ad.add (j * 3)).block, (ad.add (j * 3)).off + 1, none⟩) c1') ?_
            intro t ht
            simp only [List.mem_cons, List.not_mem_nil, or_false] at ht
            rcases ht with rfl | rfl
            all_goals
              simp only [opsOf, List.filterMap_cons, List.filterMap_nil, List.getElem?_toArray, List.getElem?_cons_zero, List.getElem?_cons_succ]
              simp only [wpU, tagOf, chk, look, Nat.reduceBEq, Bool.false_eq_true, if_true, if_false, List.cons_append, List.nil_append]
              intro K hK
              go_wp2_with fail
              refine OnlyN.normal (hK _ _ (fun _ => ⟨_, _, _, rfl, rfl, by simp⟩) ?_)
              clear hK K
              intro K hK
              go_wp2_with fail
              refine OnlyN.normal (hK _ _ (fun _ => ⟨_, _, _, rfl, rfl, by simp⟩) ?_)
              clear hK K
              intro K hK
              go_wp2_with fail
            · have hgb : Grew w3 (w3.alloc (.cells #[.int .i64 kk, .string nm, .string v] 28)) := (Chg.refl _ w3).alloc _
              refine OnlyN.normal (hK _ _ (sameIn_chg (S := fun _ => False) hgb.drew hblk (fun e => e)) ?_)
              clear hK K
              intro K hK
              go_wp2_with fail
              refine (copyLabels_any L m d ls _ (by exact hlb3.grew hgb.drew) (by omega)).mono ?_
              rintro e w5 ⟨L5, d5, rfl, hl5, hg5⟩
              have hg35 : Grew w3 w5 := hgb.drew.trans hg5
              go_wp2_with fail
              refine OnlyN.normal (hK _ _ (sameIn_chg (S := fun _ => False) hg35 hblk (fun e => e)) ?_)
              clear hK K
              intro K hK
              go_wp2_with fail
              refine (hS2.out _ _ _ _ _ _ (hg03.trans hg35) (by exact RE.grew (RE.grew (RE.newAt rfl rfl rfl) ((Chg.refl _ _).drew)) hg5) (hl5.re (by decide)) hm).mono ?_
              rintro e w6 ⟨rfl, hg6⟩
              have hg36 := hg35.trans hg6
              go_wp2_with fail
              refine OnlyN.normal (hK _ _ (sameIn_chg (S := fun _ => False) hg36 hblk (fun e => e)) ?_)
              clear hK K
              intro K hK
              go_wp2_with fail
              refine OnlyN.normal (hK _ _ (sameIn_chg (S := fun _ => False) hg36 hblk (fun e => e)) ?_)
              clear hK K
              go_wp2_with fail
              refine OnlyN.normal ?_
              go_wp2
              go_roundw
              case rel => exact ⟨j + 1, _, by go_num, by omega, rfl, Hnx.out, hg03.trans hg36⟩
              case measure => simp [intOf]; omega
            · refine (copyLabels_any L m d ls _ (by exact hlb3.grew (Chg.refl _ w3).drew) (by omega)).mono ?_
              rintro e w5 ⟨L5, d5, rfl, hl5, hg5⟩
              have hg35 : Grew w3 w5 := (Chg.refl _ w3).drew.trans hg5
              go_wp2_with fail
              refine OnlyN.normal (hK _ _ (sameIn_chg (S := fun _ => False) hg35 hblk (fun e => e)) ?_)
              clear hK K
              intro K hK
              go_wp2_with fail
              have hgb : Grew w3 (w5.alloc (.cells #[.int .i64 kk, .string nm, .string v] 28)) := hg35.alloc _
              refine OnlyN.normal (hK _ _ (sameIn_chg (S := fun _ => False) hgb hblk (fun e => e)) ?_)
              clear hK K
              intro K hK
              go_wp2_with fail
              refine (hS2.out _ _ _ _ _ _ (hg03.trans hgb) (by exact RE.newAt rfl rfl rfl) (by exact (hl5.re (by decide)).grew ((Chg.refl _ w5).alloc _)) hm).mono ?_
              rintro e w6 ⟨rfl, hg6⟩
              have hg36 := hgb.trans hg6
              go_wp2_with fail
              refine OnlyN.normal (hK _ _ (sameIn_chg (S := fun _ => False) hg36 hblk (fun e => e)) ?_)
              clear hK K
              intro K hK
              go_wp2_with fail
              refine OnlyN.normal (hK _ _ (sameIn_chg (S := fun _ => False) hg36 hblk (fun e => e)) ?_)
              clear hK K
              go_wp2_with fail
              refine OnlyN.normal ?_
              go_wp2
              go_roundw
              case rel => exact ⟨j + 1, _, by go_num, by omega, rfl, Hnx.out, hg03.trans hg36⟩
              case measure => simp [intOf]; omega
    · obtain rfl : j = n := by omega
      have haS : a = saysB ms ls := by
        rw [Ha.out, List.take_of_length_le (by rw [Hlen.out]; exact Nat.le_refl _)]
        rfl
      clear Ha hj hlt
      go_wp2_with fail
      refine (low_any _ _).mono ?_
      rintro e w5 ⟨r, hr, rfl, rfl⟩
      obtain ⟨k, hk⟩ : ∃ k, k = r % (j + 1) := ⟨_, rfl⟩
      have hkl : k ≤ j := by have := Nat.mod_lt r (show 0 < j + 1 by omega); omega
      have hkz : (r : Int) % ((j : Int) + 1) = (k : Int) := by rw [hk]; simp
      clear hk
      have hcut := saysB_cut ms ls k
      rw [← haS] at hcut
      obtain ⟨x, hx⟩ : ∃ x, x = saysB (ms.take k) ls := ⟨_, rfl⟩
      obtain ⟨y, hy⟩ : ∃ y, y = saysB (ms.drop k) ls := ⟨_, rfl⟩
      rw [← hx, ← hy] at hcut
      have hsm : Hid (∀ X : List Mat, (∀ u ∈ X, u ∈ ms) → ∀ u ∈ X, u.2.2.size ≤ 16777216) := fun X hX u hu => by have := Hms.out u (hX u hu); omega
      have HX : Hid (∀ (w' : World) (B : Option Addr) (C : Nat) (L : Option Addr) (m d : Nat), Grew w w' → RE elMa w' B k (ms.take k) → RE elLb w' L m ls → m ≤ 1048576 → Calls Tryd.prog 9 #[.slice B k C, .slice L m d] w' fun e w2 => e = .returned (.bool x) ∧ Grew w' w2) := fun w' B C L m d hg h1 h2 h3 => by
        have := HT.out w' B k C (ms.take k) L m d hg h1 (by omega) (hsm.out _ (fun u hu => List.mem_of_mem_take hu)) h2 h3
        rwa [← hx] at this
      have HY : Hid (∀ (w' : World) (B : Option Addr) (C : Nat) (L : Option Addr) (m d : Nat), Grew w w' → RE elMa w' B (j - k) (ms.drop k) → RE elLb w' L m ls → m ≤ 1048576 → Calls Tryd.prog 9 #[.slice B (j - k) C, .slice L m d] w' fun e w2 => e = .returned (.bool y) ∧ Grew w' w2) := fun w' B C L m d hg h1 h2 h3 => by
        have := HT.out w' B (j - k) C (ms.drop k) L m d hg h1 (by omega) (hsm.out _ (fun u hu => List.mem_of_mem_drop hu)) h2 h3
        rwa [← hy] at this
      have HS : Hid (∀ (w' : World) (B : Option Addr) (C : Nat) (L : Option Addr) (m d : Nat), Grew w w' → RE elMa w' B j ms → RE elLb w' L m ls → m ≤ 1048576 → Calls Tryd.prog 9 #[.slice B j C, .slice L m d] w' fun e w2 => e = .returned (.bool a) ∧ Grew w' w2) := fun w' B C L m d hg h1 h2 h3 => by
        have := HT.out w' B j C ms L m d hg h1 (by omega) (hsm.out _ (fun u hu => hu)) h2 h3
        rwa [← haS] at this
      have HN : Hid (∀ (w' : World) (L : Option Addr) (m d : Nat), Grew w w' → RE elLb w' L m ls → m ≤ 1048576 → Calls Tryd.prog 9 #[.slice none 0 0, .slice L m d] w' fun e w2 => e = .returned (.bool true) ∧ Grew w' w2) := fun w' L m d hg h2 h3 =>
        HT.out w' none 0 0 [] L m d hg (RE.nil _ _) (by omega) (fun u hu => by cases hu) h2 h3
      clear haS hx hy hsm
      go_wp2_with fail
      refine wp_region_text [(3, 1)] (by kernel_rfl) (by kernel_rfl) ?_
      simp only [instr, chk, List.nil_append]
      go_wp2_with fail
      refine (copyMatchers_any A k _ (ms.take k) _ (by exact ((HR.out.grew hg).take hkl).grew (Chg.refl _ _).drew) (by omega)).mono ?_
      rintro e w6 ⟨B6, d6, rfl, ho6, hg6⟩
      have hg06 := (hg.trans (Chg.refl _ _).drew).trans hg6
      go_wp2_with fail
      refine (copyLabels_any L m d ls _ (by exact HL.out.grew hg06) (by omega)).mono ?_
      rintro e w7 ⟨L7, d7, rfl, ho7, hg7⟩
      have hg07 := hg06.trans hg7
      go_wp2_with fail
      refine (HX.out _ _ _ _ _ _ hg07 (by exact (ho6.re (by decide)).grew hg7) (by exact ho7.re (by decide)) hm).mono ?_
      rintro e w8 ⟨rfl, hg8⟩
      have hg08 := hg07.trans hg8
      clear hg hg6 hg06 hg7 hg07 hg8 ho6 ho7
      have hA : A = none → j = 0 ∧ k = 0 := fun e0 => by
        rcases Nat.eq_zero_or_pos j with h | h
        · omega
        · obtain ⟨ad, _, e, _⟩ := HR.out.ma h
          rw [e0] at e
          cases e
      cases A
      all_goals try (obtain ⟨rfl, rfl⟩ := hA rfl)
      all_goals clear hA
      all_goals go_wp2_with fail
      all_goals first
        | refine (copyMatchers_any _ _ _ (ms.drop 0) _ (by rw [List.drop_zero]; exact HR.out.grew hg08) (by omega)).mono ?_
        | refine (copyMatchers_any _ (j - k) _ (ms.drop k) _ (by exact (HR.out.grew hg08).drop k) (by omega)).mono ?_
        | refine (copyMatchers_any _ (j - k) _ (ms.drop k) _ (by have e0 : j - k = 0 := (by omega); rw [e0, List.drop_of_length_le (by rw [Hlen.out]; omega)]; exact RE.nil _ _) (by omega)).mono ?_
      all_goals
        rintro e w9 ⟨B9, d9, rfl, ho9, hg9⟩
        have hg09 := hg08.trans hg9
        go_wp2_with fail
        refine (copyLabels_any L m d ls _ (by exact HL.out.grew hg09) (by omega)).mono ?_
        rintro e w10 ⟨L10, d10, rfl, ho10, hg10⟩
        have hg010 := hg09.trans hg10
        go_wp2_with fail
        refine (HY.out _ _ _ _ _ _ hg010 (by exact (ho9.re (by decide)).grew hg10) (by exact ho10.re (by decide)) hm).mono ?_
        rintro e w11 ⟨rfl, hg11⟩
        have hg := hg010.trans hg11
        clear hg08 hg9 hg09 hg10 hg010 hg11 ho9 ho10
        go_wp2_with fail
        refine OnlyN.normal ?_
        have hcut2 := hcut
        clear hcut
        cases x
        all_goals
          cases y
          all_goals
            cases a
            all_goals first | (exact absurd hcut2 (by decide)) | skip
            clear hcut2
            go_wp2_with fail
            refine (copyMatchers_any _ _ _ ms _ (by exact HR.out.grew hg) (by omega)).mono ?_
            rintro e w12 ⟨B12, d12, rfl, ho12, hg12⟩
            have hg012 := hg.trans hg12
            go_wp2_with fail
            refine (copyLabels_any L m d ls _ (by exact HL.out.grew hg012) (by omega)).mono ?_
            rintro e w13 ⟨L13, d13, rfl, ho13, hg13⟩
            have hg013 := hg012.trans hg13
            go_wp2_with fail
            refine (HS.out _ _ _ _ _ _ hg013 (by exact (ho12.re (by decide)).grew hg13) (by exact ho13.re (by decide)) hm).mono ?_
            rintro e w14 ⟨rfl, hg14⟩
            have hg014 := hg013.trans hg14
            go_wp2_with fail
            refine (copyLabels_any L m d ls _ (by exact HL.out.grew hg014) (by omega)).mono ?_
            rintro e w15 ⟨L15, d15, rfl, ho15, hg15⟩
            have hg015 := hg014.trans hg15
            go_wp2_with fail
            refine (HN.out _ _ _ _ hg015 (by exact ho15.re (by decide)) hm).mono ?_
            rintro e w16 ⟨rfl, hg16⟩
            have hg016 := hg015.trans hg16
            go_wp2_with fail
            refine (HA.out _ hg016).mono ?_
            rintro e w17 ⟨rfl, hg17⟩
            go_wp2
            go_ret
            exact ⟨by simp, hg016.trans hg17⟩
end Go.Proofs.YtgmmcbdcabbmiaaDoor
