/-
  The law DiskOthers, walked. Conditions: none but what memory bears.
-/
import Derived.Test.YtddgkfheoldjkaaDq
import Derived.Test.YtddgkfheoldjkaaDn
namespace Go.Proofs.Ytddgkfheoldjkaa
open Go.RowKit

set_option maxHeartbeats 1000000 in
theorem sameTexts_one (A B : Option Addr) (c e : Nat) (x : ByteArray) (w : World) (ha : RE elNm w A 1 [x]) (hb : RE elNm w B 1 [x]) :
    Calls Try.prog 20 #[.slice A 1 c, .slice B 1 e] w fun e w' => e = .returned (.bool true) ∧ ∃ k, w' = w.drewN k := by
  obtain ⟨ad, u, rfl, hu, h1⟩ := ha.at_ (k := 0) (by omega) (by decide)
  obtain ⟨bd, v, rfl, hv, h2⟩ := hb.at_ (k := 0) (by omega) (by decide)
  have a0 := h1 0 _ rfl
  have b0 := h2 0 _ rfl
  simp only [List.getElem?_cons_zero, Option.some.injEq] at hu hv
  subst hu; subst hv
  simp only [Nat.zero_mul, Nat.add_zero] at a0 b0
  have z1 : ad.add 0 = ad := by unfold Addr.add; simp
  have z2 : bd.add 0 = bd := by unfold Addr.add; simp
  have a1 := a0
  have b1 := b0
  rw [z1] at a1
  rw [z2] at b1
  clear h1 h2 ha hb z1 z2
  go_enter Try.func20, Try.ntmps20
  go_wp2
  refine wp_loop_rounds 2 ?_
  rw [rounds_succ]
  go_wp2_with fail
  refine wp_region_text [(9, 2)] (by kernel_rfl) (by kernel_rfl) ?_
  simp only [instr, chk, look, Nat.reduceBEq, if_true, if_false, Nat.reduceEqDiff, List.cons_append, List.nil_append]
  go_wp2_with fail
  refine OnlyN.normal ?_
  go_wp2
  rw [rounds_succ]
  go_wp2
  go_ret
  exact ⟨by simp, _, rfl⟩

theorem nm_ne {a b : UInt8} (h : a ≠ b) : (⟨#[a]⟩ : ByteArray) ≠ ⟨#[b]⟩ := by
  intro e
  injection e with e
  simp at e
  exact h e
theorem find_other' {x y : ByteArray} (hxy : x ≠ y) (g born : Nat) : Instr.findNow .string (.string y) (#[entF x g born] : Array MapEntry).toList 0 = some none := by
  have : (y == x) = false := by
    cases h : (y == x) with
    | false => rfl
    | true => exact absurd ((MapKept.bytes_beq y x).1 h).symm hxy
  simp [Instr.findNow, Instr.sameNow, entF, this]
theorem find_second {x y : ByteArray} (hxy : x ≠ y) (g born g' born' : Nat) : Instr.findNow .string (.string y) (#[entF x g born, entF y g' born'] : Array MapEntry).toList 0 = some (some (1, .pointer (some ⟨g', 0, none⟩))) := by
  have : (y == x) = false := by
    cases h : (y == x) with
    | false => rfl
    | true => exact absurd ((MapKept.bytes_beq y x).1 h).symm hxy
  have h2 : (y == y) = true := (MapKept.bytes_beq y y).2 rfl
  simp [Instr.findNow, Instr.sameNow, entF, this, h2]
theorem find_first {x y : ByteArray} (g born g' born' : Nat) : Instr.findNow .string (.string x) (#[entF x g born, entF y g' born'] : Array MapEntry).toList 0 = some (some (0, .pointer (some ⟨g, 0, none⟩))) := by
  have h2 : (x == x) = true := (MapKept.bytes_beq x x).2 rfl
  simp [Instr.findNow, Instr.sameNow, entF, h2]
theorem find_nor {x y z : ByteArray} (h1 : x ≠ z) (h2 : y ≠ z) (g born g' born' : Nat) : Instr.findNow .string (.string z) (#[entF x g born, entF y g' born'] : Array MapEntry).toList 0 = some none := by
  have e1 : (z == x) = false := by
    cases h : (z == x) with
    | false => rfl
    | true => exact absurd ((MapKept.bytes_beq z x).1 h).symm h1
  have e2 : (z == y) = false := by
    cases h : (z == y) with
    | false => rfl
    | true => exact absurd ((MapKept.bytes_beq z y).1 h).symm h2
  simp [Instr.findNow, Instr.sameNow, entF, e1, e2]
theorem erase_second (e1 e2 : MapEntry) : (#[e1, e2] : Array MapEntry).eraseIdxIfInBounds 1 = #[e1] := by simp [Array.eraseIdxIfInBounds]
theorem Fil.keep {O : Nat → Prop} {w w' : World} {g : Nat} {A : Option Addr} {c : Nat} {l : List UInt8} {sy d m : Nat} {es : Array MapEntry} {clock : Nat} {up armed : Bool} {left keep : Int} {n : Nat} (h : Fil O w g A c l sy) (hD : Dsk O w d m es clock up armed left keep n) (hc : Chg (fun k => k = d ∨ k = m) w w') : Fil O w' g A c l sy :=
  h.chg hc (fun e => e.elim (fun e => h.hg.ne_type hD.hd (by decide) e) (fun e => hD.hm.ne_blk h.hg e.symm)) (fun ad e he => he.elim (h.hA.ne_blk hD.hd (by decide) ad e) (h.ne_map hD.hm ad e))
theorem ren_new {m : Nat} (x y z : ByteArray) (hxz : x ≠ z) (g1 b1 g2 b2 clock : Nat) : ∀ w', MapB w' m ((#[entF x g1 b1, entF y g2 b2] : Array MapEntry).eraseIdxIfInBounds 1) clock →
    (Instr.mapUpdate 45 (.map (some m)) (.string z) (.pointer (some ⟨g2, 0, none⟩))).run Try.prog w' = .ok () (setB w' m (.map #[entF x g1 b1, entF z g2 clock] (clock + 1))) := fun w' h => by
  rw [erase_second] at h
  exact run_put_new (P := Try.prog) Try.underlying45 Try.underlying9 h (.pointer (some ⟨g2, 0, none⟩)) (find_other' hxz _ _)
theorem ren_old {m : Nat} (x y : ByteArray) (g1 b1 g2 b2 clock : Nat) : ∀ w', MapB w' m ((#[entF x g1 b1, entF y g2 b2] : Array MapEntry).eraseIdxIfInBounds 1) clock →
    (Instr.mapUpdate 45 (.map (some m)) (.string x) (.pointer (some ⟨g2, 0, none⟩))).run Try.prog w' = .ok () (setB w' m (.map #[entF x g2 b1] clock)) := fun w' h => by
  rw [erase_second] at h
  have := run_put_old (P := Try.prog) Try.underlying45 Try.underlying9 h (.pointer (some ⟨g2, 0, none⟩)) (find_here x g1 b1) rfl rfl
  rw [this]
  simp [entF]

set_option maxRecDepth 100000 in
set_option maxHeartbeats 8000000 in
theorem walk_diskOthers (A : Option Addr) (n ca : Nat) (la : List UInt8) (B : Option Addr) (m cb : Nat) (lb : List UInt8) (kp : Int) (w : World) (ha : RB w A n la) (hn : n ≤ 140737488351232) (_ : n ≤ ca ∧ ca ≤ 9223372036854775807) (hb : RB w B m lb) (hm : m ≤ 140737488351232) (hcb : m ≤ cb ∧ cb ≤ 9223372036854775807) (hkp : (Lit.int .i64 kp).wf = true) :
    Calls Try.prog 5 #[.slice A n ca, .slice B m cb, .int .i64 kp] w fun e w' => e = .returned (.bool true) ∧ Grew w w' := by
  have hkb := Go.bounds_i64 hkp
  clear hkp
  go_enter Try.func5, Try.ntmps5
  go_wp2_with fail
  refine (new_any w).mono ?_
  rintro e w1 ⟨d, mm, rfl, hD, hg⟩
  by_cases hbig : 5000 < n + m
  · have e1 : decide ((5000 : Int) < (n : Int) + (m : Int)) = true := decide_eq_true (by omega)
    clear hbig
    go_wp2_with fail
    refine (awake_any _).mono ?_
    rintro e w2 ⟨rfl, hg2⟩
    go_wp2
    go_ret
    exact ⟨by simp, hg.trans hg2⟩
  · have e1 : decide ((5000 : Int) < (n : Int) + (m : Int)) = false := decide_eq_false (by omega)
    have hlen : n + m ≤ 5000 := by omega
    have hla := ha.1
    have hlb := hb.1
    clear hbig
    go_wp2_with fail
    refine (copyBytes_any A n ca la _ (by exact ha.grew hg) (by omega)).mono ?_
    rintro e w2 ⟨X0, cx0, rfl, hX0, hg2⟩
    have hG2 := hg.trans hg2
    have hXb0 := Own.blk_lt hX0
    have hdl0 := hD.hd.lt
    go_wp2_with fail
    refine (append_new (O := fun k => w.heap.size ≤ k) (fun k hk => by have := hG2.size; omega) (hD.grew hg2) (by simp) (by omega) (by omega) 97 (.inl rfl) (find_none _) (by simp) X0 n cx0 la hX0.rb (by omega) (fun ad e _ => by have := (hXb0 ad e).1; omega)).mono ?_
    rintro e w3 ⟨rfl, g1, A1, c1, hD3', hF3, hc3, _, _⟩
    have hD3 : Dsk (fun k => w.heap.size ≤ k) w3 d mm #[entF ⟨#[97]⟩ g1 0] 1 true false (-1) 0 1 := hD3'
    have hG3 : Grew w w3 := grow2 hG2 hc3 hD.od hD.om
    clear hD3' hc3 hD hg hg2 hX0 hXb0 hdl0
    go_wp2_with fail
    refine (sync_ok hD3 (by simp) (by omega) (by omega) 97 (.inl rfl) (find_here _ _ _) hF3).mono ?_
    rintro e w4 ⟨rfl, hD4, hF4, hc4⟩
    have hG4 : Grew w w4 := grow2 hG3 hc4 hD3.od hF3.og
    clear hD3 hF3 hc4
    go_wp2_with fail
    refine (copyBytes_any B m cb lb _ (by exact hb.grew hG4) (by omega)).mono ?_
    rintro e w5 ⟨Y0, cy0, rfl, hY0, hg5⟩
    have hG5 := hG4.trans hg5
    have hYb0 := Own.blk_lt hY0
    have hdl0 := hD4.hd.lt
    go_wp2_with fail
    refine (append_new (O := fun k => w.heap.size ≤ k) (fun k hk => by have := hG5.size; omega) (hD4.grew hg5) (by simp) (by omega) (by omega) 98 (.inr (.inl rfl)) (find_other' (nm_ne (by decide)) _ _) (by simp) Y0 m cy0 lb hY0.rb (by omega) (fun ad e _ => by have := (hYb0 ad e).1; omega)).mono ?_
    rintro e w6 ⟨rfl, g2, A2, c2, hD6', hF6, hc6, _, _⟩
    have hD6 : Dsk (fun k => w.heap.size ≤ k) w6 d mm #[entF ⟨#[97]⟩ g1 0, entF ⟨#[98]⟩ g2 1] 2 true false (-3) 0 3 := hD6'
    have hE6 := (hF4.grew hg5).keep (hD4.grew hg5) hc6
    have hG6 : Grew w w6 := grow2 hG5 hc6 hD4.od hD4.om
    clear hD6' hc6 hD4 hF4 hg5 hY0 hYb0 hdl0
    have dl := hD6.hd.lt
    have ml := hD6.hm.lt
    have gl := hF6.hg.lt
    go_wp2_with fail
    refine (read_ok hD6 97 (.inl rfl) (find_first _ _ _ _) hE6 (by omega)).mono ?_
    rintro e w7 ⟨X, cx, rfl, hX, hg7⟩
    rw [hla] at hX ⊢
    have hXb := Own.blk_lt hX
    have hD7 := hD6.grew hg7
    have hF7 := hF6.grew hg7
    have hG7 := hG6.trans hg7
    clear hD6 hF6 hE6 hG6 hg7
    go_wp2_with fail
    refine (rename_ok hD7 (by simp) (by omega) (by omega) 98 99 (.inr (.inl rfl)) (.inr (.inr (.inl rfl))) (find_second (nm_ne (by decide)) _ _ _ _) (ren_new _ _ _ (nm_ne (by decide)) _ _ _ _ _)).mono ?_
    rintro e w8 ⟨rfl, hD8, hc8⟩
    have hF8 := hF7.keep hD7 hc8
    have hG8 : Grew w w8 := grow2 hG7 hc8 hD7.od hD7.om
    have hX8 := hX.chg hc8 (fun ad e he => by have := (hXb ad e).1; have he : ad.block = d ∨ ad.block = mm := he; omega)
    clear hD7 hF7 hG7 hc8 hX
    go_wp2_with fail
    refine (read_ok hD8 99 (.inr (.inr (.inl rfl))) (find_second (nm_ne (by decide)) _ _ _ _) hF8 (by omega)).mono ?_
    rintro e w9 ⟨Y, cy, rfl, hY, hg9⟩
    rw [hlb] at hY ⊢
    have hs8 := hG8.size
    have dl8 := hD8.hd.lt
    have ml8 := hD8.hm.lt
    have gl8 := hF8.hg.lt
    have hYb := Own.blk_lt hY
    have hD9 := hD8.grew hg9
    have hF9 := hF8.grew hg9
    have hG9 := hG8.trans hg9
    have hX9 := hX8.grew hg9
    clear hD8 hF8 hG8 hg9 hX8
    go_wp2_with fail
    refine (read_none hD9 98 (.inr (.inl rfl)) (find_nor (nm_ne (by decide)) (nm_ne (by decide)) _ _ _ _)).mono ?_
    rintro e w10 ⟨rfl, rfl⟩
    go_wp2_with fail
    refine (rename_ok hD9 (by simp) (by omega) (by omega) 99 97 (.inr (.inr (.inl rfl))) (.inl rfl) (find_second (nm_ne (by decide)) _ _ _ _) (ren_old _ _ _ _ _ _ _)).mono ?_
    rintro e w11 ⟨rfl, hD11, hc11⟩
    have hF11 := hF9.keep hD9 hc11
    have hG11 : Grew w w11 := grow2 hG9 hc11 hD9.od hD9.om
    have hX11 := hX9.chg hc11 (fun ad e he => by have := (hXb ad e).1; have he : ad.block = d ∨ ad.block = mm := he; omega)
    have hY11 := hY.chg hc11 (fun ad e he => by have := (hYb ad e).1; have he : ad.block = d ∨ ad.block = mm := he; omega)
    clear hD9 hF9 hG9 hc11 hX9 hY
    go_wp2_with fail
    refine (read_ok hD11 97 (.inl rfl) (find_here _ _ _) hF11 (by omega)).mono ?_
    rintro e w12 ⟨Z, cz, rfl, hZ, hg12⟩
    rw [hlb] at hZ ⊢
    have dl11 := hD11.hd.lt
    have ml11 := hD11.hm.lt
    have gl11 := hF11.hg.lt
    have hZb := Own.blk_lt hZ
    have hD12 := hD11.grew hg12
    have hF12 := hF11.grew hg12
    have hG12 := hG11.trans hg12
    have hX12 := hX11.grew hg12
    have hY12 := hY11.grew hg12
    clear hD11 hF11 hG11 hg12 hX11 hY11
    go_wp2_with fail
    refine (off_any hD12 (by omega) hF12 (by omega) (by omega) kp (by omega)).mono ?_
    rintro e w13 ⟨rfl, hD13, hF13, hc13⟩
    have hG13 : Grew w w13 := grow2 hG12 hc13 hF12.og hD12.od
    have hX13 := hX12.chg hc13 (fun ad e he => by have := (hXb ad e).1; have he : ad.block = g2 ∨ ad.block = d := he; omega)
    have hY13 := hY12.chg hc13 (fun ad e he => by have := (hYb ad e).1; have he : ad.block = g2 ∨ ad.block = d := he; omega)
    have hZ13 := hZ.chg hc13 (fun ad e he => by have := (hZb ad e).1; have he : ad.block = g2 ∨ ad.block = d := he; omega)
    clear hD12 hF12 hG12 hc13 hX12 hY12 hZ
    go_wp2_with fail
    refine (on_any hD13).mono ?_
    rintro e w14 ⟨rfl, hD14, hc14⟩
    have hF14 := hF13.chg hc14 (hF13.hg.ne_type hD13.hd (by decide)) (hF13.hA.ne_blk hD13.hd (by decide))
    have hG14 : Grew w w14 := grow1 hG13 hc14 hD13.od
    have hX14 := hX13.chg hc14 (fun ad e he => by have := (hXb ad e).1; have he : ad.block = d := he; omega)
    have hY14 := hY13.chg hc14 (fun ad e he => by have := (hYb ad e).1; have he : ad.block = d := he; omega)
    have hZ14 := hZ13.chg hc14 (fun ad e he => by have := (hZb ad e).1; have he : ad.block = d := he; omega)
    clear hD13 hF13 hG13 hc14 hX13 hY13 hZ13 hXb hYb hZb
    obtain ⟨nn, hnn, hst, hd⟩ : ∃ nn, nn ≤ m ∧ stayN lb.length 0 kp = nn ∧ ((0 < kp ∧ ∃ kn : Nat, kp = kn ∧ (kn : Int) % ((m : Int) + 1) = nn) ∨ (¬ 0 < kp ∧ nn = 0)) := by
      by_cases hpos : 0 < kp
      · obtain ⟨kn, rfl⟩ := Int.eq_ofNat_of_zero_le (show 0 ≤ kp by omega)
        have := Nat.mod_lt kn (show 0 < m + 1 by omega)
        have h8 := @stay_some 0 m kn
        rw [Nat.zero_add, Nat.zero_add] at h8
        exact ⟨kn % (m + 1), by omega, by rw [hlb]; exact h8, .inl ⟨hpos, kn, rfl, by simp⟩⟩
      · have h8 := @stay_none 0 lb.length kp hpos
        rw [Nat.zero_add] at h8
        exact ⟨0, by omega, h8, .inr ⟨hpos, rfl⟩⟩
    rw [hst] at hF14
    obtain ⟨lz, hlz⟩ : ∃ lz, lz = lb.take nn := ⟨_, rfl⟩
    have hzl : lz.length = nn := by rw [hlz, List.length_take]; omega
    rw [← hlz] at hF14
    have Hlz := Lib.hid hlz
    clear hlz hst
    go_wp2_with fail
    refine (read_ok hD14 97 (.inl rfl) (find_here _ _ _) hF14 (by omega)).mono ?_
    rintro e w15 ⟨V, cv, rfl, hV, hg15⟩
    rw [hzl] at hV ⊢
    have hD15 := hD14.grew hg15
    have hG15 := hG14.trans hg15
    have hX15 := hX14.grew hg15
    have hY15 := hY14.grew hg15
    have hZ15 := hZ14.grew hg15
    clear hD14 hF14 hG14 hX14 hY14 hZ14 hg15 hzl
    rcases hd with ⟨hpos, kn, rfl, hkz⟩ | ⟨hpos, rfl⟩
    · go_wp2_with fail
      refine (sameBytes_yes X A n n cx ca la _ (by exact hX15.rb) (by exact ha.grew hG15) (by omega) (by omega)).mono ?_
      rintro e w16 ⟨rfl, k16, rfl⟩
      go_wp2_with fail
      refine (sameBytes_yes Y B m m cy cb lb _ (by exact hY15.rb.drewN k16) (by exact (hb.grew hG15).drewN k16) (by omega) (by omega)).mono ?_
      rintro e w17 ⟨rfl, k17, rfl⟩
      go_wp2_with fail
      refine (sameBytes_yes Z B m m cz cb lb _ (by exact hZ15.rb.drewN _) (by exact (hb.grew hG15).drewN _) (by omega) (by omega)).mono ?_
      rintro e w18 ⟨rfl, k18, rfl⟩
      go_wp2_with fail
      refine (sameBytes_yes V B nn nn cv cb lz _ (by exact hV.rb.drewN _) (by rw [Hlz.out]; exact ((hb.grew hG15).take (by omega)).drewN _) (by omega) (by omega)).mono ?_
      rintro e w19 ⟨rfl, k19, rfl⟩
      have hg19 : Grew w15 (w15.drewN (k16 + k17 + k18 + k19)) := (Chg.refl _ w15).drewN _
      go_wp2_with fail
      refine (list_one (by exact hD15.grew hg19) (by omega)).mono ?_
      rintro e w20 ⟨T, ct, rfl, hT, hg20⟩
      have hG20 := (hG15.trans hg19).trans hg20
      go_wp2_with fail
      refine (sameTexts_one T _ ct 1 ⟨#[97]⟩ _ (by exact hT.grew ((Chg.refl _ w20).alloc _)) (by exact RE.newAt rfl rfl rfl)).mono ?_
      rintro e w21 ⟨rfl, k21, rfl⟩
      go_wp2_with fail
      refine (awake_any _).mono ?_
      rintro e w22 ⟨rfl, hg22⟩
      go_wp2
      go_ret
      exact ⟨by simp, ((hG20.alloc _).drewN _).trans hg22⟩
    · go_wp2_with fail
      refine (sameBytes_yes X A n n cx ca la _ (by exact hX15.rb) (by exact ha.grew hG15) (by omega) (by omega)).mono ?_
      rintro e w16 ⟨rfl, k16, rfl⟩
      go_wp2_with fail
      refine (sameBytes_yes Y B m m cy cb lb _ (by exact hY15.rb.drewN k16) (by exact (hb.grew hG15).drewN k16) (by omega) (by omega)).mono ?_
      rintro e w17 ⟨rfl, k17, rfl⟩
      go_wp2_with fail
      refine (sameBytes_yes Z B m m cz cb lb _ (by exact hZ15.rb.drewN _) (by exact (hb.grew hG15).drewN _) (by omega) (by omega)).mono ?_
      rintro e w18 ⟨rfl, k18, rfl⟩
      go_wp2_with fail
      refine (sameBytes_yes V B 0 0 cv cb lz _ (by exact hV.rb.drewN _) (by rw [Hlz.out]; exact ((hb.grew hG15).take (by omega)).drewN _) (by omega) (by omega)).mono ?_
      rintro e w19 ⟨rfl, k19, rfl⟩
      have hg19 : Grew w15 (w15.drewN (k16 + k17 + k18 + k19)) := (Chg.refl _ w15).drewN _
      go_wp2_with fail
      refine (list_one (by exact hD15.grew hg19) (by omega)).mono ?_
      rintro e w20 ⟨T, ct, rfl, hT, hg20⟩
      have hG20 := (hG15.trans hg19).trans hg20
      go_wp2_with fail
      refine (sameTexts_one T _ ct 1 ⟨#[97]⟩ _ (by exact hT.grew ((Chg.refl _ w20).alloc _)) (by exact RE.newAt rfl rfl rfl)).mono ?_
      rintro e w21 ⟨rfl, k21, rfl⟩
      go_wp2_with fail
      refine (awake_any _).mono ?_
      rintro e w22 ⟨rfl, hg22⟩
      go_wp2
      go_ret
      exact ⟨by simp, ((hG20.alloc _).drewN _).trans hg22⟩
end Go.Proofs.Ytddgkfheoldjkaa
