/-
  The reference of chunk: Decode of any bytes. Conditions: lengths that memory bears.
-/
import Derived.Test.YtlilnibinligkaaRe
import Derived.Test.YtlilnibinligkaaRf
import Derived.Test.YtlilnibinligkaaRg
import Derived.Test.YtlilnibinligkaaKl
import Derived.Test.YtlilnibinligkaaTo
namespace Go.Proofs.Ytlilnibinligkaa
open Go.RowKit

theorem HdIs.own {w : World} {g : Nat} {A : Option Addr} {m c : Nat} {l : List UInt8} {s : St} (h : HdIs w g A m c l s) {p : Addr} (hp : g ≠ p.block) (hA : ∀ ad, A = some ad → 0 < m → ad.block ≠ p.block) (u : Value) : HdIs (w.setCell p u) g A m c l s :=
  ⟨h.1.far hp u, h.2.1, h.2.2.1.setFar hA u, h.2.2.2⟩

/-- behind the append of a point -/
theorem rd_end {w W : World} {g gB : Nat} {A : Option Addr} {m c : Nat} {b : List UInt8} {s : St} {k C : Nat} {l : List Pnt} {pt : Int} {V : Nat} (hr : HdIs W g A m c b s) (ho : OE elPt W g 41 (some ⟨gB, 0, none⟩) k C l) (hg : Grew w W) (hgg : w.heap.size = g) (hb : RB w A m b) :
    ∀ B2 C2 w5, ApE elPt (W.alloc (.cells #[.int .i64 pt, .int .u64 (V : Int)] 41)) g 41 (some ⟨gB, 0, none⟩) (k + 1) C (l ++ [(pt, V)]) B2 C2 w5 →
      HdIs w5 g A m c b s ∧ OE elPt w5 g 41 B2 (k + 1) C2 (l ++ [(pt, V)]) ∧ Grew w w5 := fun B2 C2 w5 h5 => by
  have hal : Grew W (W.alloc (.cells #[.int .i64 pt, .int .u64 (V : Int)] 41)) := (Chg.refl _ W).alloc _
  have hbl := Own.blk_lt ho
  have hne := Own.ne_blk ho hr.1 (by decide)
  have hszr := hg.size
  refine ⟨(hr.grew hal).far h5.chg (fun ⟨ad, e1, e2⟩ => hne ad e1 e2.symm) (fun ad e h0 ⟨bd, e1, e2⟩ => by have := hb.lt ad e h0; have := (hbl bd e1).1; omega), h5.oe, (hg.trans hal).step h5.chg fun x hx ⟨ad, e1, e2⟩ => by have := (hbl ad e1).1; omega⟩
theorem okv_snoc2 {l : List Pnt} {pt : Int} {V : Nat} (h : Okv l) (hV : V < 18446744073709551616) : Okv (l ++ [(pt, V)]) := okv_snoc h hV

set_option maxRecDepth 100000 in
set_option maxHeartbeats 8000000 in
theorem rdecode_any (A : Option Addr) (m c : Nat) (b : List UInt8) (w : World) (h : RB w A m b) (hm : m ≤ 140737488355328) :
    Calls Try.prog 18 #[.slice A m c] w (DecP w b) := by
  have hl := h.1
  have hG : ∀ (g : Nat) (w : World) (s : St) (k : Nat) (kz : Int), HdIs w g A m c b s → kz = (k : Int) → k ≤ 64 → Calls Try.prog 34 #[.pointer (some ⟨g, 0, none⟩), .int .i64 kz] w (HgPost w g A m c b (tk (bitsOf b (8 * m)) k s)) := fun g w s k kz h hk hk2 => hget_any g A m c b s k kz w h hk hk2
  have hZ : ∀ (g : Nat) (w : World) (s : St), HdIs w g A m c b s → Calls Try.prog 35 #[.pointer (some ⟨g, 0, none⟩)] w fun e w' => e = .returned (.int .i64 (rZero (bitsOf b (8 * m)) s).1) ∧ HdIs w' g A m c b (rZero (bitsOf b (8 * m)) s).2 ∧ Chg (fun x => x = g) w w' := fun g w s h => hzero_any g A m c b s w h
  obtain ⟨bs, hbs⟩ : ∃ bs, bs = bitsOf b (8 * m) := ⟨_, rfl⟩
  rw [← hbs] at hG hZ
  have hfin : ∀ (out : List Pnt) (bad : Bool) (l : List UInt8) (er : Nat), ((bad = true ∧ (rParse bs).2 = true) ∨ (bad = false ∧ rParse bs = (out, false) ∧ Okv out ∧ EncIs out l er)) →
      DecIs b (if bad = false ∧ er = 0 ∧ l = b then out else []) (if bad = false ∧ er = 0 ∧ l = b then 0 else 52) := fun out bad l er h => dec_of rParse rParse_at (by rw [hl, ← hbs]; exact h)
  have n13 := tk_lt bs 13 (0, false)
  have hst := RSt.start bs (tk bs 13 (0, false)).1
  obtain ⟨N, hN⟩ : ∃ N, N = (tk bs 13 (0, false)).1 := ⟨_, rfl⟩
  rw [← hN] at hst n13
  have HF := Lib.hid hfin
  have G13 := Lib.hid (fun g w h => hG g w (0, false) 13 13 h rfl (by omega))
  unfold HgPost at G13
  rw [← hN] at G13
  have HG := Lib.hid hG
  have HZ := Lib.hid hZ
  have HN := Lib.hid hN
  have Hst := Lib.hid hst
  clear hfin hG hZ hN hst hbs hl
  have hA : ∀ B : Nat, w.heap.size ≤ B → ∀ ad, A = some ad → 0 < m → ad.block ≠ B := fun B hB ad e h0 => by have := h.lt ad e h0; omega
  have HA := Lib.hid hA
  clear hA
  have hg0 := (Chg.refl (fun _ => False) w).alloc (.cells #[.slice A m c, .int .i64 0, .bool false] 62)
  have hr0 : HdIs (w.alloc (.cells #[.slice A m c, .int .i64 0, .bool false] 62)) w.heap.size A m c b (0, false) :=
    ⟨Blk.new w 62 #[.slice A m c, .int .i64 0, .bool false], by simp only; omega, h.grew hg0, HA.out _ (Nat.le_refl _), by omega⟩
  go_enter Try.func18, Try.ntmps18
  go_wp2_with fail
  refine (G13.out _ _ hr0).mono ?_
  rintro e w1 ⟨rfl, hr1, hc1⟩
  have hg1 : Grew w w1 := hg0.step hc1 fun k hk e => by omega
  have hs1 : w.heap.size < w1.heap.size := hr1.1.lt
  have hle := Nat.le_refl w.heap.size
  clear hg0 hr0 hc1 G13
  go_wp2
  generalize hgg : w.heap.size = g at *
  go_loopw [6, 7, 8, 9, 10] (fun sp sd sa sw si wr => ∃ (k : Nat) (l : List Pnt) (d : Int) (a ww : Nat) (s : St) (B : Option Addr) (C : Nat), sp = .slice B k C ∧ sd = .int .i64 d ∧ sa = .int .i64 (a : Int) ∧ sw = .int .i64 (ww : Int) ∧ si = .int .i64 (k : Int) ∧
    k ≤ N ∧ l.length = k ∧ Hid (RSt bs N k l d a ww s) ∧ a ≤ 31 ∧ ww ≤ 64 ∧ (s.2 = false → a + ww ≤ 64) ∧ Okv l ∧ HdIs wr g A m c b s ∧ OE elPt wr g 41 B k C l ∧ Grew w wr) (fun _ _ _ _ si _ => N - (intOf si).toNat)
  case atStart => exact ⟨0, [], 0, 0, 0, _, none, 0, rfl, rfl, rfl, rfl, rfl, by omega, rfl, Hst, by omega, by omega, by omega, (fun x hx => by cases hx), hr1, OE.nil _ _ _, hg1⟩
  case round =>
    clear hr1 hg1 hs1 Hst
    obtain ⟨k, l, d, a, ww, s, B, C, rfl, rfl, rfl, rfl, rfl, hk, hlk, HR, ha, hww, haw, hov, hr, ho, hgr⟩ := hrel
    obtain ⟨f1, f2⟩ := hr.bad
    obtain ⟨sa, bad⟩ := s
    dsimp only at f1 haw
    cases bad
    · by_cases hkN : k = N
      · subst hkN
        have hp := HR.out.exit HN.out (.inl (Nat.le_refl _))
        have HP := Lib.hid hp
        clear hp HR HN HZ HG haw hlk
        have hrr := ho.re (by decide)
        go_wp2_with fail
        refine (rencode_any B k C l _ (by exact hrr) (by omega) hov).mono ?_
        rintro e w2 ⟨B1, m1, c1, l1, er, hei, rfl, ho1, hg2⟩
        have hdi := Lib.hid (HF.out l false l1 er (.inr ⟨rfl, HP.out, hov, hei⟩))
        have hb1 := (h.grew hgr).grew hg2
        by_cases her : er = 0
        · subst her
          have e0 : (((0 : Nat) : Int) != 0) = false := rfl
          have k1 := run_conv_RB (P := Try.prog) (c := c1) Try.underlying23 Try.underlying5 Try.underlying9 ho1.rb
          have k2 := run_conv_RB (P := Try.prog) (c := c) Try.underlying23 Try.underlying5 Try.underlying9 hb1
          by_cases heq : l1 = b
          · have hbq : (l1 == b) = true := by simpa using heq
            have hbq2 : (!l1 == b) = false := by simp [hbq]
            have hdi2 : DecIs b l 0 := by have := hdi.out; simpa [heq] using this
            have Hdi := Lib.hid hdi2
            clear heq hdi hdi2
            go_wp2
            go_ret2
            exact ⟨B, k, C, l, 0, Hdi.out, by simp, by rw [hgg]; exact ho.grew hg2, hgr.trans hg2⟩
          · have hbq : (l1 == b) = false := by simpa using heq
            have hbq2 : (!l1 == b) = true := by simp [hbq]
            have hdi2 : DecIs b [] 52 := by have := hdi.out; simpa [heq] using this
            have Hdi := Lib.hid hdi2
            clear heq hdi hdi2
            go_wp2
            go_ret2
            exact ⟨none, 0, 0, [], 52, Hdi.out, by simp, OE.nil _ _ _, hgr.trans hg2⟩
        · have e0 : ((er : Int) != 0) = true := by simp; omega
          have hdi2 : DecIs b [] 52 := by have := hdi.out; simpa [her] using this
          go_wp2
          go_ret2
          exact ⟨none, 0, 0, [], 52, hdi2, by simp, OE.nil _ _ _, hgr.trans hg2⟩
      · have hlt : k < N := by omega
        clear hkN
        by_cases k0 : k = 0
        · subst k0
          obtain ⟨rfl, rfl, rfl, rfl, hn1⟩ := HR.out.first HN.out hlt rfl
          have G1 := Lib.hid (HG.out g wr (sa, false) 64 64 hr rfl (by omega))
          have hb1 := tk_lt bs 64 (sa, false)
          have hs64 := sx_64 _ hb1
          unfold HgPost at G1
          generalize tk bs 64 (sa, false) = t at *
          obtain ⟨v1, s1⟩ := t
          dsimp only at hn1 hs64 hb1
          have G2 := Lib.hid (fun w h => HG.out g w s1 64 64 h rfl (by omega))
          have hb2 := tk_lt bs 64 s1
          unfold HgPost at G2
          generalize tk bs 64 s1 = t at *
          obtain ⟨v2, s2⟩ := t
          dsimp only at hn1 hb2
          generalize sx v1 64 = pt at *
          have Hs := Lib.hid hs64
          have Hn1 := Lib.hid hn1
          clear hn1 hs64 HR HG HZ HF HN haw
          go_wp2_with fail
          refine G1.out.mono ?_
          rintro e w2 ⟨rfl, hr2, hc2⟩
          go_wp2_with fail
          refine (G2.out _ hr2).mono ?_
          rintro e w3 ⟨rfl, hr3, hc3⟩
          have ho2 := ho.chg hc2 (fun ad e => Own.ne_blk ho hr.1 (by decide) ad e)
          have ho3 := ho2.chg hc3 (fun ad e => Own.ne_blk ho2 hr2.1 (by decide) ad e)
          have hg3 : Grew w w3 := (hgr.step hc2 fun x hx e => by omega).step hc3 fun x hx e => by omega
          have hszr := hg3.size
          have hgne : ∀ ad, B = some ad → ad.block ≠ g := fun ad e => Own.ne_blk ho3 hr3.1 (by decide) ad e
          have hbl := Own.blk_lt ho3
          have hAB : ∀ ad, A = some ad → 0 < m → ¬ ∃ bd, B = some bd ∧ ad.block = bd.block := fun ad e h0 ⟨bd, e1, e2⟩ => by have := h.lt ad e h0; have := (hbl bd e1).1; omega
          have hal : Grew w3 (w3.alloc (.cells #[.int .i64 (wrap64 (v1 : Int)), .int .u64 (v2 : Int)] 41)) := (Chg.refl _ w3).alloc _
          have ho4 := ho3.grew hal
          have hr4 := hr3.grew hal
          have hg4 := hg3.trans hal
          have hsrc : RE elPt (w3.alloc (.cells #[.int .i64 (wrap64 (v1 : Int)), .int .u64 (v2 : Int)] 41)) (some ⟨w3.heap.size, 0, none⟩) 1 [(pt, v2)] := RE.newAt rfl rfl (by rw [Hs.out]; rfl)
          clear G1 G2 ho ho2 ho3 hr hr2 hr3 hc2 hc3 hgr hal
          go_wp2_with (at_builtin; refine wpList_appE rfl _ _ 22 41 infoPt rfl Try.underlying22 rfl g B 0 C [] rfl ho4 (by simp; omega) _ 1 1 [(pt, v2)] rfl hsrc (by unfold maxLen; omega) (by omega) ?_; intro B2 C2 w5 h5)
          go_roundw
          case rel =>
            refine ⟨1, [(pt, v2)], 0, 0, 0, s2, B2, C2, by simp, rfl, rfl, rfl, rfl, by omega, rfl, Hn1.out, by omega, by omega, by omega, ?_, hr4.far h5.chg (fun ⟨ad, e1, e2⟩ => hgne ad e1 e2.symm) hAB, by simpa using h5.oe, hg4.step h5.chg fun x hx ⟨ad, e1, e2⟩ => by have := (hbl ad e1).1; omega⟩
            intro x hx
            simp only [List.mem_cons, List.not_mem_nil, or_false] at hx
            subst hx
            exact hb2
          case measure => simp [intOf]; omega
        · have hk0 : 0 < k := by omega
          have kz : (k : Int) - 1 = ((k - 1 : Nat) : Int) := by omega
          have k1 : ((k : Int) == 0) = false := by simp; omega
          have hk1 : k - 1 < k := by omega
          clear k0
          obtain ⟨gB, rfl, hbg, hgl, _⟩ := Own.at_ ho hk0
          have hBg : gB ≠ g := Own.ne_blk ho hr.1 (by decide) _ rfl
          obtain ⟨ad, p, e, hp, hq1, hq2⟩ := (ho.re (by decide)).pt hk1
          injection e with e
          subst e
          rw [add_head] at hq1 hq2
          have hn1 := HR.out.next hk0 hlt rfl hlk hp
          have Z1 := Lib.hid (HZ.out g wr (sa, false) hr)
          generalize rZero bs (sa, false) = t at *
          obtain ⟨z, s2⟩ := t
          dsimp only at hn1
          have he1 := wrap64_eq (d + z)
          have he2 := wrap64_eq (p.1 + wr64 (d + z))
          have hpv : p.2 < 18446744073709551616 := hov p (List.mem_of_getElem? hp)
          generalize wr64 (d + z) = d' at *
          obtain ⟨pt0, pv⟩ := p
          dsimp only at hn1 he2 hpv hq1 hq2
          generalize wr64 (pt0 + d') = pt at *
          have HE1 := Lib.hid he1
          have HE2 := Lib.hid he2
          have Hn1 := Lib.hid hn1
          clear he1 he2 hn1 hp HR HZ HF HN
          go_wp2_with fail
          refine Z1.out.mono ?_
          rintro e w2 ⟨rfl, hr2, hc2⟩
          have ho2 := ho.chg hc2 (fun ad e => Own.ne_blk ho hr.1 (by decide) ad e)
          have hg2 : Grew w w2 := hgr.step hc2 fun x hx e => by omega
          have q1 : w2.cell? ⟨gB, (k - 1) * 2, none⟩ = some (.int .i64 pt0) := hc2.cell hq1 hBg
          have q2 : w2.cell? ⟨gB, (k - 1) * 2 + 1, none⟩ = some (.int .u64 (pv : Int)) := hc2.cell hq2 hBg
          have hgl2 : gB < w2.heap.size := Nat.lt_of_lt_of_le hgl hc2.size
          clear Z1 hr hc2 ho hgr hq1 hq2 hgl f1 f2
          go_wp2_with fail
          rw [HE1.out]
          refine wp_region_textS [(3, 1), (2, 1)] [gB] (by kernel_rfl) (by kernel_rfl) (cellsIn_cell (ad := ⟨gB, (k - 1) * 2, none⟩) q1) ?_
          simp only [wpU, tagOf, chk, look, Nat.reduceBEq, Bool.false_eq_true, if_true, if_false, Nat.reduceEqDiff, List.cons_append, List.nil_append]
          intro K hK
          go_wp2_with fail
          refine OnlyN.normal (hK _ _ (fun _ => ⟨_, _, _, rfl, rfl, by simp⟩) ?_)
          clear hK K
          intro K hK
          go_wp2_with fail
          refine OnlyN.normal (hK _ _ (fun _ => ⟨_, _, _, rfl, rfl, by simp⟩) ?_)
          clear hK K
          intro K hK
          go_wp2_with fail
          refine OnlyN.normal (hK _ _ (sameIn_chg (S := fun _ => False) (((Chg.refl _ w2).drew).alloc _) hgl2 (fun e => e)) ?_)
          clear hK K
          intro K hK
          go_wp2_with fail
          rw [HE2.out]
          refine OnlyN.normal (hK _ _ (sameIn_chg (S := fun _ => False) (((Chg.refl _ w2).alloc _).drew) hgl2 (fun e => e)) ?_)
          clear hK K
          go_wp2_with fail
          refine OnlyN.normal ?_
          have b3 : Blk (w2.alloc (.cells #[.int .i64 pt, .int .u64 (pv : Int)] 41)).drew w2.heap.size 41 #[.int .i64 pt, .int .u64 (pv : Int)] := Blk.new w2 _ _
          have hal : Grew w2 (w2.alloc (.cells #[.int .i64 pt, .int .u64 (pv : Int)] 41)).drew := ((Chg.refl _ w2).alloc _).drew
          have hr3 := hr2.grew hal
          have ho3 := ho2.grew hal
          have hg3 := hg2.trans hal
          have hlg := hr2.1.lt
          have hBh : gB ≠ w2.heap.size := by omega
          have hgh : g ≠ w2.heap.size := by omega
          have hwh : w.heap.size ≤ w2.heap.size := hg2.size
          have hAh := HA.out w2.heap.size (by omega)
          clear hal hr2 ho2 hg2 q1 q2 hgl2 HE1 HE2 hlg
          generalize (w2.alloc (.cells #[.int .i64 pt, .int .u64 (pv : Int)] 41)).drew = W at *
          generalize w2.heap.size = hh at *
          obtain ⟨p1, p2⟩ : W.cell? ⟨hh, 0, none⟩ = some (.int .i64 pt) ∧ W.cell? ⟨hh, 1, none⟩ = some (.int .u64 (pv : Int)) := ⟨by rw [b3.cell]; rfl, by rw [b3.cell]; rfl⟩
          have z0 := b3.frozen 0
          have z1 := b3.frozen 1
          obtain ⟨v1, s3, e1⟩ : ∃ v s', tk bs 1 s2 = (v, s') := ⟨_, _, rfl⟩
          have T1 := HG.out g W s2 1 1 hr3 rfl (by omega)
          unfold HgPost at T1
          rw [e1] at T1
          dsimp only at T1
          have HT1 := Lib.hid T1
          have haw0 : a + ww ≤ 64 := by simpa using haw
          have Hlk := Lib.hid hlk
          clear T1 haw hlk
          by_cases hv1 : v1 = 1
          · subst hv1
            have t1 : (((1 : Nat) : Int) == 1) = true := rfl
            obtain ⟨v2, s4, e2⟩ : ∃ v s', tk bs (1) s3 = (v, s') := ⟨_, _, rfl⟩
            have HT2 : Hid (∀ w, HdIs w g A m c b s3 → Calls Try.prog 34 #[.pointer (some ⟨g, 0, none⟩), .int .i64 (1)] w fun e wz => e = .returned (.int .u64 (v2 : Int)) ∧ HdIs wz g A m c b s4 ∧ Chg (fun x => x = g) w wz) := fun w h => by
              have := HG.out g w s3 (1) (1) h (by omega) (by omega)
              unfold HgPost at this
              rw [e2] at this
              exact this
            by_cases hv2 : v2 = 1
            · subst hv2
              have t2 : (((1 : Nat) : Int) == 1) = true := rfl
              obtain ⟨a', s5, e3⟩ : ∃ v s', tk bs (5) s4 = (v, s') := ⟨_, _, rfl⟩
              have HT5 : Hid (∀ w, HdIs w g A m c b s4 → Calls Try.prog 34 #[.pointer (some ⟨g, 0, none⟩), .int .i64 (5)] w fun e wz => e = .returned (.int .u64 (a' : Int)) ∧ HdIs wz g A m c b s5 ∧ Chg (fun x => x = g) w wz) := fun w h => by
                have := HG.out g w s4 (5) (5) h (by omega) (by omega)
                unfold HgPost at this
                rw [e3] at this
                exact this
              obtain ⟨w', s6, e4⟩ : ∃ v s', tk bs (6) s5 = (v, s') := ⟨_, _, rfl⟩
              have HT6 : Hid (∀ w, HdIs w g A m c b s5 → Calls Try.prog 34 #[.pointer (some ⟨g, 0, none⟩), .int .i64 (6)] w fun e wz => e = .returned (.int .u64 (w' : Int)) ∧ HdIs wz g A m c b s6 ∧ Chg (fun x => x = g) w wz) := fun w h => by
                have := HG.out g w s5 (6) (6) h (by omega) (by omega)
                unfold HgPost at this
                rw [e4] at this
                exact this
              have ha5 : a' < 32 := by have := tk_lt bs 5 s4; rw [e3] at this; exact this
              have hw6 : w' < 64 := by have := tk_lt bs 6 s5; rw [e4] at this; exact this
              by_cases hbad : 64 < a' + (w' + 1)
              · have hn := Hn1.out
                rw [rValue_bad e1 e2 e3 e4 hbad] at hn
                have Hn := Lib.hid hn
                have hbd : (64 : Int) < (a' : Int) + ((w' : Int) + 1) := by omega
                clear hn e1 e2 e3 e4 Hn1
                go_wp2_with fail
                refine (HT1.out).mono ?_
                rintro e w4 ⟨rfl, hr4, hc4⟩
                have b4 := b3.chg hc4 (Ne.symm hgh)
                have ho4 := ho3.chg hc4 (fun ad e => Own.ne_blk ho3 hr3.1 (by decide) ad e)
                have hg4 : Grew w w4 := hg3.step hc4 fun x hx e => by omega
                obtain ⟨p1, p2⟩ : w4.cell? ⟨hh, 0, none⟩ = some (.int .i64 pt) ∧ w4.cell? ⟨hh, 1, none⟩ = some (.int .u64 (pv : Int)) := ⟨by rw [b4.cell]; rfl, by rw [b4.cell]; rfl⟩
                have z0 := b4.frozen 0
                have z1 := b4.frozen 1
                go_wp2_with fail
                refine (HT2.out _ hr4).mono ?_
                rintro e w5 ⟨rfl, hr5, hc5⟩
                have b5 := b4.chg hc5 (Ne.symm hgh)
                have ho5 := ho4.chg hc5 (fun ad e => Own.ne_blk ho4 hr4.1 (by decide) ad e)
                have hg5 : Grew w w5 := hg4.step hc5 fun x hx e => by omega
                obtain ⟨p1, p2⟩ : w5.cell? ⟨hh, 0, none⟩ = some (.int .i64 pt) ∧ w5.cell? ⟨hh, 1, none⟩ = some (.int .u64 (pv : Int)) := ⟨by rw [b5.cell]; rfl, by rw [b5.cell]; rfl⟩
                have z0 := b5.frozen 0
                have z1 := b5.frozen 1
                go_wp2_with fail
                refine (HT5.out _ hr5).mono ?_
                rintro e w6 ⟨rfl, hr6, hc6⟩
                have b6 := b5.chg hc6 (Ne.symm hgh)
                have ho6 := ho5.chg hc6 (fun ad e => Own.ne_blk ho5 hr5.1 (by decide) ad e)
                have hg6 : Grew w w6 := hg5.step hc6 fun x hx e => by omega
                obtain ⟨p1, p2⟩ : w6.cell? ⟨hh, 0, none⟩ = some (.int .i64 pt) ∧ w6.cell? ⟨hh, 1, none⟩ = some (.int .u64 (pv : Int)) := ⟨by rw [b6.cell]; rfl, by rw [b6.cell]; rfl⟩
                have z0 := b6.frozen 0
                have z1 := b6.frozen 1
                go_wp2_with fail
                refine (HT6.out _ hr6).mono ?_
                rintro e w7 ⟨rfl, hr7, hc7⟩
                have b7 := b6.chg hc7 (Ne.symm hgh)
                have ho7 := ho6.chg hc7 (fun ad e => Own.ne_blk ho6 hr6.1 (by decide) ad e)
                have hg7 : Grew w w7 := hg6.step hc7 fun x hx e => by omega
                obtain ⟨p1, p2⟩ : w7.cell? ⟨hh, 0, none⟩ = some (.int .i64 pt) ∧ w7.cell? ⟨hh, 1, none⟩ = some (.int .u64 (pv : Int)) := ⟨by rw [b7.cell]; rfl, by rw [b7.cell]; rfl⟩
                have z0 := b7.frozen 0
                have z1 := b7.frozen 1
                obtain ⟨y1, y2⟩ := hr7.bad
                have hr8 := hr7.setBad true
                have b8 := b7.far (p := ⟨g, 2, none⟩) (Ne.symm hgh) (.bool true)
                have ho8 := Own.setFar ho7 (p := ⟨g, 2, none⟩) (fun ad e => Own.ne_blk ho7 hr7.1 (by decide) ad e) (.bool true)
                have hg8 : Grew w (w7.setCell ⟨g, 2, none⟩ (.bool true)) := hg7.setCell (p := ⟨g, 2, none⟩) (.inl (by simp only; omega)) _
                clear b4 b5 b6 ho4 ho5 ho6 hg4 hg5 hg6 hr4 hr5 hr6 hc4 hc5 hc6 hc7 HT1 HT2 HT5 HT6
                obtain ⟨p1, p2⟩ : (w7.setCell ⟨g, 2, none⟩ (.bool true)).cell? ⟨hh, 0, none⟩ = some (.int .i64 pt) ∧ (w7.setCell ⟨g, 2, none⟩ (.bool true)).cell? ⟨hh, 1, none⟩ = some (.int .u64 (pv : Int)) := ⟨by rw [b8.cell]; rfl, by rw [b8.cell]; rfl⟩
                have hend := Lib.hid (rd_end (pt := pt) (V := pv) hr8 ho8 hg8 hgg h)
                have ho9 := ho8.grew ((Chg.refl _ (w7.setCell ⟨g, 2, none⟩ (.bool true))).alloc (.cells #[.int .i64 pt, .int .u64 (pv : Int)] 41))
                have hsrc : RE elPt ((w7.setCell ⟨g, 2, none⟩ (.bool true)).alloc (.cells #[.int .i64 pt, .int .u64 (pv : Int)] 41)) (some ⟨w7.heap.size, 0, none⟩) 1 [(pt, pv)] := RE.newAt (by simp) rfl rfl
                have hsz9 := hg7.size
                clear b7 ho7 hg7 hr7 ho8 hg8 hr8
                go_wp2_with (at_builtin; refine wpList_appE rfl _ _ 22 41 infoPt rfl Try.underlying22 rfl g _ k C l rfl ho9 (by simp; omega) _ 1 1 [(pt, pv)] rfl hsrc (by unfold maxLen; omega) (by omega) ?_; intro B2 C2 w9 h9)
                obtain ⟨q1, q2, q3⟩ := hend.out B2 C2 w9 h9
                go_roundw
                case rel =>
                  refine ⟨k + 1, l ++ [(pt, pv)], d', a', w' + 1, (s6.1, true), B2, C2, rfl, rfl, rfl, rfl, by go_num, by omega, by simp [Hlk.out], ?_, by omega, by omega, (fun h => by cases h), okv_snoc2 hov hpv, q1, q2, q3⟩
                  have := Hn.out
                  rw [Nat.xor_zero] at this
                  exact this
                case measure => simp [intOf]; omega
              · have hok : a' + (w' + 1) ≤ 64 := by omega
                obtain ⟨x, s7, e5⟩ : ∃ v s', tk bs (w' + 1) s6 = (v, s') := ⟨_, _, rfl⟩
                have HT7 : Hid (∀ w, HdIs w g A m c b s6 → Calls Try.prog 34 #[.pointer (some ⟨g, 0, none⟩), .int .i64 ((w' : Int) + 1)] w fun e wz => e = .returned (.int .u64 (x : Int)) ∧ HdIs wz g A m c b s7 ∧ Chg (fun x => x = g) w wz) := fun w h => by
                  have := HG.out g w s6 (w' + 1) ((w' : Int) + 1) h (by omega) (by omega)
                  unfold HgPost at this
                  rw [e5] at this
                  exact this
                have hxl : x < 2 ^ (w' + 1) := by have := tk_lt bs (w' + 1) s6; rw [e5] at this; exact this
                have hn := Hn1.out
                rw [rValue_new e1 e2 e3 e4 hok e5] at hn
                have hsl := shift_lt hxl hok
                have hxr := u64_xor_nat pv _ hpv hsl
                have hxo := xor_lt hpv hsl
                have hxw : IntKind.u64.wrap ((x : Int) * 2 ^ (64 - a' - (w' + 1))) = ((x * 2 ^ (64 - a' - (w' + 1)) : Nat) : Int) := by
                  have e0 : ((x : Int) * 2 ^ (64 - a' - (w' + 1))) = ((x * 2 ^ (64 - a' - (w' + 1)) : Nat) : Int) := by simp
                  rw [e0]
                  generalize x * 2 ^ (64 - a' - (w' + 1)) = q at hsl ⊢
                  simp only [IntKind.wrap_u64]
                  omega
                rw [← hxw] at hxr
                generalize pv ^^^ (x * 2 ^ (64 - a' - (w' + 1))) = V at *
                have Hn := Lib.hid hn
                have HX := Lib.hid hxr
                have HV : V < 18446744073709551616 := hxo
                clear hn e1 e2 e3 e4 e5 hbad Hn1 hxr hxo hxw hsl hxl
                go_wp2_with fail
                refine (HT1.out).mono ?_
                rintro e w4 ⟨rfl, hr4, hc4⟩
                have b4 := b3.chg hc4 (Ne.symm hgh)
                have ho4 := ho3.chg hc4 (fun ad e => Own.ne_blk ho3 hr3.1 (by decide) ad e)
                have hg4 : Grew w w4 := hg3.step hc4 fun x hx e => by omega
                obtain ⟨p1, p2⟩ : w4.cell? ⟨hh, 0, none⟩ = some (.int .i64 pt) ∧ w4.cell? ⟨hh, 1, none⟩ = some (.int .u64 (pv : Int)) := ⟨by rw [b4.cell]; rfl, by rw [b4.cell]; rfl⟩
                have z0 := b4.frozen 0
                have z1 := b4.frozen 1
                go_wp2_with fail
                refine (HT2.out _ hr4).mono ?_
                rintro e w5 ⟨rfl, hr5, hc5⟩
                have b5 := b4.chg hc5 (Ne.symm hgh)
                have ho5 := ho4.chg hc5 (fun ad e => Own.ne_blk ho4 hr4.1 (by decide) ad e)
                have hg5 : Grew w w5 := hg4.step hc5 fun x hx e => by omega
                obtain ⟨p1, p2⟩ : w5.cell? ⟨hh, 0, none⟩ = some (.int .i64 pt) ∧ w5.cell? ⟨hh, 1, none⟩ = some (.int .u64 (pv : Int)) := ⟨by rw [b5.cell]; rfl, by rw [b5.cell]; rfl⟩
                have z0 := b5.frozen 0
                have z1 := b5.frozen 1
                go_wp2_with fail
                refine (HT5.out _ hr5).mono ?_
                rintro e w6 ⟨rfl, hr6, hc6⟩
                have b6 := b5.chg hc6 (Ne.symm hgh)
                have ho6 := ho5.chg hc6 (fun ad e => Own.ne_blk ho5 hr5.1 (by decide) ad e)
                have hg6 : Grew w w6 := hg5.step hc6 fun x hx e => by omega
                obtain ⟨p1, p2⟩ : w6.cell? ⟨hh, 0, none⟩ = some (.int .i64 pt) ∧ w6.cell? ⟨hh, 1, none⟩ = some (.int .u64 (pv : Int)) := ⟨by rw [b6.cell]; rfl, by rw [b6.cell]; rfl⟩
                have z0 := b6.frozen 0
                have z1 := b6.frozen 1
                go_wp2_with fail
                refine (HT6.out _ hr6).mono ?_
                rintro e w7 ⟨rfl, hr7, hc7⟩
                have b7 := b6.chg hc7 (Ne.symm hgh)
                have ho7 := ho6.chg hc7 (fun ad e => Own.ne_blk ho6 hr6.1 (by decide) ad e)
                have hg7 : Grew w w7 := hg6.step hc7 fun x hx e => by omega
                obtain ⟨p1, p2⟩ : w7.cell? ⟨hh, 0, none⟩ = some (.int .i64 pt) ∧ w7.cell? ⟨hh, 1, none⟩ = some (.int .u64 (pv : Int)) := ⟨by rw [b7.cell]; rfl, by rw [b7.cell]; rfl⟩
                have z0 := b7.frozen 0
                have z1 := b7.frozen 1
                clear b4 b5 b6 ho4 ho5 ho6 hg4 hg5 hg6 hr4 hr5 hr6 hc4 hc5 hc6 hc7 HT1 HT2 HT5 HT6
                go_wp2_with fail
                refine wp_region_textL [(3, 1), (38, 1)] [hh] (by kernel_rfl) (by kernel_rfl) (cellsIn_one b7) ?_
                simp only [wpUL, tagOf, chk, look, Nat.reduceBEq, Bool.false_eq_true, if_true, if_false, Nat.reduceEqDiff, List.cons_append, List.nil_append]
                intro K hK
                go_wp2_with fail
                refine OnlyN.normal (hK _ _ (fun _ => ⟨_, _, _, rfl, rfl, by simp⟩) ?_)
                clear hK K
                intro K hK
                go_wp2_with fail
                refine (HT7.out _ (by exact hr7)).mono ?_
                rintro e w8 ⟨rfl, hr8, hc8⟩
                have b8 := Blk.chg (g := hh) (t := 41) (by exact b7) hc8 (Ne.symm hgh)
                have ho8 : OE elPt w8 g 41 (some ⟨gB, 0, none⟩) k C l := OE.chg (E := elPt) (by exact ho7) hc8 (fun ad e => Own.ne_blk ho7 hr7.1 (by decide) ad e)
                have hg8 : Grew w w8 := Chg.step hg7.drew hc8 fun x hx e => by omega
                have z1 := b8.frozen 1
                have pp2 : w8.cell? ⟨hh, 1, none⟩ = some (.int .u64 (pv : Int)) := by rw [b8.cell]; rfl
                go_wp2_with fail
                refine OnlyN.normal (hK _ _ (sameIn_one b7 b8) ?_)
                clear hK K
                go_wp2_with fail
                rw [HX.out]
                refine OnlyN.normal ?_
                have b9 : Blk (w8.setCell ⟨hh, 1, none⟩ (.int .u64 (V : Int))) hh 41 #[.int .i64 pt, .int .u64 (V : Int)] := by simpa using b8.set 1 (.int .u64 (V : Int))
                have hr9 := hr8.own (p := ⟨hh, 1, none⟩) hgh hAh (.int .u64 (V : Int))
                have ho9' : OE elPt (w8.setCell ⟨hh, 1, none⟩ (.int .u64 (V : Int))) g 41 (some ⟨gB, 0, none⟩) k C l := Own.setFar ho8 (p := ⟨hh, 1, none⟩) (fun ad e => by injection e with e; subst e; exact hBh) _
                have hg9 : Grew w (w8.setCell ⟨hh, 1, none⟩ (.int .u64 (V : Int))) := hg8.setCell (p := ⟨hh, 1, none⟩) (.inl hwh) _
                clear b8 hr8 ho8 hg8 hc8 pp2 z0 z1 p1 p2 b7 hr7 ho7 hg7
                generalize w8.setCell ⟨hh, 1, none⟩ (.int .u64 (V : Int)) = w9' at *
                obtain ⟨p1, p2⟩ : w9'.cell? ⟨hh, 0, none⟩ = some (.int .i64 pt) ∧ w9'.cell? ⟨hh, 1, none⟩ = some (.int .u64 (V : Int)) := ⟨by rw [b9.cell]; rfl, by rw [b9.cell]; rfl⟩
                have hend := Lib.hid (rd_end (pt := pt) (V := V) hr9 ho9' hg9 hgg h)
                have ho9 := ho9'.grew ((Chg.refl _ w9').alloc (.cells #[.int .i64 pt, .int .u64 (V : Int)] 41))
                have hsrc : RE elPt (w9'.alloc (.cells #[.int .i64 pt, .int .u64 (V : Int)] 41)) (some ⟨w9'.heap.size, 0, none⟩) 1 [(pt, V)] := RE.newAt rfl rfl rfl
                have hsz9 := hg9.size
                clear b9 ho9' hg9 hr9
                go_wp2_with (at_builtin; refine wpList_appE rfl _ _ 22 41 infoPt rfl Try.underlying22 rfl g _ k C l rfl ho9 (by simp; omega) _ 1 1 [(pt, V)] rfl hsrc (by unfold maxLen; omega) (by omega) ?_; intro B2 C2 w9 h9)
                obtain ⟨q1, q2, q3⟩ := hend.out B2 C2 w9 h9
                go_roundw
                case rel =>
                  refine ⟨k + 1, l ++ [(pt, V)], d', a', w' + 1, s7, B2, C2, rfl, rfl, rfl, rfl, by go_num, by omega, by simp [Hlk.out], ?_, by omega, by omega, (fun _ => hok), okv_snoc2 hov HV, q1, q2, q3⟩
                  have := Hn.out
                  skip
                  exact this
                case measure => simp [intOf]; omega
            · have t2 : ((v2 : Int) == 1) = false := by simp; omega
              have d3 : (a : Int) + (ww : Int) ≤ 64 := by omega
              obtain ⟨x, s5, e3⟩ : ∃ v s', tk bs (ww) s4 = (v, s') := ⟨_, _, rfl⟩
              have HT7 : Hid (∀ w, HdIs w g A m c b s4 → Calls Try.prog 34 #[.pointer (some ⟨g, 0, none⟩), .int .i64 ((ww : Int))] w fun e wz => e = .returned (.int .u64 (x : Int)) ∧ HdIs wz g A m c b s5 ∧ Chg (fun x => x = g) w wz) := fun w h => by
                have := HG.out g w s4 (ww) ((ww : Int)) h (by omega) (by omega)
                unfold HgPost at this
                rw [e3] at this
                exact this
              have hxl : x < 2 ^ (ww) := by have := tk_lt bs (ww) s4; rw [e3] at this; exact this
              have hn := Hn1.out
              rw [rValue_same e1 e2 hv2 haw0 e3] at hn
              have hsl := shift_lt hxl haw0
              have hxr := u64_xor_nat pv _ hpv hsl
              have hxo := xor_lt hpv hsl
              have hxw : IntKind.u64.wrap ((x : Int) * 2 ^ (64 - a - (ww))) = ((x * 2 ^ (64 - a - (ww)) : Nat) : Int) := by
                have e0 : ((x : Int) * 2 ^ (64 - a - (ww))) = ((x * 2 ^ (64 - a - (ww)) : Nat) : Int) := by simp
                rw [e0]
                generalize x * 2 ^ (64 - a - (ww)) = q at hsl ⊢
                simp only [IntKind.wrap_u64]
                omega
              rw [← hxw] at hxr
              generalize pv ^^^ (x * 2 ^ (64 - a - (ww))) = V at *
              have Hn := Lib.hid hn
              have HX := Lib.hid hxr
              have HV : V < 18446744073709551616 := hxo
              clear hn e1 e2 e3 Hn1 hxr hxo hxw hsl hxl
              go_wp2_with fail
              refine (HT1.out).mono ?_
              rintro e w4 ⟨rfl, hr4, hc4⟩
              have b4 := b3.chg hc4 (Ne.symm hgh)
              have ho4 := ho3.chg hc4 (fun ad e => Own.ne_blk ho3 hr3.1 (by decide) ad e)
              have hg4 : Grew w w4 := hg3.step hc4 fun x hx e => by omega
              obtain ⟨p1, p2⟩ : w4.cell? ⟨hh, 0, none⟩ = some (.int .i64 pt) ∧ w4.cell? ⟨hh, 1, none⟩ = some (.int .u64 (pv : Int)) := ⟨by rw [b4.cell]; rfl, by rw [b4.cell]; rfl⟩
              have z0 := b4.frozen 0
              have z1 := b4.frozen 1
              go_wp2_with fail
              refine (HT2.out _ hr4).mono ?_
              rintro e w7 ⟨rfl, hr7, hc5⟩
              have b7 := b4.chg hc5 (Ne.symm hgh)
              have ho7 := ho4.chg hc5 (fun ad e => Own.ne_blk ho4 hr4.1 (by decide) ad e)
              have hg7 : Grew w w7 := hg4.step hc5 fun x hx e => by omega
              obtain ⟨p1, p2⟩ : w7.cell? ⟨hh, 0, none⟩ = some (.int .i64 pt) ∧ w7.cell? ⟨hh, 1, none⟩ = some (.int .u64 (pv : Int)) := ⟨by rw [b7.cell]; rfl, by rw [b7.cell]; rfl⟩
              have z0 := b7.frozen 0
              have z1 := b7.frozen 1
              clear b4 ho4 hg4 hr4 hc4 hc5 HT1 HT2
              go_wp2_with fail
              refine wp_region_textL [(3, 1), (38, 1)] [hh] (by kernel_rfl) (by kernel_rfl) (cellsIn_one b7) ?_
              simp only [wpUL, tagOf, chk, look, Nat.reduceBEq, Bool.false_eq_true, if_true, if_false, Nat.reduceEqDiff, List.cons_append, List.nil_append]
              intro K hK
              go_wp2_with fail
              refine OnlyN.normal (hK _ _ (fun _ => ⟨_, _, _, rfl, rfl, by simp⟩) ?_)
              clear hK K
              intro K hK
              go_wp2_with fail
              refine (HT7.out _ (by exact hr7)).mono ?_
              rintro e w8 ⟨rfl, hr8, hc8⟩
              have b8 := Blk.chg (g := hh) (t := 41) (by exact b7) hc8 (Ne.symm hgh)
              have ho8 : OE elPt w8 g 41 (some ⟨gB, 0, none⟩) k C l := OE.chg (E := elPt) (by exact ho7) hc8 (fun ad e => Own.ne_blk ho7 hr7.1 (by decide) ad e)
              have hg8 : Grew w w8 := Chg.step hg7.drew hc8 fun x hx e => by omega
              have z1 := b8.frozen 1
              have pp2 : w8.cell? ⟨hh, 1, none⟩ = some (.int .u64 (pv : Int)) := by rw [b8.cell]; rfl
              go_wp2_with fail
              refine OnlyN.normal (hK _ _ (sameIn_one b7 b8) ?_)
              clear hK K
              go_wp2_with fail
              rw [HX.out]
              refine OnlyN.normal ?_
              have b9 : Blk (w8.setCell ⟨hh, 1, none⟩ (.int .u64 (V : Int))) hh 41 #[.int .i64 pt, .int .u64 (V : Int)] := by simpa using b8.set 1 (.int .u64 (V : Int))
              have hr9 := hr8.own (p := ⟨hh, 1, none⟩) hgh hAh (.int .u64 (V : Int))
              have ho9' : OE elPt (w8.setCell ⟨hh, 1, none⟩ (.int .u64 (V : Int))) g 41 (some ⟨gB, 0, none⟩) k C l := Own.setFar ho8 (p := ⟨hh, 1, none⟩) (fun ad e => by injection e with e; subst e; exact hBh) _
              have hg9 : Grew w (w8.setCell ⟨hh, 1, none⟩ (.int .u64 (V : Int))) := hg8.setCell (p := ⟨hh, 1, none⟩) (.inl hwh) _
              clear b8 hr8 ho8 hg8 hc8 pp2 z0 z1 p1 p2 b7 hr7 ho7 hg7
              generalize w8.setCell ⟨hh, 1, none⟩ (.int .u64 (V : Int)) = w9' at *
              obtain ⟨p1, p2⟩ : w9'.cell? ⟨hh, 0, none⟩ = some (.int .i64 pt) ∧ w9'.cell? ⟨hh, 1, none⟩ = some (.int .u64 (V : Int)) := ⟨by rw [b9.cell]; rfl, by rw [b9.cell]; rfl⟩
              have hend := Lib.hid (rd_end (pt := pt) (V := V) hr9 ho9' hg9 hgg h)
              have ho9 := ho9'.grew ((Chg.refl _ w9').alloc (.cells #[.int .i64 pt, .int .u64 (V : Int)] 41))
              have hsrc : RE elPt (w9'.alloc (.cells #[.int .i64 pt, .int .u64 (V : Int)] 41)) (some ⟨w9'.heap.size, 0, none⟩) 1 [(pt, V)] := RE.newAt rfl rfl rfl
              have hsz9 := hg9.size
              clear b9 ho9' hg9 hr9
              go_wp2_with (at_builtin; refine wpList_appE rfl _ _ 22 41 infoPt rfl Try.underlying22 rfl g _ k C l rfl ho9 (by simp; omega) _ 1 1 [(pt, V)] rfl hsrc (by unfold maxLen; omega) (by omega) ?_; intro B2 C2 w9 h9)
              obtain ⟨q1, q2, q3⟩ := hend.out B2 C2 w9 h9
              go_roundw
              case rel =>
                refine ⟨k + 1, l ++ [(pt, V)], d', a, ww, s5, B2, C2, rfl, rfl, rfl, rfl, by go_num, by omega, by simp [Hlk.out], ?_, by omega, by omega, (fun _ => haw0), okv_snoc2 hov HV, q1, q2, q3⟩
                have := Hn.out
                skip
                exact this
              case measure => simp [intOf]; omega
          · have hn := Hn1.out
            rw [rValue_no e1 hv1] at hn
            have Hn := Lib.hid hn
            have t1 : ((v1 : Int) == 1) = false := by simp; omega
            clear hn e1 hv1 Hn1
            go_wp2_with fail
            refine HT1.out.mono ?_
            rintro e w4 ⟨rfl, hr4, hc4⟩
            have b4 := b3.chg hc4 (Ne.symm hgh)
            have ho4 := ho3.chg hc4 (fun ad e => Own.ne_blk ho3 hr3.1 (by decide) ad e)
            have hg4 : Grew w w4 := hg3.step hc4 fun x hx e => by omega
            obtain ⟨p1, p2⟩ : w4.cell? ⟨hh, 0, none⟩ = some (.int .i64 pt) ∧ w4.cell? ⟨hh, 1, none⟩ = some (.int .u64 (pv : Int)) := ⟨by rw [b4.cell]; rfl, by rw [b4.cell]; rfl⟩
            have hend := Lib.hid (rd_end (pt := pt) (V := pv) hr4 ho4 hg4 hgg h)
            have ho5 := ho4.grew ((Chg.refl _ w4).alloc (.cells #[.int .i64 pt, .int .u64 (pv : Int)] 41))
            have hsrc : RE elPt (w4.alloc (.cells #[.int .i64 pt, .int .u64 (pv : Int)] 41)) (some ⟨w4.heap.size, 0, none⟩) 1 [(pt, pv)] := RE.newAt rfl rfl rfl
            have hsz4 := hg4.size
            clear HT1 b3 ho3 hg3 hr3 hc4 hr4 ho4 hg4
            go_wp2_with (at_builtin; refine wpList_appE rfl _ _ 22 41 infoPt rfl Try.underlying22 rfl g _ k C l rfl ho5 (by simp; omega) _ 1 1 [(pt, pv)] rfl hsrc (by unfold maxLen; omega) (by omega) ?_; intro B2 C2 w5 h5)
            obtain ⟨q1, q2, q3⟩ := hend.out B2 C2 w5 h5
            go_roundw
            case rel =>
              refine ⟨k + 1, l ++ [(pt, pv)], d', a, ww, s3, B2, C2, rfl, rfl, rfl, rfl, by go_num, by omega, by simp [Hlk.out], ?_, ha, hww, fun _ => haw0, okv_snoc2 hov hpv, q1, q2, q3⟩
              have := Hn.out
              rw [Nat.xor_zero] at this
              exact this
            case measure => simp [intOf]; omega
    · have hp := HR.out.exit HN.out (.inr rfl)
      have hdi := HF.out l true [] 0 (.inl ⟨rfl, by rw [hp]⟩)
      have hdi2 : DecIs b [] 52 := by simpa using hdi
      have Hdi := Lib.hid hdi2
      clear hp hdi hdi2 HR HN HZ HG haw hlk
      by_cases hkN : k = N
      · subst hkN
        go_wp2
        go_ret2
        exact ⟨none, 0, 0, [], 52, Hdi.out, by simp, OE.nil _ _ _, hgr⟩
      · have hlt : k < N := by omega
        clear hkN
        go_wp2
        go_ret2
        exact ⟨none, 0, 0, [], 52, Hdi.out, by simp, OE.nil _ _ _, hgr⟩
end Go.Proofs.Ytlilnibinligkaa
