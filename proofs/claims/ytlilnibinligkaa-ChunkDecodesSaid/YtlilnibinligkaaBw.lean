/-
  Package bits: what each call does, told by lists of bits. Conditions: lengths that memory bears.
-/
import Derived.Test.YtlilnibinligkaaLa
import Derived.Test.YtlilnibinligkaaBv
namespace Go.Proofs.Ytlilnibinligkaa
open Go.RowKit

/-- what a Put leaves: the row with the bits behind it -/
def PutPost (w : World) (base g : Nat) (A : Option Addr) (n : Nat) (bs : List Bool) (e : Ending) (w' : World) : Prop :=
  ∃ B M C, e = .returned (.tuple #[]) ∧ Blk w' g 54 #[.slice B M C, .int .i64 (n : Int)] ∧ OB w' base 5 B M C (pack bs) ∧
    Chg (fun x => x = g ∨ ∃ ad, A = some ad ∧ x = ad.block) w w' ∧ (∀ ad, B = some ad → (∃ bd, A = some bd ∧ ad.block = bd.block) ∨ w.heap.size ≤ ad.block)

set_option maxRecDepth 100000 in
set_option maxHeartbeats 2000000 in
theorem put_any (g : Nat) (A : Option Addr) (m c : Nat) (bs : List Bool) (v k : Nat) (base : Nat) (w : World) (hb : Blk w g 54 #[.slice A m c, .int .i64 (bs.length : Int)])
    (ho : OB w base 5 A m c (pack bs)) (hbase : base ≤ w.heap.size) (hv : v < 18446744073709551616) (hk : k ≤ 64) (hN : bs.length ≤ 140737488355200 * 8) :
    Calls Try.prog 31 #[.pointer (some ⟨g, 0, none⟩), .int .u64 (v : Int), .int .i64 (k : Int)] w (PutPost w base g A (bs.length + k) (bs ++ toBits v k)) := by
  go_enter Try.func31, Try.ntmps31
  refine wp_scope_label 0 (fun a' wr => ∃ (j n M C : Nat) (B : Option Addr) (bs' : List Bool), j ≤ k ∧ n + j = bs.length + k ∧ bs'.length = n ∧ bs' ++ toBits v j = bs ++ toBits v k ∧ Blk wr g 54 #[.slice B M C, .int .i64 (n : Int)] ∧
     OB wr base 5 B M C (pack bs') ∧ Chg (fun x => x = g ∨ ∃ ad, A = some ad ∧ x = ad.block) w wr ∧ (∀ ad, B = some ad → (∃ bd, A = some bd ∧ ad.block = bd.block) ∨ w.heap.size ≤ ad.block) ∧
     ∃ u3 u4 u5 u6 u7 u8 u9 u10 u11 u12 u13 u14 u15 u16 u17 u18 u19 u20 u21 u22 u23 u24 u25 u26 u27 u28 u29 u30 u31 u32 u33 u34 u35 u36 u37 u38 u39 u40 u41 u42 u43 u44 u45 u46 u47 u48 u49 u50 u51 u52 u53 u54 u55 u56 : Value, a' = { tmps := #[.pointer (some ⟨g, 0, none⟩), .int .u64 (v : Int), .int .i64 (j : Int), u3, u4, u5, u6, u7, u8, u9, u10, u11, u12, u13, u14, u15, u16, u17, u18, u19, u20, u21, u22, u23, u24, u25, u26, u27, u28, u29, u30, u31, u32, u33, u34, u35, u36, u37, u38, u39, u40, u41, u42, u43, u44, u45, u46, u47, u48, u49, u50, u51, u52, u53, u54, u55, u56], defers := [] }) (fun a' _ => (intOf (a'.tmps.getD 2 undef)).toNat) rfl ?_ ?_
  · rintro a' wr ⟨j, n, M, C, B, bs', hj, hnj, hlen, hbs, hb, ho, hchg, hB, u3, u4, u5, u6, u7, u8, u9, u10, u11, u12, u13, u14, u15, u16, u17, u18, u19, u20, u21, u22, u23, u24, u25, u26, u27, u28, u29, u30, u31, u32, u33, u34, u35, u36, u37, u38, u39, u40, u41, u42, u43, u44, u45, u46, u47, u48, u49, u50, u51, u52, u53, u54, u55, u56, rfl⟩
    have hM := ho.len
    rw [length_pack, hlen] at hM
    have hM1 : n ≤ 8 * M := by omega
    have hM2 : 8 * M ≤ n + 7 := by omega
    have hn' : n ≤ 140737488355200 * 8 + 64 := by omega
    have Hlen := Lib.hid hlen
    have Hbs := Lib.hid hbs
    have Hnj := Lib.hid hnj
    clear hlen hbs hM hnj
    have hsz := hchg.size
    have hc0 : wr.cell? ⟨g, 0, none⟩ = some (.slice B M C) := by rw [hb.cell]; rfl
    have hc1 : wr.cell? ⟨g, 1, none⟩ = some (.int .i64 (n : Int)) := by rw [hb.cell]; rfl
    have hf0 := hb.frozen 0
    have hf1 := hb.frozen 1
    have hr := RB.new wr [0] 1 #[.int .u8 0] 5 rfl rfl
    have ho1 := OB.grew ho ((Chg.refl _ wr).alloc (.cells #[.int .u8 0] 5))
    by_cases hj0 : j = 0
    · subst hj0
      go_wp2
      simp only [Exit.jump]
      refine bodyPost_ret (results_none rfl _ _ _) rfl ?_
      have h1 := Hbs.out
      have h2 := Hnj.out
      rw [show bs.length + k = n from by omega, ← h1]
      exact ⟨B, M, C, rfl, hb, by simpa [toBits] using ho, hchg, hB⟩
    · obtain ⟨i, rfl⟩ : ∃ i, j = i + 1 := ⟨j - 1, by omega⟩
      have hj1 : ((i : Int) + 1 == 0) = false := by simp; omega
      go_upto_if 15 with (fail)
      go_cut [] (fun wx => ∃ (M C : Nat) (B : Option Addr) (l : List UInt8), Hid (l = if n % 8 = 0 then pack bs' ++ [0] else pack bs') ∧ Blk wx g 54 #[.slice B M C, .int .i64 (n : Int)] ∧ OB wx base 5 B M C l ∧ n < 8 * M ∧ 8 * M ≤ n + 8 ∧
        Chg (fun x => x = g ∨ ∃ ad, A = some ad ∧ x = ad.block) w wx ∧ (∀ ad, B = some ad → (∃ bd, A = some bd ∧ ad.block = bd.block) ∨ w.heap.size ≤ ad.block))
      case first =>
        by_cases hn8 : n % 8 = 0
        · have hn9 : ((n : Int) % 8 == 0) = true := by simp; omega
          go_wp2_with (at_builtin; refine wpList_appB rfl _ _ rfl base B M C (pack bs') rfl ho1 (by simp; omega) _ 1 1 [0] rfl hr (by omega) ?_; intro A2 c2 w2 h2; have hc2 := h2.ob.cap; have hb2 := (hb.alloc (.cells #[.int .u8 0] 5)).chg h2.chg (by rintro ⟨ad, e1, e2⟩; exact Own.ne_blk ho hb (by decide) ad e1 e2.symm); have hc02 : w2.cell? ⟨g, 0, none⟩ = some (.slice B M C) := by {rw [hb2.cell]; rfl}; have hf02 := hb2.frozen 0)
          go_meet
          refine ⟨M + 1, c2, A2, pack bs' ++ [0], ?_, ?_, ?_, by omega, by omega, ?_, ?_⟩
          · show _ = _
            rw [if_pos hn8]
          · exact hb2.set 0 _
          · exact Own.setFar h2.ob (fun ad e => Own.ne_blk h2.ob hb2 (by decide) ad e) _
          · refine Chg.setCell ?_ (p := ⟨g, 0, none⟩) (.inr (.inl rfl)) _
            refine (hchg.alloc _).step h2.chg ?_
            rintro x hx ⟨ad, e1, e2⟩
            rcases hB ad e1 with ⟨bd, e3, e4⟩ | h3
            · exact .inr ⟨bd, e3, by omega⟩
            · omega
          · rintro ad e
            rcases h2.2.2 with ⟨e1, _⟩ | ⟨e1, _⟩
            · exact hB ad (e1 ▸ e)
            · rw [e1] at e
              injection e with e
              subst e
              right
              simp
              omega
        · have hn9 : ((n : Int) % 8 == 0) = false := by simp; omega
          go_wp2
          go_meet
          refine ⟨M, C, B, pack bs', ?_, hb, ho, by omega, by omega, hchg, hB⟩
          show _ = _
          rw [if_neg hn8]
      case rest =>
        clear hM1 hM2 hc0 hc1 hf0 hf1 hr ho1 hb ho hchg hB hsz
        obtain ⟨M, C, B, l, Hl, hb, ho, hM, hM2, hchg, hB⟩ := hcut
        have hM3 : n / 8 < M := by omega
        obtain ⟨g2, rfl, hbg, hg2, hcs, hfs, hca, hcb⟩ := Own.at_ ho (by omega)
        have hc0 : wc.cell? ⟨g, 0, none⟩ = some (.slice (some ⟨g2, 0, none⟩) M C) := by rw [hb.cell]; rfl
        have hc1 : wc.cell? ⟨g, 1, none⟩ = some (.int .i64 (n : Int)) := by rw [hb.cell]; rfl
        have hc2 : wc.cell? ⟨g2, n / 8, none⟩ = some (.int .u8 (l.getD (n / 8) 0).toNat) := by
          rw [hcs _ (by omega)]
          have := ho.len
          simp [byt, List.getD, show n / 8 < l.length by omega]
        have hf2 := hfs (n / 8)
        have hf1 := hb.frozen 1
        have hne : g2 ≠ g := Own.ne_blk ho hb (by decide) _ rfl
        clear hcs hfs
        go_wp2
        go_region
        go_wp2
        go_step3
        have hov := orb_walk (l[n / 8]?.getD 0) v i (7 - n % 8) hv (by omega)
        rw [hov]
        refine ⟨rfl, ⟨i, n + 1, M, C, some ⟨g2, 0, none⟩, bs' ++ [v.testBit i], by omega, ?_, ?_, ?_, ?_, ?_, ?_, hB, _, _, _, _, _, _, _, _, _, _, _, _, _, _, _, _, _, _, _, _, _, _, _, _, _, _, _, _, _, _, _, _, _, _, _, _, _, _, _, _, _, _, _, _, _, _, _, _, _, _, _, _, _, _, rfl⟩, ?_⟩
        · have := Hnj.out; omega
        · have := Hlen.out; simp; omega
        · rw [← Hbs.out, List.append_assoc]
          rfl
        · have := (hb.far (p := ⟨g2, n / 8, none⟩) (Ne.symm hne) (byt (orb (l[n / 8]?.getD 0) (v.testBit i) (7 - n % 8)))).set 1 (.int .i64 ((n : Int) + 1))
          rw [show ((n + 1 : Nat) : Int) = (n : Int) + 1 from by simp]
          exact this
        · rw [pack_snoc bs' (v.testBit i) l (by rw [Hlen.out]; exact Hl.out), Hlen.out, List.getD_eq_getElem?_getD]
          have h3 := Own.set ho (n / 8) (byt (orb (l[n / 8]?.getD 0) (v.testBit i) (7 - n % 8)))
          rw [← List.map_set] at h3
          exact Own.setFar h3 (p := ⟨g, 1, none⟩) (fun ad e => by injection e with e; subst e; exact hne) (.int .i64 ((n : Int) + 1))
        · refine Chg.drew (Chg.setCell (Chg.setCell hchg (p := ⟨g2, n / 8, none⟩) ?_ _) (p := ⟨g, 1, none⟩) (.inr (.inl rfl)) _)
          rcases hB _ rfl with ⟨bd, e1, e2⟩ | h3
          · exact .inr (.inr ⟨bd, e1, e2⟩)
          · exact .inl h3
        · simp [intOf]
  · intro hp
    go_wp2
    go_step3
    go_step
    go_step
    exact hp _ _ ⟨k, bs.length, m, c, A, bs, Nat.le_refl _, rfl, rfl, rfl, by simpa using hb, ho, Chg.refl _ _, fun ad e => .inl ⟨ad, e, rfl⟩, _, _, _, _, _, _, _, _, _, _, _, _, _, _, _, _, _, _, _, _, _, _, _, _, _, _, _, _, _, _, _, _, _, _, _, _, _, _, _, _, _, _, _, _, _, _, _, _, _, _, _, _, _, _, rfl⟩
end Go.Proofs.Ytlilnibinligkaa
