/-
  The law ChunkBack, walked. Conditions: lengths within the form's reach.
-/
import Derived.Test.YtlilnibinligkaaKk
import Derived.Test.YtlilnibinligkaaTp
namespace Go.Proofs.Ytlilnibinligkaa
open Go.RowKit

set_option maxRecDepth 100000 in
set_option maxHeartbeats 4000000 in
theorem walk_chunkBack (A : Option Addr) (n c : Nat) (ps : List Pnt) (z vz : Int) (w : World) (h : RE elPt w A n ps) (hn : n ≤ 8796093021952) (hv : Okv ps) (_ : (Lit.int .i64 z).wf = true) (hvz : (Lit.int .u64 vz).wf = true) :
    Calls Try.prog 5 #[.slice A n c, .int .i64 z, .int .u64 vz] w fun e w' => e = .returned (.bool true) ∧ Grew w w' := by
  obtain ⟨v, rfl, hv64⟩ : ∃ v : Nat, vz = (v : Int) ∧ v < 18446744073709551616 := ⟨vz.toNat, by have := Go.bounds_u64 hvz; omega, by have := Go.bounds_u64 hvz; omega⟩
  clear hvz
  have HL := Lib.hid h.1
  go_enter Try.func5, Try.ntmps5
  go_wp2_with fail
  refine (copyPoints_any A n c ps _ h (by omega)).mono ?_
  rintro e w1 ⟨P1, c1, rfl, ho1, hg1⟩
  go_wp2_with fail
  refine (encode_any _ n _ ps _ (by exact ho1.re (by decide)) (by omega) hv).mono ?_
  rintro e w2 ⟨B, m, d, l, er, he, rfl, ho2, hg2⟩
  have hg02 := hg1.trans hg2
  have hr2 := h.grew hg02
  have hml : l.length = m := ho2.len
  have hm2 := he.len
  clear ho1 hg1 hg2
  by_cases h0 : er = 0
  · subst h0
    go_wp2_with fail
    refine (decode_any _ m _ l _ (by exact ho2.rb) (by omega)).mono ?_
    rintro e w3 ⟨C, n3, c3, ps3, er3, he3, rfl, ho3, hg3⟩
    obtain ⟨rfl, rfl⟩ := he3.uniq (he.dec hv)
    obtain rfl : n3 = n := by rw [← ho3.len (by decide), HL.out]
    have hg03 := hg02.trans hg3
    have hr3 := hr2.grew hg3
    have ho23 := ho2.grew hg3
    clear hg3 hg02 hr2 ho2
    go_wp2_with fail
    refine (samePoints_yes _ _ n3 n3 _ _ ps3 _ (by exact ho3.re (by decide)) (by exact hr3) (by omega) (by omega)).mono ?_
    rintro e w4 ⟨rfl, k4, rfl⟩
    have hg04 : Grew w (w3.drewN k4) := hg03.drewN k4
    have hr4 : RE elPt (w3.drewN k4) A n3 ps3 := hr3
    have ho24 : OB (w3.drewN k4) w1.heap.size 5 B m d l := ho23
    clear ho3 hg03 hr3 ho23
    generalize w3.drewN k4 = w4 at *
    by_cases hn0 : n3 = 0
    · subst hn0
      go_wp2_with fail
      refine (awake_any _).mono ?_
      rintro e w5 ⟨rfl, hg5⟩
      go_wp2
      go_ret
      exact ⟨by simp, hg04.trans hg5⟩
    · have hn1 : ((n3 : Int) == 0) = false := by simp; omega
      go_wp2_with fail
      refine (low_any _ _).mono ?_
      rintro e w5 ⟨r, hr, rfl, rfl⟩
      obtain ⟨k, hk⟩ : ∃ k, k = r % n3 := ⟨_, rfl⟩
      have hkl : k < n3 := by rw [hk]; exact Nat.mod_lt _ (by omega)
      have hkz : (r : Int) % (n3 : Int) = (k : Int) := by rw [hk]; simp
      clear hk
      obtain ⟨ad, p, rfl, hp, hp0, hp1⟩ := hr4.pt hkl
      have hadlt : ad.block < w4.heap.size := hr4.lt (by decide) ad rfl (by omega)
      go_wp2_with fail
      refine (copyPoints_any _ n3 c ps3 _ (by exact hr4) (by omega)).mono ?_
      rintro e w6 ⟨P6, c6, rfl, ho6, hg6⟩
      obtain ⟨g, rfl, hbg, hg, hcs, hfs, hca, hcb⟩ := Own.at_ ho6 (by omega)
      have hcell : (elPt.flat ps3)[k * 2 + 1]? = some (.int .u64 (p.2 : Int)) := by
        have := elPt.flat_get ps3 hp (j := 1) (by decide)
        exact this
      have hc1 : w6.cell? ⟨g, k * 2 + 1, none⟩ = some (.int .u64 (p.2 : Int)) := by rw [hcs _ (by show _ < n3 * 2; omega)]; exact hcell
      have hf1 : w6.frozen? ⟨g, k * 2 + 1, none⟩ = false := hfs _
      have hset := OE.setV ho6 hp v
      have hgs : Grew w4 (w6.setCell ⟨g, k * 2 + 1, none⟩ (.int .u64 (v : Int))) := Chg.setCell hg6 (p := ⟨g, k * 2 + 1, none⟩) (.inl hbg) _
      go_wp2_with fail
      refine (encode_any _ n3 _ (ps3.set k (p.1, v)) _ (by exact OE.re (by decide) (hset)) (by omega) (hv.setV k p.1 v hv64)).mono ?_
      rintro e w7 ⟨B7, m7, d7, l7, er7, he7, rfl, ho7, hg7⟩
      obtain ⟨rfl, hbb⟩ := enc_setV he hv hp hv64 he7
      have hg47 : Grew w4 w7 := hgs.trans hg7
      have hg07 := hg04.trans hg47
      have ho27 := ho24.grew hg47
      have hr7 := hr4.grew hg47
      obtain ⟨ad', p', e1, e2, q0, q1⟩ := hr7.pt hkl
      injection e1 with e1
      subst e1
      rw [hp] at e2
      injection e2 with e2
      subst e2
      have hm7 := he7.len
      have hml7 : l7.length = m7 := ho7.len
      have hblk : (ad.add (k * 2)).block < w7.heap.size := by
        have e3 : (ad.add (k * 2)).block = ad.block := block_add _ _
        rw [e3]
        exact Nat.lt_of_lt_of_le hadlt hg47.size
      clear hgs hset hcs hfs hcell hc1 hf1 hp0 hp1 hg6 ho6 hr7 hr4 ho24 he he7 hg7 q0
      go_wp2_with fail
      refine wp_region_textS [(24, 1), (38, 1)] [(ad.add (k * 2)).block] (by kernel_rfl) (by kernel_rfl) (cellsIn_cell (ad := ⟨(ad.add (k * 2)).block, (ad.add (k * 2)).off + 1, none⟩) q1) ?_
      simp only [wpU, tagOf, chk, look, Nat.reduceBEq, Bool.false_eq_true, if_true, if_false, Nat.reduceEqDiff, List.cons_append, List.nil_append]
      intro K hK
      go_wp2_with fail
      refine (sameBytes_any _ _ m m7 _ _ l l7 _ (by exact ho27.rb) (by exact ho7.rb) (by omega) (by omega)).mono ?_
      rintro e w8 ⟨rfl, k8, rfl⟩
      rw [hbb]
      go_wp2_with fail
      refine OnlyN.normal (hK _ _ (fun _ _ => rfl) ?_)
      clear hK K
      intro K hK
      go_wp2_with fail
      refine OnlyN.normal (hK _ _ (fun _ => ⟨_, _, _, rfl, rfl, by simp⟩) ?_)
      clear hK K
      intro K hK
      go_wp2_with fail
      refine OnlyN.normal (hK _ _ (fun _ _ => rfl) ?_)
      clear hK K
      intro K hK
      go_wp2_with fail
      refine (awake_any _).mono ?_
      rintro e w9 ⟨rfl, hg9⟩
      have hg79 : Grew w7 w9 := ((Chg.refl _ w7).drewN (1 + k8)).trans hg9
      go_wp2_with fail
      refine OnlyN.normal (hK _ _ (sameIn_chg hg79 hblk (fun e => e)) ?_)
      clear hK K
      go_wp2_with fail
      refine OnlyN.normal ?_
      go_wp2
      go_ret
      exact ⟨by simp, hg07.trans hg79⟩
  · obtain ⟨rfl, _⟩ := he.no h0
    obtain rfl : m = 0 := by rw [← hml]; rfl
    have hd : ((er : Int) == 0) = false := by simp; omega
    go_wp2_with fail
    refine (awake_any _).mono ?_
    rintro e w3 ⟨rfl, hg3⟩
    go_wp2
    go_ret
    exact ⟨by simp, hg02.trans hg3⟩
end Go.Proofs.Ytlilnibinligkaa
