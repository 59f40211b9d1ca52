/-
  Several texts in one:
  Lists of series copied by the statements' own helper. Conditions: lengths that memory bears.
-/
import Derived.Test.YtjgbdkokcgcpjaaDoorPart23
import Derived.Test.YtjgbdkokcgcpjaaDoorPart38

namespace Go.Proofs.YtjgbdkokcgcpjaaDoor
open Go.RowKit

theorem pair_ab {W w1 w2 : World} {m : SerM} {s : Ser} {A2 A4 : Option Addr} {c2 c4 : Nat} (h2 : OE elLb w1 W.heap.size 67 A2 m.ln c2 s.lbs) (h4 : OE elPt w2 w1.heap.size 49 A4 m.pn c4 s.pts) (g1 : Grew W w1) (g2 : Grew w1 w2) : NsE w2 W.heap.size ⟨A2, m.ln, c2, A4, m.pn, c4⟩ s :=
  ⟨h2.grew g2, Own.mono h4 g1.size⟩

set_option maxRecDepth 100000 in
set_option maxHeartbeats 4000000 in
theorem copySeries_any (A : Option Addr) (n c : Nat) (ss : List Ser) (w : World) (h : RS w A n ss) (hs : Small ss) :
    Calls Tryd.prog 10 #[.slice A n c] w (NewS w ss) := by
  have hln := h.len
  have hn : n ≤ 1073741824 := by rw [← hln]; exact hs.n
  replace hln := Lib.hid hln
  replace hs := Lib.hid hs
  go_enter Tryd.func10, Tryd.ntmps10
  go_wp2
  go_loopw [3, 4] (fun o i wr => ∃ (k : Nat) (B : Option Addr) (C : Nat), k ≤ n ∧ i = .int .i64 (k : Int) ∧ o = .slice B k C ∧ NS wr w.heap.size B k C (ss.take k) ∧ Grew w wr) (fun o i _ => n - (intOf i).toNat)
  case atStart => exact ⟨0, none, 0, by omega, rfl, rfl, NS.nil _ _, Chg.refl _ _⟩
  case round =>
    obtain ⟨k, B, C, hk, rfl, rfl, ho, hg⟩ := hrel
    by_cases hlt : k < n
    · obtain ⟨ad, m, s, rfl, hx, hsi, x0, x1⟩ := (h.grew hg).at_ hlt
      have hel := hs.out.el s (List.mem_of_getElem? hx)
      have hl1 : m.ln ≤ 1048576 := by rw [← hsi.lb.1]; exact hel.1
      have hp1 : m.pn ≤ 1099511627776 := by rw [← hsi.pt.1]; exact hel.2
      have htk := Lib.hid (take_snoc hx)
      have hcs : CellsIn [ad.block] wr := by
        have h1 := ex_cell x0
        rw [block_add] at h1
        exact cellsIn_cons h1 (cellsIn_nil _)
      have hsame : Hid (∀ W1, Grew wr W1 → SameIn [ad.block] wr W1) := fun W1 h1 => sameIn_of h1 hcs fun _ _ e => e
      have hne : ∀ ad', B = some ad' → ad'.block ≠ ad.block := fun ad' e => by
        have h1 := (ho.blk ad' e).1
        have h2 := h.at_ hlt
        obtain ⟨ad2, m2, s2, e2, _, _, z0, _⟩ := h2
        injection e2 with e2
        subst e2
        have h3 := World.block_lt_of_cell? w _ z0
        rw [block_add] at h3
        omega
      replace hne := Lib.hid hne
      have hsz := hg.size
      have hL := fun W1 (hW1 : Grew wr W1) => copyLabels_any m.la m.ln m.lc s.lbs W1 (hsi.lb.grew hW1) (by omega)
      have hP := fun W1 (hW1 : Grew wr W1) => copyPoints_any m.pa m.pn m.pc s.pts W1 (hsi.pt.grew hW1) (by omega)
      replace hL := Lib.hid hL
      replace hP := Lib.hid hP
      clear hx hel hsi
      go_wp2
      refine wp_region_textS [(3, 1)] [ad.block] (by kernel_rfl) (by kernel_rfl) hcs ?_
      simp only [wpU, tagOf, chk, List.nil_append, List.cons_append]
      intro K hK
      go_wp2_with fail
      refine OnlyN.normal (hK _ _ (fun _ => ⟨_, _, _, rfl, rfl, by simp [block_add]⟩) ?_)
      clear hK K
      intro K hK
      go_wp2_with fail
      refine (hL.out _ (Chg.refl _ wr).drew).mono ?_
      rintro e w1 ⟨A2, c2, rfl, h2, hg1⟩
      have hgg : Grew wr w1 := (Chg.refl _ wr).drew.trans hg1
      have x1 := hgg.cell x1 (fun e => e)
      go_wp2_with fail
      refine OnlyN.normal (hK _ _ (hsame.out _ hgg) ?_)
      clear hK K
      intro K hK
      go_wp2_with fail
      refine OnlyN.normal (hK _ _ (fun _ => ⟨_, _, _, rfl, rfl, by simp [block_add]⟩) ?_)
      clear hK K
      intro K hK
      go_wp2_with fail
      refine (hP.out _ hgg).mono ?_
      rintro e w2 ⟨A4, c4, rfl, h4, hg2⟩
      have hN := pair_ab h2 h4 hg1 hg2
      have g4 : Grew wr w2 := hgg.trans hg2
      have hsz4 := g4.size
      obtain ⟨ms, ho4⟩ := (ho.grew g4).op
      have hc4 := ho4.row.cap
      go_wp2_with fail
      refine OnlyN.normal (hK _ _ (hsame.out _ g4) ?_)
      clear hK K
      intro K hK
      go_wp2_with fail
      refine OnlyN.normal (hK _ _ (hsame.out _ (g4.alloc _)) ?_)
      clear hK K
      have hE5 : OE elSr (w2.alloc (.cells #[.slice A2 m.ln c2, .slice A4 m.pn c4] 46)) w.heap.size 46 B k C ms := ho4.row.grew ((Chg.refl _ w2).alloc _)
      have hsrc : RE elSr (w2.alloc (.cells #[.slice A2 m.ln c2, .slice A4 m.pn c4] 46)) (some ⟨w2.heap.size, 0, none⟩) 1 [⟨A2, m.ln, c2, A4, m.pn, c4⟩] := RE.newAt rfl rfl rfl
      intro K hK
      go_wp2_with (at_builtin; refine wpList_appE rfl _ _ 22 46 infoSer rfl Tryd.underlying22 rfl w.heap.size B k C ms rfl hE5 (by simp; omega) _ 1 1 [⟨A2, m.ln, c2, A4, m.pn, c4⟩] rfl hsrc (by unfold maxLen; omega) (by omega) ?_; intro B2 C2 w5 h5)
      have hNS := (ho4.grew ((Chg.refl _ w2).alloc (.cells #[.slice A2 m.ln c2, .slice A4 m.pn c4] 46))).app ((NsE.mono hN (by exact hsz)).grew ((Chg.refl _ w2).alloc _)) h5
      have hg5 : Grew w w5 := h5.grew ((hg.trans g4).alloc _) (fun ad e => (Own.blk_lt ho4.row ad e).1)
      refine OnlyN.normal (hK _ _ (sameIn_of ((Chg.of_grew (g4.alloc _)).trans h5.chg) hcs (fun k' hk' ⟨ad', e5, e6⟩ => by
        simp only [List.mem_cons, List.not_mem_nil, or_false] at hk'
        rw [hk'] at e6
        exact hne.out ad' e5 e6.symm)) ?_)
      clear hK K
      go_wp2_with fail
      refine OnlyN.normal ?_
      rw [← htk.out] at hNS
      clear ho4 hE5 hsrc h5 h4 h2 hN g4 hgg hg1 hg2 ho
      go_wp2
      go_roundw
      case rel => exact ⟨k + 1, B2, C2, by omega, by go_num, rfl, hNS, hg5⟩
      case measure => simp [intOf] <;> omega
    · obtain rfl : k = n := by omega
      rw [List.take_of_length_le (by have := hln.out; omega)] at ho
      go_wp2
      go_ret
      have := hln.out
      subst this
      exact ⟨B, C, by simp, ho, hg⟩
end Go.Proofs.YtjgbdkokcgcpjaaDoor
