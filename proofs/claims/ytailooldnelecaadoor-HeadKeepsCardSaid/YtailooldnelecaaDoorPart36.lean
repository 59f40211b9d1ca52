/-
  Several texts in one:
  A head's state while a series is cut in place, or goes out. Conditions: none.
-/
import Derived.Test.YtailooldnelecaaDoorPart35

namespace Go.Proofs.YtailooldnelecaaDoor
open Go.RowKit

theorem nodupL {L : List HEnt} (h : L.Pairwise HAp) : L.Nodup := h.imp fun h e => h.key (by rw [e])
theorem mem_set_ne {L : List HEnt} {i : Nat} {e e' x : HEnt} (hi : L[i]? = some e) (hx : x ∈ L) (hne : x ≠ e) : x ∈ L.set i e' := by
  obtain ⟨j, hj⟩ := List.getElem?_of_mem hx
  refine List.mem_of_getElem? (i := j) ?_
  rw [List.getElem?_set, if_neg, hj]
  intro e1
  subst e1
  rw [hi] at hj
  injection hj with hj
  exact hne hj.symm
theorem mem_era_ne {L : List HEnt} {i : Nat} {e x : HEnt} (hi : L[i]? = some e) (hx : x ∈ L) (hne : x ≠ e) : x ∈ L.eraseIdx i := by
  obtain ⟨j, hj⟩ := List.getElem?_of_mem hx
  refine List.mem_eraseIdx_iff_getElem?.2 ⟨j, fun e1 => ?_, hj⟩
  subst e1
  rw [hi] at hj
  injection hj with hj
  exact hne hj.symm
theorem fm_set {f : Ser → Option Ser} : ∀ {L : List HEnt} {i : Nat} {e e' : HEnt}, L[i]? = some e → f e.s = some e'.s → (∀ j x, j ≠ i → L[j]? = some x → f x.s = some x.s) → (L.map HEnt.s).filterMap f = (L.set i e').map HEnt.s
  | [], i, e, e', h, _, _ => by simp at h
  | a :: L, 0, e, e', h, h1, h2 => by
    obtain rfl : a = e := by simpa using h
    rw [List.set_cons_zero, List.map_cons, List.map_cons, List.filterMap_cons, h1]
    simp only
    rw [fm_some]
    intro s hs
    obtain ⟨x, hx, rfl⟩ := List.mem_map.1 hs
    obtain ⟨j, hj⟩ := List.getElem?_of_mem hx
    exact h2 (j + 1) x (by omega) (by simpa using hj)
  | a :: L, i + 1, e, e', h, h1, h2 => by
    rw [List.set_cons_succ, List.map_cons, List.map_cons, List.filterMap_cons, h2 0 a (by omega) rfl]
    simp only
    rw [fm_set (L := L) (i := i) (by simpa using h) h1 fun j x hj hx => h2 (j + 1) x (by omega) (by simpa using hx)]
theorem fm_era {f : Ser → Option Ser} : ∀ {L : List HEnt} {i : Nat} {e : HEnt}, L[i]? = some e → f e.s = none → (∀ j x, j ≠ i → L[j]? = some x → f x.s = some x.s) → (L.map HEnt.s).filterMap f = (L.eraseIdx i).map HEnt.s
  | [], i, e, h, _, _ => by simp at h
  | a :: L, 0, e, h, h1, h2 => by
    obtain rfl : a = e := by simpa using h
    rw [List.eraseIdx_cons_zero, List.map_cons, List.filterMap_cons, h1]
    simp only
    rw [fm_some]
    intro s hs
    obtain ⟨x, hx, rfl⟩ := List.mem_map.1 hs
    obtain ⟨j, hj⟩ := List.getElem?_of_mem hx
    exact h2 (j + 1) x (by omega) (by simpa using hj)
  | a :: L, i + 1, e, h, h1, h2 => by
    rw [List.eraseIdx_cons_succ, List.map_cons, List.map_cons, List.filterMap_cons, h2 0 a (by omega) rfl]
    simp only
    rw [fm_era (L := L) (i := i) (by simpa using h) h1 fun j x hj hx => h2 (j + 1) x (by omega) (by simpa using hx)]

section
variable {S : Nat → Prop} {w W : World} {h b p : Nat} {L : List HEnt} {cb : Nat} {PL : List PEnt} {cp lim : Nat} {i n : Nat} {e : HEnt} {ad : Addr}
theorem HS.lbs_ne (hH : HS S w h b p L cb PL cp lim) {j : Nat} {x : HEnt} (hi : L[i]? = some e) (hj : L[j]? = some x) (hne : j ≠ i) : x.s.lbs ≠ e.s.lbs := fun e1 => by
  have h1 := hap_at hH.tb.ap hj hi hne
  refine h1.key ?_
  rw [(hH.tb.ok x (List.mem_of_getElem? hj)).key, (hH.tb.ok e (List.mem_of_getElem? hi)).key, e1]
theorem HS.cutE (hH : HS S w h b p L cb PL cp lim) (hi : L[i]? = some e) (hp : e.m.pa = some ad) (hn : n < e.m.pn) (hc : Chg (fun k => k = e.g) w W) (hz : W.heap.size = w.heap.size)
    (hb : Blk W e.g 67 #[.slice e.m.la e.m.ln e.m.lc, .slice (some ⟨ad.block, ad.off + n * 2, none⟩) (e.m.pn - n) (e.m.pc - n)]) : HS S W h b p (L.set i (e.cut ad n)) cb PL cp lim := by
  have hoe := hH.tb.ok e (List.mem_of_getElem? hi)
  have ho := hoe.cut hp hn hc hb
  have hTB := hH.tb.setE (W := W) hi (hc.mono fun k _ e1 => .inl e1) (ho.mono fun k hk => .inl hk) rfl rfl rfl (fun ad' e1 => .inl ⟨ad, hp, by injection e1 with e1; rw [← e1]⟩)
  exact ⟨hH.hd.chg hc (hH.hd.neT hoe.blk (by decide)), hTB.mono (fun k hk => hk.elim id fun h1 => by omega) (fun k hk => by have := hH.tb.lt k hk; omega), fun l s => (hH.rel l s).trans (inL_push (e' := e.cut ad n) hi rfl rfl l s).symm, hH.non, hH.oh, hH.ml, by rw [List.length_set]; exact hH.len⟩
theorem HS.bt (hH : HS S w h b p L cb PL cp lim) : ∀ k, BT b p PL k → S k ∧ ∃ es c, MapB w k es c := fun k hk => by
  rcases hk with rfl | rfl | ⟨q, hq, rfl⟩
  · exact ⟨hH.tb.ob, _, _, hH.tb.mb⟩
  · exact ⟨hH.tb.op, _, _, hH.tb.mp⟩
  · exact ⟨(hH.tb.pok q hq).oq, _, _, (hH.tb.pok q hq).mb⟩
theorem HS.nbt (hH : HS S w h b p L cb PL cp lim) {k : Nat} {t : TypeId} {cs : Array Value} (hk : Blk w k t cs) : ¬ BT b p PL k := fun hT => by
  obtain ⟨_, es, c, hm⟩ := hH.bt _ hT
  exact (hm.ne_blk hk) rfl
theorem HS.dropE {X : World} {PL' : List PEnt} (hH : HS S w h b p L cb PL cp lim) (hi : L[i]? = some e) (hc : Chg (fun k => k = e.g) w W) (D : DrpS S W X b p e i L cb PL PL' cp) : HS S X h b p (L.eraseIdx i) cb PL' cp lim := by
  have hoe := hH.tb.ok e (List.mem_of_getElem? hi)
  have hx : ∀ x ∈ L.eraseIdx i, ∃ j, j ≠ i ∧ L[j]? = some x := fun x hx => List.mem_eraseIdx_iff_getElem?.1 hx
  have hz1 := hc.size
  have hz2 := D.chg.size
  refine ⟨(hH.hd.chg hc (hH.hd.neT hoe.blk (by decide))).chg D.chg (hH.nbt hH.hd), ⟨D.mb, fun x hxm => ?_, hH.tb.ap.sublist (List.eraseIdx_sublist L i), D.pt.mp, D.pt.pok, D.pt.pap, hH.tb.bp, fun q hq => ⟨D.neb q hq, D.pt.pb q hq⟩, hH.tb.ob, hH.tb.op, fun k hk => ?_⟩, fun l s => ?_, D.non, hH.oh, hH.ml, ?_⟩
  · obtain ⟨j, hj, hjx⟩ := hx x hxm
    have hxo := hH.tb.ok x (List.mem_of_getElem? hjx)
    have ha := hap_at hH.tb.ap hjx hi hj
    obtain ⟨h1, h2, h3⟩ := hoe.et hxo ha
    have h4 := hxo.chg hc (fun e1 => h1 (.inl e1)) (fun ad e1 e2 => h2 ad e1 (.inl e2)) (fun ad e1 e2 => h3 ad e1 (.inl e2)) (Nat.le_refl _)
    exact h4.chg D.chg (hH.nbt hxo.blk) (fun ad e1 => by obtain ⟨c, hc⟩ := hxo.lb.blk ad e1; exact hH.nbt hc) (fun ad e1 => by obtain ⟨c, hc⟩ := hxo.pt.blk ad e1; exact hH.nbt hc) (Nat.le_refl _)
  · have := hH.tb.lt k hk
    omega
  · rw [D.rel, hH.rel]
    constructor
    · rintro ⟨⟨x, hx1, hx2, hx3⟩, hne⟩
      exact ⟨x, mem_era_ne hi hx1 (fun e1 => hne (by rw [← hx2, e1])), hx2, hx3⟩
    · rintro ⟨x, hx1, hx2, hx3⟩
      obtain ⟨j, hj, hjx⟩ := hx x hx1
      exact ⟨⟨x, List.mem_of_getElem? hjx, hx2, hx3⟩, fun e1 => (hap_at hH.tb.ap hjx hi hj).key (hx2.trans e1)⟩
  · have := List.length_eraseIdx_le L i
    have := hH.len
    omega
/-- a series goes out whose points have gone -/
theorem HS.drop (hH : HS S w h b p L cb PL cp lim) (hi : L[i]? = some e) (hc : Chg (fun k => k = e.g) w W) {pa : Option Addr} {pn pc : Nat} (hb : Blk W e.g 67 #[.slice e.m.la e.m.ln e.m.lc, .slice pa pn pc]) :
    Calls Tryd.prog 28 #[.pointer (some ⟨h, 0, none⟩), .string e.key] W fun x w' => x = .returned (.tuple #[]) ∧ ∃ PL', HS S w' h b p (L.eraseIdx i) cb PL' cp lim ∧ Chg S W w' := by
  have he := List.mem_of_getElem? hi
  have hoe := hH.tb.ok e he
  refine (drop_any (S := S) (PL := PL) pa pn pc W hi (hH.tb.mb.chg hc (hH.tb.mb.ne_blk hoe.blk)) ?_ (hH.tb.pt.chg hc (hH.tb.mp.ne_blk hoe.blk) fun q hq => ((hH.tb.pok q hq).mb.ne_blk hoe.blk)) hH.tb.bp (fun q hq => (hH.tb.pb q hq).1) (hH.hd.chg hc (hH.hd.neT hoe.blk (by decide))) hb
    (hoe.lb.chg hc fun ad e1 e2 => hoe.la ad e1 (.inl e2)) (chkL_nodup hoe.chk) (chkL_sizes hoe.chk).1 (fun l => ?_) hH.non).mono ?_
  · simpa using hH.tb.kap
  · rw [hH.rel]
    constructor
    · rintro ⟨x, hx, h1, h2⟩
      by_cases e1 : x = e
      · exact e1 ▸ h2
      · exact absurd h1 (hap_of hH.tb.ap hx he e1).key
    · exact fun h1 => ⟨e, he, rfl, h1⟩
  · rintro x w' ⟨h1, PL', D⟩
    exact ⟨h1, PL', hH.dropE hi hc D, D.chg.mono fun k _ hk => (hH.bt k hk).1⟩
end
end Go.Proofs.YtailooldnelecaaDoor
