/-
  Several texts in one:
  An empty head; how much a head holds. Conditions: none.
-/
import Derived.Test.YtailooldnelecaaDoorPart25

namespace Go.Proofs.YtailooldnelecaaDoor
open Go.RowKit

set_option maxRecDepth 100000 in
set_option maxHeartbeats 2000000 in
theorem new_any (lim : Int) (w : World) (h63 : -9223372036854775808 ≤ lim ∧ lim ≤ 9223372036854775807) : Calls Tryd.prog 7 #[.int .i64 lim] w fun e w' => ∃ h b p S, e = .returned (.pointer (some ⟨h, 0, none⟩)) ∧ HS S w' h b p [] 0 [] 0 (min (max lim 0) 1024).toNat ∧ Grew w w' ∧ ∀ k, S k → w.heap.size ≤ k := by
  have hmm := @run_makeMap Tryd.prog
  obtain ⟨n, hn⟩ : ∃ n : Nat, (min (max lim 0) 1024) = (n : Int) := ⟨(min (max lim 0) 1024).toNat, by omega⟩
  go_enter Tryd.func7, Tryd.ntmps7
  go_wp2
  go_ret
  have hb1 : Blk (((w.alloc (.map #[] 0)).alloc (.map #[] 0)).alloc (.cells #[.map (some w.heap.size), .map (some (w.heap.size + 1)), .int .i64 (n : Int)] 59)) (w.heap.size + 1 + 1) 59 #[.map (some w.heap.size), .map (some (w.heap.size + 1)), .int .i64 (n : Int)] := by
    have := Blk.new ((w.alloc (.map #[] 0)).alloc (.map #[] 0)) 59 #[.map (some w.heap.size), .map (some (w.heap.size + 1)), .int .i64 (n : Int)]
    simpa using this
  have hm1 : MapB (((w.alloc (.map #[] 0)).alloc (.map #[] 0)).alloc (.cells #[.map (some w.heap.size), .map (some (w.heap.size + 1)), .int .i64 (n : Int)] 59)) w.heap.size #[] 0 := MapB.grew (MapB.new w #[] 0) (((Chg.refl _ _).alloc _).alloc _)
  have hm2 : MapB (((w.alloc (.map #[] 0)).alloc (.map #[] 0)).alloc (.cells #[.map (some w.heap.size), .map (some (w.heap.size + 1)), .int .i64 (n : Int)] 59)) (w.heap.size + 1) #[] 0 := by
    have := MapB.grew (MapB.new (w.alloc (.map #[] 0)) #[] 0) ((Chg.refl _ _).alloc (.cells #[.map (some w.heap.size), .map (some (w.heap.size + 1)), .int .i64 (n : Int)] 59))
    simpa using this
  refine ⟨w.heap.size + 1 + 1, w.heap.size, w.heap.size + 1, fun k => w.heap.size ≤ k ∧ k < w.heap.size + 3, by simp, ⟨by rw [hn]; exact hb1, ⟨hm1, fun e he => (by cases he), List.Pairwise.nil, hm2, fun e he => (by cases he), List.Pairwise.nil, by omega, fun e he => (by cases he), ⟨by omega, by omega⟩, ⟨by omega, by omega⟩, fun k hk => ?_⟩, fun l s => ⟨fun ⟨q, hq, _⟩ => (by cases hq), fun ⟨q, hq, _⟩ => (by cases hq)⟩, fun e he => (by cases he), ⟨by omega, by omega⟩, by omega, Nat.zero_le _⟩, (((Chg.refl _ _).alloc _).alloc _).alloc _, fun k hk => hk.1⟩
  have := hb1.lt
  omega

def PartH (V L : List HEnt) : Prop := V.Nodup ∧ ∀ e ∈ V, e ∈ L
theorem hap_of {L : List HEnt} (h : L.Pairwise HAp) {a b : HEnt} (ha : a ∈ L) (hb : b ∈ L) (hne : a ≠ b) : HAp a b := by
  obtain ⟨i, hi⟩ := List.getElem?_of_mem ha
  obtain ⟨j, hj⟩ := List.getElem?_of_mem hb
  exact hap_at h hi hj fun e => by
    subst e
    rw [hi] at hj
    injection hj with hj
    exact hne hj
theorem PartH.len {V L : List HEnt} (h : PartH V L) : V.length ≤ L.length := subL_len V L h.1 h.2
where subL_len : ∀ (V E : List HEnt), V.Nodup → (∀ f ∈ V, f ∈ E) → V.length ≤ E.length
  | [], _, _, _ => Nat.zero_le _
  | a :: V, E, h, hs => by
    obtain ⟨h1, h2⟩ := List.nodup_cons.1 h
    obtain ⟨s, t, rfl⟩ := List.append_of_mem (hs a List.mem_cons_self)
    have := subL_len V (s ++ t) h2 (fun f hf => by
      have := hs f (List.mem_cons_of_mem _ hf)
      rcases List.mem_append.1 this with h3 | h3
      · exact List.mem_append_left _ h3
      · rcases List.mem_cons.1 h3 with rfl | h3
        · exact absurd hf h1
        · exact List.mem_append_right _ h3)
    simp at this ⊢
    omega
section
variable {S : Nat → Prop} {w : World} {b p cb cp : Nat} {L V : List HEnt} {PL : List PEnt} {r : Nat}
theorem TB.part (h : TB S w b p L cb PL cp) (hV : PartH V L) : PartM (V.map HEnt.ent) (L.map HEnt.ent) := by
  refine ⟨fun f hf => ?_, ?_⟩
  · obtain ⟨e, he, rfl⟩ := List.mem_map.1 hf
    exact List.mem_map.2 ⟨e, hV.2 e he, rfl⟩
  · refine List.pairwise_map.2 (hV.1.imp_of_mem fun {a b} ha hb hne e => ?_)
    exact (hap_of h.ap (hV.2 a ha) (hV.2 b hb) hne).born (congrArg MapEntry.born e)
theorem TB.ent_inj (h : TB S w b p L cb PL cp) {a c : HEnt} (ha : a ∈ L) (hc : c ∈ L) (e : a.ent = c.ent) : a = c := Classical.byContradiction fun hne =>
  (hap_of h.ap ha hc hne).born (congrArg MapEntry.born e)
/-- the next series, or none is left -/
theorem TB.next (h : TB S w b p L cb PL cp) (hi : ItM w r b cb (V.map HEnt.ent)) (hV : PartH V L) :
    (V.Perm L ∧ ∀ ty, (Instr.next (.pointer (some ⟨r, 0, none⟩)) false ty).run Tryd.prog w = .ok (.tuple #[.bool false]) w) ∨
    ∃ e ∈ L, PartH (V ++ [e]) L ∧ ∃ w1 : World, Chg (fun k => k = r) w w1 ∧ w1.heap.size = w.heap.size ∧ (∀ ty, (Instr.next (.pointer (some ⟨r, 0, none⟩)) false ty).run Tryd.prog w = .ok (.tuple #[.bool true, .string e.key, .pointer (some ⟨e.g, 0, none⟩)]) w1) ∧
      ItM w1 r b cb ((V ++ [e]).map HEnt.ent) ∧ (Instr.entry (.pointer (some ⟨r, 0, none⟩))).run Tryd.prog w1 = .ok (.tuple #[.string e.key, .pointer (some ⟨e.g, 0, none⟩)]) w1 := by
  rcases itm_next (P := Tryd.prog) h.mb h.bap hi (h.part hV) with ⟨h1, h2⟩ | ⟨f, hf, hfV, _, w1, hc, hs, hn, hi1, _, hen⟩
  · refine .inl ⟨(List.perm_ext_iff_of_nodup hV.1 (h.ap.imp fun h e => h.born (congrArg HEnt.born e))).2 fun e => ⟨hV.2 e, fun he => ?_⟩, h2⟩
    obtain ⟨x, hx, e1⟩ := List.mem_map.1 (h1.mem_iff.2 (List.mem_map.2 ⟨e, he, rfl⟩))
    exact h.ent_inj (hV.2 x hx) he e1 ▸ hx
  · obtain ⟨e, he, rfl⟩ := List.mem_map.1 hf
    have heV : e ∉ V := fun h1 => hfV (List.mem_map.2 ⟨e, h1, rfl⟩)
    refine .inr ⟨e, he, ⟨List.nodup_append.2 ⟨hV.1, by simp, fun a ha b hb e1 => ?_⟩, fun x hx => ?_⟩, w1, hc, hs, hn, by rw [List.map_append]; exact hi1, hen⟩
    · obtain rfl := List.mem_singleton.1 hb
      exact heV (e1 ▸ ha)
    · rcases List.mem_append.1 hx with hx | hx
      · exact hV.2 x hx
      · obtain rfl := List.mem_singleton.1 hx
        exact he
end
def totH (L : List HEnt) : Nat := (L.map fun e => e.m.pn).sum
theorem totH_snoc (L : List HEnt) (e : HEnt) : totH (L ++ [e]) = totH L + e.m.pn := by simp [totH]
theorem totH_perm {L V : List HEnt} (h : V.Perm L) : totH V = totH L := (h.map _).sum_nat
theorem totH_le {L : List HEnt} {B : Nat} (h : ∀ e ∈ L, e.m.pn ≤ B) : totH L ≤ B * L.length := by
  induction L with
  | nil => simp [totH]
  | cons e L ih =>
    have h1 := ih fun x hx => h x (List.mem_cons_of_mem _ hx)
    have h2 := h e List.mem_cons_self
    simp only [totH, List.map_cons, List.sum_cons, List.length_cons] at *
    rw [Nat.mul_succ]
    omega

set_option maxRecDepth 100000 in
set_option maxHeartbeats 4000000 in
theorem count_head {S : Nat → Prop} {h b p cb cp lim : Nat} {L : List HEnt} {PL : List PEnt} (w : World) (hH : HS S w h b p L cb PL cp lim) :
    Calls Tryd.prog 11 #[.pointer (some ⟨h, 0, none⟩)] w fun e w' => e = .returned (.tuple #[.int .i64 (L.length : Int), .int .i64 (totH L : Int)]) ∧ Grew w w' := by
  have hml := hH.ml
  have hlen := hH.len
  have c0 := hH.hd.cell 0
  have hrange := run_range_b (P := Tryd.prog) Tryd.underlying54 hH.tb.mb
  have hg1 : Grew w (w.alloc (.mapIter (some b) cb #[] cb)) := (Chg.refl _ w).alloc _
  have hHw := fun w' (g : Grew w w') => hH.grew g
  have hi0 : Hid (ItM (w.alloc (.mapIter (some b) cb #[] cb)) w.heap.size b cb ([].map HEnt.ent)) := itm_start
  have hB : ∀ e ∈ L, e.m.pn ≤ 2199023255553 := fun e he => (hH.tb.ok e he).pn
  replace hHw := Lib.hid hHw
  replace hB := Lib.hid hB
  clear hH
  go_enter Tryd.func11, Tryd.ntmps11
  go_wp2
  go_loopw [4] (fun v wr => ∃ V, v = .int .i64 (totH V : Int) ∧ PartH V L ∧ Grew w wr ∧ ItM wr w.heap.size b cb (V.map HEnt.ent)) (fun _ wr => match wr.heap[w.heap.size]? with | some (.mapIter _ _ seen _) => L.length - seen.size | _ => 0)
  case atStart => exact ⟨[], rfl, ⟨List.nodup_nil, fun e he => (by cases he)⟩, hg1, hi0.out⟩
  case round =>
    clear hi0 hg1 c0
    obtain ⟨V, rfl, hV, hg, hi⟩ := hrel
    have hm0 : (match wr.heap[w.heap.size]? with | some (.mapIter _ _ seen _) => L.length - seen.size | _ => 0) = L.length - V.length := by
      obtain ⟨c0, h1, _⟩ := hi
      unfold IterB at h1
      rw [h1]
      simp
    have hk := hHw.out wr hg
    rcases hk.tb.next hi hV with ⟨hpm, hnx⟩ | ⟨e, he, hV2, w1, hc1, hs1, hnx, hit, hen⟩
    · have c0 := hk.hd.cell 0
      have hlM := fun ty => run_lenM (P := Tryd.prog) (ty := ty) Tryd.underlying54 hk.tb.mb
      rw [totH_perm hpm]
      clear hm0
      go_wp2
      refine bodyPost_ret (v := .tuple #[.int .i64 (L.length : Int), .int .i64 (totH L : Int)]) ?_ rfl ⟨rfl, hg⟩
      simp [results, Tryd.results11, go_sem]
    · have hlt : V.length < L.length := by
        have := hV2.len
        simp at this
        omega
      have hgw : Grew w w1 := hg.step hc1 fun k hk e => by
        have e : k = w.heap.size := e
        omega
      have hoe := (hHw.out w1 hgw).tb.ok e he
      have c1 := hoe.blk.cell 1
      have hpn := hB.out e he
      have hle := totH_le (L := V) (B := 2199023255553) fun x hx => hB.out x (hV.2 x hx)
      have hq : totH V + e.m.pn = totH (V ++ [e]) := (totH_snoc V e).symm
      have hm1 : (match w1.heap[w.heap.size]? with | some (.mapIter _ _ seen _) => L.length - seen.size | _ => 0) = L.length - (V.length + 1) := by
        obtain ⟨c0, h1, _⟩ := hit
        unfold IterB at h1
        rw [h1]
        simp
      clear hk hc1 hs1 hoe
      go_wp2
      go_roundw
      case rel => exact ⟨V ++ [e], by rw [← hq]; go_num, hV2, hgw, hit⟩
      case measure =>
        rw [hm0, hm1]
        omega
end Go.Proofs.YtailooldnelecaaDoor
