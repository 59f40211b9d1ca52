/-
  Several texts in one:
  How far a head reaches in time; the keys of all its series. Conditions: none.
  (*Head).Select: the points of a stretch. Conditions: what narrow hands back.
  (*Head).Select without matchers: all series' points of a stretch. Conditions: none.
  A series cut at its head: what is cut off, what is left. Conditions: none.
-/
import Derived.Test.YtailooldnelecaaGreatDoorPart23
import Derived.Test.YtailooldnelecaaGreatDoorPart24

namespace Go.Proofs.YtailooldnelecaaGreatDoor
open Go.RowKit

def spanStep (a : Int × Int × Bool) (ps : List Ptn) : Int × Int × Bool :=
  let x := (ps.head?.map Prod.fst).getD 0
  let y := (ps.getLast?.map Prod.fst).getD 0
  (min (if a.2.2 then a.1 else x) x, max (if a.2.2 then a.2.1 else y) y, true)
def spanH (V : List HEnt) : Int × Int × Bool := V.foldl (fun a e => spanStep a e.s.pts) (0, 0, false)
theorem spanH_snoc (V : List HEnt) (e : HEnt) : spanH (V ++ [e]) = spanStep (spanH V) e.s.pts := by simp [spanH]

set_option maxRecDepth 100000 in
set_option maxHeartbeats 4000000 in
theorem narrow_nil {S : Nat → Prop} {h b p cb cp lim : Nat} {L : List HEnt} {PL : List PEnt} (w : World) (hH : HS S w h b p L cb PL cp lim) (hx : MaxL w) :
    Calls Tryz.prog 28 #[.pointer (some ⟨h, 0, none⟩), .slice none 0 0] w fun e w' => ∃ V B d, V.Perm L ∧ e = .returned (.slice B (kO [] V).length d) ∧ OE elTx w' w.heap.size 9 B (kO [] V).length d (kO [] V) ∧ Grew w w' := by
  have hC := asked_any none 0 0 [] w hH ⟨rfl, Rd.nil _ _⟩ (by omega) (fun x hx => by cases hx) hx
  clear hH hx
  go_enter Tryz.func28, Tryz.ntmps28
  go_wp2_with fail
  refine hC.mono ?_
  rintro e w' ⟨V, B, d, hp, rfl, ho, hg⟩
  go_wp2
  go_ret
  exact ⟨V, B, d, hp, by simp, ho, hg⟩

set_option maxRecDepth 100000 in
set_option maxHeartbeats 8000000 in
theorem span_any {S : Nat → Prop} {h b p cb cp lim : Nat} {L : List HEnt} {PL : List PEnt} (w : World) (hH : HS S w h b p L cb PL cp lim) :
    Calls Tryz.prog 24 #[.pointer (some ⟨h, 0, none⟩)] w fun e w' => ∃ V, V.Perm L ∧ e = .returned (.tuple #[.int .i64 (spanH V).1, .int .i64 (spanH V).2.1, .bool (spanH V).2.2]) ∧ Grew w w' := by
  have hml := hH.ml
  have hlen := hH.len
  have c0 := hH.hd.cell 0
  have hrange := run_range_b (P := Tryz.prog) Tryz.underlying42 hH.tb.mb
  have hg1 : Grew w (w.alloc (.mapIter (some b) cb #[] cb)) := (Chg.refl _ w).alloc _
  have hHw := fun w' (g : Grew w w') => hH.grew g
  have hi0 : Hid (ItM (w.alloc (.mapIter (some b) cb #[] cb)) w.heap.size b cb ([].map HEnt.ent)) := itm_start
  replace hHw := Lib.hid hHw
  clear hH
  go_enter Tryz.func24, Tryz.ntmps24
  go_wp2
  go_loopw [5, 6, 7] (fun x y z wr => ∃ V, x = .int .i64 (spanH V).1 ∧ y = .int .i64 (spanH V).2.1 ∧ z = .bool (spanH V).2.2 ∧ PartH V L ∧ Grew w wr ∧ ItM wr w.heap.size b cb (V.map HEnt.ent)) (fun _ _ _ wr => match wr.heap[w.heap.size]? with | some (.mapIter _ _ seen _) => L.length - seen.size | _ => 0)
  case atStart => exact ⟨[], rfl, rfl, rfl, ⟨List.nodup_nil, fun e he => (by cases he)⟩, hg1, hi0.out⟩
  case round =>
    clear hi0 hg1 c0 hrange
    obtain ⟨V, rfl, rfl, rfl, hV, hg, hi⟩ := hrel
    have hm0 : (match wr.heap[w.heap.size]? with | some (.mapIter _ _ seen _) => L.length - seen.size | _ => 0) = L.length - V.length := by
      obtain ⟨c0, h1, _⟩ := hi
      unfold IterB at h1
      rw [h1]
      simp
    have hk := hHw.out wr hg
    rcases hk.tb.next hi hV with ⟨hpm, hnx⟩ | ⟨e, he, hV2, w1, hc1, hs1, hnx, hit, hen⟩
    · have hfin : Hid (∀ v, v = Value.tuple #[.int .i64 (spanH V).1, .int .i64 (spanH V).2.1, .bool (spanH V).2.2] → ∃ V, V.Perm L ∧ Ending.returned v = .returned (.tuple #[.int .i64 (spanH V).1, .int .i64 (spanH V).2.1, .bool (spanH V).2.2]) ∧ Grew w wr) := fun v hv => ⟨V, hpm, by rw [hv], hg⟩
      clear hm0 hk hi hV hpm
      generalize spanH V = z at *
      obtain ⟨z1, z2, z3⟩ := z
      dsimp only at *
      go_wp2
      refine bodyPost_ret (v := .tuple #[.int .i64 z1, .int .i64 z2, .bool z3]) ?_ rfl (hfin.out _ rfl)
      simp [results, Tryz.results24, go_sem]
    · have hlt : V.length < L.length := by
        have := hV2.len
        simp at this
        omega
      have hgw : Grew w w1 := hg.step hc1 fun k hk e => by
        have e : k = w.heap.size := e
        omega
      have hq : spanH (V ++ [e]) = spanStep (spanH V) e.s.pts := spanH_snoc V e
      have hoe := (hHw.out w1 hgw).tb.ok e he
      have y1 := hoe.blk.cell 1
      obtain ⟨q, hq1, hq2⟩ := last_at hoe.non
      have hptl := hoe.pt.len (by decide)
      have hpc0 := OwT.cap hoe.pt
      have hpn : 0 < e.m.pn := by
        rw [← hptl]
        exact List.length_pos_iff.2 hoe.non
      have hpre := hoe.pt.re (by decide)
      obtain ⟨ad, f0, hpa, hf0, p0, p1⟩ := hpre.pt hpn
      have e0 : ad.add (0 * 2) = ad := by
        show ad.add 0 = ad
        unfold Addr.add
        simp
      rw [e0] at p0 p1
      rw [hptl] at hq2
      have hL := fun w' (g : Grew w1 w') => last_any e.g e.m.la e.m.pa e.m.ln e.m.lc e.m.pn e.m.pc e.s.pts q w' (hoe.blk.grew g) (hpre.grew g) hpn (by omega) hq2
      have hcs := cellsIn_cons hoe.blk.ex (cellsIn_cons (ex_cell p0) (cellsIn_nil w1))
      have hst : spanStep (spanH V) e.s.pts = (min (if (spanH V).2.2 then (spanH V).1 else f0.1) f0.1, max (if (spanH V).2.2 then (spanH V).2.1 else q.1) q.1, true) := by
        unfold spanStep
        rw [hq1, List.head?_eq_getElem?, hf0]
        rfl
      rw [hst] at hq
      have hm1 : ∀ w2 : World, ItM w2 w.heap.size b cb ((V ++ [e]).map HEnt.ent) → (match w2.heap[w.heap.size]? with | some (.mapIter _ _ seen _) => L.length - seen.size | _ => 0) < (match wr.heap[w.heap.size]? with | some (.mapIter _ _ seen _) => L.length - seen.size | _ => 0) := by
        rintro w2 ⟨c0, h1, _⟩
        unfold IterB at h1
        rw [h1, hm0]
        simp
        omega
      have hsm : ∀ w2, Grew w1 w2 → SameIn [e.g, ad.block] w1 w2 := fun w2 g => sameIn_of g hcs fun _ _ e => e
      have hff : ∀ w : World, (Instr.field 69 (.agg #[.int .i64 q.1, .int .u64 (q.2 : Int)]) 0).run Tryz.prog w = .ok (.int .i64 q.1) w := fun _ => by kernel_rfl
      rw [hpa] at y1
      replace hL := Lib.hid hL
      replace hsm := Lib.hid hsm
      replace hm1 := Lib.hid hm1
      replace hit := Lib.hid hit
      replace hV2 := Lib.hid hV2
      replace hq := Lib.hid hq
      clear hm0 hk hi hV hc1 hs1 hoe hq1 hq2 hptl hpc0 hpre hf0 hpa hst
      generalize spanH V = z at *
      obtain ⟨z1, z2, z3⟩ := z
      dsimp only at *
      go_wp2_with fail
      clear hnx hen
      refine wp_region_textS [(2, 1)] [e.g, ad.block] (by kernel_rfl) (by kernel_rfl) hcs ?_
      simp only [wpU, tagOf, chk, List.nil_append, List.cons_append]
      intro K hK
      go_wp2_with fail
      refine OnlyN.normal (hK _ _ (fun _ => ⟨_, _, _, rfl, rfl, by simp⟩) ?_)
      clear hK K
      intro K hK
      go_wp2_with fail
      refine OnlyN.normal (hK _ _ (fun _ => ⟨_, _, _, rfl, rfl, by simp⟩) ?_)
      clear hK K
      intro K hK
      go_wp2_with fail
      refine (hL.out _ (Chg.refl _ w1).drew).mono ?_
      rintro e3 w3 ⟨rfl, g3⟩
      have g13 : Grew w1 w3 := (Chg.refl _ w1).drew.trans g3
      go_wp2_with fail
      refine OnlyN.normal (hK _ _ (hsm.out _ g13) ?_)
      clear hK K
      go_wp2_with fail
      refine OnlyN.normal ?_
      have hgw3 := hgw.trans g13
      have hit3 : ItM w3 w.heap.size b cb ((V ++ [e]).map HEnt.ent) := hit.out.chg g13 fun e => e
      have hm3 := hm1.out w3 hit3
      clear hL hsm hm1 hcs y1 p0 p1 hff hit
      cases z3
      · go_wp2
        go_roundw
        case rel => exact ⟨V ++ [e], by rw [hq.out]; simp, by rw [hq.out]; simp, by rw [hq.out], hV2.out, hgw3, hit3⟩
        case measure => exact hm3
      · go_wp2
        go_roundw
        case rel => exact ⟨V ++ [e], by rw [hq.out]; rfl, by rw [hq.out]; rfl, by rw [hq.out], hV2.out, hgw3, hit3⟩
        case measure => exact hm3
end Go.Proofs.YtailooldnelecaaGreatDoor

namespace Go.Proofs.YtailooldnelecaaGreatDoor
open Go.RowKit

theorem RE.tx {w : World} {A : Option Addr} {n : Nat} {l : List ByteArray} (h : RE elTx w A n l) {k : Nat} (hk : k < n) : ∃ ad s, A = some ad ∧ l[k]? = some s ∧ w.cell? (ad.add k) = some (.string s) := by
  obtain ⟨ad, p, e, hp, hc⟩ := h.at_ hk (by decide)
  refine ⟨ad, p, e, hp, ?_⟩
  have := hc 0 _ rfl
  rwa [show k * elTx.sz + 0 = k from Nat.mul_one k] at this
def inR (a b : Int) (p : Ptn) : Bool := decide (a ≤ p.1) && decide (p.1 ≤ b)
def selE (a b : Int) (e : HEnt) : Option Ser := if (e.s.pts.filter (inR a b)).length = 0 then none else some ⟨e.s.lbs, e.s.pts.filter (inR a b)⟩
def selV (a b : Int) (V : List HEnt) : List Ser := V.filterMap (selE a b)
theorem selV_snoc (a b : Int) (V : List HEnt) (e : HEnt) : selV a b (V ++ [e]) = selV a b V ++ (selE a b e).toList := by
  unfold selV
  rw [List.filterMap_append]
  cases h : selE a b e <;> simp [h]
theorem selV_len (a b : Int) (V : List HEnt) : (selV a b V).length ≤ V.length := List.length_filterMap_le _ _

set_option maxRecDepth 100000 in
set_option maxHeartbeats 8000000 in
theorem select_any {S : Nat → Prop} {h b p cb cp lim : Nat} {L : List HEnt} {PL : List PEnt} (G : List HEnt → Prop) (A : Option Addr) (n c : Nat) (u0 u1 : Int) (w : World) (hH : HS S w h b p L cb PL cp lim)
    (hN : Calls Tryz.prog 28 #[.pointer (some ⟨h, 0, none⟩), .slice A n c] w fun e w' => ∃ V B d, G V ∧ (∀ e ∈ V, e ∈ L) ∧ V.length ≤ 1024 ∧ e = .returned (.slice B V.length d) ∧ OE elTx w' w.heap.size 9 B V.length d (V.map HEnt.key) ∧ Grew w w') :
    Calls Tryz.prog 8 #[.pointer (some ⟨h, 0, none⟩), .slice A n c, .int .i64 u0, .int .i64 u1] w fun e w' => ∃ B m d, e = .returned (.slice B m d) ∧ ∃ V ss, G V ∧ NS w' w.heap.size B m d ss ∧ ss.Perm (selV u0 u1 V) ∧ (ss.Pairwise fun a b => 0 ≤ cmpLs b.lbs a.lbs) ∧ Grew w w' := by
  have hHw := fun w' (g : Grew w w') => hH.grew g
  replace hHw := Lib.hid hHw
  clear hH
  go_enter Tryz.func8, Tryz.ntmps8
  go_wp2_with fail
  refine hN.mono ?_
  rintro e w1 ⟨V, B, d, hG, hV, hVl, rfl, hrow, g1⟩
  replace hV := Lib.hid hV
  replace hG := Lib.hid hG
  clear hN
  have hre := fun w' (g : Grew w1 w') => (hrow.grew g).re (by decide)
  replace hre := Lib.hid hre
  clear hrow
  go_wp2
  go_loopw [9, 22] (fun o i wr => ∃ (k m d : Nat) (D : Option Addr), k ≤ V.length ∧ i = .int .i64 (k : Int) ∧ o = .slice D m d ∧ NS wr w1.heap.size D m d (selV u0 u1 (V.take k)) ∧ Grew w1 wr) (fun _ i _ => V.length - (intOf i).toNat)
  case atStart => exact ⟨0, 0, 0, none, by omega, rfl, rfl, NS.nil _ _, Chg.refl _ _⟩
  case round =>
    obtain ⟨k, m, q, D, hk, rfl, rfl, hNS, hg⟩ := hrel
    have hg2 := g1.trans hg
    have hlen := hNS.len
    have hsl := selV_len u0 u1 (V.take k)
    rw [List.length_take, hlen] at hsl
    by_cases hlt : k < V.length
    · obtain ⟨ad, s, rfl, hs, x0⟩ := (hre.out wr hg).tx hlt
      obtain ⟨e, he, rfl⟩ : ∃ e, V[k]? = some e ∧ e.key = s := by
        rw [List.getElem?_map] at hs
        cases hv : V[k]? with
        | none => rw [hv] at hs; cases hs
        | some e => rw [hv] at hs; injection hs with hs; exact ⟨e, rfl, hs⟩
      have heL := hV.out e (List.mem_of_getElem? he)
      have htk := take_sn he
      have hkk := hHw.out wr hg2
      have hoe := hkk.tb.ok e heL
      have h0 := hkk.hd.cell 0
      have hl1 := hkk.tb.askS heL
      have y1 := hoe.blk.cell 1
      have hpn := hoe.pn
      have hpts := fun w' (g : Grew wr w') => (hoe.pt.grew g).re (by decide)
      have hlbs := fun w' (g : Grew wr w') => (hoe.lb.grew g).re (by decide)
      have hblk := fun w' (g : Grew wr w') => hoe.blk.grew g
      have hpl := hoe.pt.len (by decide)
      have hll := hoe.lb.len (by decide)
      have hl16 := (chkL_sizes hoe.chk).1
      rw [hll] at hl16
      have hpc := OwT.cap hoe.pt
      have hlc := OwT.cap hoe.lb
      have hsn := selV_snoc u0 u1 (V.take k) e
      rw [← htk] at hsn
      replace hpts := Lib.hid hpts
      replace hlbs := Lib.hid hlbs
      replace hblk := Lib.hid hblk
      replace hsn := Lib.hid hsn
      replace hpl := Lib.hid hpl
      replace hNS := Lib.hid hNS
      clear hoe hkk htk he heL hs hll hlen
      go_wp2
      generalize wr = wo at *
      go_loopw [13, 38] (fun o i wr => ∃ (j r d : Nat) (P : Option Addr), j ≤ e.m.pn ∧ i = .int .i64 (j : Int) ∧ o = .slice P r d ∧ r ≤ j ∧ OE elPt wr wo.heap.size 69 P r d ((e.s.pts.take j).filter (inR u0 u1)) ∧ Grew wo wr) (fun _ i _ => e.m.pn - (intOf i).toNat)
      case atStart => exact ⟨0, 0, 0, none, by omega, rfl, rfl, by omega, OE.nil _ _ _, Chg.refl _ _⟩
      case round =>
        clear hl1 y1 h0 x0
        obtain ⟨j, r, z, P, hj, rfl, rfl, hr, ho, hgq⟩ := hrel
        by_cases hlt2 : j < e.m.pn
        · obtain ⟨bd, x, hpa, hx, p0, p1⟩ := (hpts.out _ hgq).pt hlt2
          rw [hpa]
          have htk2 := take_sn hx
          have hsz := hgq.size
          obtain ⟨W, hW⟩ : ∃ W, W = wr.alloc (.cells #[.int .i64 x.1, .int .u64 (x.2 : Int)] 69) := ⟨_, rfl⟩
          have hgW : Grew wr W := by rw [hW]; exact (Chg.refl _ wr).alloc _
          have hbx : Blk W wr.heap.size 69 #[.int .i64 x.1, .int .u64 (x.2 : Int)] := by rw [hW]; exact Blk.new wr _ _
          have b0 := hbx.cell 0
          have b1 := hbx.cell 1
          have ho1 := ho.grew hgW
          have hgq2 := hgq.trans hgW
          by_cases h1 : u0 ≤ x.1
          · have e1 : decide (u0 ≤ x.1) = true := decide_eq_true h1
            by_cases h2 : x.1 ≤ u1
            · have e2 : decide (x.1 ≤ u1) = true := decide_eq_true h2
              have hin : (e.s.pts.take (j + 1)).filter (inR u0 u1) = (e.s.pts.take j).filter (inR u0 u1) ++ [x] := by
                rw [htk2, List.filter_append]
                simp [inR, h1, h2]
              replace hin := Lib.hid hin
              clear hx htk2 hpa h1 h2
              subst hW
              have hsz2 := hgq2.size
              have hsrc : RE elPt ((wr.alloc (.cells #[.int .i64 x.1, .int .u64 (x.2 : Int)] 69)).alloc (.cells #[.int .i64 x.1, .int .u64 (x.2 : Int)] 69)) (some ⟨wr.heap.size + 1, 0, none⟩) 1 [x] := RE.newAt (by simp) rfl rfl
              have ho2 : OE elPt ((wr.alloc (.cells #[.int .i64 x.1, .int .u64 (x.2 : Int)] 69)).alloc (.cells #[.int .i64 x.1, .int .u64 (x.2 : Int)] 69)) wo.heap.size 69 P r z ((e.s.pts.take j).filter (inR u0 u1)) := ho1.grew ((Chg.refl _ _).alloc _)
              go_wp2_with (at_builtin; refine wpList_appE rfl _ _ 59 69 infoPt rfl Tryz.underlying59 rfl wo.heap.size P r z ((e.s.pts.take j).filter (inR u0 u1)) rfl ho2 (by simp; omega) _ 1 1 [x] rfl hsrc (by unfold maxLen; omega) (by omega) ?_; intro P2 z2 w2 h3)
              have hg3 : Grew wo w2 := h3.grew (hgq2.alloc _) (fun ad e => (Own.blk_lt ho2 ad e).1)
              have ho3 := h3.oe
              clear h3 hsrc ho2
              go_roundw
              case rel => exact ⟨j + 1, r + 1, z2, P2, by omega, by go_num, rfl, by omega, by rw [hin.out]; exact ho3, hg3⟩
              case measure => simp [intOf] <;> omega
            · have e2 : decide (x.1 ≤ u1) = false := decide_eq_false h2
              have hin : (e.s.pts.take (j + 1)).filter (inR u0 u1) = (e.s.pts.take j).filter (inR u0 u1) := by
                rw [htk2, List.filter_append]
                simp [inR, h2]
              replace hin := Lib.hid hin
              clear hx htk2 hpa h1 h2
              go_wp2_with fail
              rw [← hW]
              clear hW p0 p1
              go_wp2
              go_roundw
              case rel => exact ⟨j + 1, r, z, P, by omega, by go_num, rfl, by omega, by rw [hin.out]; exact ho1, hgq2⟩
              case measure => simp [intOf] <;> omega
          · have e1 : decide (u0 ≤ x.1) = false := decide_eq_false h1
            have hin : (e.s.pts.take (j + 1)).filter (inR u0 u1) = (e.s.pts.take j).filter (inR u0 u1) := by
              rw [htk2, List.filter_append]
              simp [inR, h1]
            replace hin := Lib.hid hin
            clear hx htk2 hpa h1
            go_wp2_with fail
            rw [← hW]
            clear hW p0 p1
            go_wp2
            go_roundw
            case rel => exact ⟨j + 1, r, z, P, by omega, by go_num, rfl, by omega, by rw [hin.out]; exact ho1, hgq2⟩
            case measure => simp [intOf] <;> omega
        · obtain rfl : j = e.m.pn := by omega
          rw [List.take_of_length_le (by rw [hpl.out]; exact Nat.le_refl _)] at ho
          have hrl := ho.len (by decide)
          have hgg := hg.trans hgq
          have hszo := hg.size
          have hszq := hgq.size
          by_cases hr0 : r = 0
          · subst hr0
            have hsel : selV u0 u1 (V.take (k + 1)) = selV u0 u1 (V.take k) := by
              rw [hsn.out]
              unfold selE
              rw [if_pos hrl]
              simp
            have hNS2 := hNS.out.grew hgq
            rw [← hsel] at hNS2
            clear hNS hsn ho
            go_wp2
            go_roundw
            case rel => exact ⟨k + 1, m, q, D, by omega, by go_num, rfl, hNS2, hgg⟩
            case measure => simp [intOf] <;> omega
          · have e1 : decide ((0 : Int) < (r : Int)) = true := decide_eq_true (by omega)
            have hsel : selV u0 u1 (V.take (k + 1)) = selV u0 u1 (V.take k) ++ [⟨e.s.lbs, e.s.pts.filter (inR u0 u1)⟩] := by
              rw [hsn.out]
              unfold selE
              rw [if_neg (by rw [hrl]; exact hr0)]
              rfl
            have gX : Grew wr (wr.alloc (.cells #[] 72)) := (Chg.refl _ wr).alloc _
            have y0 := (hblk.out _ hgq).cell 0
            have y2 := (hblk.out _ (hgq.trans gX)).cell 0
            have oL : OE elLb (wr.alloc (.cells #[] 72)) wr.heap.size 72 (some ⟨wr.heap.size, 0, none⟩) 0 0 [] := OE.made wr wr.heap.size 72 (Nat.le_refl _)
            have rL := hlbs.out _ (hgq.trans gX)
            go_wp2_with (at_builtin; first | (refine wpList_appE rfl _ _ 28 72 infoLab rfl Tryz.underlying28 rfl wr.heap.size (some ⟨wr.heap.size, 0, none⟩) 0 0 [] rfl oL (gX.size) e.m.la e.m.ln e.m.lc e.s.lbs rfl rL (by unfold maxLen; omega) (by omega) ?_; intro A2 c2 w2 h2; have g2 : Grew wr w2 := h2.grew gX (fun ad e => (Own.blk_lt oL ad e).1); obtain ⟨ms, ho4⟩ := (hNS.out.grew (hgq.trans g2)).op; have hE5 : OE elSr (w2.alloc (.cells #[.slice A2 e.m.ln c2, .slice P r z] 61)) w1.heap.size 61 D m q ms := ho4.row.grew ((Chg.refl _ w2).alloc _); have hsrc : RE elSr (w2.alloc (.cells #[.slice A2 e.m.ln c2, .slice P r z] 61)) (some ⟨w2.heap.size, 0, none⟩) 1 [⟨A2, e.m.ln, c2, P, r, z⟩] := RE.newAt rfl rfl rfl; have hs2 := g2.size) | (refine wpList_appE rfl _ _ 36 61 infoSr rfl Tryz.underlying36 rfl w1.heap.size D m q ms rfl hE5 (by simp; omega) _ 1 1 [⟨A2, e.m.ln, c2, P, r, z⟩] rfl hsrc (by unfold maxLen; omega) (by omega) ?_; intro D2 e2 w5 h5))
            have hlb2 := h2.oe
            simp only [Nat.zero_add, List.nil_append] at hlb2
            have hNE : NsE w2 w1.heap.size ⟨A2, e.m.ln, c2, P, r, z⟩ ⟨e.s.lbs, e.s.pts.filter (inR u0 u1)⟩ := ⟨Own.mono hlb2 (by omega), Own.mono (ho.grew g2) (by omega)⟩
            have hNS3 := (ho4.grew ((Chg.refl _ w2).alloc (.cells #[.slice A2 e.m.ln c2, .slice P r z] 61))).app (hNE.grew ((Chg.refl _ w2).alloc _)) h5
            have hg5 : Grew w1 w5 := h5.grew ((hgg.trans g2).alloc _) (fun ad e => (Own.blk_lt ho4.row ad e).1)
            rw [← hsel] at hNS3
            clear ho4 hE5 hsrc h5 hNE h2 oL rL hNS hsn ho
            go_roundw
            case rel => exact ⟨k + 1, m + 1, e2, D2, by omega, by go_num, rfl, hNS3, hg5⟩
            case measure => simp [intOf] <;> omega
    · obtain rfl : k = V.length := by omega
      rw [List.take_length] at hNS
      go_wp2_with fail
      refine (sorted_ns hNS (by omega)).mono ?_
      rintro e w3 ⟨rfl, ss, hp, hs, hN2, hc⟩
      go_wp2
      go_ret
      refine ⟨D, m, q, by simp, V, ss, hG.out, hN2.mono g1.size, hp, hs, hg2.step hc fun k hk e => ?_⟩
      have := g1.size
      omega
end Go.Proofs.YtailooldnelecaaGreatDoor

namespace Go.Proofs.YtailooldnelecaaGreatDoor
open Go.RowKit

theorem kO_nil (V : List HEnt) : kO [] V = V.map HEnt.key := by
  unfold kO
  rw [show (V.filter fun e => saysB [] e.s.lbs) = V from List.filter_eq_self.2 fun e _ => rfl]
def selS (a b : Int) (ss : List Ser) : List Ser := ss.filterMap fun s => if (s.pts.filter (inR a b)).length = 0 then none else some ⟨s.lbs, s.pts.filter (inR a b)⟩
theorem selV_eq (a b : Int) (V : List HEnt) : selV a b V = selS a b (V.map HEnt.s) := by
  unfold selV selS
  rw [List.filterMap_map]
  rfl
theorem select_nil {S : Nat → Prop} {h b p cb cp lim : Nat} {L : List HEnt} {PL : List PEnt} (u0 u1 : Int) (w : World) (hH : HS S w h b p L cb PL cp lim) (hx : MaxL w) :
    Calls Tryz.prog 8 #[.pointer (some ⟨h, 0, none⟩), .slice none 0 0, .int .i64 u0, .int .i64 u1] w fun e w' => ∃ B m d, e = .returned (.slice B m d) ∧ ∃ ss, NS w' w.heap.size B m d ss ∧ ss.Perm (selS u0 u1 (L.map HEnt.s)) ∧ (ss.Pairwise fun a b => 0 ≤ cmpLs b.lbs a.lbs) ∧ Grew w w' := by
  have hml := hH.ml
  have hlen := hH.len
  refine (select_any (fun V => V.Perm L) none 0 0 u0 u1 w hH ((narrow_nil w hH hx).mono ?_)).mono ?_
  · rintro e w' ⟨V, B, d, hp, rfl, ho, hg⟩
    rw [kO_nil, List.length_map] at *
    exact ⟨V, B, d, hp, fun e he => hp.mem_iff.1 he, by rw [hp.length_eq]; omega, rfl, ho, hg⟩
  · rintro e w' ⟨B, m, d, he, V, ss, hp, hN, hs, hw, hg⟩
    refine ⟨B, m, d, he, ss, hN, hs.trans ?_, hw, hg⟩
    rw [selV_eq]
    exact (hp.map _).filterMap _
end Go.Proofs.YtailooldnelecaaGreatDoor

namespace Go.Proofs.YtailooldnelecaaGreatDoor
open Go.RowKit

/-- how many points stand ahead of a moment -/
def cutN (t : Int) (ps : List Ptn) : Nat := (ps.takeWhile fun p => decide (p.1 < t)).length
def cutOff (t : Int) (s : Ser) : Option Ser := if cutN t s.pts = 0 then none else some ⟨s.lbs, s.pts.take (cutN t s.pts)⟩
def cutLeft (t : Int) (s : Ser) : Option Ser := if cutN t s.pts = s.pts.length then none else some ⟨s.lbs, s.pts.drop (cutN t s.pts)⟩
theorem cutN_le (t : Int) (ps : List Ptn) : cutN t ps ≤ ps.length := List.IsPrefix.length_le (List.takeWhile_prefix _)
/-- the count goes on while the point there is ahead -/
theorem cutN_at {t : Int} : ∀ {ps : List Ptn} {n : Nat}, n ≤ cutN t ps → (∀ p, ps[n]? = some p → ¬ p.1 < t) → cutN t ps = n
  | [], n, h, _ => by
    have : cutN t [] = 0 := rfl
    omega
  | p :: r, 0, _, hp => by
    have := hp p rfl
    unfold cutN
    rw [List.takeWhile_cons, if_neg (by simpa using this)]
    rfl
  | p :: r, n + 1, h, hp => by
    unfold cutN at *
    rw [List.takeWhile_cons] at *
    by_cases hpt : p.1 < t
    · rw [if_pos (by simpa using hpt)] at *
      rw [List.length_cons] at *
      have := cutN_at (t := t) (ps := r) (n := n) (by unfold cutN; omega) (fun q hq => hp q (by simpa using hq))
      unfold cutN at this
      omega
    · rw [if_neg (by simpa using hpt)] at h
      simp at h
theorem cutN_go {t : Int} : ∀ {ps : List Ptn} {n : Nat} {p : Ptn}, n ≤ cutN t ps → ps[n]? = some p → p.1 < t → n + 1 ≤ cutN t ps
  | [], n, p, _, h, _ => by cases h
  | q :: r, 0, p, _, h, hp => by
    obtain rfl : q = p := by simpa using h
    unfold cutN
    rw [List.takeWhile_cons, if_pos (by simpa using hp), List.length_cons]
    omega
  | q :: r, n + 1, p, h, hx, hp => by
    unfold cutN at *
    rw [List.takeWhile_cons] at *
    by_cases hpt : q.1 < t
    · rw [if_pos (by simpa using hpt)] at *
      rw [List.length_cons] at *
      have := cutN_go (t := t) (ps := r) (n := n) (p := p) (by unfold cutN; omega) (by simpa using hx) hp
      unfold cutN at this
      omega
    · rw [if_neg (by simpa using hpt)] at h
      simp at h
def HEnt.cut (e : HEnt) (ad : Addr) (n : Nat) : HEnt := { e with m := { e.m with pa := some ⟨ad.block, ad.off + n * 2, none⟩, pn := e.m.pn - n, pc := e.m.pc - n }, s := { e.s with pts := e.s.pts.drop n } }
theorem HEnt.Ok.cut {S : Nat → Prop} {w W : World} {clock : Nat} {e : HEnt} {ad : Addr} {n : Nat} (h : e.Ok S w clock) (hp : e.m.pa = some ad) (hn : n < e.m.pn) (hc : Chg (fun k => k = e.g) w W)
    (hb : Blk W e.g 67 #[.slice e.m.la e.m.ln e.m.lc, .slice (some ⟨ad.block, ad.off + n * 2, none⟩) (e.m.pn - n) (e.m.pc - n)]) : (e.cut ad n).Ok S W clock := by
  have hcap := OwT.cap h.pt
  have hlen := h.pt.len (by decide)
  have hpt := h.pt
  rw [hp] at hpt
  have hcut := hpt.cut (k := n) (by omega) (by omega)
  have hne : ∀ x, e.m.pa = some x → ¬ x.block = e.g := fun x hx e1 => by
    obtain ⟨c, hc⟩ := h.pt.blk x hx
    exact (h.blk.neT hc (by decide)) e1.symm
  refine ⟨hb, h.lb.chg hc (fun x hx e1 => ?_), hcut.chg hc (fun x hx e1 => ?_), h.og, h.ol, fun x hx => ?_, h.key, h.chk, h.ris.drop, fun e1 => ?_, fun p hp => h.bnd p (List.mem_of_mem_drop hp), h.born⟩
  · obtain ⟨c, hc⟩ := h.lb.blk x hx
    exact (h.blk.neT hc (by decide)) e1.symm
  · injection hx with hx
    subst hx
    exact hne ad hp e1
  · injection hx with hx
    subst hx
    exact h.op ad hp
  · have := congrArg List.length e1
    simp only [HEnt.cut, List.length_drop, List.length_nil] at this
    omega
theorem fm_same {α β : Type} {f g : α → Option β} : ∀ {l : List α}, (∀ x ∈ l, f x = g x) → l.filterMap f = l.filterMap g
  | [], _ => rfl
  | x :: l, h => by
    rw [List.filterMap_cons, List.filterMap_cons, h x List.mem_cons_self, fm_same fun y hy => h y (List.mem_cons_of_mem _ hy)]
def cutSS (t : Int) (done : List (List Lab)) (ss : List Ser) : List Ser := ss.filterMap fun (s : Ser) => if (done.any fun l => decide (l = s.lbs)) = true then cutLeft t s else some s
theorem cutSS_nil (t : Int) (ss : List Ser) : cutSS t [] ss = ss := by
  unfold cutSS
  simp
theorem cutLeft_lbs {t : Int} {s s' : Ser} (h : cutLeft t s = some s') : s'.lbs = s.lbs := by
  unfold cutLeft at h
  split at h
  · cases h
  · injection h with h
    rw [← h]
/-- one more series cut -/
theorem cutSS_snoc (t : Int) (done : List (List Lab)) (l : List Lab) (ss : List Ser) (hl : l ∉ done) : cutSS t (done ++ [l]) ss = (cutSS t done ss).filterMap fun s => if s.lbs = l then cutLeft t s else some s := by
  unfold cutSS
  rw [List.filterMap_filterMap]
  refine fm_same fun s _ => ?_
  rw [List.any_append]
  by_cases h1 : (done.any fun x => decide (x = s.lbs)) = true
  · rw [if_pos h1, if_pos (by rw [h1]; rfl)]
    cases h2 : cutLeft t s with
    | none => rfl
    | some s' =>
      have h3 := cutLeft_lbs h2
      have h4 : s'.lbs ≠ l := fun e => by
        obtain ⟨x, hx, e1⟩ := List.any_eq_true.1 h1
        have e1 : x = s.lbs := by simpa using e1
        exact hl (by rw [← e, h3, ← e1]; exact hx)
      show some s' = if s'.lbs = l then cutLeft t s' else some s'
      rw [if_neg h4]
  · have h1 : (done.any fun x => decide (x = s.lbs)) = false := Bool.eq_false_iff.2 h1
    rw [h1]
    by_cases h2 : s.lbs = l
    · rw [if_pos (by simp [h2])]
      show cutLeft t s = if s.lbs = l then cutLeft t s else some s
      rw [if_pos h2]
    · rw [if_neg (by simp [Ne.symm h2]), if_neg (by simp)]
      show some s = if s.lbs = l then cutLeft t s else some s
      rw [if_neg h2]
end Go.Proofs.YtailooldnelecaaGreatDoor
