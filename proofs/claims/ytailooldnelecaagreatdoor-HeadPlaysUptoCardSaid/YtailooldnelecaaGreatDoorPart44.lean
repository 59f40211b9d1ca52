/-
  Several texts in one:
  The document's Add: a new series. Conditions: lengths that memory bears.
  A head's list and the document's: what stays between them, call by call. Conditions: none; no program in sight.
  The document's Add, whole; a head beside the document's: what holds between two calls. Conditions: lengths that memory bears.
  Labels lent, and looked at again. Conditions: lengths that memory bears.
  One call of a head and of the document's: both answer alike. Conditions: lengths that memory bears; the longest text that the library takes is as it is set.
  The law HeadPlays, walked. Conditions: lengths that memory bears; the longest text that the library takes is as it is set.
-/
import Derived.Test.YtailooldnelecaaGreatDoorPart42
import Derived.Test.YtailooldnelecaaGreatDoorPart40
import Derived.Deep.CutRange
import Derived.Test.YtailooldnelecaaGreatDoorPart43
import Derived.Test.YtailooldnelecaaGreatDoorPart35
import Derived.Test.YtailooldnelecaaGreatDoorPart30

namespace Go.Proofs.YtailooldnelecaaGreatDoor
open Go.RowKit

theorem lit_pt {w : World} {base : Nat} (hb : base ≤ w.heap.size) (T : Int) (V : Nat) : OE elPt (w.alloc (.cells #[.int .i64 T, .int .u64 (V : Int)] 69)) base 69 (some ⟨w.heap.size, 0, none⟩) 1 1 [(T, V)] := Own.lit w base 69 2 1 #[.int .i64 T, .int .u64 (V : Int)] hb (by decide) rfl

set_option maxRecDepth 100000 in
set_option maxHeartbeats 16000000 in
theorem add8_new {R : Nat → Prop} {wb lim : Nat} {W : List Ser} (la : Option Addr) (ln lc : Nat) (lbs : List Lab) (T : Int) (V : Nat) (w : World) (hD : RD R w wb lim W) (hso : SortS W) (hne : ∀ s ∈ W, s.pts ≠ []) (hlen : W.length ≤ 1024) (hl : RE elLb w la ln lbs) (hlc : ln ≤ lc ∧ lc ≤ 9223372036854775807) (hf : fateS lim W lbs T V = 1) (hh : hasS W lbs = false) :
    Calls Tryz.prog 12 #[.pointer (some ⟨wb, 0, none⟩), .agg #[.slice la ln lc, .int .i64 T, .int .u64 (V : Int)]] w fun e w' => e = .returned (.int .i64 1) ∧ AddR R w wb lim (insS W lbs (T, V)) w' := by
  obtain ⟨X, hX⟩ : ∃ X, X = w.alloc (.cells #[.slice la ln lc, .int .i64 T, .int .u64 (V : Int)] 31) := ⟨_, rfl⟩
  have hgX : Grew w X := by rw [hX]; exact (Chg.refl _ w).alloc _
  have hbx : Blk X w.heap.size 31 #[.slice la ln lc, .int .i64 T, .int .u64 (V : Int)] := by rw [hX]; exact Blk.new w _ _
  have x0 := hbx.cell 0
  have x1 := hbx.cell 1
  have x2 := hbx.cell 2
  have hF := fate8_any la ln lc lbs T V X (hD.grew hgX) hso hne (hl.grew hgX) hlc
  rw [hf] at hF
  have hln : ln ≤ 16 := by
    have h1 := (chkL_sizes (fateS_form hf).1).1
    have h2 := hl.1
    omega
  have hFi := Lib.hid fun w' (hg : Grew w w') => find8_any la ln lc lbs (hD.grew hg) (hl.grew hg) (by omega)
  have hple := posS_le W lbs
  obtain ⟨A, n, c, ms, hR⟩ := hD
  have hwl := hR.ln
  have hins : insS W lbs (T, V) = W.take (posS W lbs) ++ ⟨lbs, [(T, V)]⟩ :: W.drop (posS W lbs) := by
    unfold insS
    rw [if_neg (by rw [hh]; simp)]
  rw [hins]
  rw [hh] at hFi
  have hRg := Lib.hid fun w' (g' : Grew w w') => hR.grew g'
  have hcap := hR.row.cap
  have hlg := Lib.hid fun w' (g' : Grew w w') => hl.grew g'
  replace hbx := Lib.hid hbx
  clear hf hso hne hh hl hins hR
  generalize posS W lbs = p at *
  go_enter Tryz.func12, Tryz.ntmps12
  go_wp2_with fail
  rw [← hX]
  clear hX
  refine hF.mono ?_
  rintro e w1 ⟨rfl, g1⟩
  have g01 := hgX.trans g1
  have hxl := (hbx.out.grew g1).lt
  have y0 := Chg.cell g1 x0 (fun e => e)
  have y1 := Chg.cell g1 x1 (fun e => e)
  have y2 := Chg.cell g1 x2 (fun e => e)
  obtain ⟨Y, hY⟩ : ∃ Y, Y = w1.alloc (.cells #[.int .i64 T, .int .u64 (V : Int)] 69) := ⟨_, rfl⟩
  have gY : Grew w1 Y := by rw [hY]; exact (Chg.refl _ w1).alloc _
  have hbp : Blk Y w1.heap.size 69 #[.int .i64 T, .int .u64 (V : Int)] := by rw [hY]; exact Blk.new w1 _ _
  have g0Y := g01.trans gY
  have v0 := Chg.cell gY y0 (fun e => e)
  clear hF x0 x1 x2
  go_wp2_with fail
  rw [← hY]
  clear hY y0 y1 y2
  refine (hFi.out _ g0Y).mono ?_
  rintro e w2 ⟨rfl, g2⟩
  have g02 := g0Y.trans g2
  have hbp2 := hbp.grew g2
  have hbx2 := hbx.out.grew (g1.trans (gY.trans g2))
  have hrL := Lib.hid fun w' (g : Grew w2 w') => hlg.out _ (g02.trans g)
  have hpbz := g01.size
  have hz2 := g02.size
  have hpb2 := hbp2.lt
  have hxb2 := hbx2.lt
  clear hFi v0 g1 g01 gY hbp g0Y g2
  generalize w1.heap.size = pb at *
  generalize w.heap.size = xs at *
  have hcs : CellsIn [xs, pb] w2 := cellsIn_cons hbx2.ex (cellsIn_cons hbp2.ex (cellsIn_nil w2))
  have hsm := Lib.hid fun (Y : World) (g : Grew w2 Y) => sameIn_of g hcs fun _ _ e => e
  go_upto_region 9 with fail
  go_cut [9] from 11 (fun v wx => ∃ (xb : Nat) (A2 : Option Addr) (c2 : Nat) (A4 : Option Addr) (c4 : Nat), v = .pointer (some ⟨xb, 0, none⟩) ∧ Blk wx xb 61 #[.slice A2 ln c2, .slice A4 1 c4] ∧ NsE wx w2.heap.size ⟨A2, ln, c2, A4, 1, c4⟩ ⟨lbs, [(T, V)]⟩ ∧ Grew w2 wx)
  case first =>
    refine wp_region_textsDL [(3, 1)] [xs, pb] [[0, 1, 2, 3, 4, 5, 7, 6, 8], [0, 1, 2, 3, 7, 4, 5, 6, 8], [0, 4, 5, 1, 2, 3, 7, 6, 8], [0, 4, 5, 7, 1, 2, 3, 6, 8], [0, 7, 1, 2, 3, 4, 5, 6, 8], [0, 7, 4, 5, 1, 2, 3, 6, 8], [4, 5, 0, 1, 2, 3, 7, 6, 8], [4, 5, 0, 7, 1, 2, 3, 6, 8], [4, 5, 7, 0, 1, 2, 3, 6, 8], [7, 0, 1, 2, 3, 4, 5, 6, 8], [7, 0, 4, 5, 1, 2, 3, 6, 8], [7, 4, 5, 0, 1, 2, 3, 6, 8]] (by kernel_rfl) (by kernel_rfl) hcs ?_
    intro o ho
    simp only [List.mem_cons, List.not_mem_nil, or_false] at ho
    rcases ho with rfl | rfl | rfl | rfl | rfl | rfl | rfl | rfl | rfl | rfl | rfl | rfl
    all_goals
      simp only [opsOf, List.filterMap_cons, List.filterMap_nil, List.getElem?_toArray, List.getElem?_cons_zero, List.getElem?_cons_succ]
      simp only [wpUL, tagOf, chk, List.cons_append, List.nil_append]
    · have g0 : Grew w2 w2.drew := (Chg.refl _ w2).drew
      have q0 := hbx2.cell 0
      have r0 := hbp2.cell 0
      have r1 := hbp2.cell 1
      have k1 : Grew w2 ((w2.drew).alloc (.cells #[] 72)) := g0.alloc _
      have oL : OE elLb ((w2.drew).alloc (.cells #[] 72)) w2.heap.size 72 (some ⟨w2.heap.size, 0, none⟩) 0 0 [] := by
        have := OE.made (E := elLb) (w2.drew) w2.heap.size 72 g0.size
        first | exact this | simpa using this | (simpa only [World.size_alloc] using this)
      intro K hK
      go_wp2_with fail
      refine OnlyN.normal (hK _ _ (hsm.out _ k1) ?_)
      clear hK K
      have qc := (hbx2.grew k1).cell 0
      have qd : (((w2).alloc (.cells #[] 72)).drew).cell? ⟨xs, 0, none⟩ = some (.slice la ln lc) := qc
      intro K hK
      go_wp2_with fail
      refine OnlyN.normal (hK _ _ (fun _ => ⟨_, _, _, rfl, rfl, by simp⟩) ?_)
      clear hK K
      intro K hK
      go_wp2_with (at_builtin; refine wpList_appE rfl _ _ 28 72 infoLab rfl Tryz.underlying28 rfl w2.heap.size (some ⟨w2.heap.size, 0, none⟩) 0 0 [] rfl oL k1.size la ln lc lbs rfl (hrL.out _ k1) (by unfold maxLen; omega) (by omega) ?_; intro A2 c2 w3 h2)
      have g3 : Grew w2 w3 := h2.grew k1 (fun ad e => by
        injection e with e
        subst e
        show w2.heap.size ≤ w2.heap.size
        omega)
      have oA := h2.first
      have oA3 := oA
      have s0 := (hbp2.grew g3).cell 0
      have s1 := (hbp2.grew g3).cell 1
      have slt := (hbp2.grew g3).lt
      refine OnlyN.normal (hK _ _ (hsm.out _ g3) ?_)
      clear hK K oL h2
      have k2 : Grew w2 ((w3).alloc (.cells #[.int .i64 T, .int .u64 (V : Int)] 69)) := g3.alloc _
      replace oA := oA.grew (show Grew (w3) ((w3).alloc (.cells #[.int .i64 T, .int .u64 (V : Int)] 69)) from (Chg.refl _ _).alloc _)
      have rc0 := (hbp2.grew g3).cell 0
      have rc1 := (hbp2.grew g3).cell 1
      intro K hK
      go_wp2_with fail
      refine OnlyN.normal (hK _ _ (fun _ => ⟨_, _, _, rfl, rfl, by simp⟩) ?_)
      clear hK K
      have oP : OE elPt ((w3).alloc (.cells #[.int .i64 T, .int .u64 (V : Int)] 69)) w2.heap.size 69 (some ⟨w3.heap.size, 0, none⟩) 1 1 [(T, V)] := by
        have := lit_pt (w := w3) (base := w2.heap.size) g3.size T V
        first | exact this | simpa using this | (simpa only [World.size_alloc] using this)
      intro K hK
      go_wp2_with fail
      refine OnlyN.normal (hK _ _ (hsm.out _ k2) ?_)
      clear hK K
      have k3 : Grew w2 (((w3).alloc (.cells #[.int .i64 T, .int .u64 (V : Int)] 69)).alloc (.cells #[.slice none 0 0, .slice none 0 0] 61)) := k2.alloc _
      have oAd := oA
      have oPd := oP
      replace oA := oA.grew (show Grew ((w3).alloc (.cells #[.int .i64 T, .int .u64 (V : Int)] 69)) (((w3).alloc (.cells #[.int .i64 T, .int .u64 (V : Int)] 69)).alloc (.cells #[.slice none 0 0, .slice none 0 0] 61)) from (Chg.refl _ _).alloc _)
      replace oP := oP.grew (show Grew ((w3).alloc (.cells #[.int .i64 T, .int .u64 (V : Int)] 69)) (((w3).alloc (.cells #[.int .i64 T, .int .u64 (V : Int)] 69)).alloc (.cells #[.slice none 0 0, .slice none 0 0] 61)) from (Chg.refl _ _).alloc _)
      have hxx : Blk (((w3).alloc (.cells #[.int .i64 T, .int .u64 (V : Int)] 69)).alloc (.cells #[.slice none 0 0, .slice none 0 0] 61)) (w3.heap.size + 1) 61 #[.slice none 0 0, .slice none 0 0] := by
        have := Blk.new ((w3).alloc (.cells #[.int .i64 T, .int .u64 (V : Int)] 69)) 61 #[.slice none 0 0, .slice none 0 0]
        first | exact this | simpa using this | (simpa only [World.size_alloc] using this)
      intro K hK
      go_wp2_with fail
      refine OnlyN.normal (hK _ _ (hsm.out _ k3) ?_)
      clear hK K
      go_wp2_with fail
      refine OnlyN.normal ?_
      go_wp2
      go_meet
      case rel =>
        refine ⟨w3.heap.size + 1, A2, c2, some ⟨w3.heap.size, 0, none⟩, 1, rfl, ?_, ⟨oAd.grew ((Chg.refl _ _).alloc _), oPd.grew ((Chg.refl _ _).alloc _)⟩, k2.alloc _⟩
        have := Blk.new ((w3).alloc (.cells #[.int .i64 T, .int .u64 (V : Int)] 69)) 61 #[.slice A2 ln c2, .slice (some ⟨w3.heap.size, 0, none⟩) 1 1]
        first | exact this | simpa using this | (simpa only [World.size_alloc] using this)
    · have g0 : Grew w2 w2.drew := (Chg.refl _ w2).drew
      have q0 := hbx2.cell 0
      have r0 := hbp2.cell 0
      have r1 := hbp2.cell 1
      have k1 : Grew w2 ((w2.drew).alloc (.cells #[] 72)) := g0.alloc _
      have oL : OE elLb ((w2.drew).alloc (.cells #[] 72)) w2.heap.size 72 (some ⟨w2.heap.size, 0, none⟩) 0 0 [] := by
        have := OE.made (E := elLb) (w2.drew) w2.heap.size 72 g0.size
        first | exact this | simpa using this | (simpa only [World.size_alloc] using this)
      intro K hK
      go_wp2_with fail
      refine OnlyN.normal (hK _ _ (hsm.out _ k1) ?_)
      clear hK K
      have qc := (hbx2.grew k1).cell 0
      have qd : (((w2).alloc (.cells #[] 72)).drew).cell? ⟨xs, 0, none⟩ = some (.slice la ln lc) := qc
      intro K hK
      go_wp2_with fail
      refine OnlyN.normal (hK _ _ (fun _ => ⟨_, _, _, rfl, rfl, by simp⟩) ?_)
      clear hK K
      intro K hK
      go_wp2_with (at_builtin; refine wpList_appE rfl _ _ 28 72 infoLab rfl Tryz.underlying28 rfl w2.heap.size (some ⟨w2.heap.size, 0, none⟩) 0 0 [] rfl oL k1.size la ln lc lbs rfl (hrL.out _ k1) (by unfold maxLen; omega) (by omega) ?_; intro A2 c2 w3 h2)
      have g3 : Grew w2 w3 := h2.grew k1 (fun ad e => by
        injection e with e
        subst e
        show w2.heap.size ≤ w2.heap.size
        omega)
      have oA := h2.first
      have oA3 := oA
      have s0 := (hbp2.grew g3).cell 0
      have s1 := (hbp2.grew g3).cell 1
      have slt := (hbp2.grew g3).lt
      refine OnlyN.normal (hK _ _ (hsm.out _ g3) ?_)
      clear hK K oL h2
      have k2 : Grew w2 ((w3).alloc (.cells #[.slice none 0 0, .slice none 0 0] 61)) := g3.alloc _
      have oAd := oA
      replace oA := oA.grew (show Grew (w3) ((w3).alloc (.cells #[.slice none 0 0, .slice none 0 0] 61)) from (Chg.refl _ _).alloc _)
      have hxx : Blk ((w3).alloc (.cells #[.slice none 0 0, .slice none 0 0] 61)) (w3.heap.size) 61 #[.slice none 0 0, .slice none 0 0] := by
        have := Blk.new (w3) 61 #[.slice none 0 0, .slice none 0 0]
        first | exact this | simpa using this | (simpa only [World.size_alloc] using this)
      intro K hK
      go_wp2_with fail
      refine OnlyN.normal (hK _ _ (hsm.out _ k2) ?_)
      clear hK K
      have k3 : Grew w2 (((w3).alloc (.cells #[.slice none 0 0, .slice none 0 0] 61)).alloc (.cells #[.int .i64 T, .int .u64 (V : Int)] 69)) := k2.alloc _
      replace hxx := hxx.grew (show Grew ((w3).alloc (.cells #[.slice none 0 0, .slice none 0 0] 61)) (((w3).alloc (.cells #[.slice none 0 0, .slice none 0 0] 61)).alloc (.cells #[.int .i64 T, .int .u64 (V : Int)] 69)) from (Chg.refl _ _).alloc _)
      replace oA := oA.grew (show Grew ((w3).alloc (.cells #[.slice none 0 0, .slice none 0 0] 61)) (((w3).alloc (.cells #[.slice none 0 0, .slice none 0 0] 61)).alloc (.cells #[.int .i64 T, .int .u64 (V : Int)] 69)) from (Chg.refl _ _).alloc _)
      have rc0 := (hbp2.grew k2).cell 0
      have rc1 := (hbp2.grew k2).cell 1
      intro K hK
      go_wp2_with fail
      refine OnlyN.normal (hK _ _ (fun _ => ⟨_, _, _, rfl, rfl, by simp⟩) ?_)
      clear hK K
      have oP : OE elPt (((w3).alloc (.cells #[.slice none 0 0, .slice none 0 0] 61)).alloc (.cells #[.int .i64 T, .int .u64 (V : Int)] 69)) w2.heap.size 69 (some ⟨w3.heap.size + 1, 0, none⟩) 1 1 [(T, V)] := by
        have := lit_pt (w := (w3).alloc (.cells #[.slice none 0 0, .slice none 0 0] 61)) (base := w2.heap.size) k2.size T V
        first | exact this | simpa using this | (simpa only [World.size_alloc] using this)
      intro K hK
      go_wp2_with fail
      refine OnlyN.normal (hK _ _ (hsm.out _ k3) ?_)
      clear hK K
      go_wp2_with fail
      refine OnlyN.normal ?_
      go_wp2
      go_meet
      case rel =>
        have hq : OE elPt ((w3.alloc (.cells #[.slice A2 ln c2, .slice (some ⟨w3.heap.size + 1, 0, none⟩) 1 1] 61)).alloc (.cells #[.int .i64 T, .int .u64 (V : Int)] 69)) w2.heap.size 69 (some ⟨w3.heap.size + 1, 0, none⟩) 1 1 [(T, V)] := by
          have := lit_pt (w := w3.alloc (.cells #[.slice A2 ln c2, .slice (some ⟨w3.heap.size + 1, 0, none⟩) 1 1] 61)) (base := w2.heap.size) (g3.alloc _).size T V
          first | exact this | simpa using this | (simpa only [World.size_alloc] using this)
        exact ⟨w3.heap.size, A2, c2, some ⟨w3.heap.size + 1, 0, none⟩, 1, rfl, (Blk.new w3 61 #[.slice A2 ln c2, .slice (some ⟨w3.heap.size + 1, 0, none⟩) 1 1]).alloc _, ⟨(oAd.grew ((Chg.refl _ _).alloc _)).grew ((Chg.refl _ _).alloc _), hq⟩, (g3.alloc _).alloc _⟩
    · have g0 : Grew w2 w2.drew := (Chg.refl _ w2).drew
      have q0 := hbx2.cell 0
      have r0 := hbp2.cell 0
      have r1 := hbp2.cell 1
      have k1 : Grew w2 ((w2.drew).alloc (.cells #[] 72)) := g0.alloc _
      have oL : OE elLb ((w2.drew).alloc (.cells #[] 72)) w2.heap.size 72 (some ⟨w2.heap.size, 0, none⟩) 0 0 [] := by
        have := OE.made (E := elLb) (w2.drew) w2.heap.size 72 g0.size
        first | exact this | simpa using this | (simpa only [World.size_alloc] using this)
      intro K hK
      go_wp2_with fail
      refine OnlyN.normal (hK _ _ (hsm.out _ k1) ?_)
      clear hK K
      have k2 : Grew w2 (((w2.drew).alloc (.cells #[] 72)).alloc (.cells #[.int .i64 T, .int .u64 (V : Int)] 69)) := k1.alloc _
      replace oL := oL.grew (show Grew ((w2.drew).alloc (.cells #[] 72)) (((w2.drew).alloc (.cells #[] 72)).alloc (.cells #[.int .i64 T, .int .u64 (V : Int)] 69)) from (Chg.refl _ _).alloc _)
      have rc0 := (hbp2.grew k1).cell 0
      have rc1 := (hbp2.grew k1).cell 1
      intro K hK
      go_wp2_with fail
      refine OnlyN.normal (hK _ _ (fun _ => ⟨_, _, _, rfl, rfl, by simp⟩) ?_)
      clear hK K
      have oP : OE elPt (((w2.drew).alloc (.cells #[] 72)).alloc (.cells #[.int .i64 T, .int .u64 (V : Int)] 69)) w2.heap.size 69 (some ⟨w2.heap.size + 1, 0, none⟩) 1 1 [(T, V)] := by
        have := lit_pt (w := (w2.drew).alloc (.cells #[] 72)) (base := w2.heap.size) k1.size T V
        first | exact this | simpa using this | (simpa only [World.size_alloc] using this)
      intro K hK
      go_wp2_with fail
      refine OnlyN.normal (hK _ _ (hsm.out _ k2) ?_)
      clear hK K
      have qc := (hbx2.grew k2).cell 0
      have qd : ((((w2).alloc (.cells #[] 72)).alloc (.cells #[.int .i64 T, .int .u64 (V : Int)] 69)).drew).cell? ⟨xs, 0, none⟩ = some (.slice la ln lc) := qc
      intro K hK
      go_wp2_with fail
      refine OnlyN.normal (hK _ _ (fun _ => ⟨_, _, _, rfl, rfl, by simp⟩) ?_)
      clear hK K
      intro K hK
      go_wp2_with (at_builtin; refine wpList_appE rfl _ _ 28 72 infoLab rfl Tryz.underlying28 rfl w2.heap.size (some ⟨w2.heap.size, 0, none⟩) 0 0 [] rfl oL k2.size la ln lc lbs rfl (hrL.out _ k2) (by unfold maxLen; omega) (by omega) ?_; intro A2 c2 w3 h2)
      have g3 : Grew w2 w3 := h2.grew k2 (fun ad e => by
        injection e with e
        subst e
        show w2.heap.size ≤ w2.heap.size
        omega)
      have oA := h2.first
      replace oP := oP.apart oL (by decide) h2.chg
      have oA3 := oA
      have s0 := (hbp2.grew g3).cell 0
      have s1 := (hbp2.grew g3).cell 1
      have slt := (hbp2.grew g3).lt
      refine OnlyN.normal (hK _ _ (hsm.out _ g3) ?_)
      clear hK K oL h2
      have k3 : Grew w2 ((w3).alloc (.cells #[.slice none 0 0, .slice none 0 0] 61)) := g3.alloc _
      have oAd := oA
      have oPd := oP
      replace oA := oA.grew (show Grew (w3) ((w3).alloc (.cells #[.slice none 0 0, .slice none 0 0] 61)) from (Chg.refl _ _).alloc _)
      replace oP := oP.grew (show Grew (w3) ((w3).alloc (.cells #[.slice none 0 0, .slice none 0 0] 61)) from (Chg.refl _ _).alloc _)
      have hxx : Blk ((w3).alloc (.cells #[.slice none 0 0, .slice none 0 0] 61)) (w3.heap.size) 61 #[.slice none 0 0, .slice none 0 0] := by
        have := Blk.new (w3) 61 #[.slice none 0 0, .slice none 0 0]
        first | exact this | simpa using this | (simpa only [World.size_alloc] using this)
      intro K hK
      go_wp2_with fail
      refine OnlyN.normal (hK _ _ (hsm.out _ k3) ?_)
      clear hK K
      go_wp2_with fail
      refine OnlyN.normal ?_
      go_wp2
      go_meet
      case rel =>
        refine ⟨w3.heap.size, A2, c2, some ⟨w2.heap.size + 1, 0, none⟩, 1, rfl, ?_, ⟨oAd.grew ((Chg.refl _ _).alloc _), oPd.grew ((Chg.refl _ _).alloc _)⟩, g3.alloc _⟩
        have := Blk.new (w3) 61 #[.slice A2 ln c2, .slice (some ⟨w2.heap.size + 1, 0, none⟩) 1 1]
        first | exact this | simpa using this | (simpa only [World.size_alloc] using this)
    · have g0 : Grew w2 w2.drew := (Chg.refl _ w2).drew
      have q0 := hbx2.cell 0
      have r0 := hbp2.cell 0
      have r1 := hbp2.cell 1
      have k1 : Grew w2 ((w2.drew).alloc (.cells #[] 72)) := g0.alloc _
      have oL : OE elLb ((w2.drew).alloc (.cells #[] 72)) w2.heap.size 72 (some ⟨w2.heap.size, 0, none⟩) 0 0 [] := by
        have := OE.made (E := elLb) (w2.drew) w2.heap.size 72 g0.size
        first | exact this | simpa using this | (simpa only [World.size_alloc] using this)
      intro K hK
      go_wp2_with fail
      refine OnlyN.normal (hK _ _ (hsm.out _ k1) ?_)
      clear hK K
      have k2 : Grew w2 (((w2.drew).alloc (.cells #[] 72)).alloc (.cells #[.int .i64 T, .int .u64 (V : Int)] 69)) := k1.alloc _
      replace oL := oL.grew (show Grew ((w2.drew).alloc (.cells #[] 72)) (((w2.drew).alloc (.cells #[] 72)).alloc (.cells #[.int .i64 T, .int .u64 (V : Int)] 69)) from (Chg.refl _ _).alloc _)
      have rc0 := (hbp2.grew k1).cell 0
      have rc1 := (hbp2.grew k1).cell 1
      intro K hK
      go_wp2_with fail
      refine OnlyN.normal (hK _ _ (fun _ => ⟨_, _, _, rfl, rfl, by simp⟩) ?_)
      clear hK K
      have oP : OE elPt (((w2.drew).alloc (.cells #[] 72)).alloc (.cells #[.int .i64 T, .int .u64 (V : Int)] 69)) w2.heap.size 69 (some ⟨w2.heap.size + 1, 0, none⟩) 1 1 [(T, V)] := by
        have := lit_pt (w := (w2.drew).alloc (.cells #[] 72)) (base := w2.heap.size) k1.size T V
        first | exact this | simpa using this | (simpa only [World.size_alloc] using this)
      intro K hK
      go_wp2_with fail
      refine OnlyN.normal (hK _ _ (hsm.out _ k2) ?_)
      clear hK K
      have k3 : Grew w2 ((((w2.drew).alloc (.cells #[] 72)).alloc (.cells #[.int .i64 T, .int .u64 (V : Int)] 69)).alloc (.cells #[.slice none 0 0, .slice none 0 0] 61)) := k2.alloc _
      have oPd := oP
      replace oL := oL.grew (show Grew (((w2.drew).alloc (.cells #[] 72)).alloc (.cells #[.int .i64 T, .int .u64 (V : Int)] 69)) ((((w2.drew).alloc (.cells #[] 72)).alloc (.cells #[.int .i64 T, .int .u64 (V : Int)] 69)).alloc (.cells #[.slice none 0 0, .slice none 0 0] 61)) from (Chg.refl _ _).alloc _)
      replace oP := oP.grew (show Grew (((w2.drew).alloc (.cells #[] 72)).alloc (.cells #[.int .i64 T, .int .u64 (V : Int)] 69)) ((((w2.drew).alloc (.cells #[] 72)).alloc (.cells #[.int .i64 T, .int .u64 (V : Int)] 69)).alloc (.cells #[.slice none 0 0, .slice none 0 0] 61)) from (Chg.refl _ _).alloc _)
      have hxx : Blk ((((w2.drew).alloc (.cells #[] 72)).alloc (.cells #[.int .i64 T, .int .u64 (V : Int)] 69)).alloc (.cells #[.slice none 0 0, .slice none 0 0] 61)) (w2.heap.size + 1 + 1) 61 #[.slice none 0 0, .slice none 0 0] := by
        have := Blk.new (((w2.drew).alloc (.cells #[] 72)).alloc (.cells #[.int .i64 T, .int .u64 (V : Int)] 69)) 61 #[.slice none 0 0, .slice none 0 0]
        first | exact this | simpa using this | (simpa only [World.size_alloc] using this)
      intro K hK
      go_wp2_with fail
      refine OnlyN.normal (hK _ _ (hsm.out _ k3) ?_)
      clear hK K
      have qc := (hbx2.grew k3).cell 0
      have qd : (((((w2).alloc (.cells #[] 72)).alloc (.cells #[.int .i64 T, .int .u64 (V : Int)] 69)).alloc (.cells #[.slice none 0 0, .slice none 0 0] 61)).drew).cell? ⟨xs, 0, none⟩ = some (.slice la ln lc) := qc
      intro K hK
      go_wp2_with fail
      refine OnlyN.normal (hK _ _ (fun _ => ⟨_, _, _, rfl, rfl, by simp⟩) ?_)
      clear hK K
      intro K hK
      go_wp2_with (at_builtin; refine wpList_appE rfl _ _ 28 72 infoLab rfl Tryz.underlying28 rfl w2.heap.size (some ⟨w2.heap.size, 0, none⟩) 0 0 [] rfl oL k3.size la ln lc lbs rfl (hrL.out _ k3) (by unfold maxLen; omega) (by omega) ?_; intro A2 c2 w3 h2)
      have g3 : Grew w2 w3 := h2.grew k3 (fun ad e => by
        injection e with e
        subst e
        show w2.heap.size ≤ w2.heap.size
        omega)
      have oA := h2.first
      replace oP := oP.apart oL (by decide) h2.chg
      replace hxx := hxx.chg h2.chg (fun ⟨ad, e1, e2⟩ => Own.ne_blk oL hxx (by decide) ad e1 e2.symm)
      have z0 : w3.cell? ⟨w2.heap.size + 1 + 1, 0, none⟩ = some (.slice none 0 0) := by rw [hxx.cell]; rfl
      have z1 : w3.cell? ⟨w2.heap.size + 1 + 1, 1, none⟩ = some (.slice none 0 0) := by rw [hxx.cell]; rfl
      have zf0 := hxx.frozen 0
      have zf1 := hxx.frozen 1
      have zlt := hxx.lt
      have oA3 := oA
      have hxx3 := hxx
      have s0 := (hbp2.grew g3).cell 0
      have s1 := (hbp2.grew g3).cell 1
      have slt := (hbp2.grew g3).lt
      refine OnlyN.normal (hK _ _ (hsm.out _ g3) ?_)
      clear hK K oL h2
      go_wp2_with fail
      refine OnlyN.normal ?_
      go_wp2
      go_meet
      case rel =>
        have hch : Chg (fun j => j = w2.heap.size + 1 + 1) (w3) (((w3).setCell ⟨w2.heap.size + 1 + 1, 0, none⟩ (.slice A2 ln c2)).setCell ⟨w2.heap.size + 1 + 1, 1, none⟩ (.slice (some ⟨w2.heap.size + 1, 0, none⟩) 1 1)) := (Chg.one _ _ _ _).setCell (p := ⟨w2.heap.size + 1 + 1, 1, none⟩) (.inr rfl) _
        have hb5 : Blk (((w3).setCell ⟨w2.heap.size + 1 + 1, 0, none⟩ (.slice A2 ln c2)).setCell ⟨w2.heap.size + 1 + 1, 1, none⟩ (.slice (some ⟨w2.heap.size + 1, 0, none⟩) 1 1)) (w2.heap.size + 1 + 1) 61 #[.slice A2 ln c2, .slice (some ⟨w2.heap.size + 1, 0, none⟩) 1 1] := by simpa using (hxx.set 0 (.slice A2 ln c2)).set 1 (.slice (some ⟨w2.heap.size + 1, 0, none⟩) 1 1)
        have hg5 := (g3.setCell (p := ⟨w2.heap.size + 1 + 1, 0, none⟩) (.inl (show w2.heap.size ≤ w2.heap.size + 1 + 1 by omega)) (.slice A2 ln c2)).setCell (p := ⟨w2.heap.size + 1 + 1, 1, none⟩) (.inl (show w2.heap.size ≤ w2.heap.size + 1 + 1 by omega)) (.slice (some ⟨w2.heap.size + 1, 0, none⟩) 1 1)
        exact ⟨w2.heap.size + 1 + 1, A2, c2, some ⟨w2.heap.size + 1, 0, none⟩, 1, rfl, hb5, ⟨oA.chg hch fun ad e1 e2 => Own.ne_blk oA hxx (by decide) ad e1 e2, oP.chg hch fun ad e1 e2 => Own.ne_blk oP hxx (by decide) ad e1 e2⟩, hg5⟩
    · have g0 : Grew w2 w2.drew := (Chg.refl _ w2).drew
      have q0 := hbx2.cell 0
      have r0 := hbp2.cell 0
      have r1 := hbp2.cell 1
      have k1 : Grew w2 ((w2.drew).alloc (.cells #[] 72)) := g0.alloc _
      have oL : OE elLb ((w2.drew).alloc (.cells #[] 72)) w2.heap.size 72 (some ⟨w2.heap.size, 0, none⟩) 0 0 [] := by
        have := OE.made (E := elLb) (w2.drew) w2.heap.size 72 g0.size
        first | exact this | simpa using this | (simpa only [World.size_alloc] using this)
      intro K hK
      go_wp2_with fail
      refine OnlyN.normal (hK _ _ (hsm.out _ k1) ?_)
      clear hK K
      have k2 : Grew w2 (((w2.drew).alloc (.cells #[] 72)).alloc (.cells #[.slice none 0 0, .slice none 0 0] 61)) := k1.alloc _
      replace oL := oL.grew (show Grew ((w2.drew).alloc (.cells #[] 72)) (((w2.drew).alloc (.cells #[] 72)).alloc (.cells #[.slice none 0 0, .slice none 0 0] 61)) from (Chg.refl _ _).alloc _)
      have hxx : Blk (((w2.drew).alloc (.cells #[] 72)).alloc (.cells #[.slice none 0 0, .slice none 0 0] 61)) (w2.heap.size + 1) 61 #[.slice none 0 0, .slice none 0 0] := by
        have := Blk.new ((w2.drew).alloc (.cells #[] 72)) 61 #[.slice none 0 0, .slice none 0 0]
        first | exact this | simpa using this | (simpa only [World.size_alloc] using this)
      intro K hK
      go_wp2_with fail
      refine OnlyN.normal (hK _ _ (hsm.out _ k2) ?_)
      clear hK K
      have qc := (hbx2.grew k2).cell 0
      have qd : ((((w2).alloc (.cells #[] 72)).alloc (.cells #[.slice none 0 0, .slice none 0 0] 61)).drew).cell? ⟨xs, 0, none⟩ = some (.slice la ln lc) := qc
      intro K hK
      go_wp2_with fail
      refine OnlyN.normal (hK _ _ (fun _ => ⟨_, _, _, rfl, rfl, by simp⟩) ?_)
      clear hK K
      intro K hK
      go_wp2_with (at_builtin; refine wpList_appE rfl _ _ 28 72 infoLab rfl Tryz.underlying28 rfl w2.heap.size (some ⟨w2.heap.size, 0, none⟩) 0 0 [] rfl oL k2.size la ln lc lbs rfl (hrL.out _ k2) (by unfold maxLen; omega) (by omega) ?_; intro A2 c2 w3 h2)
      have g3 : Grew w2 w3 := h2.grew k2 (fun ad e => by
        injection e with e
        subst e
        show w2.heap.size ≤ w2.heap.size
        omega)
      have oA := h2.first
      replace hxx := hxx.chg h2.chg (fun ⟨ad, e1, e2⟩ => Own.ne_blk oL hxx (by decide) ad e1 e2.symm)
      have z0 : w3.cell? ⟨w2.heap.size + 1, 0, none⟩ = some (.slice none 0 0) := by rw [hxx.cell]; rfl
      have z1 : w3.cell? ⟨w2.heap.size + 1, 1, none⟩ = some (.slice none 0 0) := by rw [hxx.cell]; rfl
      have zf0 := hxx.frozen 0
      have zf1 := hxx.frozen 1
      have zlt := hxx.lt
      have oA3 := oA
      have hxx3 := hxx
      have s0 := (hbp2.grew g3).cell 0
      have s1 := (hbp2.grew g3).cell 1
      have slt := (hbp2.grew g3).lt
      refine OnlyN.normal (hK _ _ (hsm.out _ g3) ?_)
      clear hK K oL h2
      have k3 : Grew w2 ((w3).alloc (.cells #[.int .i64 T, .int .u64 (V : Int)] 69)) := g3.alloc _
      replace hxx := hxx.grew (show Grew (w3) ((w3).alloc (.cells #[.int .i64 T, .int .u64 (V : Int)] 69)) from (Chg.refl _ _).alloc _)
      replace oA := oA.grew (show Grew (w3) ((w3).alloc (.cells #[.int .i64 T, .int .u64 (V : Int)] 69)) from (Chg.refl _ _).alloc _)
      have rc0 := (hbp2.grew g3).cell 0
      have rc1 := (hbp2.grew g3).cell 1
      intro K hK
      go_wp2_with fail
      refine OnlyN.normal (hK _ _ (fun _ => ⟨_, _, _, rfl, rfl, by simp⟩) ?_)
      clear hK K
      have oP : OE elPt ((w3).alloc (.cells #[.int .i64 T, .int .u64 (V : Int)] 69)) w2.heap.size 69 (some ⟨w3.heap.size, 0, none⟩) 1 1 [(T, V)] := by
        have := lit_pt (w := w3) (base := w2.heap.size) g3.size T V
        first | exact this | simpa using this | (simpa only [World.size_alloc] using this)
      intro K hK
      go_wp2_with fail
      refine OnlyN.normal (hK _ _ (hsm.out _ k3) ?_)
      clear hK K
      go_wp2_with fail
      refine OnlyN.normal ?_
      go_wp2
      go_meet
      case rel =>
        have hch : Chg (fun j => j = w2.heap.size + 1) w3 ((w3.setCell ⟨w2.heap.size + 1, 0, none⟩ (.slice A2 ln c2)).setCell ⟨w2.heap.size + 1, 1, none⟩ (.slice (some ⟨w3.heap.size, 0, none⟩) 1 1)) := (Chg.one _ _ _ _).setCell (p := ⟨w2.heap.size + 1, 1, none⟩) (.inr rfl) _
        have hb5 : Blk ((w3.setCell ⟨w2.heap.size + 1, 0, none⟩ (.slice A2 ln c2)).setCell ⟨w2.heap.size + 1, 1, none⟩ (.slice (some ⟨w3.heap.size, 0, none⟩) 1 1)) (w2.heap.size + 1) 61 #[.slice A2 ln c2, .slice (some ⟨w3.heap.size, 0, none⟩) 1 1] := by simpa using (hxx3.set 0 (.slice A2 ln c2)).set 1 (.slice (some ⟨w3.heap.size, 0, none⟩) 1 1)
        have hg5 := (g3.setCell (p := ⟨w2.heap.size + 1, 0, none⟩) (.inl (show w2.heap.size ≤ w2.heap.size + 1 by omega)) (.slice A2 ln c2)).setCell (p := ⟨w2.heap.size + 1, 1, none⟩) (.inl (show w2.heap.size ≤ w2.heap.size + 1 by omega)) (.slice (some ⟨w3.heap.size, 0, none⟩) 1 1)
        have oP5 : OE elPt (((w3.setCell ⟨w2.heap.size + 1, 0, none⟩ (.slice A2 ln c2)).setCell ⟨w2.heap.size + 1, 1, none⟩ (.slice (some ⟨w3.heap.size, 0, none⟩) 1 1)).alloc (.cells #[.int .i64 T, .int .u64 (V : Int)] 69)) w2.heap.size 69 (some ⟨w3.heap.size, 0, none⟩) 1 1 [(T, V)] := by
          have := lit_pt (w := ((w3.setCell ⟨w2.heap.size + 1, 0, none⟩ (.slice A2 ln c2)).setCell ⟨w2.heap.size + 1, 1, none⟩ (.slice (some ⟨w3.heap.size, 0, none⟩) 1 1))) (base := w2.heap.size) hg5.size T V
          first | exact this | simpa using this | (simpa only [World.size_alloc] using this)
        exact ⟨w2.heap.size + 1, A2, c2, some ⟨w3.heap.size, 0, none⟩, 1, rfl, hb5.alloc _, ⟨(oA3.chg hch fun ad e1 e2 => Own.ne_blk oA3 hxx3 (by decide) ad e1 e2).grew ((Chg.refl _ _).alloc _), oP5⟩, hg5.alloc _⟩
    · have g0 : Grew w2 w2.drew := (Chg.refl _ w2).drew
      have q0 := hbx2.cell 0
      have r0 := hbp2.cell 0
      have r1 := hbp2.cell 1
      have k1 : Grew w2 ((w2.drew).alloc (.cells #[] 72)) := g0.alloc _
      have oL : OE elLb ((w2.drew).alloc (.cells #[] 72)) w2.heap.size 72 (some ⟨w2.heap.size, 0, none⟩) 0 0 [] := by
        have := OE.made (E := elLb) (w2.drew) w2.heap.size 72 g0.size
        first | exact this | simpa using this | (simpa only [World.size_alloc] using this)
      intro K hK
      go_wp2_with fail
      refine OnlyN.normal (hK _ _ (hsm.out _ k1) ?_)
      clear hK K
      have k2 : Grew w2 (((w2.drew).alloc (.cells #[] 72)).alloc (.cells #[.slice none 0 0, .slice none 0 0] 61)) := k1.alloc _
      replace oL := oL.grew (show Grew ((w2.drew).alloc (.cells #[] 72)) (((w2.drew).alloc (.cells #[] 72)).alloc (.cells #[.slice none 0 0, .slice none 0 0] 61)) from (Chg.refl _ _).alloc _)
      have hxx : Blk (((w2.drew).alloc (.cells #[] 72)).alloc (.cells #[.slice none 0 0, .slice none 0 0] 61)) (w2.heap.size + 1) 61 #[.slice none 0 0, .slice none 0 0] := by
        have := Blk.new ((w2.drew).alloc (.cells #[] 72)) 61 #[.slice none 0 0, .slice none 0 0]
        first | exact this | simpa using this | (simpa only [World.size_alloc] using this)
      intro K hK
      go_wp2_with fail
      refine OnlyN.normal (hK _ _ (hsm.out _ k2) ?_)
      clear hK K
      have k3 : Grew w2 ((((w2.drew).alloc (.cells #[] 72)).alloc (.cells #[.slice none 0 0, .slice none 0 0] 61)).alloc (.cells #[.int .i64 T, .int .u64 (V : Int)] 69)) := k2.alloc _
      replace hxx := hxx.grew (show Grew (((w2.drew).alloc (.cells #[] 72)).alloc (.cells #[.slice none 0 0, .slice none 0 0] 61)) ((((w2.drew).alloc (.cells #[] 72)).alloc (.cells #[.slice none 0 0, .slice none 0 0] 61)).alloc (.cells #[.int .i64 T, .int .u64 (V : Int)] 69)) from (Chg.refl _ _).alloc _)
      replace oL := oL.grew (show Grew (((w2.drew).alloc (.cells #[] 72)).alloc (.cells #[.slice none 0 0, .slice none 0 0] 61)) ((((w2.drew).alloc (.cells #[] 72)).alloc (.cells #[.slice none 0 0, .slice none 0 0] 61)).alloc (.cells #[.int .i64 T, .int .u64 (V : Int)] 69)) from (Chg.refl _ _).alloc _)
      have rc0 := (hbp2.grew k2).cell 0
      have rc1 := (hbp2.grew k2).cell 1
      intro K hK
      go_wp2_with fail
      refine OnlyN.normal (hK _ _ (fun _ => ⟨_, _, _, rfl, rfl, by simp⟩) ?_)
      clear hK K
      have oP : OE elPt ((((w2.drew).alloc (.cells #[] 72)).alloc (.cells #[.slice none 0 0, .slice none 0 0] 61)).alloc (.cells #[.int .i64 T, .int .u64 (V : Int)] 69)) w2.heap.size 69 (some ⟨w2.heap.size + 1 + 1, 0, none⟩) 1 1 [(T, V)] := by
        have := lit_pt (w := ((w2.drew).alloc (.cells #[] 72)).alloc (.cells #[.slice none 0 0, .slice none 0 0] 61)) (base := w2.heap.size) k2.size T V
        first | exact this | simpa using this | (simpa only [World.size_alloc] using this)
      intro K hK
      go_wp2_with fail
      refine OnlyN.normal (hK _ _ (hsm.out _ k3) ?_)
      clear hK K
      have qc := (hbx2.grew k3).cell 0
      have qd : (((((w2).alloc (.cells #[] 72)).alloc (.cells #[.slice none 0 0, .slice none 0 0] 61)).alloc (.cells #[.int .i64 T, .int .u64 (V : Int)] 69)).drew).cell? ⟨xs, 0, none⟩ = some (.slice la ln lc) := qc
      intro K hK
      go_wp2_with fail
      refine OnlyN.normal (hK _ _ (fun _ => ⟨_, _, _, rfl, rfl, by simp⟩) ?_)
      clear hK K
      intro K hK
      go_wp2_with (at_builtin; refine wpList_appE rfl _ _ 28 72 infoLab rfl Tryz.underlying28 rfl w2.heap.size (some ⟨w2.heap.size, 0, none⟩) 0 0 [] rfl oL k3.size la ln lc lbs rfl (hrL.out _ k3) (by unfold maxLen; omega) (by omega) ?_; intro A2 c2 w3 h2)
      have g3 : Grew w2 w3 := h2.grew k3 (fun ad e => by
        injection e with e
        subst e
        show w2.heap.size ≤ w2.heap.size
        omega)
      have oA := h2.first
      replace oP := oP.apart oL (by decide) h2.chg
      replace hxx := hxx.chg h2.chg (fun ⟨ad, e1, e2⟩ => Own.ne_blk oL hxx (by decide) ad e1 e2.symm)
      have z0 : w3.cell? ⟨w2.heap.size + 1, 0, none⟩ = some (.slice none 0 0) := by rw [hxx.cell]; rfl
      have z1 : w3.cell? ⟨w2.heap.size + 1, 1, none⟩ = some (.slice none 0 0) := by rw [hxx.cell]; rfl
      have zf0 := hxx.frozen 0
      have zf1 := hxx.frozen 1
      have zlt := hxx.lt
      have oA3 := oA
      have hxx3 := hxx
      have s0 := (hbp2.grew g3).cell 0
      have s1 := (hbp2.grew g3).cell 1
      have slt := (hbp2.grew g3).lt
      refine OnlyN.normal (hK _ _ (hsm.out _ g3) ?_)
      clear hK K oL h2
      go_wp2_with fail
      refine OnlyN.normal ?_
      go_wp2
      go_meet
      case rel =>
        have hch : Chg (fun j => j = w2.heap.size + 1) (w3) (((w3).setCell ⟨w2.heap.size + 1, 0, none⟩ (.slice A2 ln c2)).setCell ⟨w2.heap.size + 1, 1, none⟩ (.slice (some ⟨w2.heap.size + 1 + 1, 0, none⟩) 1 1)) := (Chg.one _ _ _ _).setCell (p := ⟨w2.heap.size + 1, 1, none⟩) (.inr rfl) _
        have hb5 : Blk (((w3).setCell ⟨w2.heap.size + 1, 0, none⟩ (.slice A2 ln c2)).setCell ⟨w2.heap.size + 1, 1, none⟩ (.slice (some ⟨w2.heap.size + 1 + 1, 0, none⟩) 1 1)) (w2.heap.size + 1) 61 #[.slice A2 ln c2, .slice (some ⟨w2.heap.size + 1 + 1, 0, none⟩) 1 1] := by simpa using (hxx.set 0 (.slice A2 ln c2)).set 1 (.slice (some ⟨w2.heap.size + 1 + 1, 0, none⟩) 1 1)
        have hg5 := (g3.setCell (p := ⟨w2.heap.size + 1, 0, none⟩) (.inl (show w2.heap.size ≤ w2.heap.size + 1 by omega)) (.slice A2 ln c2)).setCell (p := ⟨w2.heap.size + 1, 1, none⟩) (.inl (show w2.heap.size ≤ w2.heap.size + 1 by omega)) (.slice (some ⟨w2.heap.size + 1 + 1, 0, none⟩) 1 1)
        exact ⟨w2.heap.size + 1, A2, c2, some ⟨w2.heap.size + 1 + 1, 0, none⟩, 1, rfl, hb5, ⟨oA.chg hch fun ad e1 e2 => Own.ne_blk oA hxx (by decide) ad e1 e2, oP.chg hch fun ad e1 e2 => Own.ne_blk oP hxx (by decide) ad e1 e2⟩, hg5⟩
    · have g0 : Grew w2 w2.drew := (Chg.refl _ w2).drew
      have q0 := hbx2.cell 0
      have r0 := hbp2.cell 0
      have r1 := hbp2.cell 1
      have k1 : Grew w2 ((w2.drew).alloc (.cells #[.int .i64 T, .int .u64 (V : Int)] 69)) := g0.alloc _
      have rc0 := (hbp2.grew g0).cell 0
      have rc1 := (hbp2.grew g0).cell 1
      intro K hK
      go_wp2_with fail
      refine OnlyN.normal (hK _ _ (fun _ => ⟨_, _, _, rfl, rfl, by simp⟩) ?_)
      clear hK K
      have oP : OE elPt ((w2.drew).alloc (.cells #[.int .i64 T, .int .u64 (V : Int)] 69)) w2.heap.size 69 (some ⟨w2.heap.size, 0, none⟩) 1 1 [(T, V)] := by
        have := lit_pt (w := w2.drew) (base := w2.heap.size) g0.size T V
        first | exact this | simpa using this | (simpa only [World.size_alloc] using this)
      intro K hK
      go_wp2_with fail
      refine OnlyN.normal (hK _ _ (hsm.out _ k1) ?_)
      clear hK K
      have k2 : Grew w2 (((w2.drew).alloc (.cells #[.int .i64 T, .int .u64 (V : Int)] 69)).alloc (.cells #[] 72)) := k1.alloc _
      replace oP := oP.grew (show Grew ((w2.drew).alloc (.cells #[.int .i64 T, .int .u64 (V : Int)] 69)) (((w2.drew).alloc (.cells #[.int .i64 T, .int .u64 (V : Int)] 69)).alloc (.cells #[] 72)) from (Chg.refl _ _).alloc _)
      have oL : OE elLb (((w2.drew).alloc (.cells #[.int .i64 T, .int .u64 (V : Int)] 69)).alloc (.cells #[] 72)) w2.heap.size 72 (some ⟨w2.heap.size + 1, 0, none⟩) 0 0 [] := by
        have := OE.made (E := elLb) ((w2.drew).alloc (.cells #[.int .i64 T, .int .u64 (V : Int)] 69)) w2.heap.size 72 k1.size
        first | exact this | simpa using this | (simpa only [World.size_alloc] using this)
      intro K hK
      go_wp2_with fail
      refine OnlyN.normal (hK _ _ (hsm.out _ k2) ?_)
      clear hK K
      have qc := (hbx2.grew k2).cell 0
      have qd : ((((w2).alloc (.cells #[.int .i64 T, .int .u64 (V : Int)] 69)).alloc (.cells #[] 72)).drew).cell? ⟨xs, 0, none⟩ = some (.slice la ln lc) := qc
      intro K hK
      go_wp2_with fail
      refine OnlyN.normal (hK _ _ (fun _ => ⟨_, _, _, rfl, rfl, by simp⟩) ?_)
      clear hK K
      intro K hK
      go_wp2_with (at_builtin; refine wpList_appE rfl _ _ 28 72 infoLab rfl Tryz.underlying28 rfl w2.heap.size (some ⟨w2.heap.size + 1, 0, none⟩) 0 0 [] rfl oL k2.size la ln lc lbs rfl (hrL.out _ k2) (by unfold maxLen; omega) (by omega) ?_; intro A2 c2 w3 h2)
      have g3 : Grew w2 w3 := h2.grew k2 (fun ad e => by
        injection e with e
        subst e
        show w2.heap.size ≤ w2.heap.size + 1
        omega)
      have oA := h2.first
      replace oP := oP.apart oL (by decide) h2.chg
      have oA3 := oA
      have s0 := (hbp2.grew g3).cell 0
      have s1 := (hbp2.grew g3).cell 1
      have slt := (hbp2.grew g3).lt
      refine OnlyN.normal (hK _ _ (hsm.out _ g3) ?_)
      clear hK K oL h2
      have k3 : Grew w2 ((w3).alloc (.cells #[.slice none 0 0, .slice none 0 0] 61)) := g3.alloc _
      have oAd := oA
      have oPd := oP
      replace oA := oA.grew (show Grew (w3) ((w3).alloc (.cells #[.slice none 0 0, .slice none 0 0] 61)) from (Chg.refl _ _).alloc _)
      replace oP := oP.grew (show Grew (w3) ((w3).alloc (.cells #[.slice none 0 0, .slice none 0 0] 61)) from (Chg.refl _ _).alloc _)
      have hxx : Blk ((w3).alloc (.cells #[.slice none 0 0, .slice none 0 0] 61)) (w3.heap.size) 61 #[.slice none 0 0, .slice none 0 0] := by
        have := Blk.new (w3) 61 #[.slice none 0 0, .slice none 0 0]
        first | exact this | simpa using this | (simpa only [World.size_alloc] using this)
      intro K hK
      go_wp2_with fail
      refine OnlyN.normal (hK _ _ (hsm.out _ k3) ?_)
      clear hK K
      go_wp2_with fail
      refine OnlyN.normal ?_
      go_wp2
      go_meet
      case rel =>
        refine ⟨w3.heap.size, A2, c2, some ⟨w2.heap.size, 0, none⟩, 1, rfl, ?_, ⟨oAd.grew ((Chg.refl _ _).alloc _), oPd.grew ((Chg.refl _ _).alloc _)⟩, g3.alloc _⟩
        have := Blk.new (w3) 61 #[.slice A2 ln c2, .slice (some ⟨w2.heap.size, 0, none⟩) 1 1]
        first | exact this | simpa using this | (simpa only [World.size_alloc] using this)
    · have g0 : Grew w2 w2.drew := (Chg.refl _ w2).drew
      have q0 := hbx2.cell 0
      have r0 := hbp2.cell 0
      have r1 := hbp2.cell 1
      have k1 : Grew w2 ((w2.drew).alloc (.cells #[.int .i64 T, .int .u64 (V : Int)] 69)) := g0.alloc _
      have rc0 := (hbp2.grew g0).cell 0
      have rc1 := (hbp2.grew g0).cell 1
      intro K hK
      go_wp2_with fail
      refine OnlyN.normal (hK _ _ (fun _ => ⟨_, _, _, rfl, rfl, by simp⟩) ?_)
      clear hK K
      have oP : OE elPt ((w2.drew).alloc (.cells #[.int .i64 T, .int .u64 (V : Int)] 69)) w2.heap.size 69 (some ⟨w2.heap.size, 0, none⟩) 1 1 [(T, V)] := by
        have := lit_pt (w := w2.drew) (base := w2.heap.size) g0.size T V
        first | exact this | simpa using this | (simpa only [World.size_alloc] using this)
      intro K hK
      go_wp2_with fail
      refine OnlyN.normal (hK _ _ (hsm.out _ k1) ?_)
      clear hK K
      have k2 : Grew w2 (((w2.drew).alloc (.cells #[.int .i64 T, .int .u64 (V : Int)] 69)).alloc (.cells #[] 72)) := k1.alloc _
      replace oP := oP.grew (show Grew ((w2.drew).alloc (.cells #[.int .i64 T, .int .u64 (V : Int)] 69)) (((w2.drew).alloc (.cells #[.int .i64 T, .int .u64 (V : Int)] 69)).alloc (.cells #[] 72)) from (Chg.refl _ _).alloc _)
      have oL : OE elLb (((w2.drew).alloc (.cells #[.int .i64 T, .int .u64 (V : Int)] 69)).alloc (.cells #[] 72)) w2.heap.size 72 (some ⟨w2.heap.size + 1, 0, none⟩) 0 0 [] := by
        have := OE.made (E := elLb) ((w2.drew).alloc (.cells #[.int .i64 T, .int .u64 (V : Int)] 69)) w2.heap.size 72 k1.size
        first | exact this | simpa using this | (simpa only [World.size_alloc] using this)
      intro K hK
      go_wp2_with fail
      refine OnlyN.normal (hK _ _ (hsm.out _ k2) ?_)
      clear hK K
      have k3 : Grew w2 ((((w2.drew).alloc (.cells #[.int .i64 T, .int .u64 (V : Int)] 69)).alloc (.cells #[] 72)).alloc (.cells #[.slice none 0 0, .slice none 0 0] 61)) := k2.alloc _
      have oPd := oP
      replace oL := oL.grew (show Grew (((w2.drew).alloc (.cells #[.int .i64 T, .int .u64 (V : Int)] 69)).alloc (.cells #[] 72)) ((((w2.drew).alloc (.cells #[.int .i64 T, .int .u64 (V : Int)] 69)).alloc (.cells #[] 72)).alloc (.cells #[.slice none 0 0, .slice none 0 0] 61)) from (Chg.refl _ _).alloc _)
      replace oP := oP.grew (show Grew (((w2.drew).alloc (.cells #[.int .i64 T, .int .u64 (V : Int)] 69)).alloc (.cells #[] 72)) ((((w2.drew).alloc (.cells #[.int .i64 T, .int .u64 (V : Int)] 69)).alloc (.cells #[] 72)).alloc (.cells #[.slice none 0 0, .slice none 0 0] 61)) from (Chg.refl _ _).alloc _)
      have hxx : Blk ((((w2.drew).alloc (.cells #[.int .i64 T, .int .u64 (V : Int)] 69)).alloc (.cells #[] 72)).alloc (.cells #[.slice none 0 0, .slice none 0 0] 61)) (w2.heap.size + 1 + 1) 61 #[.slice none 0 0, .slice none 0 0] := by
        have := Blk.new (((w2.drew).alloc (.cells #[.int .i64 T, .int .u64 (V : Int)] 69)).alloc (.cells #[] 72)) 61 #[.slice none 0 0, .slice none 0 0]
        first | exact this | simpa using this | (simpa only [World.size_alloc] using this)
      intro K hK
      go_wp2_with fail
      refine OnlyN.normal (hK _ _ (hsm.out _ k3) ?_)
      clear hK K
      have qc := (hbx2.grew k3).cell 0
      have qd : (((((w2).alloc (.cells #[.int .i64 T, .int .u64 (V : Int)] 69)).alloc (.cells #[] 72)).alloc (.cells #[.slice none 0 0, .slice none 0 0] 61)).drew).cell? ⟨xs, 0, none⟩ = some (.slice la ln lc) := qc
      intro K hK
      go_wp2_with fail
      refine OnlyN.normal (hK _ _ (fun _ => ⟨_, _, _, rfl, rfl, by simp⟩) ?_)
      clear hK K
      intro K hK
      go_wp2_with (at_builtin; refine wpList_appE rfl _ _ 28 72 infoLab rfl Tryz.underlying28 rfl w2.heap.size (some ⟨w2.heap.size + 1, 0, none⟩) 0 0 [] rfl oL k3.size la ln lc lbs rfl (hrL.out _ k3) (by unfold maxLen; omega) (by omega) ?_; intro A2 c2 w3 h2)
      have g3 : Grew w2 w3 := h2.grew k3 (fun ad e => by
        injection e with e
        subst e
        show w2.heap.size ≤ w2.heap.size + 1
        omega)
      have oA := h2.first
      replace oP := oP.apart oL (by decide) h2.chg
      replace hxx := hxx.chg h2.chg (fun ⟨ad, e1, e2⟩ => Own.ne_blk oL hxx (by decide) ad e1 e2.symm)
      have z0 : w3.cell? ⟨w2.heap.size + 1 + 1, 0, none⟩ = some (.slice none 0 0) := by rw [hxx.cell]; rfl
      have z1 : w3.cell? ⟨w2.heap.size + 1 + 1, 1, none⟩ = some (.slice none 0 0) := by rw [hxx.cell]; rfl
      have zf0 := hxx.frozen 0
      have zf1 := hxx.frozen 1
      have zlt := hxx.lt
      have oA3 := oA
      have hxx3 := hxx
      have s0 := (hbp2.grew g3).cell 0
      have s1 := (hbp2.grew g3).cell 1
      have slt := (hbp2.grew g3).lt
      refine OnlyN.normal (hK _ _ (hsm.out _ g3) ?_)
      clear hK K oL h2
      go_wp2_with fail
      refine OnlyN.normal ?_
      go_wp2
      go_meet
      case rel =>
        have hch : Chg (fun j => j = w2.heap.size + 1 + 1) (w3) (((w3).setCell ⟨w2.heap.size + 1 + 1, 0, none⟩ (.slice A2 ln c2)).setCell ⟨w2.heap.size + 1 + 1, 1, none⟩ (.slice (some ⟨w2.heap.size, 0, none⟩) 1 1)) := (Chg.one _ _ _ _).setCell (p := ⟨w2.heap.size + 1 + 1, 1, none⟩) (.inr rfl) _
        have hb5 : Blk (((w3).setCell ⟨w2.heap.size + 1 + 1, 0, none⟩ (.slice A2 ln c2)).setCell ⟨w2.heap.size + 1 + 1, 1, none⟩ (.slice (some ⟨w2.heap.size, 0, none⟩) 1 1)) (w2.heap.size + 1 + 1) 61 #[.slice A2 ln c2, .slice (some ⟨w2.heap.size, 0, none⟩) 1 1] := by simpa using (hxx.set 0 (.slice A2 ln c2)).set 1 (.slice (some ⟨w2.heap.size, 0, none⟩) 1 1)
        have hg5 := (g3.setCell (p := ⟨w2.heap.size + 1 + 1, 0, none⟩) (.inl (show w2.heap.size ≤ w2.heap.size + 1 + 1 by omega)) (.slice A2 ln c2)).setCell (p := ⟨w2.heap.size + 1 + 1, 1, none⟩) (.inl (show w2.heap.size ≤ w2.heap.size + 1 + 1 by omega)) (.slice (some ⟨w2.heap.size, 0, none⟩) 1 1)
        exact ⟨w2.heap.size + 1 + 1, A2, c2, some ⟨w2.heap.size, 0, none⟩, 1, rfl, hb5, ⟨oA.chg hch fun ad e1 e2 => Own.ne_blk oA hxx (by decide) ad e1 e2, oP.chg hch fun ad e1 e2 => Own.ne_blk oP hxx (by decide) ad e1 e2⟩, hg5⟩
    · have g0 : Grew w2 w2.drew := (Chg.refl _ w2).drew
      have q0 := hbx2.cell 0
      have r0 := hbp2.cell 0
      have r1 := hbp2.cell 1
      have k1 : Grew w2 ((w2.drew).alloc (.cells #[.int .i64 T, .int .u64 (V : Int)] 69)) := g0.alloc _
      have rc0 := (hbp2.grew g0).cell 0
      have rc1 := (hbp2.grew g0).cell 1
      intro K hK
      go_wp2_with fail
      refine OnlyN.normal (hK _ _ (fun _ => ⟨_, _, _, rfl, rfl, by simp⟩) ?_)
      clear hK K
      have oP : OE elPt ((w2.drew).alloc (.cells #[.int .i64 T, .int .u64 (V : Int)] 69)) w2.heap.size 69 (some ⟨w2.heap.size, 0, none⟩) 1 1 [(T, V)] := by
        have := lit_pt (w := w2.drew) (base := w2.heap.size) g0.size T V
        first | exact this | simpa using this | (simpa only [World.size_alloc] using this)
      intro K hK
      go_wp2_with fail
      refine OnlyN.normal (hK _ _ (hsm.out _ k1) ?_)
      clear hK K
      have k2 : Grew w2 (((w2.drew).alloc (.cells #[.int .i64 T, .int .u64 (V : Int)] 69)).alloc (.cells #[.slice none 0 0, .slice none 0 0] 61)) := k1.alloc _
      have oPd := oP
      replace oP := oP.grew (show Grew ((w2.drew).alloc (.cells #[.int .i64 T, .int .u64 (V : Int)] 69)) (((w2.drew).alloc (.cells #[.int .i64 T, .int .u64 (V : Int)] 69)).alloc (.cells #[.slice none 0 0, .slice none 0 0] 61)) from (Chg.refl _ _).alloc _)
      have hxx : Blk (((w2.drew).alloc (.cells #[.int .i64 T, .int .u64 (V : Int)] 69)).alloc (.cells #[.slice none 0 0, .slice none 0 0] 61)) (w2.heap.size + 1) 61 #[.slice none 0 0, .slice none 0 0] := by
        have := Blk.new ((w2.drew).alloc (.cells #[.int .i64 T, .int .u64 (V : Int)] 69)) 61 #[.slice none 0 0, .slice none 0 0]
        first | exact this | simpa using this | (simpa only [World.size_alloc] using this)
      intro K hK
      go_wp2_with fail
      refine OnlyN.normal (hK _ _ (hsm.out _ k2) ?_)
      clear hK K
      have k3 : Grew w2 ((((w2.drew).alloc (.cells #[.int .i64 T, .int .u64 (V : Int)] 69)).alloc (.cells #[.slice none 0 0, .slice none 0 0] 61)).alloc (.cells #[] 72)) := k2.alloc _
      replace hxx := hxx.grew (show Grew (((w2.drew).alloc (.cells #[.int .i64 T, .int .u64 (V : Int)] 69)).alloc (.cells #[.slice none 0 0, .slice none 0 0] 61)) ((((w2.drew).alloc (.cells #[.int .i64 T, .int .u64 (V : Int)] 69)).alloc (.cells #[.slice none 0 0, .slice none 0 0] 61)).alloc (.cells #[] 72)) from (Chg.refl _ _).alloc _)
      replace oP := oP.grew (show Grew (((w2.drew).alloc (.cells #[.int .i64 T, .int .u64 (V : Int)] 69)).alloc (.cells #[.slice none 0 0, .slice none 0 0] 61)) ((((w2.drew).alloc (.cells #[.int .i64 T, .int .u64 (V : Int)] 69)).alloc (.cells #[.slice none 0 0, .slice none 0 0] 61)).alloc (.cells #[] 72)) from (Chg.refl _ _).alloc _)
      have oL : OE elLb ((((w2.drew).alloc (.cells #[.int .i64 T, .int .u64 (V : Int)] 69)).alloc (.cells #[.slice none 0 0, .slice none 0 0] 61)).alloc (.cells #[] 72)) w2.heap.size 72 (some ⟨w2.heap.size + 1 + 1, 0, none⟩) 0 0 [] := by
        have := OE.made (E := elLb) (((w2.drew).alloc (.cells #[.int .i64 T, .int .u64 (V : Int)] 69)).alloc (.cells #[.slice none 0 0, .slice none 0 0] 61)) w2.heap.size 72 k2.size
        first | exact this | simpa using this | (simpa only [World.size_alloc] using this)
      intro K hK
      go_wp2_with fail
      refine OnlyN.normal (hK _ _ (hsm.out _ k3) ?_)
      clear hK K
      have qc := (hbx2.grew k3).cell 0
      have qd : (((((w2).alloc (.cells #[.int .i64 T, .int .u64 (V : Int)] 69)).alloc (.cells #[.slice none 0 0, .slice none 0 0] 61)).alloc (.cells #[] 72)).drew).cell? ⟨xs, 0, none⟩ = some (.slice la ln lc) := qc
      intro K hK
      go_wp2_with fail
      refine OnlyN.normal (hK _ _ (fun _ => ⟨_, _, _, rfl, rfl, by simp⟩) ?_)
      clear hK K
      intro K hK
      go_wp2_with (at_builtin; refine wpList_appE rfl _ _ 28 72 infoLab rfl Tryz.underlying28 rfl w2.heap.size (some ⟨w2.heap.size + 1 + 1, 0, none⟩) 0 0 [] rfl oL k3.size la ln lc lbs rfl (hrL.out _ k3) (by unfold maxLen; omega) (by omega) ?_; intro A2 c2 w3 h2)
      have g3 : Grew w2 w3 := h2.grew k3 (fun ad e => by
        injection e with e
        subst e
        show w2.heap.size ≤ w2.heap.size + 1 + 1
        omega)
      have oA := h2.first
      replace oP := oP.apart oL (by decide) h2.chg
      replace hxx := hxx.chg h2.chg (fun ⟨ad, e1, e2⟩ => Own.ne_blk oL hxx (by decide) ad e1 e2.symm)
      have z0 : w3.cell? ⟨w2.heap.size + 1, 0, none⟩ = some (.slice none 0 0) := by rw [hxx.cell]; rfl
      have z1 : w3.cell? ⟨w2.heap.size + 1, 1, none⟩ = some (.slice none 0 0) := by rw [hxx.cell]; rfl
      have zf0 := hxx.frozen 0
      have zf1 := hxx.frozen 1
      have zlt := hxx.lt
      have oA3 := oA
      have hxx3 := hxx
      have s0 := (hbp2.grew g3).cell 0
      have s1 := (hbp2.grew g3).cell 1
      have slt := (hbp2.grew g3).lt
      refine OnlyN.normal (hK _ _ (hsm.out _ g3) ?_)
      clear hK K oL h2
      go_wp2_with fail
      refine OnlyN.normal ?_
      go_wp2
      go_meet
      case rel =>
        have hch : Chg (fun j => j = w2.heap.size + 1) (w3) (((w3).setCell ⟨w2.heap.size + 1, 0, none⟩ (.slice A2 ln c2)).setCell ⟨w2.heap.size + 1, 1, none⟩ (.slice (some ⟨w2.heap.size, 0, none⟩) 1 1)) := (Chg.one _ _ _ _).setCell (p := ⟨w2.heap.size + 1, 1, none⟩) (.inr rfl) _
        have hb5 : Blk (((w3).setCell ⟨w2.heap.size + 1, 0, none⟩ (.slice A2 ln c2)).setCell ⟨w2.heap.size + 1, 1, none⟩ (.slice (some ⟨w2.heap.size, 0, none⟩) 1 1)) (w2.heap.size + 1) 61 #[.slice A2 ln c2, .slice (some ⟨w2.heap.size, 0, none⟩) 1 1] := by simpa using (hxx.set 0 (.slice A2 ln c2)).set 1 (.slice (some ⟨w2.heap.size, 0, none⟩) 1 1)
        have hg5 := (g3.setCell (p := ⟨w2.heap.size + 1, 0, none⟩) (.inl (show w2.heap.size ≤ w2.heap.size + 1 by omega)) (.slice A2 ln c2)).setCell (p := ⟨w2.heap.size + 1, 1, none⟩) (.inl (show w2.heap.size ≤ w2.heap.size + 1 by omega)) (.slice (some ⟨w2.heap.size, 0, none⟩) 1 1)
        exact ⟨w2.heap.size + 1, A2, c2, some ⟨w2.heap.size, 0, none⟩, 1, rfl, hb5, ⟨oA.chg hch fun ad e1 e2 => Own.ne_blk oA hxx (by decide) ad e1 e2, oP.chg hch fun ad e1 e2 => Own.ne_blk oP hxx (by decide) ad e1 e2⟩, hg5⟩
    · have g0 : Grew w2 w2.drew := (Chg.refl _ w2).drew
      have q0 := hbx2.cell 0
      have r0 := hbp2.cell 0
      have r1 := hbp2.cell 1
      have k1 : Grew w2 ((w2.drew).alloc (.cells #[.slice none 0 0, .slice none 0 0] 61)) := g0.alloc _
      have hxx : Blk ((w2.drew).alloc (.cells #[.slice none 0 0, .slice none 0 0] 61)) (w2.heap.size) 61 #[.slice none 0 0, .slice none 0 0] := by
        have := Blk.new (w2.drew) 61 #[.slice none 0 0, .slice none 0 0]
        first | exact this | simpa using this | (simpa only [World.size_alloc] using this)
      intro K hK
      go_wp2_with fail
      refine OnlyN.normal (hK _ _ (hsm.out _ k1) ?_)
      clear hK K
      have k2 : Grew w2 (((w2.drew).alloc (.cells #[.slice none 0 0, .slice none 0 0] 61)).alloc (.cells #[] 72)) := k1.alloc _
      replace hxx := hxx.grew (show Grew ((w2.drew).alloc (.cells #[.slice none 0 0, .slice none 0 0] 61)) (((w2.drew).alloc (.cells #[.slice none 0 0, .slice none 0 0] 61)).alloc (.cells #[] 72)) from (Chg.refl _ _).alloc _)
      have oL : OE elLb (((w2.drew).alloc (.cells #[.slice none 0 0, .slice none 0 0] 61)).alloc (.cells #[] 72)) w2.heap.size 72 (some ⟨w2.heap.size + 1, 0, none⟩) 0 0 [] := by
        have := OE.made (E := elLb) ((w2.drew).alloc (.cells #[.slice none 0 0, .slice none 0 0] 61)) w2.heap.size 72 k1.size
        first | exact this | simpa using this | (simpa only [World.size_alloc] using this)
      intro K hK
      go_wp2_with fail
      refine OnlyN.normal (hK _ _ (hsm.out _ k2) ?_)
      clear hK K
      have qc := (hbx2.grew k2).cell 0
      have qd : ((((w2).alloc (.cells #[.slice none 0 0, .slice none 0 0] 61)).alloc (.cells #[] 72)).drew).cell? ⟨xs, 0, none⟩ = some (.slice la ln lc) := qc
      intro K hK
      go_wp2_with fail
      refine OnlyN.normal (hK _ _ (fun _ => ⟨_, _, _, rfl, rfl, by simp⟩) ?_)
      clear hK K
      intro K hK
      go_wp2_with (at_builtin; refine wpList_appE rfl _ _ 28 72 infoLab rfl Tryz.underlying28 rfl w2.heap.size (some ⟨w2.heap.size + 1, 0, none⟩) 0 0 [] rfl oL k2.size la ln lc lbs rfl (hrL.out _ k2) (by unfold maxLen; omega) (by omega) ?_; intro A2 c2 w3 h2)
      have g3 : Grew w2 w3 := h2.grew k2 (fun ad e => by
        injection e with e
        subst e
        show w2.heap.size ≤ w2.heap.size + 1
        omega)
      have oA := h2.first
      replace hxx := hxx.chg h2.chg (fun ⟨ad, e1, e2⟩ => Own.ne_blk oL hxx (by decide) ad e1 e2.symm)
      have z0 : w3.cell? ⟨w2.heap.size, 0, none⟩ = some (.slice none 0 0) := by rw [hxx.cell]; rfl
      have z1 : w3.cell? ⟨w2.heap.size, 1, none⟩ = some (.slice none 0 0) := by rw [hxx.cell]; rfl
      have zf0 := hxx.frozen 0
      have zf1 := hxx.frozen 1
      have zlt := hxx.lt
      have oA3 := oA
      have hxx3 := hxx
      have s0 := (hbp2.grew g3).cell 0
      have s1 := (hbp2.grew g3).cell 1
      have slt := (hbp2.grew g3).lt
      refine OnlyN.normal (hK _ _ (hsm.out _ g3) ?_)
      clear hK K oL h2
      have k3 : Grew w2 ((w3).alloc (.cells #[.int .i64 T, .int .u64 (V : Int)] 69)) := g3.alloc _
      replace hxx := hxx.grew (show Grew (w3) ((w3).alloc (.cells #[.int .i64 T, .int .u64 (V : Int)] 69)) from (Chg.refl _ _).alloc _)
      replace oA := oA.grew (show Grew (w3) ((w3).alloc (.cells #[.int .i64 T, .int .u64 (V : Int)] 69)) from (Chg.refl _ _).alloc _)
      have rc0 := (hbp2.grew g3).cell 0
      have rc1 := (hbp2.grew g3).cell 1
      intro K hK
      go_wp2_with fail
      refine OnlyN.normal (hK _ _ (fun _ => ⟨_, _, _, rfl, rfl, by simp⟩) ?_)
      clear hK K
      have oP : OE elPt ((w3).alloc (.cells #[.int .i64 T, .int .u64 (V : Int)] 69)) w2.heap.size 69 (some ⟨w3.heap.size, 0, none⟩) 1 1 [(T, V)] := by
        have := lit_pt (w := w3) (base := w2.heap.size) g3.size T V
        first | exact this | simpa using this | (simpa only [World.size_alloc] using this)
      intro K hK
      go_wp2_with fail
      refine OnlyN.normal (hK _ _ (hsm.out _ k3) ?_)
      clear hK K
      go_wp2_with fail
      refine OnlyN.normal ?_
      go_wp2
      go_meet
      case rel =>
        have hch : Chg (fun j => j = w2.heap.size) w3 ((w3.setCell ⟨w2.heap.size, 0, none⟩ (.slice A2 ln c2)).setCell ⟨w2.heap.size, 1, none⟩ (.slice (some ⟨w3.heap.size, 0, none⟩) 1 1)) := (Chg.one _ _ _ _).setCell (p := ⟨w2.heap.size, 1, none⟩) (.inr rfl) _
        have hb5 : Blk ((w3.setCell ⟨w2.heap.size, 0, none⟩ (.slice A2 ln c2)).setCell ⟨w2.heap.size, 1, none⟩ (.slice (some ⟨w3.heap.size, 0, none⟩) 1 1)) (w2.heap.size) 61 #[.slice A2 ln c2, .slice (some ⟨w3.heap.size, 0, none⟩) 1 1] := by simpa using (hxx3.set 0 (.slice A2 ln c2)).set 1 (.slice (some ⟨w3.heap.size, 0, none⟩) 1 1)
        have hg5 := (g3.setCell (p := ⟨w2.heap.size, 0, none⟩) (.inl (show w2.heap.size ≤ w2.heap.size by omega)) (.slice A2 ln c2)).setCell (p := ⟨w2.heap.size, 1, none⟩) (.inl (show w2.heap.size ≤ w2.heap.size by omega)) (.slice (some ⟨w3.heap.size, 0, none⟩) 1 1)
        have oP5 : OE elPt (((w3.setCell ⟨w2.heap.size, 0, none⟩ (.slice A2 ln c2)).setCell ⟨w2.heap.size, 1, none⟩ (.slice (some ⟨w3.heap.size, 0, none⟩) 1 1)).alloc (.cells #[.int .i64 T, .int .u64 (V : Int)] 69)) w2.heap.size 69 (some ⟨w3.heap.size, 0, none⟩) 1 1 [(T, V)] := by
          have := lit_pt (w := ((w3.setCell ⟨w2.heap.size, 0, none⟩ (.slice A2 ln c2)).setCell ⟨w2.heap.size, 1, none⟩ (.slice (some ⟨w3.heap.size, 0, none⟩) 1 1))) (base := w2.heap.size) hg5.size T V
          first | exact this | simpa using this | (simpa only [World.size_alloc] using this)
        exact ⟨w2.heap.size, A2, c2, some ⟨w3.heap.size, 0, none⟩, 1, rfl, hb5.alloc _, ⟨(oA3.chg hch fun ad e1 e2 => Own.ne_blk oA3 hxx3 (by decide) ad e1 e2).grew ((Chg.refl _ _).alloc _), oP5⟩, hg5.alloc _⟩
    · have g0 : Grew w2 w2.drew := (Chg.refl _ w2).drew
      have q0 := hbx2.cell 0
      have r0 := hbp2.cell 0
      have r1 := hbp2.cell 1
      have k1 : Grew w2 ((w2.drew).alloc (.cells #[.slice none 0 0, .slice none 0 0] 61)) := g0.alloc _
      have hxx : Blk ((w2.drew).alloc (.cells #[.slice none 0 0, .slice none 0 0] 61)) (w2.heap.size) 61 #[.slice none 0 0, .slice none 0 0] := by
        have := Blk.new (w2.drew) 61 #[.slice none 0 0, .slice none 0 0]
        first | exact this | simpa using this | (simpa only [World.size_alloc] using this)
      intro K hK
      go_wp2_with fail
      refine OnlyN.normal (hK _ _ (hsm.out _ k1) ?_)
      clear hK K
      have k2 : Grew w2 (((w2.drew).alloc (.cells #[.slice none 0 0, .slice none 0 0] 61)).alloc (.cells #[] 72)) := k1.alloc _
      replace hxx := hxx.grew (show Grew ((w2.drew).alloc (.cells #[.slice none 0 0, .slice none 0 0] 61)) (((w2.drew).alloc (.cells #[.slice none 0 0, .slice none 0 0] 61)).alloc (.cells #[] 72)) from (Chg.refl _ _).alloc _)
      have oL : OE elLb (((w2.drew).alloc (.cells #[.slice none 0 0, .slice none 0 0] 61)).alloc (.cells #[] 72)) w2.heap.size 72 (some ⟨w2.heap.size + 1, 0, none⟩) 0 0 [] := by
        have := OE.made (E := elLb) ((w2.drew).alloc (.cells #[.slice none 0 0, .slice none 0 0] 61)) w2.heap.size 72 k1.size
        first | exact this | simpa using this | (simpa only [World.size_alloc] using this)
      intro K hK
      go_wp2_with fail
      refine OnlyN.normal (hK _ _ (hsm.out _ k2) ?_)
      clear hK K
      have k3 : Grew w2 ((((w2.drew).alloc (.cells #[.slice none 0 0, .slice none 0 0] 61)).alloc (.cells #[] 72)).alloc (.cells #[.int .i64 T, .int .u64 (V : Int)] 69)) := k2.alloc _
      replace hxx := hxx.grew (show Grew (((w2.drew).alloc (.cells #[.slice none 0 0, .slice none 0 0] 61)).alloc (.cells #[] 72)) ((((w2.drew).alloc (.cells #[.slice none 0 0, .slice none 0 0] 61)).alloc (.cells #[] 72)).alloc (.cells #[.int .i64 T, .int .u64 (V : Int)] 69)) from (Chg.refl _ _).alloc _)
      replace oL := oL.grew (show Grew (((w2.drew).alloc (.cells #[.slice none 0 0, .slice none 0 0] 61)).alloc (.cells #[] 72)) ((((w2.drew).alloc (.cells #[.slice none 0 0, .slice none 0 0] 61)).alloc (.cells #[] 72)).alloc (.cells #[.int .i64 T, .int .u64 (V : Int)] 69)) from (Chg.refl _ _).alloc _)
      have rc0 := (hbp2.grew k2).cell 0
      have rc1 := (hbp2.grew k2).cell 1
      intro K hK
      go_wp2_with fail
      refine OnlyN.normal (hK _ _ (fun _ => ⟨_, _, _, rfl, rfl, by simp⟩) ?_)
      clear hK K
      have oP : OE elPt ((((w2.drew).alloc (.cells #[.slice none 0 0, .slice none 0 0] 61)).alloc (.cells #[] 72)).alloc (.cells #[.int .i64 T, .int .u64 (V : Int)] 69)) w2.heap.size 69 (some ⟨w2.heap.size + 1 + 1, 0, none⟩) 1 1 [(T, V)] := by
        have := lit_pt (w := ((w2.drew).alloc (.cells #[.slice none 0 0, .slice none 0 0] 61)).alloc (.cells #[] 72)) (base := w2.heap.size) k2.size T V
        first | exact this | simpa using this | (simpa only [World.size_alloc] using this)
      intro K hK
      go_wp2_with fail
      refine OnlyN.normal (hK _ _ (hsm.out _ k3) ?_)
      clear hK K
      have qc := (hbx2.grew k3).cell 0
      have qd : (((((w2).alloc (.cells #[.slice none 0 0, .slice none 0 0] 61)).alloc (.cells #[] 72)).alloc (.cells #[.int .i64 T, .int .u64 (V : Int)] 69)).drew).cell? ⟨xs, 0, none⟩ = some (.slice la ln lc) := qc
      intro K hK
      go_wp2_with fail
      refine OnlyN.normal (hK _ _ (fun _ => ⟨_, _, _, rfl, rfl, by simp⟩) ?_)
      clear hK K
      intro K hK
      go_wp2_with (at_builtin; refine wpList_appE rfl _ _ 28 72 infoLab rfl Tryz.underlying28 rfl w2.heap.size (some ⟨w2.heap.size + 1, 0, none⟩) 0 0 [] rfl oL k3.size la ln lc lbs rfl (hrL.out _ k3) (by unfold maxLen; omega) (by omega) ?_; intro A2 c2 w3 h2)
      have g3 : Grew w2 w3 := h2.grew k3 (fun ad e => by
        injection e with e
        subst e
        show w2.heap.size ≤ w2.heap.size + 1
        omega)
      have oA := h2.first
      replace oP := oP.apart oL (by decide) h2.chg
      replace hxx := hxx.chg h2.chg (fun ⟨ad, e1, e2⟩ => Own.ne_blk oL hxx (by decide) ad e1 e2.symm)
      have z0 : w3.cell? ⟨w2.heap.size, 0, none⟩ = some (.slice none 0 0) := by rw [hxx.cell]; rfl
      have z1 : w3.cell? ⟨w2.heap.size, 1, none⟩ = some (.slice none 0 0) := by rw [hxx.cell]; rfl
      have zf0 := hxx.frozen 0
      have zf1 := hxx.frozen 1
      have zlt := hxx.lt
      have oA3 := oA
      have hxx3 := hxx
      have s0 := (hbp2.grew g3).cell 0
      have s1 := (hbp2.grew g3).cell 1
      have slt := (hbp2.grew g3).lt
      refine OnlyN.normal (hK _ _ (hsm.out _ g3) ?_)
      clear hK K oL h2
      go_wp2_with fail
      refine OnlyN.normal ?_
      go_wp2
      go_meet
      case rel =>
        have hch : Chg (fun j => j = w2.heap.size) (w3) (((w3).setCell ⟨w2.heap.size, 0, none⟩ (.slice A2 ln c2)).setCell ⟨w2.heap.size, 1, none⟩ (.slice (some ⟨w2.heap.size + 1 + 1, 0, none⟩) 1 1)) := (Chg.one _ _ _ _).setCell (p := ⟨w2.heap.size, 1, none⟩) (.inr rfl) _
        have hb5 : Blk (((w3).setCell ⟨w2.heap.size, 0, none⟩ (.slice A2 ln c2)).setCell ⟨w2.heap.size, 1, none⟩ (.slice (some ⟨w2.heap.size + 1 + 1, 0, none⟩) 1 1)) (w2.heap.size) 61 #[.slice A2 ln c2, .slice (some ⟨w2.heap.size + 1 + 1, 0, none⟩) 1 1] := by simpa using (hxx.set 0 (.slice A2 ln c2)).set 1 (.slice (some ⟨w2.heap.size + 1 + 1, 0, none⟩) 1 1)
        have hg5 := (g3.setCell (p := ⟨w2.heap.size, 0, none⟩) (.inl (show w2.heap.size ≤ w2.heap.size by omega)) (.slice A2 ln c2)).setCell (p := ⟨w2.heap.size, 1, none⟩) (.inl (show w2.heap.size ≤ w2.heap.size by omega)) (.slice (some ⟨w2.heap.size + 1 + 1, 0, none⟩) 1 1)
        exact ⟨w2.heap.size, A2, c2, some ⟨w2.heap.size + 1 + 1, 0, none⟩, 1, rfl, hb5, ⟨oA.chg hch fun ad e1 e2 => Own.ne_blk oA hxx (by decide) ad e1 e2, oP.chg hch fun ad e1 e2 => Own.ne_blk oP hxx (by decide) ad e1 e2⟩, hg5⟩
    · have g0 : Grew w2 w2.drew := (Chg.refl _ w2).drew
      have q0 := hbx2.cell 0
      have r0 := hbp2.cell 0
      have r1 := hbp2.cell 1
      have k1 : Grew w2 ((w2.drew).alloc (.cells #[.slice none 0 0, .slice none 0 0] 61)) := g0.alloc _
      have hxx : Blk ((w2.drew).alloc (.cells #[.slice none 0 0, .slice none 0 0] 61)) (w2.heap.size) 61 #[.slice none 0 0, .slice none 0 0] := by
        have := Blk.new (w2.drew) 61 #[.slice none 0 0, .slice none 0 0]
        first | exact this | simpa using this | (simpa only [World.size_alloc] using this)
      intro K hK
      go_wp2_with fail
      refine OnlyN.normal (hK _ _ (hsm.out _ k1) ?_)
      clear hK K
      have k2 : Grew w2 (((w2.drew).alloc (.cells #[.slice none 0 0, .slice none 0 0] 61)).alloc (.cells #[.int .i64 T, .int .u64 (V : Int)] 69)) := k1.alloc _
      replace hxx := hxx.grew (show Grew ((w2.drew).alloc (.cells #[.slice none 0 0, .slice none 0 0] 61)) (((w2.drew).alloc (.cells #[.slice none 0 0, .slice none 0 0] 61)).alloc (.cells #[.int .i64 T, .int .u64 (V : Int)] 69)) from (Chg.refl _ _).alloc _)
      have rc0 := (hbp2.grew k1).cell 0
      have rc1 := (hbp2.grew k1).cell 1
      intro K hK
      go_wp2_with fail
      refine OnlyN.normal (hK _ _ (fun _ => ⟨_, _, _, rfl, rfl, by simp⟩) ?_)
      clear hK K
      have oP : OE elPt (((w2.drew).alloc (.cells #[.slice none 0 0, .slice none 0 0] 61)).alloc (.cells #[.int .i64 T, .int .u64 (V : Int)] 69)) w2.heap.size 69 (some ⟨w2.heap.size + 1, 0, none⟩) 1 1 [(T, V)] := by
        have := lit_pt (w := (w2.drew).alloc (.cells #[.slice none 0 0, .slice none 0 0] 61)) (base := w2.heap.size) k1.size T V
        first | exact this | simpa using this | (simpa only [World.size_alloc] using this)
      intro K hK
      go_wp2_with fail
      refine OnlyN.normal (hK _ _ (hsm.out _ k2) ?_)
      clear hK K
      have k3 : Grew w2 ((((w2.drew).alloc (.cells #[.slice none 0 0, .slice none 0 0] 61)).alloc (.cells #[.int .i64 T, .int .u64 (V : Int)] 69)).alloc (.cells #[] 72)) := k2.alloc _
      replace hxx := hxx.grew (show Grew (((w2.drew).alloc (.cells #[.slice none 0 0, .slice none 0 0] 61)).alloc (.cells #[.int .i64 T, .int .u64 (V : Int)] 69)) ((((w2.drew).alloc (.cells #[.slice none 0 0, .slice none 0 0] 61)).alloc (.cells #[.int .i64 T, .int .u64 (V : Int)] 69)).alloc (.cells #[] 72)) from (Chg.refl _ _).alloc _)
      replace oP := oP.grew (show Grew (((w2.drew).alloc (.cells #[.slice none 0 0, .slice none 0 0] 61)).alloc (.cells #[.int .i64 T, .int .u64 (V : Int)] 69)) ((((w2.drew).alloc (.cells #[.slice none 0 0, .slice none 0 0] 61)).alloc (.cells #[.int .i64 T, .int .u64 (V : Int)] 69)).alloc (.cells #[] 72)) from (Chg.refl _ _).alloc _)
      have oL : OE elLb ((((w2.drew).alloc (.cells #[.slice none 0 0, .slice none 0 0] 61)).alloc (.cells #[.int .i64 T, .int .u64 (V : Int)] 69)).alloc (.cells #[] 72)) w2.heap.size 72 (some ⟨w2.heap.size + 1 + 1, 0, none⟩) 0 0 [] := by
        have := OE.made (E := elLb) (((w2.drew).alloc (.cells #[.slice none 0 0, .slice none 0 0] 61)).alloc (.cells #[.int .i64 T, .int .u64 (V : Int)] 69)) w2.heap.size 72 k2.size
        first | exact this | simpa using this | (simpa only [World.size_alloc] using this)
      intro K hK
      go_wp2_with fail
      refine OnlyN.normal (hK _ _ (hsm.out _ k3) ?_)
      clear hK K
      have qc := (hbx2.grew k3).cell 0
      have qd : (((((w2).alloc (.cells #[.slice none 0 0, .slice none 0 0] 61)).alloc (.cells #[.int .i64 T, .int .u64 (V : Int)] 69)).alloc (.cells #[] 72)).drew).cell? ⟨xs, 0, none⟩ = some (.slice la ln lc) := qc
      intro K hK
      go_wp2_with fail
      refine OnlyN.normal (hK _ _ (fun _ => ⟨_, _, _, rfl, rfl, by simp⟩) ?_)
      clear hK K
      intro K hK
      go_wp2_with (at_builtin; refine wpList_appE rfl _ _ 28 72 infoLab rfl Tryz.underlying28 rfl w2.heap.size (some ⟨w2.heap.size + 1 + 1, 0, none⟩) 0 0 [] rfl oL k3.size la ln lc lbs rfl (hrL.out _ k3) (by unfold maxLen; omega) (by omega) ?_; intro A2 c2 w3 h2)
      have g3 : Grew w2 w3 := h2.grew k3 (fun ad e => by
        injection e with e
        subst e
        show w2.heap.size ≤ w2.heap.size + 1 + 1
        omega)
      have oA := h2.first
      replace oP := oP.apart oL (by decide) h2.chg
      replace hxx := hxx.chg h2.chg (fun ⟨ad, e1, e2⟩ => Own.ne_blk oL hxx (by decide) ad e1 e2.symm)
      have z0 : w3.cell? ⟨w2.heap.size, 0, none⟩ = some (.slice none 0 0) := by rw [hxx.cell]; rfl
      have z1 : w3.cell? ⟨w2.heap.size, 1, none⟩ = some (.slice none 0 0) := by rw [hxx.cell]; rfl
      have zf0 := hxx.frozen 0
      have zf1 := hxx.frozen 1
      have zlt := hxx.lt
      have oA3 := oA
      have hxx3 := hxx
      have s0 := (hbp2.grew g3).cell 0
      have s1 := (hbp2.grew g3).cell 1
      have slt := (hbp2.grew g3).lt
      refine OnlyN.normal (hK _ _ (hsm.out _ g3) ?_)
      clear hK K oL h2
      go_wp2_with fail
      refine OnlyN.normal ?_
      go_wp2
      go_meet
      case rel =>
        have hch : Chg (fun j => j = w2.heap.size) (w3) (((w3).setCell ⟨w2.heap.size, 0, none⟩ (.slice A2 ln c2)).setCell ⟨w2.heap.size, 1, none⟩ (.slice (some ⟨w2.heap.size + 1, 0, none⟩) 1 1)) := (Chg.one _ _ _ _).setCell (p := ⟨w2.heap.size, 1, none⟩) (.inr rfl) _
        have hb5 : Blk (((w3).setCell ⟨w2.heap.size, 0, none⟩ (.slice A2 ln c2)).setCell ⟨w2.heap.size, 1, none⟩ (.slice (some ⟨w2.heap.size + 1, 0, none⟩) 1 1)) (w2.heap.size) 61 #[.slice A2 ln c2, .slice (some ⟨w2.heap.size + 1, 0, none⟩) 1 1] := by simpa using (hxx.set 0 (.slice A2 ln c2)).set 1 (.slice (some ⟨w2.heap.size + 1, 0, none⟩) 1 1)
        have hg5 := (g3.setCell (p := ⟨w2.heap.size, 0, none⟩) (.inl (show w2.heap.size ≤ w2.heap.size by omega)) (.slice A2 ln c2)).setCell (p := ⟨w2.heap.size, 1, none⟩) (.inl (show w2.heap.size ≤ w2.heap.size by omega)) (.slice (some ⟨w2.heap.size + 1, 0, none⟩) 1 1)
        exact ⟨w2.heap.size, A2, c2, some ⟨w2.heap.size + 1, 0, none⟩, 1, rfl, hb5, ⟨oA.chg hch fun ad e1 e2 => Own.ne_blk oA hxx (by decide) ad e1 e2, oP.chg hch fun ad e1 e2 => Own.ne_blk oP hxx (by decide) ad e1 e2⟩, hg5⟩
  case rest =>
    obtain ⟨xb, A2, c2, A4, c4, rfl, hbX, hNE, g2c⟩ := hcut
    have g0c := g02.trans g2c
    have hRc := hRg.out _ g0c
    have b1 := hRc.hd.cell 1
    have hrow := hRc.row
    have hml : ms.length = n := hrow.len (by decide)
    clear hbx hbx2 hbp2 hcs hsm hrL hxb2 hpb2 hxl hlg
    go_upto_region 10 with fail
    go_cut [10] from 11 (fun v wx => ∃ (Z : Option Addr) (z : Nat), v = .slice Z (n - p) z ∧ OE elSr wx wc.heap.size 61 Z (n - p) z (ms.drop p) ∧ Grew wc wx)
    case first =>
      have gE : Grew wc (wc.alloc (.cells #[] 61)) := (Chg.refl _ wc).alloc _
      have oE : OE elSr (wc.alloc (.cells #[] 61)) wc.heap.size 61 (some ⟨wc.heap.size, 0, none⟩) 0 0 [] := OE.made wc wc.heap.size 61 (Nat.le_refl _)
      have hwb := hRc.hd.lt
      have hfm : (A = none ∧ n = 0 ∧ c = 0) ∨ ∃ g, A = some ⟨g, 0, none⟩ := by
        rcases hrow.2 with ⟨e, h3⟩ | ⟨g, cap, cur, e, _⟩
        · injection e with e1 e2 e3
          exact .inl ⟨e1, h3, e3⟩
        · injection e with e1 e2 e3
          exact .inr ⟨g, e1⟩
      rcases hfm with ⟨rfl, rfl, rfl⟩ | ⟨g, rfl⟩
      · obtain rfl : p = 0 := by omega
        have hms0 : ms.drop 0 = [] := by rw [List.drop_zero]; exact List.eq_nil_of_length_eq_zero hml
        have hsrc : RE elSr (wc.alloc (.cells #[] 61)) none 0 (ms.drop 0) := by rw [hms0]; exact RE.nil _ _
        replace hms0 := Lib.hid hms0
        go_wp2_with (at_builtin; refine wpList_appE rfl _ _ 36 61 infoSr rfl Tryz.underlying36 rfl wc.heap.size (some ⟨wc.heap.size, 0, none⟩) 0 0 [] rfl oE gE.size _ 0 _ (ms.drop 0) rfl hsrc (by unfold maxLen; omega) (by omega) ?_; intro Z z w5 h5)
        have hg5 : Grew wc w5 := h5.grew gE (hd_le (Nat.le_refl _))
        have ho5 := h5.first
        go_meet
        case rel => exact ⟨Z, z, by simp, ho5, hg5⟩
      · have hre := hrow.re (by decide)
        by_cases hpc : p < c
        · have hsrc : RE elSr (wc.alloc (.cells #[] 61)) (some ⟨g, p * 2, none⟩) (n - p) (ms.drop p) := by
            have := (hre.drop p).grew gE
            rwa [show (⟨g, 0, none⟩ : Addr).add (p * elSr.sz) = ⟨g, p * 2, none⟩ from add_head g (p * 2)] at this
          go_wp2_with (at_builtin; refine wpList_appE rfl _ _ 36 61 infoSr rfl Tryz.underlying36 rfl wc.heap.size (some ⟨wc.heap.size, 0, none⟩) 0 0 [] rfl oE gE.size _ (n - p) _ (ms.drop p) rfl hsrc (by unfold maxLen; omega) (by omega) ?_; intro Z z w5 h5)
          have hg5 : Grew wc w5 := h5.grew gE (hd_le (Nat.le_refl _))
          have ho5 := h5.first
          go_meet
          case rel => exact ⟨Z, z, by simp, ho5, hg5⟩
        · obtain rfl : p = n := by omega
          obtain rfl : c = p := by omega
          have hms0 : ms.drop c = [] := List.drop_eq_nil_of_le (by omega)
          have hsrc : RE elSr (wc.alloc (.cells #[] 61)) (some ⟨g, 0, none⟩) 0 (ms.drop c) := by rw [hms0]; exact RE.nil _ _
          replace hms0 := Lib.hid hms0
          go_wp2_with (at_builtin; refine wpList_appE rfl _ _ 36 61 infoSr rfl Tryz.underlying36 rfl wc.heap.size (some ⟨wc.heap.size, 0, none⟩) 0 0 [] rfl oE gE.size _ 0 _ (ms.drop c) rfl hsrc (by unfold maxLen; omega) (by omega) ?_; intro Z z w5 h5)
          have hg5 : Grew wc w5 := h5.grew gE (hd_le (Nat.le_refl _))
          have ho5 := h5.first
          go_meet
          case rel => exact ⟨Z, z, by simp, by rw [Nat.sub_self]; exact ho5, hg5⟩
    case rest =>
      obtain ⟨Z, z, rfl, hZ, gcz⟩ := hcut
      have g2z := g2c.trans gcz
      have g0z := g0c.trans gcz
      have hRz := hRg.out _ g0z
      have b1 := hRz.hd.cell 1
      have hbXz := hbX.grew gcz
      have q0 := hbXz.cell 0
      have q1 := hbXz.cell 1
      have hwb := hRz.hd.lt
      have hxb := hbXz.lt
      have hNz := hNE.grew gcz
      have hrz := hRz.row
      have hlow := (Own.cap hZ)
      have hzc := g0z.size
      have hz2c := g2z.size
      have hcs : CellsIn [wb, xb] wc := cellsIn_cons hRz.hd.ex (cellsIn_cons hbXz.ex (cellsIn_nil wc))
      have hsm := Lib.hid fun (Y : World) (g : Grew wc Y) => sameIn_of g hcs fun _ _ e => e
      have htk := Lib.hid fun w' (g : Grew wc w') => (show RE elSr w' A p (ms.take p) from ((hrz.grew g).re (by decide)).take (by omega))
      go_wp2_with fail
      refine wp_region_textsDL [(3, 1)] [wb, xb] [[0, 1, 2, 3, 4, 5, 6, 7, 8, 9, 10, 11, 12, 13, 14, 15, 16], [0, 1, 9, 10, 2, 3, 4, 5, 6, 7, 8, 11, 12, 13, 14, 15, 16], [0, 9, 10, 1, 2, 3, 4, 5, 6, 7, 8, 11, 12, 13, 14, 15, 16]] (by kernel_rfl) (by kernel_rfl) hcs ?_
      intro o ho
      simp only [List.mem_cons, List.not_mem_nil, or_false] at ho
      rcases ho with rfl | rfl | rfl
      all_goals
        simp only [opsOf, List.filterMap_cons, List.filterMap_nil, List.getElem?_toArray, List.getElem?_cons_zero, List.getElem?_cons_succ]
        simp only [wpUL, tagOf, chk, List.cons_append, List.nil_append]
      · have hpn : p ≤ n := by omega
        have g0 : Grew wc wc.drew := (Chg.refl _ wc).drew
        have gE : Grew wc (wc.drew.alloc (.cells #[] 61)) := g0.alloc _
        have oE : OE elSr (wc.drew.alloc (.cells #[] 61)) wc.heap.size 61 (some ⟨wc.heap.size, 0, none⟩) 0 0 [] := by
          have := OE.made (E := elSr) wc.drew wc.heap.size 61 g0.size
          first | exact this | simpa using this | (simpa only [World.size_alloc] using this)
        intro K hK
        go_wp2_with fail
        refine OnlyN.normal (hK _ _ (hsm.out _ gE) ?_)
        clear hK K
        have bE := (hRz.hd.grew gE).cell 1
        intro K hK
        go_wp2_with fail
        refine OnlyN.normal (hK _ _ (fun _ => ⟨_, _, _, rfl, rfl, by simp⟩) ?_)
        clear hK K
        have sT := htk.out _ gE
        intro K hK
        go_wp2_with (at_builtin; refine wpList_appE rfl _ _ 36 61 infoSr rfl Tryz.underlying36 rfl wc.heap.size (some ⟨wc.heap.size, 0, none⟩) 0 0 [] rfl oE gE.size A p _ (ms.take p) rfl sT (by unfold maxLen; omega) (by omega) ?_; intro A5 c5 w5 h5)
        have g5 : Grew wc w5 := h5.grew gE (hd_le (Nat.le_refl _))
        have o5 := h5.first
        have r0 := (hbXz.grew g5).cell 0
        have r1 := (hbXz.grew g5).cell 1
        refine OnlyN.normal (hK _ _ (hsm.out _ g5) ?_)
        clear hK K h5 oE bE gE sT q0 q1
        intro K hK
        go_wp2_with fail
        refine OnlyN.normal (hK _ _ (fun _ => ⟨_, _, _, rfl, rfl, by simp⟩) ?_)
        clear hK K
        have g6 : Grew wc (w5.alloc (.cells #[.slice A2 ln c2, .slice A4 1 c4] 61)) := g5.alloc _
        have oL : RE elSr (w5.alloc (.cells #[.slice A2 ln c2, .slice A4 1 c4] 61)) (some ⟨w5.heap.size, 0, none⟩) 1 [⟨A2, ln, c2, A4, 1, c4⟩] := RE.newAt rfl rfl rfl
        have o6 := o5.grew (show Grew w5 (w5.alloc (.cells #[.slice A2 ln c2, .slice A4 1 c4] 61)) from (Chg.refl _ _).alloc _)
        intro K hK
        go_wp2_with fail
        refine OnlyN.normal (hK _ _ (hsm.out _ g6) ?_)
        clear hK K
        intro K hK
        go_wp2_with (at_builtin; refine wpList_appE rfl _ _ 36 61 infoSr rfl Tryz.underlying36 rfl wc.heap.size A5 p c5 (ms.take p) rfl o6 g6.size _ 1 1 [⟨A2, ln, c2, A4, 1, c4⟩] rfl oL (by unfold maxLen; omega) (by omega) ?_; intro A7 c7 w7 h7)
        have g7 : Grew wc w7 := h7.grew g6 fun ad e => (Own.blk_lt o6 ad e).1
        refine OnlyN.normal (hK _ _ (hsm.out _ g7) ?_)
        have o7 := h7.oe
        clear hK K h7 o6 o5 oL r0 r1
        have sZ := (hZ.grew g7).re (by decide)
        intro K hK
        go_wp2_with (at_builtin; refine wpList_appE rfl _ _ 36 61 infoSr rfl Tryz.underlying36 rfl wc.heap.size A7 (p + 1) c7 (ms.take p ++ [⟨A2, ln, c2, A4, 1, c4⟩]) rfl o7 g7.size Z (n - p) z (ms.drop p) rfl sZ (by unfold maxLen; omega) (by omega) ?_; intro A8 c8 w8 h8)
        have g8 : Grew wc w8 := h8.grew g7 fun ad e => (Own.blk_lt o7 ad e).1
        refine OnlyN.normal (hK _ _ (hsm.out _ g8) ?_)
        have o8 := h8.oe
        clear hK K h8 o7 sZ
        rw [show p + 1 + (n - p) = n + 1 by omega, List.append_assoc, List.singleton_append] at o8
        have hb8 := hRz.hd.grew g8
        have b8 := hb8.cell 1
        have f8 := hb8.frozen 1
        have g08 := g0z.trans g8
        have hsum : ((p : Int) + 1 + ((n - p : Nat) : Int)) = ((n + 1 : Nat) : Int) := by omega
        have hin := Lib.hid (RH.ins (hRg.out _ (Chg.refl _ w)) g08 (k := p) (Own.mono o8 hzc) (⟨Own.mono (hNz.grew g8).lb g02.size, Own.mono (hNz.grew g8).pt g02.size⟩ : NsE w8 w.heap.size ⟨A2, ln, c2, A4, 1, c4⟩ ⟨lbs, [(T, V)]⟩))
        have hch : Hid (Chg R w (w8.setCell ⟨wb, 1, none⟩ (.slice A8 (n + 1) c8))) := (Chg.of_grew g08).setCell (p := ⟨wb, 1, none⟩) (.inr (hRg.out _ (Chg.refl _ w)).rh) _
        clear o8 hb8 hcs hsm hZ hNz hrz hNE hbX hbXz htk
        rw [show p + 1 + (n - p) = n + 1 by omega]
        go_wp2_with fail
        refine OnlyN.normal ?_
        go_wp2
        go_ret
        exact ⟨by simp, _, ⟨_, _, _, _, hin.out⟩, fun k hk => .inl hk, fun k hk => hk.elim .inl fun h => .inr h.1, hch.out⟩
      · have hpn : p ≤ n := by omega
        have g0 : Grew wc wc.drew := (Chg.refl _ wc).drew
        have gE : Grew wc (wc.drew.alloc (.cells #[] 61)) := g0.alloc _
        have oE0 : OE elSr (wc.drew.alloc (.cells #[] 61)) wc.heap.size 61 (some ⟨wc.heap.size, 0, none⟩) 0 0 [] := by
          have := OE.made (E := elSr) wc.drew wc.heap.size 61 g0.size
          first | exact this | simpa using this | (simpa only [World.size_alloc] using this)
        have r0 := (hbXz.grew gE).cell 0
        have r1 := (hbXz.grew gE).cell 1
        intro K hK
        go_wp2_with fail
        refine OnlyN.normal (hK _ _ (hsm.out _ gE) ?_)
        clear hK K
        intro K hK
        go_wp2_with fail
        refine OnlyN.normal (hK _ _ (fun _ => ⟨_, _, _, rfl, rfl, by simp⟩) ?_)
        clear hK K
        have gL : Grew wc ((wc.drew.alloc (.cells #[] 61)).alloc (.cells #[.slice A2 ln c2, .slice A4 1 c4] 61)) := gE.alloc _
        have oE := oE0.grew (show Grew (wc.drew.alloc (.cells #[] 61)) ((wc.drew.alloc (.cells #[] 61)).alloc (.cells #[.slice A2 ln c2, .slice A4 1 c4] 61)) from (Chg.refl _ _).alloc _)
        have oL : OE elSr ((wc.drew.alloc (.cells #[] 61)).alloc (.cells #[.slice A2 ln c2, .slice A4 1 c4] 61)) wc.heap.size 61 (some ⟨wc.heap.size + 1, 0, none⟩) 1 1 [⟨A2, ln, c2, A4, 1, c4⟩] := by
          have := OE.lit (E := elSr) (wc.drew.alloc (.cells #[] 61)) wc.heap.size 61 1 [⟨A2, ln, c2, A4, 1, c4⟩] #[.slice A2 ln c2, .slice A4 1 c4] gE.size (by decide) rfl rfl
          first | exact this | simpa using this | (simpa only [World.size_alloc] using this)
        intro K hK
        go_wp2_with fail
        refine OnlyN.normal (hK _ _ (hsm.out _ gL) ?_)
        clear hK K
        have bE := (hRz.hd.grew gL).cell 1
        intro K hK
        go_wp2_with fail
        refine OnlyN.normal (hK _ _ (fun _ => ⟨_, _, _, rfl, rfl, by simp⟩) ?_)
        clear hK K
        have sT := htk.out _ gL
        intro K hK
        go_wp2_with (at_builtin; refine wpList_appE rfl _ _ 36 61 infoSr rfl Tryz.underlying36 rfl wc.heap.size (some ⟨wc.heap.size, 0, none⟩) 0 0 [] rfl oE gL.size A p _ (ms.take p) rfl sT (by unfold maxLen; omega) (by omega) ?_; intro A5 c5 w5 h5)
        have g5 : Grew wc w5 := h5.grew gL (hd_le (by omega))
        have o6 := h5.first
        have oL5 : RE elSr w5 (some ⟨wc.heap.size + 1, 0, none⟩) 1 [⟨A2, ln, c2, A4, 1, c4⟩] := (oL.re (by decide)).chg h5.chg (fun ad e ⟨bd, e2, e3⟩ => by
          injection e with e
          injection e2 with e2
          subst e
          subst e2
          have e3 : wc.heap.size + 1 = wc.heap.size := e3
          omega)
        refine OnlyN.normal (hK _ _ (hsm.out _ g5) ?_)
        clear hK K h5 oE oL bE gE gL sT q0 q1 r0 r1 oE0
        intro K hK
        go_wp2_with (at_builtin; refine wpList_appE rfl _ _ 36 61 infoSr rfl Tryz.underlying36 rfl wc.heap.size A5 p c5 (ms.take p) rfl o6 g5.size _ 1 1 [⟨A2, ln, c2, A4, 1, c4⟩] rfl oL5 (by unfold maxLen; omega) (by omega) ?_; intro A7 c7 w7 h7)
        have g7 : Grew wc w7 := h7.grew g5 fun ad e => (Own.blk_lt o6 ad e).1
        refine OnlyN.normal (hK _ _ (hsm.out _ g7) ?_)
        have o7 := h7.oe
        clear hK K h7 o6 oL5
        have sZ := (hZ.grew g7).re (by decide)
        intro K hK
        go_wp2_with (at_builtin; refine wpList_appE rfl _ _ 36 61 infoSr rfl Tryz.underlying36 rfl wc.heap.size A7 (p + 1) c7 (ms.take p ++ [⟨A2, ln, c2, A4, 1, c4⟩]) rfl o7 g7.size Z (n - p) z (ms.drop p) rfl sZ (by unfold maxLen; omega) (by omega) ?_; intro A8 c8 w8 h8)
        have g8 : Grew wc w8 := h8.grew g7 fun ad e => (Own.blk_lt o7 ad e).1
        refine OnlyN.normal (hK _ _ (hsm.out _ g8) ?_)
        have o8 := h8.oe
        clear hK K h8 o7 sZ
        rw [show p + 1 + (n - p) = n + 1 by omega, List.append_assoc, List.singleton_append] at o8
        have hb8 := hRz.hd.grew g8
        have b8 := hb8.cell 1
        have f8 := hb8.frozen 1
        have g08 := g0z.trans g8
        have hsum : ((p : Int) + 1 + ((n - p : Nat) : Int)) = ((n + 1 : Nat) : Int) := by omega
        have hin := Lib.hid (RH.ins (hRg.out _ (Chg.refl _ w)) g08 (k := p) (Own.mono o8 hzc) (⟨Own.mono (hNz.grew g8).lb g02.size, Own.mono (hNz.grew g8).pt g02.size⟩ : NsE w8 w.heap.size ⟨A2, ln, c2, A4, 1, c4⟩ ⟨lbs, [(T, V)]⟩))
        have hch : Hid (Chg R w (w8.setCell ⟨wb, 1, none⟩ (.slice A8 (n + 1) c8))) := (Chg.of_grew g08).setCell (p := ⟨wb, 1, none⟩) (.inr (hRg.out _ (Chg.refl _ w)).rh) _
        clear o8 hb8 hcs hsm hZ hNz hrz hNE hbX hbXz htk
        rw [show p + 1 + (n - p) = n + 1 by omega]
        go_wp2_with fail
        refine OnlyN.normal ?_
        go_wp2
        go_ret
        exact ⟨by simp, _, ⟨_, _, _, _, hin.out⟩, fun k hk => .inl hk, fun k hk => hk.elim .inl fun h => .inr h.1, hch.out⟩
      · have hpn : p ≤ n := by omega
        have g0 : Grew wc wc.drew := (Chg.refl _ wc).drew
        have gE : Grew wc (wc.drew.alloc (.cells #[.slice A2 ln c2, .slice A4 1 c4] 61)) := g0.alloc _
        have r0 := (hbXz.grew g0).cell 0
        have r1 := (hbXz.grew g0).cell 1
        intro K hK
        go_wp2_with fail
        refine OnlyN.normal (hK _ _ (fun _ => ⟨_, _, _, rfl, rfl, by simp⟩) ?_)
        clear hK K
        have oL0 : OE elSr (wc.drew.alloc (.cells #[.slice A2 ln c2, .slice A4 1 c4] 61)) wc.heap.size 61 (some ⟨wc.heap.size, 0, none⟩) 1 1 [⟨A2, ln, c2, A4, 1, c4⟩] := by
          have := OE.lit (E := elSr) wc.drew wc.heap.size 61 1 [⟨A2, ln, c2, A4, 1, c4⟩] #[.slice A2 ln c2, .slice A4 1 c4] g0.size (by decide) rfl rfl
          first | exact this | simpa using this | (simpa only [World.size_alloc] using this)
        intro K hK
        go_wp2_with fail
        refine OnlyN.normal (hK _ _ (hsm.out _ gE) ?_)
        clear hK K
        have gL : Grew wc ((wc.drew.alloc (.cells #[.slice A2 ln c2, .slice A4 1 c4] 61)).alloc (.cells #[] 61)) := gE.alloc _
        have oL := oL0.grew (show Grew (wc.drew.alloc (.cells #[.slice A2 ln c2, .slice A4 1 c4] 61)) ((wc.drew.alloc (.cells #[.slice A2 ln c2, .slice A4 1 c4] 61)).alloc (.cells #[] 61)) from (Chg.refl _ _).alloc _)
        have oE : OE elSr ((wc.drew.alloc (.cells #[.slice A2 ln c2, .slice A4 1 c4] 61)).alloc (.cells #[] 61)) wc.heap.size 61 (some ⟨wc.heap.size + 1, 0, none⟩) 0 0 [] := by
          have := OE.made (E := elSr) (wc.drew.alloc (.cells #[.slice A2 ln c2, .slice A4 1 c4] 61)) wc.heap.size 61 gE.size
          first | exact this | simpa using this | (simpa only [World.size_alloc] using this)
        intro K hK
        go_wp2_with fail
        refine OnlyN.normal (hK _ _ (hsm.out _ gL) ?_)
        clear hK K
        have bE := (hRz.hd.grew gL).cell 1
        intro K hK
        go_wp2_with fail
        refine OnlyN.normal (hK _ _ (fun _ => ⟨_, _, _, rfl, rfl, by simp⟩) ?_)
        clear hK K
        have sT := htk.out _ gL
        intro K hK
        go_wp2_with (at_builtin; refine wpList_appE rfl _ _ 36 61 infoSr rfl Tryz.underlying36 rfl wc.heap.size (some ⟨wc.heap.size + 1, 0, none⟩) 0 0 [] rfl oE gL.size A p _ (ms.take p) rfl sT (by unfold maxLen; omega) (by omega) ?_; intro A5 c5 w5 h5)
        have g5 : Grew wc w5 := h5.grew gL (hd_le (by omega))
        have o6 := h5.first
        have oL5 : RE elSr w5 (some ⟨wc.heap.size, 0, none⟩) 1 [⟨A2, ln, c2, A4, 1, c4⟩] := (oL.re (by decide)).chg h5.chg (fun ad e ⟨bd, e2, e3⟩ => by
          injection e with e
          injection e2 with e2
          subst e
          subst e2
          have e3 : wc.heap.size = wc.heap.size + 1 := e3
          omega)
        refine OnlyN.normal (hK _ _ (hsm.out _ g5) ?_)
        clear hK K h5 oE oL bE gE gL sT q0 q1 r0 r1 oL0
        intro K hK
        go_wp2_with (at_builtin; refine wpList_appE rfl _ _ 36 61 infoSr rfl Tryz.underlying36 rfl wc.heap.size A5 p c5 (ms.take p) rfl o6 g5.size _ 1 1 [⟨A2, ln, c2, A4, 1, c4⟩] rfl oL5 (by unfold maxLen; omega) (by omega) ?_; intro A7 c7 w7 h7)
        have g7 : Grew wc w7 := h7.grew g5 fun ad e => (Own.blk_lt o6 ad e).1
        refine OnlyN.normal (hK _ _ (hsm.out _ g7) ?_)
        have o7 := h7.oe
        clear hK K h7 o6 oL5
        have sZ := (hZ.grew g7).re (by decide)
        intro K hK
        go_wp2_with (at_builtin; refine wpList_appE rfl _ _ 36 61 infoSr rfl Tryz.underlying36 rfl wc.heap.size A7 (p + 1) c7 (ms.take p ++ [⟨A2, ln, c2, A4, 1, c4⟩]) rfl o7 g7.size Z (n - p) z (ms.drop p) rfl sZ (by unfold maxLen; omega) (by omega) ?_; intro A8 c8 w8 h8)
        have g8 : Grew wc w8 := h8.grew g7 fun ad e => (Own.blk_lt o7 ad e).1
        refine OnlyN.normal (hK _ _ (hsm.out _ g8) ?_)
        have o8 := h8.oe
        clear hK K h8 o7 sZ
        rw [show p + 1 + (n - p) = n + 1 by omega, List.append_assoc, List.singleton_append] at o8
        have hb8 := hRz.hd.grew g8
        have b8 := hb8.cell 1
        have f8 := hb8.frozen 1
        have g08 := g0z.trans g8
        have hsum : ((p : Int) + 1 + ((n - p : Nat) : Int)) = ((n + 1 : Nat) : Int) := by omega
        have hin := Lib.hid (RH.ins (hRg.out _ (Chg.refl _ w)) g08 (k := p) (Own.mono o8 hzc) (⟨Own.mono (hNz.grew g8).lb g02.size, Own.mono (hNz.grew g8).pt g02.size⟩ : NsE w8 w.heap.size ⟨A2, ln, c2, A4, 1, c4⟩ ⟨lbs, [(T, V)]⟩))
        have hch : Hid (Chg R w (w8.setCell ⟨wb, 1, none⟩ (.slice A8 (n + 1) c8))) := (Chg.of_grew g08).setCell (p := ⟨wb, 1, none⟩) (.inr (hRg.out _ (Chg.refl _ w)).rh) _
        clear o8 hb8 hcs hsm hZ hNz hrz hNE hbX hbXz htk
        rw [show p + 1 + (n - p) = n + 1 by omega]
        go_wp2_with fail
        refine OnlyN.normal ?_
        go_wp2
        go_ret
        exact ⟨by simp, _, ⟨_, _, _, _, hin.out⟩, fun k hk => .inl hk, fun k hk => hk.elim .inl fun h => .inr h.1, hch.out⟩
end Go.Proofs.YtailooldnelecaaGreatDoor

namespace Go.Proofs.YtailooldnelecaaGreatDoor
open Go.RowKit

/-- the document's list is the head's, sorted -/
structure Sim (lim N : Nat) (hs W : List Ser) : Prop where
  hv : HV lim hs
  ml : lim ≤ 1024
  sort : SortS W
  perm : W.Perm hs
  tot : tot W ≤ N
section
variable {lim N : Nat} {hs W : List Ser}
theorem Sim.hvW (h : Sim lim N hs W) : HV lim W := h.hv.perm h.perm.symm
theorem Sim.srt (h : Sim lim N hs W) : srtS hs = W := srt_uniq (srtS_sort h.hv.dis) h.sort ((srtS_perm hs).trans h.perm.symm)
theorem Sim.wok (h : Sim lim N hs W) (hN : N ≤ 1048576) : WOk W := ⟨by have := h.hvW.len; have := h.ml; omega, h.hvW.chk, by have := h.tot; omega⟩
theorem Sim.nil (lim N : Nat) (hl : lim ≤ 1024) : Sim lim N [] [] := ⟨⟨fun s h => (by cases h), fun s h => (by cases h), fun s h => (by cases h), fun s h => (by cases h), List.Pairwise.nil, Nat.zero_le _⟩, hl, List.Pairwise.nil, List.Perm.refl _, Nat.zero_le _⟩
theorem Sim.fate (h : Sim lim N hs W) (lbs : List Lab) (T : Int) (V : Nat) : fateS lim W lbs T V = fateS lim hs lbs T V := fateS_perm h.perm (sortS_dis h.sort) lim lbs T V
theorem Sim.len (h : Sim lim N hs W) : W.length = hs.length := h.perm.length_eq
theorem Sim.tots (h : Sim lim N hs W) : _root_.Eq (Go.Proofs.YtailooldnelecaaGreatDoor.tot W) (Go.Proofs.YtailooldnelecaaGreatDoor.tot hs) := tot_perm1 h.perm
theorem Sim.add (h : Sim lim N hs W) {lbs : List Lab} {T : Int} {V : Nat} (hv : HV lim (addT lim hs lbs T V)) : Sim lim (N + 1) (addT lim hs lbs T V) (addW lim W lbs T V) := by
  obtain ⟨h1, h2⟩ := addW_srt (lim := lim) h.perm h.sort lbs T V
  refine ⟨hv, h.ml, h1, h2, ?_⟩
  have h3 := tot_perm1 h2
  have h4 := tot_add (lim := lim) (lbs := lbs) (T := T) (V := V) h.hv.dis
  have h5 := h.tots
  have h6 := h.tot
  rw [h3, h4]
  split <;> omega
theorem Sim.more (h : Sim lim N hs W) {M : Nat} (hM : N ≤ M) : Sim lim M hs W := ⟨h.hv, h.ml, h.sort, h.perm, Nat.le_trans h.tot hM⟩
theorem sel_sort {W : List Ser} (h : SortS W) (u0 u1 : Int) : SortS (selS u0 u1 W) := by
  rw [selS_fm]
  exact List.Pairwise.filterMap _ (fun x y hxy x' hx y' hy => by
    show cmpLs x'.lbs y'.lbs < 0
    rw [selF_lbs hx, selF_lbs hy]
    exact hxy) h
theorem Sim.sel (h : Sim lim N hs W) (ms : List Mat) (u0 u1 : Int) : srtS (selS u0 u1 (pickH ms hs)) = selS u0 u1 (pickH ms W) := by
  have hd := ((h.hv.pick ms).sel u0 u1).dis
  refine srt_uniq (srtS_sort hd) (sel_sort (List.Pairwise.filter _ h.sort) u0 u1) ((srtS_perm _).trans ?_)
  rw [selS_fm, selS_fm]
  exact ((h.perm.symm.filter _).filterMap _)
theorem Sim.sel0 (h : Sim lim N hs W) (u0 u1 : Int) : srtS (selS u0 u1 hs) = selS u0 u1 W := by
  have := h.sel [] u0 u1
  rwa [pickH_nil, pickH_nil] at this
theorem Sim.cut (h : Sim lim N hs W) (t : Int) : Sim lim N (selS t 1099511627776 hs) (selS t 1099511627776 W) :=
  ⟨h.hv.sel _ _, h.ml, sel_sort h.sort _ _, by rw [selS_fm, selS_fm]; exact h.perm.filterMap _, Nat.le_trans (tot_sel_le _ _ _) h.tot⟩
theorem Sim.span (h : Sim lim N hs W) {tt : List Ser} (hp : tt.Perm hs) : spanS tt = spanW W := by
  rw [spanS_eq ((h.hv.perm hp.symm).span)]
  exact spanW_perm (hp.trans h.perm.symm)
end
end Go.Proofs.YtailooldnelecaaGreatDoor

namespace Go.Proofs.YtailooldnelecaaGreatDoor
open Go.RowKit

theorem add8_any {R : Nat → Prop} {wb lim : Nat} {W : List Ser} (la : Option Addr) (ln lc : Nat) (lbs : List Lab) (T : Int) (V : Nat) (w : World) (hD : RD R w wb lim W) (hso : SortS W) (hne : ∀ s ∈ W, s.pts ≠ []) (hlen : W.length ≤ 1024) (hpl : ∀ s ∈ W, s.pts.length ≤ 2199023255553) (hl : RE elLb w la ln lbs) (hlc : ln ≤ lc ∧ lc ≤ 9223372036854775807) :
    Calls Tryz.prog 12 #[.pointer (some ⟨wb, 0, none⟩), .agg #[.slice la ln lc, .int .i64 T, .int .u64 (V : Int)]] w fun e w' => e = .returned (.int .i64 (fateS lim W lbs T V)) ∧ AddR R w wb lim (addW lim W lbs T V) w' := by
  by_cases hf : fateS lim W lbs T V = 1
  · rw [hf]
    unfold addW
    rw [if_pos hf]
    cases hh : hasS W lbs
    · exact add8_new la ln lc lbs T V w hD hso hne hlen hl hlc hf hh
    · exact add8_old la ln lc lbs T V w hD hso hne hpl hl hlc hf hh
  · unfold addW
    rw [if_neg hf]
    exact (add8_no la ln lc lbs T V w hD hso hne hl hlc hf).mono fun _ _ ⟨e, g⟩ => ⟨e, R, hD.grew g, fun k h => h, fun k h => .inl h, Chg.of_grew g⟩

set_option maxRecDepth 100000 in
set_option maxHeartbeats 4000000 in
theorem cut8_no {wb : Nat} (t : Int) (w : World) (hb : t ≤ -1099511627776) :
    Calls Tryz.prog 21 #[.pointer (some ⟨wb, 0, none⟩), .int .i64 t] w fun e w' => e = .returned (.slice none 0 0) ∧ Grew w w' := by
  have e1 : decide (t ≤ -1099511627776) = true := decide_eq_true hb
  go_enter Tryz.func21, Tryz.ntmps21
  go_wp2
  go_ret
  exact ⟨by simp, Chg.refl _ _⟩

/-- a head and the document's, each in blocks of its own -/
structure Pr (S R : Nat → Prop) (w : World) (h wb lim N : Nat) (hs W : List Ser) : Prop where
  hd : HD S w h lim hs
  rd : RD R w wb lim W
  sim : Sim lim N hs W
  ap : ∀ k, S k → ¬ R k
section
variable {S R T : Nat → Prop} {w w' : World} {h wb lim N : Nat} {hs W : List Ser}
theorem Pr.chg (p : Pr S R w h wb lim N hs W) (hc : Chg T w w') (hS : ∀ k, S k → ¬ T k) (hR : ∀ k, R k → ¬ T k) : Pr S R w' h wb lim N hs W := ⟨p.hd.chg hc hS, p.rd.chg hc hR, p.sim, p.ap⟩
theorem Pr.grew (p : Pr S R w h wb lim N hs W) (hc : Grew w w') : Pr S R w' h wb lim N hs W := p.chg hc (fun _ _ e => e) (fun _ _ e => e)
theorem Pr.more (p : Pr S R w h wb lim N hs W) {M : Nat} (hM : N ≤ M) : Pr S R w h wb lim M hs W := ⟨p.hd, p.rd, p.sim.more hM, p.ap⟩
theorem Pr.w1024 (p : Pr S R w h wb lim N hs W) : W.length ≤ 1024 := by
  have h1 := p.sim.hvW.len
  have h2 := p.sim.ml
  omega
theorem Pr.pts (p : Pr S R w h wb lim N hs W) : ∀ s ∈ W, s.pts.length ≤ 2199023255553 := fun _ hs => p.sim.hvW.pts_len hs
/-- what a call leaves: the pair, more blocks if any are new ones (from B on), nothing else turned -/
def PrD (S R : Nat → Prop) (w : World) (B h wb lim N : Nat) (w' : World) : Prop := ∃ S' R' hs' W', Pr S' R' w' h wb lim N hs' W' ∧ (∀ k, S' k → S k ∨ B ≤ k) ∧ (∀ k, R' k → R k ∨ B ≤ k) ∧ Chg (fun k => S k ∨ R k) w w'
/-- both take a sample -/
theorem Pr.add (p : Pr S R w h wb lim N hs W) {lbs : List Lab} {T : Int} {V : Nat} {w1 w2 : World} (h1 : AddD S w h lim (addT lim hs lbs T V) w1) (h2 : AddR R w1 wb lim (addW lim W lbs T V) w2) : PrD S R w w.heap.size h wb lim (N + 1) w2 := by
  obtain ⟨S', hD, a1, a2, a3⟩ := h1
  obtain ⟨R', hR, b1, b2, b3⟩ := h2
  have hz := a3.size
  have hlt := p.rd.lt
  have hS'R : ∀ k, S' k → ¬ R k := fun k hk hr => by
    rcases a2 k hk with h3 | h3
    · exact p.ap k h3 hr
    · have := hlt k hr
      omega
  have hD2 := hD.chg b3 hS'R
  refine ⟨S', R', _, _, ⟨hD2, hR, p.sim.add hD.hv, fun k hk hr => ?_⟩, a2, fun k hk => ?_, (a3.mono fun k _ e => .inl e).step b3 fun k _ e => .inr e⟩
  · rcases b2 k hr with h3 | h3
    · exact hS'R k hk h3
    · have := hD.lt k hk
      omega
  · rcases b2 k hk with h3 | h3
    · exact .inl h3
    · exact .inr (by omega)
/-- both are cut -/
theorem Pr.cut (p : Pr S R w h wb lim N hs W) {t : Int} {w1 w2 : World} (h1 : HD S w1 h lim (selS t 1099511627776 hs)) (hc : Chg S w w1) (h2 : CutR R w1 wb lim (selS t 1099511627776 W) w2) : PrD S R w w1.heap.size h wb lim N w2 := by
  obtain ⟨R', hR, b1, b2, b3⟩ := h2
  have hD2 := h1.chg b3 p.ap
  refine ⟨S, R', _, _, ⟨hD2, hR, p.sim.cut t, fun k hk hr => ?_⟩, fun k hk => .inl hk, b2, (hc.mono fun k _ e => .inl e).step b3 fun k _ e => .inr e⟩
  rcases b2 k hr with h3 | h3
  · exact p.ap k hk h3
  · have := h1.lt k hk
    omega
theorem Pr.stay (p : Pr S R w h wb lim N hs W) (B : Nat) : PrD S R w B h wb lim N w := ⟨S, R, hs, W, p, fun _ hk => .inl hk, fun _ hk => .inl hk, Chg.refl _ _⟩
theorem PrD.grew {w1 w2 : World} {B : Nat} (hp : PrD S R w B h wb lim N w1) (hc : Grew w1 w2) : PrD S R w B h wb lim N w2 := by
  obtain ⟨S', R', hs', W', p, a, b, c⟩ := hp
  exact ⟨S', R', hs', W', p.grew hc, a, b, c.grow hc⟩
theorem PrD.low {w1 : World} {B C : Nat} (hp : PrD S R w B h wb lim N w1) (hC : C ≤ B) : PrD S R w C h wb lim N w1 := by
  obtain ⟨S', R', hs', W', p, a, b, c⟩ := hp
  exact ⟨S', R', hs', W', p, fun k hk => (a k hk).imp id (by omega), fun k hk => (b k hk).imp id (by omega), c⟩
theorem PrD.more {w1 : World} {B M : Nat} (hp : PrD S R w B h wb lim N w1) (hM : N ≤ M) : PrD S R w B h wb lim M w1 := by
  obtain ⟨S', R', hs', W', p, a, b, c⟩ := hp
  exact ⟨S', R', hs', W', p.more hM, a, b, c⟩
theorem PrD.from {w1 w2 : World} {B : Nat} (hp : PrD S R w1 B h wb lim N w2) (hg : Grew w w1) : PrD S R w B h wb lim N w2 := by
  obtain ⟨S', R', hs', W', p, a, b, c⟩ := hp
  exact ⟨S', R', hs', W', p, a, b, (Chg.of_grew hg).trans c⟩
/-- blocks that were made on the way turn: the pair stays -/
theorem PrD.spoil {w1 w2 : World} {B : Nat} (hp : PrD S R w B h wb lim N w1) (hS : ∀ k, S k → k < w.heap.size) (hR : ∀ k, R k → k < w.heap.size) (hc : Chg T w1 w2) (hT : ∀ k, T k → w.heap.size ≤ k ∧ k < B) : PrD S R w B h wb lim N w2 := by
  obtain ⟨S', R', hs', W', p, a, b, c⟩ := hp
  refine ⟨S', R', hs', W', p.chg hc (fun k hk ht => ?_) (fun k hk ht => ?_), a, b, c.step hc fun k hk ht => ?_⟩
  · have := hT k ht
    rcases a k hk with h3 | h3
    · have := hS k h3
      omega
    · omega
  · have := hT k ht
    rcases b k hk with h3 | h3
    · have := hR k h3
      omega
    · omega
  · have := hT k ht
    omega
end
end Go.Proofs.YtailooldnelecaaGreatDoor

namespace Go.Proofs.YtailooldnelecaaGreatDoor
open Go.RowKit

/-- a mark -/
def spX : Lab := (⟨#[115, 112, 111, 105, 108, 116]⟩, ⟨#[115, 112, 111, 105, 108, 116]⟩)
def LentLb (w : World) (n : Nat) (l : List Lab) (e : Ending) (w' : World) : Prop := ∃ A c, e = .returned (.slice A n c) ∧ OE elLb w' w.heap.size 72 A (n + 2) c (l ++ [spX, spX]) ∧ Grew w w'

set_option maxHeartbeats 400000 in
theorem lendLb_any (A : Option Addr) (n c : Nat) (l : List Lab) (w : World) (h : RE elLb w A n l) (hn : n ≤ 4398046511096) :
    Calls Tryz.prog 10 #[.slice A n c] w (LentLb w n l) := by
  go_enter Tryz.func10, Tryz.ntmps10
  go_wp2_with fail
  refine (copyLabels_any A n c l _ h (by omega)).mono ?_
  rintro e w1 ⟨A1, c1, rfl, h1, hg1⟩
  have h1a := h1.grew ((Chg.refl _ w1).alloc (.cells #[.string ⟨#[115, 112, 111, 105, 108, 116]⟩, .string ⟨#[115, 112, 111, 105, 108, 116]⟩, .string ⟨#[115, 112, 111, 105, 108, 116]⟩, .string ⟨#[115, 112, 111, 105, 108, 116]⟩] 72))
  have hr : RE elLb (w1.alloc (.cells #[.string ⟨#[115, 112, 111, 105, 108, 116]⟩, .string ⟨#[115, 112, 111, 105, 108, 116]⟩, .string ⟨#[115, 112, 111, 105, 108, 116]⟩, .string ⟨#[115, 112, 111, 105, 108, 116]⟩] 72)) (some ⟨w1.heap.size, 0, none⟩) 2 [spX, spX] := RE.newAt rfl rfl rfl
  have hs1 := hg1.size
  go_wp2_with (at_builtin; refine wpList_appE rfl _ _ 28 72 infoLb rfl Tryz.underlying28 rfl w.heap.size A1 n c1 l rfl h1a (by simp; omega) _ 2 2 [spX, spX] rfl hr (by unfold maxLen; omega) (by omega) ?_; intro A2 c2 w2 h2; have hc2 := h2.oe.cap)
  go_ret
  refine ⟨A2, c2, by simp, h2.oe, ?_⟩
  exact h2.grew (hg1.alloc _) fun ad e => (Own.blk_lt h1 ad e).1

theorem sameLb_yes (A B : Option Addr) (n m c d : Nat) (l : List Lab) (w : World) (ha : RE elLb w A n l) (hb : RE elLb w B m l) (hn : n ≤ 9223372036854775807) (hm : m ≤ 9223372036854775807) :
    Calls Tryz.prog 26 #[.slice A n c, .slice B m d] w fun e w' => e = .returned (.bool true) ∧ Grew w w' := by
  have := sameLabels_any A B n m c d l l w ha hb hn hm
  rwa [eqB_true rfl] at this
set_option maxHeartbeats 1000000 in
theorem keptLb_any (A : Option Addr) (n c : Nat) (l : List Lab) (B : Option Addr) (d : Nat) (base : Nat) (w : World) (h : OE elLb w base 72 A (n + 2) c (l ++ [spX, spX])) (hb : RE elLb w B n l) (hn : n ≤ 4398046511096) :
    Calls Tryz.prog 15 #[.slice A n c, .slice B n d] w fun e w' => e = .returned (.bool true) ∧ Chg (fun k => ∃ ad, A = some ad ∧ k = ad.block) w w' := by
  have hc := h.cap
  obtain ⟨g, rfl, hbg, hg, _⟩ := Own.at_ h (by omega)
  have hl : l.length = n := hb.1
  have hre := h.re (by decide)
  have ha : RE elLb w (some ⟨g, 0, none⟩) n l := by have := hre.take (i := n) (by omega); rwa [List.take_left' hl] at this
  have hz : RE elLb w (some ⟨g, n * 2, none⟩) 2 [spX, spX] := by
    have := hre.drop n
    rw [List.drop_left' hl, add_head] at this
    simpa [elLb] using this
  clear hre
  go_enter Tryz.func15, Tryz.ntmps15
  go_wp2_with fail
  refine (sameLb_yes _ _ n n c d l _ ha hb (by omega) (by omega)).mono ?_
  rintro e w1 ⟨rfl, g1⟩
  obtain ⟨Y, hY⟩ : ∃ Y, Y = w1.alloc (.cells #[.string ⟨#[115, 112, 111, 105, 108, 116]⟩, .string ⟨#[115, 112, 111, 105, 108, 116]⟩, .string ⟨#[115, 112, 111, 105, 108, 116]⟩, .string ⟨#[115, 112, 111, 105, 108, 116]⟩] 72) := ⟨_, rfl⟩
  have gY : Grew w1 Y := by rw [hY]; exact (Chg.refl _ w1).alloc _
  have hr : RE elLb Y (some ⟨w1.heap.size, 0, none⟩) 2 [spX, spX] := by rw [hY]; exact RE.newAt rfl rfl rfl
  have hC := sameLb_yes (some ⟨g, n * 2, none⟩) (some ⟨w1.heap.size, 0, none⟩) 2 2 (c - n) 2 [spX, spX] Y ((hz.grew g1).grew gY) hr (by omega) (by omega)
  have g01 := g1.trans gY
  have hw0 := Lib.hid (Own.wr h)
  clear hr hz ha hb h g1 gY
  go_wp2_with fail
  rw [← hY]
  clear hY
  refine hC.mono ?_
  rintro e w2 ⟨rfl, g2⟩
  have hg02 := g01.trans g2
  have hw : Wr w2 (some ⟨g, 0, none⟩) ((n + 2) * 2) := hw0.out.chg hg02 fun _ _ e => e
  have hcg : Chg (fun k => ∃ ad, some (⟨g, 0, none⟩ : Addr) = some ad ∧ k = ad.block) w w2 := Chg.of_grew hg02
  clear hC g01 g2 hg02 hw0
  go_wp2
  go_loopw [7] (fun i wr => ∃ k : Nat, k ≤ n + 2 ∧ i = .int .i64 k ∧ Wr wr (some ⟨g, 0, none⟩) ((n + 2) * 2) ∧ Chg (fun k => ∃ ad, some (⟨g, 0, none⟩ : Addr) = some ad ∧ k = ad.block) w wr) (fun i _ => n + 2 - (intOf i).toNat)
  case atStart => exact ⟨0, Nat.zero_le _, rfl, hw, hcg⟩
  case round =>
    clear hw hcg w2
    obtain ⟨k, hk, rfl, hw, hcg⟩ := hrel
    by_cases hlt : k < n + 2
    · obtain ⟨ad, u, he, hcell, hfr⟩ := hw.at_ (j := k * 2) (by omega)
      injection he with he
      subst he
      obtain ⟨ad, u', he, hcell', hfr'⟩ := hw.at_ (j := k * 2 + 1) (by omega)
      injection he with he
      subst he
      rw [add_head] at hcell hfr hcell' hfr'
      go_wp2
      go_roundw
      case rel => exact ⟨k + 1, by omega, by go_num, (hw.set _ _).set _ _, (hcg.setCell (p := ⟨g, k * 2, none⟩) (.inr ⟨_, rfl, rfl⟩) _).setCell (p := ⟨g, k * 2 + 1, none⟩) (.inr ⟨_, rfl, rfl⟩) _⟩
      case measure => simp [intOf]; omega
    · go_wp2
      go_ret
      exact ⟨by simp, hcg⟩
end Go.Proofs.YtailooldnelecaaGreatDoor

namespace Go.Proofs.YtailooldnelecaaGreatDoor
open Go.RowKit

theorem sameN8 {w : World} {A B : Option Addr} {n m c d : Nat} {l r : List Ser} (ha : RS w A n l) (hb : RS w B m r) (hn : n ≤ 9223372036854775807) (hm : m ≤ 9223372036854775807) (he : l = r) : Calls Tryz.prog 7 #[.slice A n c, .slice B m d] w fun e w' => e = .returned (.bool true) ∧ Grew w w' := by
  have := sameS_any A B n m c d l r w ha hb hn hm
  rw [eqB_true he] at this
  exact this
theorem NS.spsC {T : Nat → Prop} {w w1 : World} {base : Nat} {A : Option Addr} {n c : Nat} {ss : List Ser} (h : NS w base A n c ss) (hs : Small ss) (hg : Chg T w w1) (hT : ∀ k, base ≤ k → ¬ T k) : ∃ ms, SpS w1 base w.heap.size A n c ms := by
  obtain ⟨ms, h1, h2, h3⟩ := h
  have hk : ∀ m ∈ ms, ∃ s ∈ ss, NsE w base m s := fun m hm => by
    obtain ⟨i, hi⟩ := List.getElem?_of_mem hm
    have hil := (List.getElem?_eq_some_iff.1 hi).1
    have hsi : ss[i]? = some (ss[i]'(by omega)) := List.getElem?_eq_getElem (by omega)
    exact ⟨_, List.mem_of_getElem? hsi, h3 i m _ hi hsi⟩
  refine ⟨ms, h1.chg hg fun ad e => hT _ (Own.blk_lt h1 ad e).1, fun ad e => (Own.blk_lt h1 ad e).2, fun m hm => ?_, fun m hm => ?_⟩
  · obtain ⟨s, hs1, hN⟩ := hk m hm
    have hel := hs.el s hs1
    have hl := hN.lb.len (by decide)
    exact ⟨⟨_, hN.lb.chg hg fun ad e => hT _ (Own.blk_lt hN.lb ad e).1⟩, by omega, fun ad e => (Own.blk_lt hN.lb ad e).2⟩
  · obtain ⟨s, hs1, hN⟩ := hk m hm
    have hel := hs.el s hs1
    have hl := hN.pt.len (by decide)
    exact ⟨⟨_, hN.pt.chg hg fun ad e => hT _ (Own.blk_lt hN.pt ad e).1⟩, by omega, fun ad e => (Own.blk_lt hN.pt ad e).2⟩
theorem small_sel {ss : List Ser} (h : Small ss) (ms : List Mat) (u0 u1 : Int) : Small (selS u0 u1 (pickH ms ss)) := by
  refine ⟨?_, fun s hs => ?_⟩
  · have h1 := h.n
    have h2 : (selS u0 u1 (pickH ms ss)).length ≤ ss.length := by
      rw [selS_fm]
      exact Nat.le_trans (List.length_filterMap_le _ _) (List.length_filter_le _ _)
    omega
  · rw [selS_fm] at hs
    obtain ⟨x, hx, hf⟩ := List.mem_filterMap.1 hs
    have hel := h.el x (List.mem_filter.1 hx).1
    unfold selF at hf
    split at hf
    · cases hf
    · injection hf with hf
      subst hf
      exact ⟨hel.1, Nat.le_trans (List.length_filter_le _ _) hel.2⟩
section
variable {S R : Nat → Prop} {w0 w : World} {h wb lim N : Nat} {hs W : List Ser}

set_option maxRecDepth 100000 in
set_option maxHeartbeats 8000000 in
theorem told_put (la : Option Addr) (ln lc : Nat) (T : Int) (V : Nat) (ma : Option Addr) (mn mc : Nat) (f t : Int) (lbs : List Lab) (hl : RE elLb w0 la ln lbs) (hlc : ln ≤ lc ∧ lc ≤ 9223372036854775807) (hln : ln ≤ 1048576) (p : Pr S R w h wb lim N hs W) (g0 : Grew w0 w) (hS : ∀ k, S k → w0.heap.size ≤ k) (hR : ∀ k, R k → w0.heap.size ≤ k) (hN : N + 1 ≤ 1048576) (_hm : MaxL w0) :
    Calls Tryz.prog 6 #[.pointer (some ⟨h, 0, none⟩), .pointer (some ⟨wb, 0, none⟩), .agg #[.int .i64 0, .slice la ln lc, .int .i64 T, .int .u64 (V : Int), .slice ma mn mc, .int .i64 f, .int .i64 t]] w fun e w' => e = .returned (.bool true) ∧ PrD S R w w.heap.size h wb lim (N + 1) w' := by
  obtain ⟨X, hX⟩ : ∃ X, X = (w.alloc (.cells #[.int .i64 0, .slice la ln lc, .int .i64 T, .int .u64 (V : Int), .slice ma mn mc, .int .i64 f, .int .i64 t] 34)).alloc (.cells #[.slice la ln lc, .int .i64 T, .int .u64 (V : Int)] 31) := ⟨_, rfl⟩
  have gX : Grew w X := by rw [hX]; exact ((Chg.refl _ w).alloc _).alloc _
  have hbx : Blk X w.heap.size 34 #[.int .i64 0, .slice la ln lc, .int .i64 T, .int .u64 (V : Int), .slice ma mn mc, .int .i64 f, .int .i64 t] := by rw [hX]; exact (Blk.new w _ _).alloc _
  have hby : Blk X (w.heap.size + 1) 31 #[.slice la ln lc, .int .i64 T, .int .u64 (V : Int)] := by
    rw [hX]
    have := Blk.new (w.alloc (.cells #[.int .i64 0, .slice la ln lc, .int .i64 T, .int .u64 (V : Int), .slice ma mn mc, .int .i64 f, .int .i64 t] 34)) 31 #[.slice la ln lc, .int .i64 T, .int .u64 (V : Int)]
    simpa using this
  have hXs : X.heap.size = w.heap.size + 2 := by rw [hX]; simp
  have x0 := hbx.cell 0
  have x1 := hbx.cell 1
  have hSlt := Lib.hid p.hd.lt
  have hRlt := Lib.hid p.rd.lt
  have hLe := lendLb_any la ln lc lbs X (hl.grew (g0.trans gX)) (by omega)
  replace hbx := Lib.hid hbx
  replace hby := Lib.hid hby
  go_enter Tryz.func6, Tryz.ntmps6
  go_wp2_with fail
  rw [← hX]
  clear hX
  refine hLe.mono ?_
  rintro e w1 ⟨A, c, rfl, hO, g1⟩
  have hby1 := hby.out.grew g1
  have y0 := hby1.cell 0
  have yf := hby1.frozen 0
  obtain ⟨Y, hY⟩ : ∃ Y, Y = w1.setCell ⟨w.heap.size + 1, 0, none⟩ (.slice A ln c) := ⟨_, rfl⟩
  have hcY : Chg (fun k => k = w.heap.size + 1) w1 Y := by rw [hY]; exact Chg.one w1 _ _ _
  have gXY : Grew w w1 := gX.trans g1
  have gY : Grew w Y := gXY.step hcY fun k hk e => by omega
  have hbyY : Blk Y (w.heap.size + 1) 31 #[.slice A ln c, .int .i64 T, .int .u64 (V : Int)] := by rw [hY]; simpa using hby1.set 0 (.slice A ln c)
  have hbxY := (hbx.out.grew g1).chg hcY (by omega)
  have hYs : w1.heap.size ≤ Y.heap.size := hcY.size
  have hOb := Own.blk_lt hO
  have hOY := hO.chg hcY fun ad e e2 => by
    have := hOb ad e
    omega
  have v0 := hbyY.cell 0
  have v1 := hbyY.cell 1
  have v2 := hbyY.cell 2
  have x0 := hbxY.cell 0
  have x1 := hbxY.cell 1
  have x2 := hbxY.cell 2
  have x3 := hbxY.cell 3
  have pY := p.grew gY
  have hcap := hO.cap
  have hlY : RE elLb Y A ln lbs := by
    have := (hOY.re (by decide)).take (i := ln) (by omega)
    rwa [List.take_left' hl.1] at this
  have g0Y := g0.trans gY
  have hXz : w.heap.size + 2 ≤ w1.heap.size := by have := g1.size; omega
  have hXl : w.heap.size ≤ X.heap.size := by omega
  clear hO hby1 hby hbx hcY gXY gX g1 hXs hLe
  have hAd := add_hd A ln c lbs T V pY.hd hlY (by omega)
  replace hl := Lib.hid hl
  replace hOb := Lib.hid hOb
  replace hOY := Lib.hid hOY
  have rx0 := x0
  have rv0 := v0
  have rv1 := v1
  have rv2 := v2
  rw [hY] at rx0 rv0 rv1 rv2
  go_wp2_with fail
  rw [← hY]
  clear hY rx0 rv0 rv1 rv2
  refine hAd.mono ?_
  rintro e w2 ⟨rfl, hA2⟩
  have hc2 : Chg S Y w2 := by obtain ⟨_, _, _, _, h⟩ := hA2; exact h
  have z1 := hc2.cell x1 (fun e => absurd (hSlt.out _ e) (Nat.lt_irrefl _))
  have z2 := hc2.cell x2 (fun e => absurd (hSlt.out _ e) (Nat.lt_irrefl _))
  have z3 := hc2.cell x3 (fun e => absurd (hSlt.out _ e) (Nat.lt_irrefl _))
  have hR2 := pY.rd.chg hc2 fun k hr hs => p.ap k hs hr
  have g02 : Grew w0 w2 := Chg.new g0Y hc2 hS
  have hAd8 := add8_any la ln lc lbs T V w2 hR2 p.sim.sort p.sim.hvW.non p.w1024 p.pts (hl.out.grew g02) hlc
  rw [p.sim.fate] at hAd8
  replace hA2 := Lib.hid hA2
  clear hAd g02 hc2 hR2
  generalize fateS lim hs lbs T V = fa at *
  go_wp2_with fail
  refine hAd8.mono ?_
  rintro e w3 ⟨rfl, hA3⟩
  have hPD := pY.add hA2.out hA3
  have hc03 : Chg (fun k => S k ∨ R k) Y w3 := by obtain ⟨_, _, _, _, _, _, _, h⟩ := hPD; exact h
  have g03 : Grew w0 w3 := Chg.new g0Y hc03 fun k hk => hk.elim (hS k) (hR k)
  have u0 := hc03.cell v0 (fun e => e.elim (fun e => by have := hSlt.out _ e; dsimp only at this; omega) (fun e => by have := hRlt.out _ e; dsimp only at this; omega))
  have u1 := hc03.cell x1 (fun e => e.elim (fun e => absurd (hSlt.out _ e) (Nat.lt_irrefl _)) (fun e => absurd (hRlt.out _ e) (Nat.lt_irrefl _)))
  have hO3 := hOY.out.chg hc03 fun ad e e2 => by
    have := hOb.out ad e
    rcases e2 with e2 | e2
    · have := hSlt.out _ e2
      omega
    · have := hRlt.out _ e2
      omega
  have hK := keptLb_any A ln c lbs la lc X.heap.size w3 hO3 (hl.out.grew g03) (by omega)
  replace hPD := Lib.hid hPD
  clear hAd8 hA2 hA3 hO3 hOY g03 hc03 z1 z2 z3 x0 x1 x2 x3 v0 v1 v2
  go_wp2_with fail
  refine hK.mono ?_
  rintro e w4 ⟨rfl, hc4⟩
  have hPZ : PrD S R w w.heap.size h wb lim (N + 1) w4 := ((hPD.out.from gY).spoil hSlt.out hRlt.out hc4 (fun k ⟨ad, e, e2⟩ => by
    have := hOb.out ad e
    omega)).low (by omega)
  clear hK hPD hc4 hOb hSlt hRlt u0 u1 p pY hl
  obtain ⟨S', R', hs', W', p', q1, q2, q3⟩ := hPZ
  have htW : Go.Proofs.YtailooldnelecaaGreatDoor.tot W' ≤ 9223372036854775807 := by have := p'.sim.tot; omega
  have hneW := Lib.hid p'.sim.hvW.non
  have hl8 := Lib.hid p'.sim.len
  have ht8 := Lib.hid p'.sim.tots
  have hs8 := Lib.hid fun tt (hp : List.Perm tt hs') => p'.sim.span hp
  replace q1 := Lib.hid q1
  replace q2 := Lib.hid q2
  replace q3 := Lib.hid q3
  go_wp2_with fail
  refine (count_hd p'.hd).mono ?_
  rintro e v1 ⟨rfl, k1⟩
  have p1 := p'.grew k1
  have hC8 := count8_any p1.rd htW
  rw [hl8.out, ht8.out] at hC8
  generalize hs'.length = nz at *
  generalize Go.Proofs.YtailooldnelecaaGreatDoor.tot hs' = tz at *
  clear hl8 ht8 htW p'
  go_wp2_with fail
  refine hC8.mono ?_
  rintro e v2 ⟨rfl, k2⟩
  have p2 := p1.grew k2
  clear hC8 p1
  go_wp2_with fail
  refine (span_hd p2.hd).mono ?_
  rintro e v3 ⟨tt, hp, rfl, k3⟩
  have p3 := p2.grew k3
  have hS9 := span8_any p3.rd hneW.out
  rw [← hs8.out tt hp] at hS9
  generalize spanS tt = sp at *
  obtain ⟨lo, hi, bz⟩ := sp
  dsimp only at hS9
  clear hs8 hp p2 hneW
  go_wp2_with fail
  refine hS9.mono ?_
  rintro e v4 ⟨rfl, k4⟩
  have p4 := p3.grew k4
  have hq3 := Lib.hid ((((q3.out.grow k1).grow k2).grow k3).grow k4)
  clear hS9 p3 k1 k2 k3 k4 q3
  cases bz
  · go_wp2
    go_ret
    exact ⟨by simp, S', R', _, _, p4, q1.out, q2.out, hq3.out⟩
  · go_wp2
    go_ret
    exact ⟨by simp, S', R', _, _, p4, q1.out, q2.out, hq3.out⟩

set_option maxRecDepth 100000 in
set_option maxHeartbeats 8000000 in
theorem told_fate (la : Option Addr) (ln lc : Nat) (T : Int) (V : Nat) (ma : Option Addr) (mn mc : Nat) (f t : Int) (lbs : List Lab) (hl : RE elLb w0 la ln lbs) (hlc : ln ≤ lc ∧ lc ≤ 9223372036854775807) (hln : ln ≤ 1048576) (p : Pr S R w h wb lim N hs W) (g0 : Grew w0 w) (_hS : ∀ k, S k → w0.heap.size ≤ k) (_hR : ∀ k, R k → w0.heap.size ≤ k) (hN : N + 1 ≤ 1048576) (_hm : MaxL w0) :
    Calls Tryz.prog 6 #[.pointer (some ⟨h, 0, none⟩), .pointer (some ⟨wb, 0, none⟩), .agg #[.int .i64 1, .slice la ln lc, .int .i64 T, .int .u64 (V : Int), .slice ma mn mc, .int .i64 f, .int .i64 t]] w fun e w' => e = .returned (.bool true) ∧ PrD S R w w.heap.size h wb lim (N + 1) w' := by
  obtain ⟨X, hX⟩ : ∃ X, X = (w.alloc (.cells #[.int .i64 1, .slice la ln lc, .int .i64 T, .int .u64 (V : Int), .slice ma mn mc, .int .i64 f, .int .i64 t] 34)).alloc (.cells #[.slice la ln lc, .int .i64 T, .int .u64 (V : Int)] 31) := ⟨_, rfl⟩
  have gX : Grew w X := by rw [hX]; exact ((Chg.refl _ w).alloc _).alloc _
  have hbx : Blk X w.heap.size 34 #[.int .i64 1, .slice la ln lc, .int .i64 T, .int .u64 (V : Int), .slice ma mn mc, .int .i64 f, .int .i64 t] := by rw [hX]; exact (Blk.new w _ _).alloc _
  have hby : Blk X (w.heap.size + 1) 31 #[.slice la ln lc, .int .i64 T, .int .u64 (V : Int)] := by
    rw [hX]
    have := Blk.new (w.alloc (.cells #[.int .i64 1, .slice la ln lc, .int .i64 T, .int .u64 (V : Int), .slice ma mn mc, .int .i64 f, .int .i64 t] 34)) 31 #[.slice la ln lc, .int .i64 T, .int .u64 (V : Int)]
    simpa using this
  have hXs : X.heap.size = w.heap.size + 2 := by rw [hX]; simp
  have x0 := hbx.cell 0
  have x1 := hbx.cell 1
  have hSlt := Lib.hid p.hd.lt
  have hRlt := Lib.hid p.rd.lt
  have hLe := lendLb_any la ln lc lbs X (hl.grew (g0.trans gX)) (by omega)
  replace hbx := Lib.hid hbx
  replace hby := Lib.hid hby
  go_enter Tryz.func6, Tryz.ntmps6
  go_wp2_with fail
  rw [← hX]
  clear hX
  refine hLe.mono ?_
  rintro e w1 ⟨A, c, rfl, hO, g1⟩
  have hby1 := hby.out.grew g1
  have y0 := hby1.cell 0
  have yf := hby1.frozen 0
  obtain ⟨Y, hY⟩ : ∃ Y, Y = w1.setCell ⟨w.heap.size + 1, 0, none⟩ (.slice A ln c) := ⟨_, rfl⟩
  have hcY : Chg (fun k => k = w.heap.size + 1) w1 Y := by rw [hY]; exact Chg.one w1 _ _ _
  have gXY : Grew w w1 := gX.trans g1
  have gY : Grew w Y := gXY.step hcY fun k hk e => by omega
  have hbyY : Blk Y (w.heap.size + 1) 31 #[.slice A ln c, .int .i64 T, .int .u64 (V : Int)] := by rw [hY]; simpa using hby1.set 0 (.slice A ln c)
  have hbxY := (hbx.out.grew g1).chg hcY (by omega)
  have hYs : w1.heap.size ≤ Y.heap.size := hcY.size
  have hOb := Own.blk_lt hO
  have hOY := hO.chg hcY fun ad e e2 => by
    have := hOb ad e
    omega
  have v0 := hbyY.cell 0
  have v1 := hbyY.cell 1
  have v2 := hbyY.cell 2
  have x0 := hbxY.cell 0
  have x1 := hbxY.cell 1
  have x2 := hbxY.cell 2
  have x3 := hbxY.cell 3
  have pY := p.grew gY
  have hcap := hO.cap
  have hlY : RE elLb Y A ln lbs := by
    have := (hOY.re (by decide)).take (i := ln) (by omega)
    rwa [List.take_left' hl.1] at this
  have g0Y := g0.trans gY
  have hXz : w.heap.size + 2 ≤ w1.heap.size := by have := g1.size; omega
  have hXl : w.heap.size ≤ X.heap.size := by omega
  clear hO hby1 hby hbx hcY gXY gX g1 hXs hLe
  have hAd := fate_hd A ln c lbs T V pY.hd hlY (by omega)
  replace hl := Lib.hid hl
  replace hOb := Lib.hid hOb
  replace hOY := Lib.hid hOY
  have rx0 := x0
  have rv0 := v0
  have rv1 := v1
  have rv2 := v2
  rw [hY] at rx0 rv0 rv1 rv2
  go_wp2_with fail
  rw [← hY]
  clear hY rx0 rv0 rv1 rv2
  refine hAd.mono ?_
  rintro e w2 ⟨rfl, g2⟩
  have z1 := g2.cell x1 (fun e => e)
  have z2 := g2.cell x2 (fun e => e)
  have z3 := g2.cell x3 (fun e => e)
  have p2 := pY.grew g2
  have g02 : Grew w0 w2 := g0Y.trans g2
  have hAd8 := fate8_any la ln lc lbs T V w2 p2.rd p.sim.sort p.sim.hvW.non (hl.out.grew g02) hlc
  rw [p.sim.fate] at hAd8
  clear hAd
  generalize fateS lim hs lbs T V = fa at *
  go_wp2_with fail
  refine hAd8.mono ?_
  rintro e w3 ⟨rfl, g3⟩
  have p3 := p2.grew g3
  have gY3 := g2.trans g3
  have g03 : Grew w0 w3 := g0Y.trans gY3
  have u0 := gY3.cell v0 (fun e => e)
  have u1 := gY3.cell x1 (fun e => e)
  have hK := keptLb_any A ln c lbs la lc X.heap.size w3 (hOY.out.grew gY3) (hl.out.grew g03) (by omega)
  clear hAd8 hOY g03 z1 z2 z3 x0 x1 x2 x3 v0 v1 v2
  go_wp2_with fail
  refine hK.mono ?_
  rintro e w4 ⟨rfl, hc4⟩
  have hPZ : PrD S R w w.heap.size h wb lim (N + 1) w4 := (((((p.stay Y.heap.size).grew (gY.trans gY3))).more (Nat.le_succ N)).spoil hSlt.out hRlt.out hc4 (fun k ⟨ad, e, e2⟩ => by
    have := hOb.out ad e
    omega)).low (by omega)
  clear hK hc4 hOb hSlt hRlt u0 u1 p pY p2 p3 hl
  obtain ⟨S', R', hs', W', p', q1, q2, q3⟩ := hPZ
  have htW : Go.Proofs.YtailooldnelecaaGreatDoor.tot W' ≤ 9223372036854775807 := by have := p'.sim.tot; omega
  have hneW := Lib.hid p'.sim.hvW.non
  have hl8 := Lib.hid p'.sim.len
  have ht8 := Lib.hid p'.sim.tots
  have hs8 := Lib.hid fun tt (hp : List.Perm tt hs') => p'.sim.span hp
  replace q1 := Lib.hid q1
  replace q2 := Lib.hid q2
  replace q3 := Lib.hid q3
  go_wp2_with fail
  refine (count_hd p'.hd).mono ?_
  rintro e v1 ⟨rfl, k1⟩
  have p1 := p'.grew k1
  have hC8 := count8_any p1.rd htW
  rw [hl8.out, ht8.out] at hC8
  generalize hs'.length = nz at *
  generalize Go.Proofs.YtailooldnelecaaGreatDoor.tot hs' = tz at *
  clear hl8 ht8 htW p'
  go_wp2_with fail
  refine hC8.mono ?_
  rintro e v2 ⟨rfl, k2⟩
  have p2 := p1.grew k2
  clear hC8 p1
  go_wp2_with fail
  refine (span_hd p2.hd).mono ?_
  rintro e v3 ⟨tt, hp, rfl, k3⟩
  have p3 := p2.grew k3
  have hS9 := span8_any p3.rd hneW.out
  rw [← hs8.out tt hp] at hS9
  generalize spanS tt = sp at *
  obtain ⟨lo, hi, bz⟩ := sp
  dsimp only at hS9
  clear hs8 hp p2 hneW
  go_wp2_with fail
  refine hS9.mono ?_
  rintro e v4 ⟨rfl, k4⟩
  have p4 := p3.grew k4
  have hq3 := Lib.hid ((((q3.out.grow k1).grow k2).grow k3).grow k4)
  clear hS9 p3 k1 k2 k3 k4 q3
  cases bz
  · go_wp2
    go_ret
    exact ⟨by simp, S', R', _, _, p4, q1.out, q2.out, hq3.out⟩
  · go_wp2
    go_ret
    exact ⟨by simp, S', R', _, _, p4, q1.out, q2.out, hq3.out⟩

set_option maxRecDepth 100000 in
set_option maxHeartbeats 8000000 in
theorem told_sel (la : Option Addr) (ln lc : Nat) (T : Int) (V : Nat) (ma : Option Addr) (mn mc : Nat) (f t : Int) (ms : List Mat) (hM : RE elMa w0 ma mn ms) (hmn : mn ≤ 1048576) (hms : ∀ x ∈ ms, x.2.1.size ≤ 1048576 ∧ x.2.2.size ≤ 1048576) (p : Pr S R w h wb lim N hs W) (g0 : Grew w0 w) (_hS : ∀ k, S k → w0.heap.size ≤ k) (_hR : ∀ k, R k → w0.heap.size ≤ k) (hN : N + 1 ≤ 1048576) (hm : MaxL w0) :
    Calls Tryz.prog 6 #[.pointer (some ⟨h, 0, none⟩), .pointer (some ⟨wb, 0, none⟩), .agg #[.int .i64 2, .slice la ln lc, .int .i64 T, .int .u64 (V : Int), .slice ma mn mc, .int .i64 f, .int .i64 t]] w fun e w' => e = .returned (.bool true) ∧ PrD S R w w.heap.size h wb lim (N + 1) w' := by
  obtain ⟨X, hX⟩ : ∃ X, X = w.alloc (.cells #[.int .i64 2, .slice la ln lc, .int .i64 T, .int .u64 (V : Int), .slice ma mn mc, .int .i64 f, .int .i64 t] 34) := ⟨_, rfl⟩
  have gX : Grew w X := by rw [hX]; exact (Chg.refl _ w).alloc _
  have hbx : Blk X w.heap.size 34 #[.int .i64 2, .slice la ln lc, .int .i64 T, .int .u64 (V : Int), .slice ma mn mc, .int .i64 f, .int .i64 t] := by rw [hX]; exact Blk.new w _ _
  have hXs : X.heap.size = w.heap.size + 1 := by rw [hX]; simp
  have x0 := hbx.cell 0
  have hSlt := Lib.hid p.hd.lt
  have hRlt := Lib.hid p.rd.lt
  have pX := p.grew gX
  have g0X := g0.trans gX
  have x4 := hbx.cell 4
  have hLe := lendMa_any ma mn mc ms X (hM.grew g0X) (by omega)
  go_enter Tryz.func6, Tryz.ntmps6
  go_wp2_with fail
  rw [← hX]
  clear hX
  refine hLe.mono ?_
  rintro e w1 ⟨A, c, rfl, hO, g1⟩
  have hbx1 := hbx.grew g1
  have x5 := hbx1.cell 5
  have x6 := hbx1.cell 6
  have hOb := Own.blk_lt hO
  have hcap := hO.cap
  have hl1 : RE elMa w1 A mn ms := by
    have := (hO.re (by decide)).take (i := mn) (by omega)
    rwa [List.take_left' hM.1] at this
  have g01 := g0X.trans g1
  have hSe := sel_ms A mn c ms f t (pX.hd.grew g1) hl1 (by omega) hms (hm.grew g01)
  rw [p.sim.sel] at hSe
  have hsml := Lib.hid (small_sel (p.sim.wok (by omega)).small ms f t)
  obtain ⟨out, hout⟩ : ∃ out, Hid (out = selS f t (pickH ms W)) := ⟨_, rfl⟩
  rw [← hout.out] at hSe hsml
  have hz1 := g1.size
  clear hLe x0 x4 hl1
  go_wp2_with fail
  refine hSe.mono ?_
  rintro e w2 ⟨B2, d, rfl, hN2, g2⟩
  have hbx2 := hbx1.grew g2
  have x4 := hbx2.cell 4
  have g02 := g01.trans g2
  have hK := keptMa_any A mn c ms ma mc X.heap.size w2 (hO.grew g2) (hM.grew g02) (by omega)
  have hz2 := g2.size
  clear hSe x5 x6 hO
  go_wp2_with fail
  refine hK.mono ?_
  rintro e w3 ⟨rfl, hc3⟩
  have hTn : ∀ k, (∃ ad, A = some ad ∧ k = ad.block) → X.heap.size ≤ k ∧ k < w1.heap.size := fun k ⟨ad, e, e2⟩ => by
    have := hOb ad e
    omega
  have hbx3 := hbx2.chg hc3 (fun e => by have := hTn _ e; omega)
  have x4 := hbx3.cell 4
  have x5 := hbx3.cell 5
  have x6 := hbx3.cell 6
  have hN3 := hN2.chg hc3 fun k hk e => by have := hTn _ e; omega
  have hz3 := hc3.size
  have hP3 := ((p.stay w3.heap.size).grew ((gX.trans g1).trans g2)).spoil hSlt.out hRlt.out hc3 fun k e => by have := hTn _ e; omega
  have p3 : Pr S R w3 h wb lim N hs W := (pX.grew (g1.trans g2)).chg hc3 (fun k hk e => by
    have := hTn _ e
    have := hSlt.out k hk
    omega) fun k hk e => by
    have := hTn _ e
    have := hRlt.out k hk
    omega
  have g03 : Grew w0 w3 := g02.step hc3 fun k hk e => by
    have := hTn _ e
    have := g0X.size
    omega
  have hS8 := select8_any ma mn mc ms f t w3 p3.rd (p.sim.wok (by omega)) (hM.grew g03) (by omega) fun x hx => by have := (hms x hx).2; omega
  rw [← hout.out] at hS8
  have hol : out.length ≤ 1073741824 := hsml.out.n
  replace hP3 := Lib.hid hP3
  replace hTn := Lib.hid hTn
  replace hOb := Lib.hid hOb
  clear hK hN2 hbx hbx1 hbx2 hbx3 hc3 g02 p3 pX
  go_wp2_with fail
  refine hS8.mono ?_
  rintro e w4 ⟨D, d2, rfl, hN4, g4⟩
  have hQ := sameN8 (c := d) (d := d2) (hN3.grew g4).rs hN4.rs (by omega) (by omega) rfl
  clear hS8 x4 x5 x6
  go_wp2_with fail
  refine hQ.mono ?_
  rintro e w5 ⟨rfl, g5⟩
  obtain ⟨mm, hsp⟩ := NS.sps hN3 hsml.out (g4.trans g5)
  have g35 := g4.trans g5
  have hz5 := g35.size
  have hSp := spoilS_any B2 out.length d w1.heap.size w3.heap.size mm w5 hsp (by omega) (by omega)
  clear hQ hN4 hsp hN3
  go_wp2_with fail
  refine hSp.mono ?_
  rintro e w6 ⟨rfl, hc6⟩
  have hPZ : PrD S R w w.heap.size h wb lim (N + 1) w6 := ((((hP3.out).grew g35).more (Nat.le_succ N)).spoil hSlt.out hRlt.out hc6 (fun k hk => by omega)).low (by omega)
  clear hSp hP3 hc6 hOb hSlt hRlt p hM hTn hsml hout
  obtain ⟨S', R', hs', W', p', q1, q2, q3⟩ := hPZ
  have htW : Go.Proofs.YtailooldnelecaaGreatDoor.tot W' ≤ 9223372036854775807 := by have := p'.sim.tot; omega
  have hneW := Lib.hid p'.sim.hvW.non
  have hl8 := Lib.hid p'.sim.len
  have ht8 := Lib.hid p'.sim.tots
  have hs8 := Lib.hid fun tt (hp : List.Perm tt hs') => p'.sim.span hp
  replace q1 := Lib.hid q1
  replace q2 := Lib.hid q2
  replace q3 := Lib.hid q3
  go_wp2_with fail
  refine (count_hd p'.hd).mono ?_
  rintro e v1 ⟨rfl, k1⟩
  have p1 := p'.grew k1
  have hC8 := count8_any p1.rd htW
  rw [hl8.out, ht8.out] at hC8
  generalize hs'.length = nz at *
  generalize Go.Proofs.YtailooldnelecaaGreatDoor.tot hs' = tz at *
  clear hl8 ht8 htW p'
  go_wp2_with fail
  refine hC8.mono ?_
  rintro e v2 ⟨rfl, k2⟩
  have p2 := p1.grew k2
  clear hC8 p1
  go_wp2_with fail
  refine (span_hd p2.hd).mono ?_
  rintro e v3 ⟨tt, hp, rfl, k3⟩
  have p3 := p2.grew k3
  have hS9 := span8_any p3.rd hneW.out
  rw [← hs8.out tt hp] at hS9
  generalize spanS tt = sp at *
  obtain ⟨lo, hi, bz⟩ := sp
  dsimp only at hS9
  clear hs8 hp p2 hneW
  go_wp2_with fail
  refine hS9.mono ?_
  rintro e v4 ⟨rfl, k4⟩
  have p4 := p3.grew k4
  have hq3 := Lib.hid ((((q3.out.grow k1).grow k2).grow k3).grow k4)
  clear hS9 p3 k1 k2 k3 k4 q3
  cases bz
  · go_wp2
    go_ret
    exact ⟨by simp, S', R', _, _, p4, q1.out, q2.out, hq3.out⟩
  · go_wp2
    go_ret
    exact ⟨by simp, S', R', _, _, p4, q1.out, q2.out, hq3.out⟩

set_option maxRecDepth 100000 in
set_option maxHeartbeats 8000000 in
theorem told_cut (k : Int) (hk : k ≠ 0 ∧ k ≠ 1 ∧ k ≠ 2) (la : Option Addr) (ln lc : Nat) (T : Int) (V : Nat) (ma : Option Addr) (mn mc : Nat) (f t : Int) (hf2 : f ≤ 9223372036854775807) (p : Pr S R w h wb lim N hs W) (g0 : Grew w0 w) (_hS : ∀ k, S k → w0.heap.size ≤ k) (_hR : ∀ k, R k → w0.heap.size ≤ k) (hN : N + 1 ≤ 1048576) (hm : MaxL w0) :
    Calls Tryz.prog 6 #[.pointer (some ⟨h, 0, none⟩), .pointer (some ⟨wb, 0, none⟩), .agg #[.int .i64 k, .slice la ln lc, .int .i64 T, .int .u64 (V : Int), .slice ma mn mc, .int .i64 f, .int .i64 t]] w fun e w' => e = .returned (.bool true) ∧ PrD S R w w.heap.size h wb lim (N + 1) w' := by
  obtain ⟨X, hX⟩ : ∃ X, X = w.alloc (.cells #[.int .i64 k, .slice la ln lc, .int .i64 T, .int .u64 (V : Int), .slice ma mn mc, .int .i64 f, .int .i64 t] 34) := ⟨_, rfl⟩
  have gX : Grew w X := by rw [hX]; exact (Chg.refl _ w).alloc _
  have hbx : Blk X w.heap.size 34 #[.int .i64 k, .slice la ln lc, .int .i64 T, .int .u64 (V : Int), .slice ma mn mc, .int .i64 f, .int .i64 t] := by rw [hX]; exact Blk.new w _ _
  have hXs : X.heap.size = w.heap.size + 1 := by rw [hX]; simp
  have x0 := hbx.cell 0
  have hSlt := Lib.hid p.hd.lt
  have hRlt := Lib.hid p.rd.lt
  have pX := p.grew gX
  have g0X := g0.trans gX
  have k0 : (k == 0) = false := by simpa using hk.1
  have k1 : (k == 1) = false := by simpa using hk.2.1
  have k2 : (k == 2) = false := by simpa using hk.2.2
  have x5 := hbx.cell 5
  have hCu := cut_hd f pX.hd (hm.grew g0X)
  rw [p.sim.sel0] at hCu
  have hsml := Lib.hid (by have := small_sel (p.sim.wok (by omega)).small [] (-1099511627776) (f - 1); rwa [pickH_nil] at this : Small (selS (-1099511627776) (f - 1) W))
  by_cases hb : f ≤ -1099511627776
  · rw [p.sim.hv.sel_all hb (Int.le_refl _), p.sim.hvW.sel_none (.inl (by omega))] at hCu
    have hbx8 := Lib.hid hbx
    clear hk hsml
    go_enter Tryz.func6, Tryz.ntmps6
    go_wp2_with fail
    rw [← hX]
    clear hX
    refine hCu.mono ?_
    rintro e w1 ⟨B2, d, rfl, hN1, hc1, hD1⟩
    have x5 := hc1.cell x5 (fun e => absurd (hSlt.out _ e) (Nat.lt_irrefl _))
    have p1 : Pr S R w1 h wb lim N hs W := ⟨hD1, pX.rd.chg hc1 fun k hr hs => p.ap k hs hr, p.sim, p.ap⟩
    have hP1 : PrD S R w w1.heap.size h wb lim N w1 := ⟨S, R, hs, W, p1, fun _ hk => .inl hk, fun _ hk => .inl hk, (Chg.of_grew gX).trans (hc1.mono fun k _ e => .inl e)⟩
    have hCn := cut8_no (wb := wb) f w1 hb
    have hz1 := hc1.size
    replace hP1 := Lib.hid hP1
    clear hCu hc1 hD1 p1 hbx8 hbx pX
    go_wp2_with fail
    refine hCn.mono ?_
    rintro e w2 ⟨rfl, g2⟩
    have hQ := sameN8 (c := d) (d := 0) (hN1.grew g2).rs (NS.nil w2 0).rs (by decide) (by decide) rfl
    clear hCn x5
    go_wp2_with fail
    refine hQ.mono ?_
    rintro e w3 ⟨rfl, g3⟩
    obtain ⟨mm, hsp⟩ := NS.sps hN1 ⟨by decide, fun s hs => by cases hs⟩ (g2.trans g3)
    have g13 := g2.trans g3
    have hz3 := g13.size
    have hSp := spoilS_any B2 _ d X.heap.size w1.heap.size mm w3 hsp (by omega) (by decide)
    clear hQ hsp hN1
    go_wp2_with fail
    refine hSp.mono ?_
    rintro e w6 ⟨rfl, hc6⟩
    have hPZ : PrD S R w w.heap.size h wb lim (N + 1) w6 := ((((hP1.out).grew g13).more (Nat.le_succ N)).spoil hSlt.out hRlt.out hc6 (fun k hk => by omega)).low (by omega)
    clear hSp hP1 hc6 hSlt hRlt p
    obtain ⟨S', R', hs', W', p', q1, q2, q3⟩ := hPZ
    have htW : Go.Proofs.YtailooldnelecaaGreatDoor.tot W' ≤ 9223372036854775807 := by have := p'.sim.tot; omega
    have hneW := Lib.hid p'.sim.hvW.non
    have hl8 := Lib.hid p'.sim.len
    have ht8 := Lib.hid p'.sim.tots
    have hs8 := Lib.hid fun tt (hp : List.Perm tt hs') => p'.sim.span hp
    replace q1 := Lib.hid q1
    replace q2 := Lib.hid q2
    replace q3 := Lib.hid q3
    go_wp2_with fail
    refine (count_hd p'.hd).mono ?_
    rintro e v1 ⟨rfl, k1⟩
    have p1 := p'.grew k1
    have hC8 := count8_any p1.rd htW
    rw [hl8.out, ht8.out] at hC8
    generalize hs'.length = nz at *
    generalize Go.Proofs.YtailooldnelecaaGreatDoor.tot hs' = tz at *
    clear hl8 ht8 htW p'
    go_wp2_with fail
    refine hC8.mono ?_
    rintro e v2 ⟨rfl, k2⟩
    have p2 := p1.grew k2
    clear hC8 p1
    go_wp2_with fail
    refine (span_hd p2.hd).mono ?_
    rintro e v3 ⟨tt, hp, rfl, k3⟩
    have p3 := p2.grew k3
    have hS9 := span8_any p3.rd hneW.out
    rw [← hs8.out tt hp] at hS9
    generalize spanS tt = sp at *
    obtain ⟨lo, hi, bz⟩ := sp
    dsimp only at hS9
    clear hs8 hp p2 hneW
    go_wp2_with fail
    refine hS9.mono ?_
    rintro e v4 ⟨rfl, k4⟩
    have p4 := p3.grew k4
    have hq3 := Lib.hid ((((q3.out.grow k1).grow k2).grow k3).grow k4)
    clear hS9 p3 k1 k2 k3 k4 q3
    cases bz
    · go_wp2
      go_ret
      exact ⟨by simp, S', R', _, _, p4, q1.out, q2.out, hq3.out⟩
    · go_wp2
      go_ret
      exact ⟨by simp, S', R', _, _, p4, q1.out, q2.out, hq3.out⟩
  · obtain ⟨out, hout⟩ : ∃ out, Hid (out = selS (-1099511627776) (f - 1) W) := ⟨_, rfl⟩
    rw [← hout.out] at hCu hsml
    have hol : out.length ≤ 1073741824 := hsml.out.n
    have hbx8 := Lib.hid hbx
    clear hk
    go_enter Tryz.func6, Tryz.ntmps6
    go_wp2_with fail
    rw [← hX]
    clear hX
    refine hCu.mono ?_
    rintro e w1 ⟨B2, d, rfl, hN1, hc1, hD1⟩
    have x5 := hc1.cell x5 (fun e => absurd (hSlt.out _ e) (Nat.lt_irrefl _))
    have hR1 := pX.rd.chg hc1 fun k hr hs => p.ap k hs hr
    have hC8 := cut8_any f w1 hR1 (p.sim.wok (by omega)) (by omega) hf2
    rw [← hout.out] at hC8
    have hz1 := hc1.size
    clear hCu hbx8 hbx
    go_wp2_with fail
    refine hC8.mono ?_
    rintro e w2 ⟨D, d2, rfl, hN2, hcr⟩
    have hPD := Lib.hid ((pX.cut hD1 hc1 hcr).from gX)
    have hc2 : Chg R w1 w2 := by obtain ⟨_, _, _, _, h⟩ := hcr; exact h
    have hRn : ∀ k, X.heap.size ≤ k → ¬ R k := fun k hk e => by
      have := hRlt.out k e
      omega
    have hNw := hN1.chg hc2 hRn
    have hz2 := hc2.size
    have hQ := sameN8 (c := d) (d := d2) hNw.rs hN2.rs (by omega) (by omega) rfl
    clear hC8 x5 hc1 hD1 hcr
    go_wp2_with fail
    refine hQ.mono ?_
    rintro e w3 ⟨rfl, g3⟩
    obtain ⟨mm, hsp⟩ := NS.spsC hN1 hsml.out (hc2.grow g3) hRn
    have hz3 := g3.size
    have hSp := spoilS_any B2 out.length d X.heap.size w1.heap.size mm w3 hsp (by omega) (by omega)
    clear hQ hsp hN1 hN2 hNw hc2 hR1
    go_wp2_with fail
    refine hSp.mono ?_
    rintro e w6 ⟨rfl, hc6⟩
    have hPZ : PrD S R w w.heap.size h wb lim (N + 1) w6 := ((((hPD.out).grew g3).more (Nat.le_succ N)).spoil hSlt.out hRlt.out hc6 (fun k hk => by omega)).low (by omega)
    clear hSp hPD hc6 hSlt hRlt p hout hsml pX
    obtain ⟨S', R', hs', W', p', q1, q2, q3⟩ := hPZ
    have htW : Go.Proofs.YtailooldnelecaaGreatDoor.tot W' ≤ 9223372036854775807 := by have := p'.sim.tot; omega
    have hneW := Lib.hid p'.sim.hvW.non
    have hl8 := Lib.hid p'.sim.len
    have ht8 := Lib.hid p'.sim.tots
    have hs8 := Lib.hid fun tt (hp : List.Perm tt hs') => p'.sim.span hp
    replace q1 := Lib.hid q1
    replace q2 := Lib.hid q2
    replace q3 := Lib.hid q3
    go_wp2_with fail
    refine (count_hd p'.hd).mono ?_
    rintro e v1 ⟨rfl, k1⟩
    have p1 := p'.grew k1
    have hC8 := count8_any p1.rd htW
    rw [hl8.out, ht8.out] at hC8
    generalize hs'.length = nz at *
    generalize Go.Proofs.YtailooldnelecaaGreatDoor.tot hs' = tz at *
    clear hl8 ht8 htW p'
    go_wp2_with fail
    refine hC8.mono ?_
    rintro e v2 ⟨rfl, k2⟩
    have p2 := p1.grew k2
    clear hC8 p1
    go_wp2_with fail
    refine (span_hd p2.hd).mono ?_
    rintro e v3 ⟨tt, hp, rfl, k3⟩
    have p3 := p2.grew k3
    have hS9 := span8_any p3.rd hneW.out
    rw [← hs8.out tt hp] at hS9
    generalize spanS tt = sp at *
    obtain ⟨lo, hi, bz⟩ := sp
    dsimp only at hS9
    clear hs8 hp p2 hneW
    go_wp2_with fail
    refine hS9.mono ?_
    rintro e v4 ⟨rfl, k4⟩
    have p4 := p3.grew k4
    have hq3 := Lib.hid ((((q3.out.grow k1).grow k2).grow k3).grow k4)
    clear hS9 p3 k1 k2 k3 k4 q3
    cases bz
    · go_wp2
      go_ret
      exact ⟨by simp, S', R', _, _, p4, q1.out, q2.out, hq3.out⟩
    · go_wp2
      go_ret
      exact ⟨by simp, S', R', _, _, p4, q1.out, q2.out, hq3.out⟩

theorem told_any (m : AcnM) (a : Acn) (p : Pr S R w h wb lim N hs W) (g0 : Grew w0 w) (hS : ∀ k, S k → w0.heap.size ≤ k) (hR : ∀ k, R k → w0.heap.size ≤ k) (ha : AcIs w0 m a) (hln : m.ln ≤ 1048576) (hmn : m.mn ≤ 1048576) (hms : ∀ x ∈ a.ms, x.2.1.size ≤ 1048576 ∧ x.2.2.size ≤ 1048576) (hN : N + 1 ≤ 1048576) (hm : MaxL w0) :
    Calls Tryz.prog 6 #[.pointer (some ⟨h, 0, none⟩), .pointer (some ⟨wb, 0, none⟩), .agg #[.int .i64 m.k, .slice m.la m.ln m.lc, .int .i64 m.st, .int .u64 (m.sv : Int), .slice m.ma m.mn m.mc, .int .i64 m.f, .int .i64 m.t]] w fun e w' => e = .returned (.bool true) ∧ PrD S R w w.heap.size h wb lim (N + 1) w' := by
  by_cases h0 : m.k = 0
  · rw [h0]
    exact told_put m.la m.ln m.lc m.st m.sv m.ma m.mn m.mc m.f m.t a.s.lbs ha.lb ha.lc hln p g0 hS hR hN hm
  · by_cases h1 : m.k = 1
    · rw [h1]
      exact told_fate m.la m.ln m.lc m.st m.sv m.ma m.mn m.mc m.f m.t a.s.lbs ha.lb ha.lc hln p g0 hS hR hN hm
    · by_cases h2 : m.k = 2
      · rw [h2]
        exact told_sel m.la m.ln m.lc m.st m.sv m.ma m.mn m.mc m.f m.t a.ms ha.ma hmn hms p g0 hS hR hN hm
      · exact told_cut m.k ⟨h0, h1, h2⟩ m.la m.ln m.lc m.st m.sv m.ma m.mn m.mc m.f m.t (by rw [ha.f]; exact ha.bf.2) p g0 hS hR hN hm
end
end Go.Proofs.YtailooldnelecaaGreatDoor

namespace Go.Proofs.YtailooldnelecaaGreatDoor
open Go.RowKit

/-- two heads, each with the document's, all in blocks of their own -/
def Two (w0 wr : World) (h wb g vb m k1 k2 : Nat) : Prop := ∃ (S R S2 R2 : Nat → Prop) (hs W hs2 W2 : List Ser), Pr S R wr h wb m k1 hs W ∧ Pr S2 R2 wr g vb m k2 hs2 W2 ∧ (∀ j, S j ∨ R j → ¬ (S2 j ∨ R2 j)) ∧ (∀ j, S j ∨ R j → w0.heap.size ≤ j) ∧ (∀ j, S2 j ∨ R2 j → w0.heap.size ≤ j) ∧ Grew w0 wr
section
variable {w0 w w' : World} {h wb g vb m k1 k2 : Nat}
theorem Two.symm (t : Two w0 w h wb g vb m k1 k2) : Two w0 w g vb h wb m k2 k1 := by
  obtain ⟨S, R, S2, R2, hs, W, hs2, W2, p, q, ap, l1, l2, gr⟩ := t
  exact ⟨S2, R2, S, R, hs2, W2, hs, W, q, p, fun j h1 h2 => ap j h2 h1, l2, l1, gr⟩
theorem Two.gr (t : Two w0 w h wb g vb m k1 k2) : Grew w0 w := by
  obtain ⟨S, R, S2, R2, hs, W, hs2, W2, p, q, ap, l1, l2, gr⟩ := t
  exact gr
theorem Two.more (t : Two w0 w h wb g vb m k1 k2) {m2 : Nat} (hm : k2 ≤ m2) : Two w0 w h wb g vb m k1 m2 := by
  obtain ⟨S, R, S2, R2, hs, W, hs2, W2, p, q, ap, l1, l2, gr⟩ := t
  exact ⟨S, R, S2, R2, hs, W, hs2, W2, p, q.more hm, ap, l1, l2, gr⟩
theorem Two.told (t : Two w0 w h wb g vb m k1 k2) (mm : AcnM) (a : Acn) (ha : AcIs w0 mm a) (hln : mm.ln ≤ 1048576) (hmn : mm.mn ≤ 1048576) (hms : ∀ x ∈ a.ms, x.2.1.size ≤ 1048576 ∧ x.2.2.size ≤ 1048576) (hN : k1 + 1 ≤ 1048576) (hm : MaxL w0) :
    Calls Tryz.prog 6 #[.pointer (some ⟨h, 0, none⟩), .pointer (some ⟨wb, 0, none⟩), .agg #[.int .i64 mm.k, .slice mm.la mm.ln mm.lc, .int .i64 mm.st, .int .u64 (mm.sv : Int), .slice mm.ma mm.mn mm.mc, .int .i64 mm.f, .int .i64 mm.t]] w fun e w' => e = .returned (.bool true) ∧ Two w0 w' h wb g vb m (k1 + 1) k2 := by
  obtain ⟨S, R, S2, R2, hs, W, hs2, W2, p, q, ap, l1, l2, gr⟩ := t
  refine (told_any mm a p gr (fun k hk => l1 k (.inl hk)) (fun k hk => l1 k (.inr hk)) ha hln hmn hms hN hm).mono ?_
  rintro e w' ⟨he, S', R', hs', W', p', a1, a2, c⟩
  have hz := gr.size
  have hlt : ∀ j, S2 j ∨ R2 j → j < w.heap.size := fun j hj => hj.elim (q.hd.lt j) (q.rd.lt j)
  have hin : ∀ j, S' j ∨ R' j → (S j ∨ R j) ∨ w.heap.size ≤ j := fun j hj => by
    rcases hj with hj | hj
    · exact (a1 j hj).imp .inl id
    · exact (a2 j hj).imp .inr id
  refine ⟨he, S', R', S2, R2, hs', W', hs2, W2, p', q.chg c (fun k h1 h2 => ap k h2 (.inl h1)) (fun k h1 h2 => ap k h2 (.inr h1)), fun j hj h2 => ?_, fun j hj => ?_, l2, Chg.new gr c l1⟩
  · rcases hin j hj with h3 | h3
    · exact ap j h3 h2
    · have := hlt j h2
      omega
  · rcases hin j hj with h3 | h3
    · exact l1 j h3
    · omega
end
/-- a call's cells, wherever nothing that was there has turned -/
theorem RAc.at_ {w : World} {A : Option Addr} {n N : Nat} {cs8 : List Acn} (h : RAc w A n N cs8) {k : Nat} (hk : k < n) :
    ∃ ad m a, A = some ad ∧ AcIs w m a ∧ m.ln ≤ N ∧ m.mn ≤ N ∧ (∀ x ∈ a.ms, x.2.1.size ≤ N ∧ x.2.2.size ≤ N) ∧ ∀ w', Grew w w' → w'.cell? (ad.add (k * 7)) = some (.int .i64 m.k) ∧ w'.cell? ⟨(ad.add (k * 7)).block, (ad.add (k * 7)).off + 1, none⟩ = some (.slice m.la m.ln m.lc) ∧ w'.cell? ⟨(ad.add (k * 7)).block, (ad.add (k * 7)).off + 2, none⟩ = some (.int .i64 m.st) ∧ w'.cell? ⟨(ad.add (k * 7)).block, (ad.add (k * 7)).off + 3, none⟩ = some (.int .u64 (m.sv : Int)) ∧
      w'.cell? ⟨(ad.add (k * 7)).block, (ad.add (k * 7)).off + 4, none⟩ = some (.slice m.ma m.mn m.mc) ∧ w'.cell? ⟨(ad.add (k * 7)).block, (ad.add (k * 7)).off + 5, none⟩ = some (.int .i64 m.f) ∧ w'.cell? ⟨(ad.add (k * 7)).block, (ad.add (k * 7)).off + 6, none⟩ = some (.int .i64 m.t) := by
  obtain ⟨ms, h1, h2, h3⟩ := h.row
  obtain ⟨ad, m, e, hm, hc⟩ := h1.at_ hk (by decide)
  have hs : cs8[k]? = some (cs8[k]'(by have := h1.1; omega)) := List.getElem?_eq_getElem _
  obtain ⟨q1, q2, _, q4, q5⟩ := h3 k m _ hm hs
  refine ⟨ad, m, _, e, q1, q2, q4, q5, fun w' hg => ⟨Chg.cell hg (hc 0 _ rfl) (fun e => e), Chg.cell hg (cell_off (by decide) (hc 1 _ rfl)) (fun e => e), Chg.cell hg (cell_off (by decide) (hc 2 _ rfl)) (fun e => e), Chg.cell hg (cell_off (by decide) (hc 3 _ rfl)) (fun e => e), Chg.cell hg (cell_off (by decide) (hc 4 _ rfl)) (fun e => e), Chg.cell hg (cell_off (by decide) (hc 5 _ rfl)) (fun e => e), Chg.cell hg (cell_off (by decide) (hc 6 _ rfl)) (fun e => e)⟩⟩

set_option maxRecDepth 100000 in
set_option maxHeartbeats 8000000 in
theorem walk_headPlays (lim : Int) (A : Option Addr) (n c : Nat) (cs8 : List Acn) (w : World) (h63 : -9223372036854775808 ≤ lim ∧ lim ≤ 9223372036854775807) (hA : RAc w A n 1048576 cs8) (hn : n ≤ c ∧ c ≤ 9223372036854775807) (hm : MaxL w) :
    Calls Tryz.prog 3 #[.int .i64 lim, .slice A n c] w fun e w' => e = .returned (.bool true) ∧ Grew w w' := by
  have hnl := hA.len
  obtain ⟨m, hml⟩ : ∃ m, (min (max lim 0) 1024).toNat = m := ⟨_, rfl⟩
  have hm24 : m ≤ 1024 := by omega
  have hN := fun w' => new_hd lim w' h63
  have hN8 := fun w' => new8_any lim w' h63
  rw [hml] at hN hN8
  clear hml h63
  replace hN := Lib.hid hN
  replace hN8 := Lib.hid hN8
  replace hA := Lib.hid hA
  go_enter Tryz.func3, Tryz.ntmps3
  go_wp2_with fail
  refine (hN.out w).mono ?_
  rintro e w1 ⟨h, S, rfl, hD1, g1, hs1⟩
  go_wp2_with fail
  refine (hN.out w1).mono ?_
  rintro e w2 ⟨g, S2, rfl, hD2, g2, hs2⟩
  go_wp2_with fail
  refine (hN8.out w2).mono ?_
  rintro e w3 ⟨wb, R, rfl, hR1, g3, hr1⟩
  go_wp2_with fail
  refine (hN8.out w3).mono ?_
  rintro e w4 ⟨vb, R2, rfl, hR2, g4, hr2⟩
  have hT : Two w w4 h wb g vb m 0 0 := by
    have z1 := g1.size
    have z2 := g2.size
    have z3 := g3.size
    have t1 := hD1.lt
    have t2 := hD2.lt
    have t3 := hR1.lt
    refine ⟨S, R, S2, R2, [], [], [], [], ⟨hD1.grew (g2.trans (g3.trans g4)), hR1.grew g4, Sim.nil m 0 hm24, fun k a b => ?_⟩, ⟨hD2.grew (g3.trans g4), hR2, Sim.nil m 0 hm24, fun k a b => ?_⟩, fun j a b => ?_, fun j a => ?_, fun j a => ?_, g1.trans (g2.trans (g3.trans g4))⟩
    · have := t1 k a
      have := hr1 k b
      omega
    · have := t2 k a
      have := hr2 k b
      omega
    · rcases a with a | a <;> rcases b with b | b
      · have := t1 j a
        have := hs2 j b
        omega
      · have := t1 j a
        have := hr2 j b
        omega
      · have := t2 j b
        have := hr1 j a
        omega
      · have := t3 j a
        have := hr2 j b
        omega
    · rcases a with a | a
      · have := hs1 j a
        omega
      · have := hr1 j a
        omega
    · rcases a with a | a
      · have := hs2 j a
        omega
      · have := hr2 j a
        omega
  clear hD1 hD2 hR1 hR2 hs1 hs2 hr1 hr2 g1 g2 g3 g4 hN hN8
  go_wp2
  go_loopw [9] (fun i wr => ∃ (k : Nat), k ≤ n ∧ i = .int .i64 (k : Int) ∧ Two w wr h wb g vb m k k) (fun i _ => n - (intOf i).toNat)
  case atStart => exact ⟨0, by omega, rfl, hT⟩
  case round =>
    clear hT
    obtain ⟨k, hk, rfl, hT⟩ := hrel
    by_cases hlt : k < n
    · obtain ⟨ad, mm, a, rfl, hAc, hln, hmn, hms, hcell⟩ := hA.out.at_ hlt
      have hTo := hT.told mm a hAc hln hmn hms (by omega) hm
      obtain ⟨mk, la, ln, lc, st, sv, ma, mn, mc, mf, mt⟩ := mm
      have hT2 := Lib.hid fun (wq : World) (t : Two w wq h wb g vb m (k + 1) k) => t.symm.told _ a hAc hln hmn hms (by omega) hm
      obtain ⟨x0, x1, x2, x3, x4, x5, x6⟩ := hcell wr hT.gr
      dsimp only at x0 x1 x2 x3 x4 x5 x6 hTo
      replace hcell := Lib.hid hcell
      clear hAc hln hmn hms hT
      by_cases hodd : k % 2 = 1
      · have e1 : (((k : Int) % 2) == 1) = true := by simp; omega
        clear hodd
        go_wp2_with fail
        refine hTo.mono ?_
        rintro e w2 ⟨rfl, hT1⟩
        clear x0 x1 x2 x3 x4 x5 x6
        obtain ⟨x0, x1, x2, x3, x4, x5, x6⟩ := hcell.out w2 hT1.gr
        have hTq := hT2.out w2 hT1
        try dsimp only at x0 x1 x2 x3 x4 x5 x6 hTq
        clear hTo hT2 hcell hT1
        go_wp2_with fail
        refine hTq.mono ?_
        rintro e w5 ⟨rfl, hT5⟩
        clear x0 x1 x2 x3 x4 x5 x6 hTq
        go_wp2
        go_roundw
        case rel => exact ⟨k + 1, by omega, by go_num, hT5.symm⟩
        case measure => simp [intOf] <;> omega
      · have e1 : (((k : Int) % 2) == 1) = false := by simp; omega
        clear hodd hT2 hcell
        go_wp2_with fail
        refine hTo.mono ?_
        rintro e w2 ⟨rfl, hT1⟩
        clear x0 x1 x2 x3 x4 x5 x6 hTo
        go_wp2
        go_roundw
        case rel => exact ⟨k + 1, by omega, by go_num, hT1.more (by omega)⟩
        case measure => simp [intOf] <;> omega
    · have hkn : k = n := by omega
      subst hkn
      obtain ⟨S, R, S2, R2, hs, W, hs2, W2, p, q, _, _, _, gr⟩ := hT
      have hm2 := hm.grew gr
      have hSa := fun w' (gg : Grew wr w') => sel_hd (-1099511627776) 1099511627776 (p.hd.grew gg) (hm2.grew gg)
      have hSb := fun w' (gg : Grew wr w') => sel_hd (-1099511627776) 1099511627776 (q.hd.grew gg) (hm2.grew gg)
      rw [p.sim.hv.sel_all (Int.le_refl _) (Int.le_refl _), p.sim.srt] at hSa
      rw [q.sim.hv.sel_all (Int.le_refl _) (Int.le_refl _), q.sim.srt] at hSb
      have hWl := p.w1024
      have hWl2 := q.w1024
      obtain ⟨A1, n1, c1, ms1, hR1⟩ := p.rd
      obtain ⟨A2, n2, c2, ms2, hR2⟩ := q.rd
      have hl1 := hR1.ln
      have hl2 := hR2.ln
      subst hl1
      subst hl2
      have hcs : CellsIn [wb, vb] wr := cellsIn_cons hR1.hd.ex (cellsIn_cons hR2.hd.ex (cellsIn_nil wr))
      have hsm := Lib.hid fun (Y : World) (g : Grew wr Y) => sameIn_of g hcs fun _ _ e => e
      have hb1 := Lib.hid fun w' (gg : Grew wr w') => (hR1.hd.grew gg).cell 1
      have hb2 := Lib.hid fun w' (gg : Grew wr w') => (hR2.hd.grew gg).cell 1
      have hq1 := Lib.hid fun w' (gg : Grew wr w') => hR1.rs.grew gg
      have hq2 := Lib.hid fun w' (gg : Grew wr w') => hR2.rs.grew gg
      replace hSa := Lib.hid hSa
      replace hSb := Lib.hid hSb
      replace hA := Lib.hid hA
      clear p q hR1 hR2
      go_wp2_with fail
      refine wp_region_textS [] [wb, vb] (by kernel_rfl) (by kernel_rfl) hcs ?_
      simp only [wpU, tagOf, chk, List.nil_append, List.cons_append]
      have k0 : Grew wr wr.drew := (Chg.refl _ wr).drew
      intro K hK
      go_wp2_with fail
      refine (hSa.out _ k0).mono ?_
      rintro e v1 ⟨B1, d1, rfl, hN1, k1'⟩
      have k1 := k0.trans k1'
      have b1 := hb1.out _ k1
      go_wp2_with fail
      refine OnlyN.normal (hK _ _ (hsm.out _ k1) ?_)
      clear hK K k1'
      intro K hK
      go_wp2_with fail
      refine OnlyN.normal (hK _ _ (fun _ => ⟨_, _, _, rfl, rfl, by simp⟩) ?_)
      clear hK K
      have hQ1 := sameN8 (c := d1) (d := c1) hN1.rs (hq1.out _ k1) (by omega) (by omega) rfl
      intro K hK
      go_wp2_with fail
      refine hQ1.mono ?_
      rintro e v2 ⟨rfl, k2'⟩
      have k2 := k1.trans k2'
      go_wp2_with fail
      refine OnlyN.normal (hK _ _ (hsm.out _ k2) ?_)
      clear hK K k2' hQ1 hN1 b1
      intro K hK
      go_wp2_with fail
      refine (hSb.out _ k2).mono ?_
      rintro e v3 ⟨B2, d2, rfl, hN2, k3'⟩
      have k3 := k2.trans k3'
      have b2 := hb2.out _ k3
      go_wp2_with fail
      refine OnlyN.normal (hK _ _ (hsm.out _ k3) ?_)
      clear hK K k3'
      intro K hK
      go_wp2_with fail
      refine OnlyN.normal (hK _ _ (fun _ => ⟨_, _, _, rfl, rfl, by simp⟩) ?_)
      clear hK K
      have hQ2 := sameN8 (c := d2) (d := c2) hN2.rs (hq2.out _ k3) (by omega) (by omega) rfl
      intro K hK
      go_wp2_with fail
      refine hQ2.mono ?_
      rintro e v4 ⟨rfl, k4'⟩
      have k4 := k3.trans k4'
      go_wp2_with fail
      refine OnlyN.normal (hK _ _ (hsm.out _ k4) ?_)
      clear hK K k4' hQ2 hN2 b2
      intro K hK
      go_wp2_with fail
      refine (awake8_any v4 (hm2.grew k4)).mono ?_
      rintro e v5 ⟨rfl, k5'⟩
      have k5 := k4.trans k5'
      go_wp2_with fail
      refine OnlyN.normal (hK _ _ (hsm.out _ k5) ?_)
      clear hK K
      go_wp2_with fail
      refine OnlyN.normal ?_
      have k6 := gr.trans k5
      clear hcs hsm hSa hSb hb1 hb2 hq1 hq2
      go_wp2
      go_ret
      exact ⟨by simp, k6⟩
end Go.Proofs.YtailooldnelecaaGreatDoor
