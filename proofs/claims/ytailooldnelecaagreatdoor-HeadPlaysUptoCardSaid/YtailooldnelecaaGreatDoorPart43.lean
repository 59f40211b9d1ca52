/-
  Several texts in one:
  The document's Between, once more: the points' rows of what it hands back lie apart from each other. Conditions: lengths that memory bears.
  The document's Select and Cut. Conditions: lengths that memory bears.
  How far the document's head reaches in time. Conditions: lengths that memory bears.
-/
import Derived.Test.YtailooldnelecaaGreatDoorPart39
import Derived.Test.YtailooldnelecaaGreatDoorPart42
import Derived.Test.YtailooldnelecaaGreatDoorPart30
import Derived.Test.YtailooldnelecaaGreatDoorPart41

namespace Go.Proofs.YtailooldnelecaaGreatDoor
open Go.RowKit

def ApartM (ms : List SerM) : Prop := ms.Pairwise fun a b => ∀ ad bd, a.pa = some ad → b.pa = some bd → ad.block ≠ bd.block
/-- new rows of series, their points' rows apart from each other -/
def NSd (w : World) (base : Nat) (A : Option Addr) (n c : Nat) (ss : List Ser) : Prop := ∃ ms, NSo w base A n c ms ss ∧ ApartM ms
theorem NSd.nil (w : World) (base : Nat) : NSd w base none 0 0 [] := ⟨[], ⟨OE.nil _ _ _, rfl, fun i m s h => by simp at h⟩, List.Pairwise.nil⟩
theorem NSd.grew {w w' : World} {base : Nat} {A : Option Addr} {n c : Nat} {ss : List Ser} (h : NSd w base A n c ss) (hc : Grew w w') : NSd w' base A n c ss := by
  obtain ⟨ms, h1, h2⟩ := h
  exact ⟨ms, h1.grew hc, h2⟩
theorem NSd.ns {w : World} {base : Nat} {A : Option Addr} {n c : Nat} {ss : List Ser} (h : NSd w base A n c ss) : NS w base A n c ss := by
  obtain ⟨ms, h1, _⟩ := h
  exact h1.ns
theorem NSd.len {w : World} {base : Nat} {A : Option Addr} {n c : Nat} {ss : List Ser} (h : NSd w base A n c ss) : ss.length = n := h.ns.len
theorem NSo.old {w : World} {base : Nat} {A : Option Addr} {n c : Nat} {ms : List SerM} {ss : List Ser} (h : NSo w base A n c ms ss) : ∀ y ∈ ms, ∀ ad, y.pa = some ad → ad.block < w.heap.size := fun y hy ad e => by
  obtain ⟨i, hi⟩ := List.getElem?_of_mem hy
  have hl := (List.getElem?_eq_some_iff.1 hi).1
  exact (Own.blk_lt (h.el i y _ hi (List.getElem?_eq_getElem (by rw [← h.len]; exact hl))).pt ad e).2
theorem NSo.appD {w w' : World} {base B0 : Nat} {A A' : Option Addr} {n k c c' : Nat} {ms : List SerM} {ss : List Ser} {m : SerM} {s : Ser} (h : NSo w base A n c ms ss) (hd : ApartM ms) (hold : ∀ y ∈ ms, ∀ ad, y.pa = some ad → ad.block < B0) (hm : NsE w base m s) (hnew : ∀ ad, m.pa = some ad → B0 ≤ ad.block)
    (ha : ApE elSr w base 61 A k c (ms ++ [m]) A' c' w') : NSd w' base A' k c' (ss ++ [s]) := by
  refine ⟨ms ++ [m], ⟨ha.oe, by rw [List.length_append, List.length_append, h.len]; rfl, fun i m' s' hm' hs' => ?_⟩, List.pairwise_append.2 ⟨hd, List.pairwise_singleton _ _, fun a ha' b hb => ?_⟩⟩
  · rcases snoc_get hm' with h1 | ⟨h1, rfl⟩
    · rcases snoc_get hs' with h2 | ⟨h2, rfl⟩
      · exact (h.el i m' s' h1 h2).apart h.row (by decide) (by decide) ha.chg
      · have := (List.getElem?_eq_some_iff.1 h1).1
        have := h.len
        omega
    · rcases snoc_get hs' with h2 | ⟨h2, rfl⟩
      · have := (List.getElem?_eq_some_iff.1 h2).1
        have := h.len
        omega
      · exact hm.apart h.row (by decide) (by decide) ha.chg
  · obtain rfl := List.mem_singleton.1 hb
    intro ad bd e1 e2 e3
    have := hold a ha' ad e1
    have := hnew bd e2
    omega
def NewSd (w : World) (ss : List Ser) (e : Ending) (w' : World) : Prop := ∃ A c, e = .returned (.slice A ss.length c) ∧ NSd w' w.heap.size A ss.length c ss ∧ Grew w w'

set_option maxRecDepth 100000 in
set_option maxHeartbeats 16000000 in
theorem betweenD_any (A : Option Addr) (n c : Nat) (ss : List Ser) (M : Option Addr) (mn mc : Nat) (mt : List Mat) (f t : Int) (w : World) (h : RS w A n ss) (hs : Small ss) (hM : RE elMa w M mn mt) (hmn : mn ≤ 9223372036854775807)
    (hmt : ∀ x ∈ mt, x.2.2.size ≤ 16777216) (hlb : ∀ s ∈ ss, ∀ x ∈ s.lbs, x.2.size ≤ 16777216) :
    Calls Tryz.prog 39 #[.slice A n c, .slice M mn mc, .int .i64 f, .int .i64 t] w (NewSd w (betS mt f t ss)) := by
  have hln := h.len
  have hn : n ≤ 1073741824 := by rw [← hln]; exact hs.n
  replace hln := Lib.hid hln
  replace hs := Lib.hid hs
  replace hmt := Lib.hid hmt
  replace hlb := Lib.hid hlb
  go_enter Tryz.func39, Tryz.ntmps39
  go_wp2
  go_loopw [9, 10] (fun o i wr => ∃ (k s0 e0 : Nat) (B : Option Addr), k ≤ n ∧ i = .int .i64 (k : Int) ∧ o = .slice B s0 e0 ∧ s0 ≤ k ∧ NSd wr w.heap.size B s0 e0 (betS mt f t (ss.take k)) ∧ Grew w wr) (fun _ i _ => n - (intOf i).toNat)
  case atStart => exact ⟨0, 0, 0, none, by omega, rfl, rfl, by omega, NSd.nil _ _, Chg.refl _ _⟩
  case round =>
    obtain ⟨k, s0, e0, B, hk, rfl, rfl, hsk, ho, hg⟩ := hrel
    by_cases hlt : k < n
    · obtain ⟨ad, ⟨la, ln, lc, pa, pn, pc⟩, s, rfl, hx, hsi, z0, z1⟩ := h.at_ hlt
      dsimp only at z0 z1
      have hmem := List.mem_of_getElem? hx
      have hel := small_at (m := ⟨la, ln, lc, pa, pn, pc⟩) hs.out hmem hsi
      have hlc := hsi.lc
      have hpc := hsi.pc
      dsimp only at hel hlc hpc
      have hS := says4_any M mn mc mt la ln lc s.lbs wr (hM.grew hg) (hsi.lb.grew hg) hmn (by omega) hmt.out (hlb.out s hmem)
      have hn1 := fun hh => betS_no (f := f) (t := t) hx (mt := mt) hh
      have hy1 := fun hh => betS_yes (f := f) (t := t) hx (mt := mt) hh
      have x0 := hg.cell z0 (fun e => e)
      generalize saysB mt s.lbs = yes at *
      clear hx hmem
      go_wp2_with fail
      refine hS.mono ?_
      rintro e w1 ⟨rfl, hg1⟩
      have hg01 := hg.trans hg1
      have ho1 := ho.grew hg1
      clear hS ho hg hg1 x0
      cases yes
      · have hb := hn1 rfl
        rw [← hb] at ho1
        clear hn1 hy1 hb
        go_wp2
        go_roundw
        case rel => exact ⟨k + 1, s0, e0, B, by omega, by go_num, rfl, by omega, ho1, hg01⟩
        case measure => simp [intOf]; omega
      · have hy := hy1 rfl
        clear hn1 hy1
        generalize hnx : betS mt f t (ss.take (k + 1)) = nxt at *
        replace hnx := Lib.hid hnx
        replace hy := Lib.hid hy
        have x0 := hg01.cell z0 (fun e => e)
        have gX : Grew w1 (w1.alloc (.cells #[] 72)) := (Chg.refl _ w1).alloc _
        have oL : OE elLb (w1.alloc (.cells #[] 72)) w1.heap.size 72 (some ⟨w1.heap.size, 0, none⟩) 0 0 [] := OE.made w1 w1.heap.size 72 (Nat.le_refl _)
        have rL := hsi.lb.grew (hg01.trans gX)
        have x0' := gX.cell x0 (fun e => e)
        go_wp2_with (at_builtin; refine wpList_appE rfl _ _ 28 72 infoLab rfl Tryz.underlying28 rfl w1.heap.size (some ⟨w1.heap.size, 0, none⟩) 0 0 [] rfl oL (gX.size) la ln lc s.lbs rfl rL (by unfold maxLen; omega) (by omega) ?_; intro A2 c2 w2 h2)
        have g2 : Grew w1 w2 := h2.grew gX (head_le (Nat.le_refl _))
        have hX := Blk.new w2 61 #[.slice A2 ln c2, .slice none 0 0]
        have oA := (h2.at0).grew ((Chg.refl _ w2).alloc (.cells #[.slice A2 ln c2, .slice none 0 0] 61))
        have g3 : Grew w1 (w2.alloc (.cells #[.slice A2 ln c2, .slice none 0 0] 61)) := g2.alloc _
        have hgx1 : w1.heap.size ≤ w2.heap.size := g2.size
        have gW : Grew w1 (w2.alloc (.cells #[.slice A2 ln c2, .slice none 0 0] 61)) := g3
        have hgx2 : w2.heap.size < (w2.alloc (.cells #[.slice A2 ln c2, .slice none 0 0] 61)).heap.size := hX.lt
        clear h2 oL rL gX x0 x0' g2 g3
        go_wp2
        go_loopw [12] (fun i wr => ∃ (q sd ed : Nat) (D : Option Addr), q ≤ pn ∧ i = .int .i64 (q : Int) ∧ sd ≤ q ∧ Blk wr w2.heap.size 61 #[.slice A2 ln c2, .slice D sd ed] ∧ OE elLb wr w1.heap.size 72 A2 ln c2 s.lbs ∧ OE elPt wr w1.heap.size 69 D sd ed (clipP f t (s.pts.take q)) ∧ Grew w1 wr) (fun i _ => pn - (intOf i).toNat)
        case atStart => exact ⟨0, 0, 0, none, by omega, rfl, by omega, hX, oA, OE.nil _ _ _, gW⟩
        case round =>
          clear hX oA gW hgx2
          obtain ⟨q, sd, ed, D, hq, rfl, hsd, hX, oA, oP, gW⟩ := hrel
          have hgW := hg01.trans gW
          have x1 := hgW.cell z1 (fun e => e)
          have hgxl := hX.lt
          have hszW := gW.size
          by_cases hql : q < pn
          · have hp1 := hsi.pt
            dsimp only at hp1
            obtain ⟨pd, p, hpa, hp, p0, p1⟩ := (hp1.grew hgW).pt hql
            subst hpa
            have gY : Grew wr (wr.alloc (.cells #[.int .i64 p.1, .int .u64 (p.2 : Int)] 69)) := (Chg.refl _ wr).alloc _
            have hbY : Blk (wr.alloc (.cells #[.int .i64 p.1, .int .u64 (p.2 : Int)] 69)) wr.heap.size 69 #[.int .i64 p.1, .int .u64 (p.2 : Int)] := Blk.new wr _ _
            have b0 := hbY.cell 0
            have b1 := hbY.cell 1
            by_cases h1 : f ≤ p.1
            · have e1 : decide (f ≤ p.1) = true := decide_eq_true h1
              by_cases h2 : p.1 ≤ t
              · have e2 : decide (p.1 ≤ t) = true := decide_eq_true h2
                have hcl := clipP_yes (f := f) (t := t) hp h1 h2
                generalize clipP f t (s.pts.take q) = out at *
                replace hcl := Lib.hid hcl
                have gY2 : Grew wr ((wr.alloc (.cells #[.int .i64 p.1, .int .u64 (p.2 : Int)] 69)).alloc (.cells #[.int .i64 p.1, .int .u64 (p.2 : Int)] 69)) := gY.alloc _
                have xg1 : (wr.alloc (.cells #[.int .i64 p.1, .int .u64 (p.2 : Int)] 69)).cell? ⟨w2.heap.size, 1, none⟩ = some (.slice D sd ed) := (hX.grew gY).cell 1
                have hX2 := hX.grew gY2
                have ho2 := OE.grew oP gY2
                have oA2 := OE.grew oA gY2
                have hgz := gY2.size
                have hsrc : RE elPt ((wr.alloc (.cells #[.int .i64 p.1, .int .u64 (p.2 : Int)] 69)).alloc (.cells #[.int .i64 p.1, .int .u64 (p.2 : Int)] 69)) (some ⟨(wr.alloc (.cells #[.int .i64 p.1, .int .u64 (p.2 : Int)] 69)).heap.size, 0, none⟩) 1 [p] := RE.newAt rfl rfl rfl
                rw [World.size_alloc] at hsrc
                have hc2 := ho2.cap
                clear hp h1 h2
                go_wp2_with (at_builtin; refine wpList_appE rfl _ _ 59 69 infoPt rfl Tryz.underlying59 rfl w1.heap.size D sd ed out rfl ho2 (by simp; omega) _ 1 1 [p] rfl hsrc (by unfold maxLen; omega) (by omega) ?_; intro D2 e2 w3 h3; have hX3 := hX2.chg h3.chg (ho2.notS hX2 (by decide)); have y1 := hX3.cell 1; have f1 := hX3.frozen 1)
                have hch : Chg (fun x => x = w2.heap.size) w3 (w3.setCell ⟨w2.heap.size, 1, none⟩ (.slice D2 (sd + 1) e2)) := Chg.one _ _ _ _
                have hX4 : Blk (w3.setCell ⟨w2.heap.size, 1, none⟩ (.slice D2 (sd + 1) e2)) w2.heap.size 61 #[.slice A2 ln c2, .slice D2 (sd + 1) e2] := by simpa using hX3.set 1 (.slice D2 (sd + 1) e2)
                have oA3 := oA2.apart ho2 (by decide) h3.chg
                have oA4 := OE.chg oA3 hch (fun ad e => Own.ne_blk oA3 hX3 (by decide) ad e)
                have oP4 := OE.chg h3.oe hch (fun ad e => Own.ne_blk h3.oe hX3 (by decide) ad e)
                have gW4 : Grew w1 (w3.setCell ⟨w2.heap.size, 1, none⟩ (.slice D2 (sd + 1) e2)) := (h3.grew (gW.trans gY2) (fun ad e => (Own.blk_lt oP ad e).1)).setCell (p := ⟨w2.heap.size, 1, none⟩) (.inl hgx1) _
                rw [← hcl.out] at oP4
                clear hX hX2 hX3 ho2 oA oA2 oA3 oP gY gY2 h3 y1 f1 hch hbY
                go_roundw
                case rel => exact ⟨q + 1, sd + 1, e2, D2, by omega, by go_num, by omega, hX4, oA4, oP4, gW4⟩
                case measure => simp [intOf]; omega
              · have e2 : decide (p.1 ≤ t) = false := decide_eq_false h2
                have hcl := clipP_no (f := f) (t := t) hp (fun e => h2 e.2)
                rw [← hcl] at oP
                clear hp h1 h2 hcl
                go_wp2
                go_roundw
                case rel => exact ⟨q + 1, sd, ed, D, by omega, by go_num, by omega, hX.grew gY, OE.grew oA gY, OE.grew oP gY, gW.trans gY⟩
                case measure => simp [intOf]; omega
            · have e1 : decide (f ≤ p.1) = false := decide_eq_false h1
              have hcl := clipP_no (f := f) (t := t) hp (fun e => h1 e.1)
              rw [← hcl] at oP
              clear hp h1 hcl
              go_wp2
              go_roundw
              case rel => exact ⟨q + 1, sd, ed, D, by omega, by go_num, by omega, hX.grew gY, OE.grew oA gY, OE.grew oP gY, gW.trans gY⟩
              case measure => simp [intOf]; omega
          · obtain rfl : q = pn := by omega
            have hpl := hsi.pt.1
            dsimp only at hpl
            rw [List.take_of_length_le (by omega)] at oP
            have hlen : (clipP f t s.pts).length = sd := oP.len (by decide)
            generalize clipP f t s.pts = cp at *
            have y0 := hX.cell 0
            have y1 := hX.cell 1
            by_cases hs0 : sd = 0
            · subst hs0
              have hcp : cp = [] := List.eq_nil_of_length_eq_zero hlen
              have hyy := hy.out
              rw [if_pos hcp, List.append_nil] at hyy
              have ho2 := ho1.grew gW
              rw [← hyy] at ho2
              clear hlen hcp hyy hpl
              go_wp2
              go_roundw
              case rel => exact ⟨k + 1, s0, e0, B, by omega, by go_num, rfl, by omega, by rw [hnx.out]; exact ho2, hgW⟩
              case measure => simp [intOf]; omega
            · have hcp : cp ≠ [] := fun e => by rw [e] at hlen; exact hs0 hlen.symm
              have hyy := hy.out
              rw [if_neg hcp] at hyy
              replace hyy := Lib.hid hyy
              have e1 : decide (0 < sd) = true := decide_eq_true (by omega)
              obtain ⟨ms, ho40, hdm⟩ := ho1
              have hold := ho40.old
              have hnew : ∀ ad, D = some ad → w1.heap.size ≤ ad.block := fun ad e => (Own.blk_lt oP ad e).1
              have ho4 := ho40.grew gW
              clear ho40
              have hN : NsE wr w1.heap.size ⟨A2, ln, c2, D, sd, ed⟩ ⟨s.lbs, cp⟩ := ⟨oA, oP⟩
              have hszb := hg01.size
              have hszw := hgW.size
              have hc4 := ho4.row.cap
              have hE5 : OE elSr (wr.alloc (.cells #[.slice A2 ln c2, .slice D sd ed] 61)) w.heap.size 61 B s0 e0 ms := ho4.row.grew ((Chg.refl _ wr).alloc _)
              have hsrc : RE elSr (wr.alloc (.cells #[.slice A2 ln c2, .slice D sd ed] 61)) (some ⟨wr.heap.size, 0, none⟩) 1 [⟨A2, ln, c2, D, sd, ed⟩] := RE.newAt rfl rfl rfl
              clear hlen hcp hpl
              go_wp2_with (at_builtin; refine wpList_appE rfl _ _ 36 61 infoSer rfl Tryz.underlying36 rfl w.heap.size B s0 e0 ms rfl hE5 (by simp; omega) _ 1 1 [⟨A2, ln, c2, D, sd, ed⟩] rfl hsrc (by unfold maxLen; omega) (by omega) ?_; intro B2 C2 w5 h5)
              have hNS := NSo.appD (ho4.grew ((Chg.refl _ wr).alloc (.cells #[.slice A2 ln c2, .slice D sd ed] 61))) hdm hold ((NsE.mono hN hszb).grew ((Chg.refl _ wr).alloc _)) hnew h5
              have hg5 : Grew w w5 := h5.grew (hgW.alloc _) (fun ad e => (Own.blk_lt ho4.row ad e).1)
              rw [← hyy.out] at hNS
              clear ho4 hE5 hsrc h5 hN hX oA oP hdm hold hnew
              go_roundw
              case rel => exact ⟨k + 1, s0 + 1, C2, B2, by omega, by go_num, rfl, by omega, by rw [hnx.out]; exact hNS, hg5⟩
              case measure => simp [intOf]; omega
    · obtain rfl : k = n := by omega
      have hl := ho.len
      rw [List.take_of_length_le (by have := hln.out; omega)] at ho hl
      subst hl
      go_wp2
      go_ret
      exact ⟨B, e0, by simp, ho, hg⟩
end Go.Proofs.YtailooldnelecaaGreatDoor

namespace Go.Proofs.YtailooldnelecaaGreatDoor
open Go.RowKit

theorem clipS_sel (f t : Int) : ∀ W : List Ser, clipS f t W = selS f t W
  | [] => rfl
  | s :: r => by
    have ih := clipS_sel f t r
    rw [selS_fm] at ih ⊢
    rw [List.filterMap_cons]
    have h1 : selF f t s = if (s.pts.filter (inR f t)).length = 0 then none else some ⟨s.lbs, s.pts.filter (inR f t)⟩ := rfl
    have h2 : clipP f t s.pts = s.pts.filter (inR f t) := rfl
    rw [h1, clipS, h2]
    by_cases h3 : s.pts.filter (inR f t) = []
    · rw [if_pos h3, if_pos (by rw [h3]; rfl), ih]
    · rw [if_neg h3, if_neg (fun e => h3 (List.eq_nil_of_length_eq_zero e)), ih]
theorem betS_sel (mt : List Mat) (f t : Int) (W : List Ser) : betS mt f t W = selS f t (pickH mt W) := clipS_sel f t _
theorem pickH_nil (W : List Ser) : pickH [] W = W := List.filter_eq_self.2 fun _ _ => rfl
/-- a list that memory bears, with labels that may be -/
structure WOk (W : List Ser) : Prop where
  len : W.length ≤ 1024
  chk : ∀ s ∈ W, chkL s.lbs = 0
  tot : tot W ≤ 1048576
theorem tot_mem1 {W : List Ser} {s : Ser} (h : s ∈ W) : s.pts.length ≤ tot W := by
  induction W with
  | nil => cases h
  | cons a r ih =>
    rw [tot_cons1]
    rcases List.mem_cons.1 h with rfl | h
    · omega
    · have := ih h
      omega
theorem WOk.small {W : List Ser} (h : WOk W) : Small W := ⟨by have := h.len; omega, fun s hs => ⟨by have := (chkL_sizes (h.chk s hs)).1; omega, by have := tot_mem1 hs; have := h.tot; omega⟩⟩
theorem WOk.val {W : List Ser} (h : WOk W) : ∀ s ∈ W, ∀ x ∈ s.lbs, x.2.size ≤ 16777216 := fun s hs x hx => by have := (chkL_sizes (h.chk s hs)).2 x hx; omega

/-- the row anew -/
theorem RH.anew {R : Nat → Prop} {w w' : World} {wb lim : Nat} {A : Option Addr} {n c : Nat} {ms : List SerM} {W : List Ser} (h : RH R w wb lim A n c ms W) (hg : Grew w w') {base : Nat} (hb : w.heap.size ≤ base) {A2 : Option Addr} {n2 c2 : Nat} {W2 : List Ser} (hN : NSd w' base A2 n2 c2 W2) :
    RD (More R w w') (w'.setCell ⟨wb, 1, none⟩ (.slice A2 n2 c2)) wb lim W2 := by
  obtain ⟨ms2, hN, hd⟩ := hN
  have hr' := h.hd.grew hg
  have hc2 : Chg (fun j => j = wb) w' (w'.setCell ⟨wb, 1, none⟩ (.slice A2 n2 c2)) := Chg.one _ _ _ _
  have hz := hg.size
  have hz2 := hc2.size
  have hel : ∀ m ∈ ms2, ∃ s, NsE w' base m s := fun m hm => by
    obtain ⟨i, hi⟩ := List.getElem?_of_mem hm
    have hl := (List.getElem?_eq_some_iff.1 hi).1
    exact ⟨_, hN.el i m _ hi (List.getElem?_eq_getElem (by rw [← hN.len]; exact hl))⟩
  refine ⟨A2, n2, c2, ms2, by simpa using hr'.set 1 (.slice A2 n2 c2), Own.mono (hN.row.chg hc2 fun ad e1 e2 => Own.ne_blk hN.row hr' (by decide) ad e1 e2) (Nat.zero_le _), hN.len, fun i m s h1 h2 => ?_, hd, .inl h.rh, fun ad e => .inr ?_, fun m hm ad e => .inr ?_, fun m hm ad e => .inr ?_, fun j hj => ?_⟩
  · have key := hN.el i m s h1 h2
    exact ⟨Own.mono (key.lb.chg hc2 fun ad e1 e2 => Own.ne_blk key.lb hr' (by decide) ad e1 e2) (Nat.zero_le _), Own.mono (key.pt.chg hc2 fun ad e1 e2 => Own.ne_blk key.pt hr' (by decide) ad e1 e2) (Nat.zero_le _)⟩
  · have := Own.blk_lt hN.row ad e
    omega
  · obtain ⟨s, hs⟩ := hel m hm
    have := Own.blk_lt hs.lb ad e
    omega
  · obtain ⟨s, hs⟩ := hel m hm
    have := Own.blk_lt hs.pt ad e
    omega
  · rcases hj with h5 | h5
    · have := h.lt j h5
      omega
    · omega

set_option maxRecDepth 100000 in
set_option maxHeartbeats 4000000 in
theorem select8_any {R : Nat → Prop} {wb lim : Nat} {W : List Ser} (M : Option Addr) (mn mc : Nat) (mt : List Mat) (u0 u1 : Int) (w : World) (hD : RD R w wb lim W) (hw : WOk W) (hM : RE elMa w M mn mt) (hmn : mn ≤ 9223372036854775807) (hmt : ∀ x ∈ mt, x.2.2.size ≤ 16777216) :
    Calls Tryz.prog 18 #[.pointer (some ⟨wb, 0, none⟩), .slice M mn mc, .int .i64 u0, .int .i64 u1] w (NewS w (selS u0 u1 (pickH mt W))) := by
  obtain ⟨A, n, c, ms, hR⟩ := hD
  have b1 := hR.hd.cell 1
  have hB := between8_any A n c W M mn mc mt u0 u1 w hR.rs hw.small hM hmn hmt hw.val
  rw [betS_sel] at hB
  clear hR hM
  go_enter Tryz.func18, Tryz.ntmps18
  go_wp2_with fail
  refine hB.mono ?_
  rintro e w1 ⟨B, d, rfl, hN, hg⟩
  go_wp2
  go_ret
  exact ⟨B, d, by simp, hN, hg⟩

/-- the document's head after a cut -/
def CutR (R : Nat → Prop) (w : World) (wb lim : Nat) (W : List Ser) (w' : World) : Prop := ∃ R' : Nat → Prop, RD R' w' wb lim W ∧ (∀ k, R k → R' k) ∧ (∀ k, R' k → R k ∨ w.heap.size ≤ k) ∧ Chg R w w'
set_option maxRecDepth 100000 in
set_option maxHeartbeats 4000000 in
theorem cut8_any {R : Nat → Prop} {wb lim : Nat} {W : List Ser} (t : Int) (w : World) (hD : RD R w wb lim W) (hw : WOk W) (hb : -1099511627776 < t) (hb2 : t ≤ 9223372036854775807) :
    Calls Tryz.prog 21 #[.pointer (some ⟨wb, 0, none⟩), .int .i64 t] w fun e w' => ∃ B d, e = .returned (.slice B (selS (-1099511627776) (t - 1) W).length d) ∧ NS w' w.heap.size B (selS (-1099511627776) (t - 1) W).length d (selS (-1099511627776) (t - 1) W) ∧ CutR R w wb lim (selS t 1099511627776 W) w' := by
  obtain ⟨A, n, c, ms, hR⟩ := hD
  have hRg := Lib.hid fun w' (g : Grew w w') => hR.grew g
  have b1 := hR.hd.cell 1
  have hB := between8_any A n c W none 0 0 [] (-1099511627776) (t - 1) w hR.rs hw.small (RE.nil _ _) (by decide) (fun x hx => by cases hx) hw.val
  have hB2 := Lib.hid fun w' (g : Grew w w') => betweenD_any A n c W none 0 0 [] t 1099511627776 w' (hR.grew g).rs hw.small (RE.nil _ _) (by decide) (fun x hx => by cases hx) hw.val
  rw [betS_sel, pickH_nil] at hB
  have hrb := hR.rh
  clear hR
  have e1 : decide (t ≤ -1099511627776) = false := decide_eq_false (by omega)
  go_enter Tryz.func21, Tryz.ntmps21
  go_wp2_with fail
  refine hB.mono ?_
  rintro e w1 ⟨B, d, rfl, hN, hg⟩
  have b2 := (hRg.out _ hg).hd.cell 1
  have hB3 := hB2.out _ hg
  rw [betS_sel, pickH_nil] at hB3
  clear hB hB2 b1 e1
  go_wp2_with fail
  refine hB3.mono ?_
  rintro e w2 ⟨B2, d2, rfl, hN2, hg2⟩
  have hg02 := hg.trans hg2
  have hh2 := (hRg.out _ hg02).hd
  have b3 := hh2.cell 1
  have f3 := hh2.frozen 1
  have hz := hg.size
  have hnew := Lib.hid (RH.anew (hRg.out _ (Chg.refl _ w)) hg02 hz hN2)
  have hN1 := Lib.hid ((hN.grew hg2).chg (Chg.one w2 wb 1 (.slice B2 (selS t 1099511627776 W).length d2)) fun k hk e => by
    have := (hRg.out _ (Chg.refl _ w)).lt wb hrb
    omega)
  have hch : Hid (Chg R w (w2.setCell ⟨wb, 1, none⟩ (.slice B2 (selS t 1099511627776 W).length d2))) := (Chg.of_grew hg02).setCell (p := ⟨wb, 1, none⟩) (.inr hrb) _
  clear hB3 hN hN2 b2 hh2
  go_wp2
  go_ret
  exact ⟨B, d, by simp, hN1.out, _, hnew.out, fun k hk => .inl hk, fun k hk => hk.elim .inl fun h => .inr h.1, hch.out⟩
end Go.Proofs.YtailooldnelecaaGreatDoor

namespace Go.Proofs.YtailooldnelecaaGreatDoor
open Go.RowKit

def headT (s : Ser) : Int := (s.pts.head?.map Prod.fst).getD 0
def lastT (s : Ser) : Int := (s.pts.getLast?.map Prod.fst).getD 0
def loW (W : List Ser) : Int := W.foldl (fun a s => min a (headT s)) 1099511627776
def hiW (W : List Ser) : Int := W.foldl (fun a s => max a (lastT s)) (-1099511627776)
def spanW (W : List Ser) : Int × Int × Bool := if W = [] then (0, 0, false) else (loW W, hiW W, true)
theorem span_fold : ∀ (W : List Ser) (x y : Int), W.foldl (fun a s => spanStep a s.pts) (x, y, true) = (W.foldl (fun a s => min a (headT s)) x, W.foldl (fun a s => max a (lastT s)) y, true)
  | [], _, _ => rfl
  | s :: r, x, y => by
    rw [List.foldl_cons, List.foldl_cons, List.foldl_cons]
    have : spanStep (x, y, true) s.pts = (min x (headT s), max y (lastT s), true) := rfl
    rw [this, span_fold r]
theorem spanS_eq {W : List Ser} (h : ∀ s ∈ W, headT s ≤ 1099511627776 ∧ -1099511627776 ≤ lastT s) : spanS W = spanW W := by
  cases W with
  | nil => rfl
  | cons s r =>
    have h1 := h s List.mem_cons_self
    unfold spanS spanW loW hiW
    rw [List.foldl_cons, List.foldl_cons, List.foldl_cons, if_neg (by simp)]
    have : spanStep (0, 0, false) s.pts = (headT s, lastT s, true) := by
      unfold spanStep
      simp [headT, lastT]
    rw [this, span_fold r, Int.min_eq_right h1.1, Int.max_eq_right h1.2]
theorem spanW_perm {a b : List Ser} (h : a.Perm b) : spanW a = spanW b := by
  have h1 : loW a = loW b := h.foldl_eq' (fun x _ y _ z => by simp only [Int.min_assoc, Int.min_comm (headT x)]) _
  have h2 : hiW a = hiW b := h.foldl_eq' (fun x _ y _ z => by simp only [Int.max_assoc, Int.max_comm (lastT x)]) _
  unfold spanW
  rw [h1, h2]
  by_cases h3 : a = []
  · subst h3
    rw [if_pos rfl, if_pos (List.nil_perm.1 h)]
  · rw [if_neg h3, if_neg fun e => h3 (by subst e; exact List.perm_nil.1 h)]
theorem HV.span {lim : Nat} {W : List Ser} (h : HV lim W) : ∀ s ∈ W, headT s ≤ 1099511627776 ∧ -1099511627776 ≤ lastT s := fun s hs => by
  have hn := h.non s hs
  have hb := h.bnd s hs
  obtain ⟨q, hq, _⟩ := last_at hn
  obtain ⟨p, r, hp⟩ := List.exists_cons_of_ne_nil hn
  have h1 := hb p (by rw [hp]; simp)
  have h2 := hb q (List.mem_of_getLast? hq)
  unfold headT lastT
  rw [hq, hp]
  simp only [List.head?_cons, Option.map_some, Option.getD_some]
  omega
theorem loW_snoc {W : List Ser} {k : Nat} {s : Ser} (h : W[k]? = some s) : loW (W.take (k + 1)) = min (loW (W.take k)) (headT s) := by
  unfold loW
  rw [take_sn h, List.foldl_append]
  rfl
theorem hiW_snoc {W : List Ser} {k : Nat} {s : Ser} (h : W[k]? = some s) : hiW (W.take (k + 1)) = max (hiW (W.take k)) (lastT s) := by
  unfold hiW
  rw [take_sn h, List.foldl_append]
  rfl

set_option maxRecDepth 100000 in
set_option maxHeartbeats 4000000 in
theorem span8_any {R : Nat → Prop} {w : World} {wb lim : Nat} {W : List Ser} (hD : RD R w wb lim W) (hne : ∀ s ∈ W, s.pts ≠ []) :
    Calls Tryz.prog 25 #[.pointer (some ⟨wb, 0, none⟩)] w fun e w' => e = .returned (.tuple #[.int .i64 (spanW W).1, .int .i64 (spanW W).2.1, .bool (spanW W).2.2]) ∧ Grew w w' := by
  obtain ⟨A, n, c, ms, hR⟩ := hD
  have hln := hR.ln
  have hb := Lib.hid fun w' (g : Grew w w') => (hR.hd.grew g).cell 1
  have hrs := hR.rs
  have hcap := hR.row.cap
  have b1 := hR.hd.cell 1
  clear hR
  rcases Nat.eq_zero_or_pos n with h0 | h0
  · subst h0
    obtain rfl : W = [] := List.eq_nil_of_length_eq_zero hln
    rw [show spanW [] = (0, 0, false) from rfl]
    clear hrs
    go_enter Tryz.func25, Tryz.ntmps25
    go_wp2
    refine bodyPost_ret (v := .tuple #[.int .i64 0, .int .i64 0, .bool false]) ?_ rfl ⟨rfl, Chg.refl _ _⟩
    simp [results, Tryz.results25, go_sem]
  · have e1 : ((n : Int) == 0) = false := by simp only [beq_eq_false_iff_ne]; omega
    have hsp : Hid (spanW W = (loW W, hiW W, true)) := by
      show _ = _
      unfold spanW
      rw [if_neg fun e => by rw [e] at hln; simp at hln; omega]
    replace hln := Lib.hid hln
    go_enter Tryz.func25, Tryz.ntmps25
    go_wp2
    clear b1 e1
    go_loopw [5, 6, 7] (fun x y i wr => ∃ (k : Nat), k ≤ n ∧ i = .int .i64 (k : Int) ∧ x = .int .i64 (loW (W.take k)) ∧ y = .int .i64 (hiW (W.take k)) ∧ Grew w wr) (fun _ _ i _ => n - (intOf i).toNat)
    case atStart => exact ⟨0, by omega, rfl, rfl, rfl, Chg.refl _ _⟩
    case round =>
      obtain ⟨k, hk, rfl, rfl, rfl, hg⟩ := hrel
      have b1 := hb.out _ hg
      by_cases hlt : k < n
      · obtain ⟨ad, ⟨la, ln, lc, pa, pn, pc⟩, s, rfl, hx, hsi, _, z1⟩ := (hrs.grew hg).at_ hlt
        dsimp only at z1
        have hsn := hne s (List.mem_of_getElem? hx)
        obtain ⟨q, hq1, hq2⟩ := last_at hsn
        have hpl := hsi.pt.1
        have hpc := hsi.pc
        have hpr := hsi.pt
        dsimp only at hpl hpc hpr
        have hpn : 0 < pn := by
          rw [← hpl]
          exact List.length_pos_iff.2 hsn
        obtain ⟨pd, f0, rfl, hf0, p0, _⟩ := hpr.pt hpn
        obtain ⟨pd2, q', hpd, hq3, p2, _⟩ := hpr.pt (show pn - 1 < pn by omega)
        injection hpd with hpd
        subst hpd
        rw [hpl, hq3] at hq2
        obtain rfl := Option.some.inj hq2
        have e0 : pd.add (0 * 2) = pd := by
          show pd.add 0 = pd
          unfold Addr.add
          simp
        rw [e0] at p0
        have hl1 : Hid (loW (W.take (k + 1)) = min (loW (W.take k)) f0.1) := by
          show _ = _
          rw [loW_snoc hx]
          unfold headT
          rw [List.head?_eq_getElem?, hf0]
          rfl
        have hl2 : Hid (hiW (W.take (k + 1)) = max (hiW (W.take k)) q'.1) := by
          show _ = _
          rw [hiW_snoc hx]
          unfold lastT
          rw [hq1]
          rfl
        generalize loW (W.take k) = lo at *
        generalize hiW (W.take k) = hi at *
        clear hx hsi hq1 hq3 hf0 hpr hsn e0
        go_wp2
        go_roundw
        case rel => exact ⟨k + 1, by omega, by go_num, by rw [hl1.out], by rw [hl2.out], hg⟩
        case measure => simp [intOf] <;> omega
      · obtain rfl : n = k := by omega
        rw [List.take_of_length_le (by rw [hln.out]; exact Nat.le_refl _)]
        go_wp2
        refine bodyPost_ret (v := .tuple #[.int .i64 (loW W), .int .i64 (hiW W), .bool true]) ?_ rfl ⟨by rw [hsp.out], hg⟩
        simp [results, Tryz.results25, go_sem]
end Go.Proofs.YtailooldnelecaaGreatDoor
