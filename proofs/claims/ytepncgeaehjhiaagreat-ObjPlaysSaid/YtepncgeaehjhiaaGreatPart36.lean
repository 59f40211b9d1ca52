/-
  Several texts in one:
  The document's disk: off, on, armed; a write begins; what stands against a name. Conditions: lengths that memory bears.
-/
import Derived.Test.YtepncgeaehjhiaaGreatPart24
import Derived.Test.YtepncgeaehjhiaaGreatPart18
import Derived.Test.YtepncgeaehjhiaaGreatPart35

namespace Go.Proofs.YtepncgeaehjhiaaGreat
open Go.RowKit

theorem Own.block {w : World} {base : Nat} {t : TypeId} {sz n c : Nat} {A : Option Addr} {cs : List Value} (h : Own w base t sz A n c cs) : ∀ ad, A = some ad → ∃ cur, Blk w ad.block t cur ∧ cur.size = c * sz := by
  rintro ad rfl
  rcases h.2 with ⟨e, _⟩ | ⟨g, cap, cur, e, _, hg, _, _, h5, _⟩
  · injection e with e1
    cases e1
  · injection e with e1 e2 e3
    injection e1 with e1
    subst e1
    exact ⟨cur, hg, by rw [h5, e3]⟩

def cutV (kp : Int) (v : Vw) : Vw := (v.1, v.2.1.take (stayN v.2.1.length v.2.2 kp), stayN v.2.1.length v.2.2 kp)
/-- files of a size -/
def VOk (V : List Vw) : Prop := ∀ v ∈ V, v.2.2 ≤ v.2.1.length ∧ v.2.1.length ≤ 4194304
theorem fi_set {ms : List FiM} {k : Nat} {m : FiM} (hm : ms[k]? = some m) (A : Option Addr) (n c s : Nat) : elFi.flat (ms.set k ⟨m.nm, A, n, c, s⟩) = ((elFi.flat ms).set (k * 3 + 1) (.slice A n c)).set (k * 3 + 2) (.int .i64 (s : Int)) := by
  have hk := (List.getElem?_eq_some_iff.1 hm).1
  have hl : (elFi.flat ms).length = ms.length * 3 := elFi.flat_length ms
  refine List.ext_getElem? fun i => ?_
  rw [flat_set_cells elFi ms k ⟨m.nm, A, n, c, s⟩ m hm i, List.getElem?_set, List.getElem?_set]
  have e3 : elFi.sz = 3 := rfl
  rw [e3]
  by_cases h2 : k * 3 + 2 = i
  · subst h2
    rw [if_pos (by omega), if_pos rfl, if_pos (by rw [List.length_set]; omega), show k * 3 + 2 - k * 3 = 2 by omega]
    rfl
  · rw [if_neg h2]
    by_cases h1 : k * 3 + 1 = i
    · subst h1
      rw [if_pos (by omega), if_pos rfl, if_pos (by omega), show k * 3 + 1 - k * 3 = 1 by omega]
      rfl
    · rw [if_neg h1]
      by_cases h0 : k * 3 = i
      · subst h0
        rw [if_pos (by omega), Nat.sub_self]
        have := elFi.flat_get ms hm (j := 0) (by decide)
        rw [e3, Nat.add_zero] at this
        rw [this]
        rfl
      · rw [if_neg (by omega)]
theorem fi_sync {ms : List FiM} {k : Nat} {m : FiM} (hm : ms[k]? = some m) (s : Nat) : elFi.flat (ms.set k ⟨m.nm, m.da, m.dn, m.dc, s⟩) = (elFi.flat ms).set (k * 3 + 2) (.int .i64 (s : Int)) := by
  rw [fi_set hm]
  congr 1
  have h1 := elFi.flat_get ms hm (j := 1) (by decide)
  have h2 : (elFi.flat ms)[k * 3 + 1]? = some (.slice m.da m.dn m.dc) := h1
  refine List.ext_getElem? fun i => ?_
  rw [List.getElem?_set]
  split
  · rename_i e
    subst e
    rw [h2, if_pos (List.getElem?_eq_some_iff.1 h2).1]
  · rfl
theorem list_setW {α β : Type} {l : List α} {r : List β} {p : α → β → Prop} {k : Nat} {a : α} {b : β} (h : ∀ (i : Nat) x y, l[i]? = some x → r[i]? = some y → p x y) (hab : p a b) : ∀ (i : Nat) x y, (l.set k a)[i]? = some x → (r.set k b)[i]? = some y → p x y := fun i x y hx hy => by
  rw [List.getElem?_set] at hx hy
  by_cases e : k = i
  · rw [if_pos e] at hx hy
    split at hx
    · split at hy
      · injection hx with hx
        injection hy with hy
        exact hx ▸ hy ▸ hab
      · cases hy
    · cases hx
  · rw [if_neg e] at hx hy
    exact h i x y hx hy
section
variable {R : Nat → Prop} {w w' w2 : World} {wb g : Nat} {A : Option Addr} {n c : Nat} {ms : List FiM} {V : List Vw} {down armed : Bool} {left keep : Int} {nu : Nat}
/-- the disk's own block turned -/
theorem RF.head (h : RF R w wb A n c ms V down armed left keep nu) (hc : Chg (fun j => j = wb) w w') {d' a' : Bool} {l' k' : Int} {nu' : Nat} (hb : Blk w' wb 29 #[.slice A n c, .bool d', .bool a', .int .i64 l', .int .i64 k', .int .u64 (nu' : Int)]) : RF R w' wb A n c ms V d' a' l' k' nu' :=
  ⟨hb, h.row.chg hc fun ad e1 e2 => Own.ne_blk h.row h.hd (by decide) ad e1 e2, h.len, fun i m v h1 h2 => ⟨(h.el i m v h1 h2).nm, (h.el i m v h1 h2).sy, Own.chg (h.el i m v h1 h2).da hc fun ad e1 e2 => Own.ne_blk (h.el i m v h1 h2).da h.hd (by decide) ad e1 e2⟩, h.rh, h.rr, h.rd, fun k hk => Nat.lt_of_lt_of_le (h.lt k hk) hc.size⟩
/-- the row's own block turned -/
theorem RF.rows (h : RF R w wb (some ⟨g, 0, none⟩) n c ms V down armed left keep nu) (hg : Grew w w') (hc : Chg (fun j => j = g) w' w2) {ms2 : List FiM} {V2 : List Vw} (hrow : OE elFi w2 0 55 (some ⟨g, 0, none⟩) n c ms2) (hl : ms2.length = V2.length)
    (hel : ∀ (i : Nat) (m : FiM) (v : Vw), ms2[i]? = some m → V2[i]? = some v → FiE w' m v) (hrd : ∀ m ∈ ms2, ∀ ad, m.da = some ad → R ad.block ∨ (w.heap.size ≤ ad.block ∧ ad.block < w'.heap.size)) : RF (MoreR R w w') w2 wb (some ⟨g, 0, none⟩) n c ms2 V2 down armed left keep nu ∧ KD w w2 := by
  obtain ⟨cur, hbg, _⟩ := Own.block (h.row.grew hg) _ rfl
  have hr' := h.hd.grew hg
  have hne : wb ≠ g := fun e => by
    rw [e] at hr'
    exact Own.ne_blk (h.row.grew hg) hr' (by decide) _ rfl rfl
  refine ⟨⟨hr'.chg hc hne, hrow, hl, fun i m v h1 h2 => ⟨(hel i m v h1 h2).nm, (hel i m v h1 h2).sy, Own.chg (hel i m v h1 h2).da hc fun ad e1 e2 => Own.ne_blk (hel i m v h1 h2).da hbg (by decide) ad e1 e2⟩, .inl h.rh, fun ad e => .inl (h.rr ad e), hrd, fun k hk => ?_⟩, (KD.of_grew hg).trans (KD.blk hbg (by decide) hc)⟩
  have := hc.size
  have := hg.size
  rcases hk with h5 | h5
  · have := h.lt k h5
    omega
  · omega
end
theorem cut_take {V : List Vw} {kp : Int} {k : Nat} {v : Vw} (hv : V[k]? = some v) : ((V.take k).map (cutV kp) ++ V.drop k)[k]? = some v ∧ ((V.take k).map (cutV kp) ++ V.drop k).set k (cutV kp v) = (V.take (k + 1)).map (cutV kp) ++ V.drop (k + 1) := by
  have hk := (List.getElem?_eq_some_iff.1 hv).1
  have hl : ((V.take k).map (cutV kp)).length = k := by rw [List.length_map, List.length_take]; omega
  have hd : V.drop k = v :: V.drop (k + 1) := by
    rw [List.drop_eq_getElem_cons hk, (List.getElem?_eq_some_iff.1 hv).2]
  constructor
  · rw [List.getElem?_append_right (by omega), hl, Nat.sub_self, hd]
    rfl
  · rw [List.set_append_right _ _ (by omega), hl, Nat.sub_self, hd, List.set_cons_zero, List.take_add_one, hv]
    simp

set_option maxRecDepth 100000 in
set_option maxHeartbeats 8000000 in
theorem rOff_any {R : Nat → Prop} {w : World} {wb : Nat} {V : List Vw} {armed : Bool} {left keep : Int} {nu : Nat} (hD : RFD R w wb V false armed left keep nu) (hV : VOk V) (_hlen : V.length ≤ 1048577) (kp : Int) (hkp : kp ≤ 9223372036854775807) :
    Calls Tryz.prog 9 #[.pointer (some ⟨wb, 0, none⟩), .int .i64 kp] w fun e w' => e = .returned (.tuple #[]) ∧ RC R w wb (V.map (cutV kp)) true false left keep nu w' := by
  obtain ⟨A, n, c, ms, hR⟩ := hD
  have hwl := hR.ln
  have hcap := hR.row.cap
  have c1 := hR.hd.cell 1
  have c2 := hR.hd.cell 2
  have f1 := hR.hd.frozen 1
  have f2 := hR.hd.frozen 2
  have hbl := hR.hd.lt
  obtain ⟨w2, hw2⟩ : ∃ w2, w2 = (w.setCell ⟨wb, 1, none⟩ (.bool true)).setCell ⟨wb, 2, none⟩ (.bool false) := ⟨_, rfl⟩
  have hc2 : Chg (fun j => j = wb) w w2 := by rw [hw2]; exact (Chg.one _ _ _ _).setCell (p := ⟨wb, 2, none⟩) (.inr rfl) _
  have hb2 : Blk w2 wb 29 #[.slice A n c, .bool true, .bool false, .int .i64 left, .int .i64 keep, .int .u64 (nu : Int)] := by rw [hw2]; simpa using (hR.hd.set 1 (.bool true)).set 2 (.bool false)
  have hR2 := hR.head hc2 hb2
  have hk2 : KD w w2 := KD.blk hR.hd (by decide) hc2
  have hcR : Chg R w w2 := hc2.mono fun k _ e => by
    have e : k = wb := e
    rw [e]
    exact hR.rh
  have hRlt := hR.lt
  have hd1 := hR.hd.cell 0
  have hrest := Lib.hid (show RF R w2 wb A n c ms ((V.take 0).map (cutV kp) ++ V.drop 0) true false left keep nu from by simpa using hR2)
  replace hV := Lib.hid hV
  replace hk2 := Lib.hid hk2
  replace hcR := Lib.hid hcR
  replace hRlt := Lib.hid hRlt
  replace hwl := Lib.hid hwl
  clear hR hR2 hc2 hb2
  go_enter Tryz.func9, Tryz.ntmps9
  go_wp2
  rw [← hw2]
  clear hw2 c1 c2 f1 f2 hd1
  go_loopw [4] (fun i wr => ∃ (k : Nat) (ms' : List FiM) (R' : Nat → Prop), k ≤ n ∧ i = .int .i64 (k : Int) ∧ Hid (RF R' wr wb A n c ms' ((V.take k).map (cutV kp) ++ V.drop k) true false left keep nu) ∧ Hid (∀ j, R j → R' j) ∧ Hid (∀ j, R' j → R j ∨ w.heap.size ≤ j) ∧ Hid (Chg R w wr) ∧ Hid (KD w wr)) (fun i _ => n - (intOf i).toNat)
  case atStart => exact ⟨0, ms, R, by omega, rfl, hrest, fun j h => h, fun j h => .inl h, hcR, hk2⟩
  case round =>
    clear hrest hcR hk2 hbl
    obtain ⟨k, ms', R', hk, rfl, hRF, hs1, hs2, hch, hkd⟩ := hrel
    have b0 := hRF.out.hd.cell 0
    by_cases hlt : k < n
    · obtain ⟨g, m, v, rfl, hm, hv, hE, z0, z1, z2⟩ := hRF.out.at_ hlt
      obtain ⟨v0, hv0⟩ : ∃ v0, V[k]? = some v0 := ⟨_, List.getElem?_eq_getElem (by rw [hwl.out]; exact hlt)⟩
      obtain ⟨q1, q2⟩ := cut_take (kp := kp) hv0
      rw [q1] at hv
      obtain rfl := Option.some.inj hv
      have hok := hV.out v0 (List.mem_of_getElem? hv0)
      obtain ⟨mn, da, dn, dc, sy⟩ := m
      obtain ⟨vn, vl, vs⟩ := v0
      have hnm : mn = vn := hE.nm
      have hsy : sy = vs := hE.sy
      subst hnm
      subst hsy
      dsimp only at z0 z1 z2 hok
      have hda := hE.da
      dsimp only at hda
      have hdl : vl.length = dn := OB.len hda
      have hdc := OB.cap hda
      obtain ⟨hok1, hok2⟩ := hok
      rw [hdl] at hok1 hok2
      obtain ⟨st, hst⟩ : ∃ st, st = stayN vl.length sy kp := ⟨_, rfl⟩
      have hcv : cutV kp (mn, vl, sy) = (mn, vl.take st, st) := by rw [hst]; rfl
      rw [hcv] at q2
      have hstl : st ≤ dn := by rw [hst, ← hdl]; exact stay_le (by omega) kp
      obtain ⟨X, hX⟩ : ∃ X, X = wr.alloc (.cells #[.string mn, .slice da dn dc, .int .i64 (sy : Int)] 55) := ⟨_, rfl⟩
      have gX : Grew wr X := by rw [hX]; exact (Chg.refl _ wr).alloc _
      have hbx : Blk X wr.heap.size 55 #[.string mn, .slice da dn dc, .int .i64 (sy : Int)] := by rw [hX]; exact Blk.new wr _ _
      have x1 := hbx.cell 1
      have x2 := hbx.cell 2
      have hxlt := hbx.lt
      have hRX := hRF.out.grew gX
      have bX := hRX.hd.cell 0
      have hcs : CellsIn [wb, wr.heap.size] X := cellsIn_cons (i := 0) (u := .slice (some ⟨g, 0, none⟩) n c) (hRX.hd.cell 0) (cellsIn_cons (i := 0) (u := .string mn) (hbx.cell 0) (cellsIn_nil X))
      have hsm := Lib.hid fun (Y : World) (g : Grew X Y) => sameIn_of g hcs fun _ _ e => e
      have hsrc := Lib.hid fun w' (g' : Grew X w') => (OB.rb (OB.grew hda (gX.trans g'))).take (i := st) (by omega)
      obtain ⟨curg, hbg, _⟩ := Own.block hRX.row _ rfl
      have hgz := hRF.out.hd.lt
      have hwbX := hRX.hd.lt
      have hml := hRF.out.len
      clear hv0 hcv hE
      replace hm := Lib.hid hm
      have hz1 := Lib.hid fun w' (g' : Grew wr w') => Chg.cell g' z1 (fun e => e)
      have hz2 := Lib.hid fun w' (g' : Grew wr w') => Chg.cell g' z2 (fun e => e)
      have hwg : wb ≠ g := fun e => by
        have h9 := hRX.hd
        rw [e] at h9
        exact Own.ne_blk hRX.row h9 (by decide) _ rfl rfl
      replace hda := Lib.hid hda
      replace hRX := Lib.hid hRX
      replace hbg := Lib.hid hbg
      replace hml := Lib.hid hml
      replace hbx := Lib.hid hbx
      by_cases h0 : 0 < kp
      · obtain ⟨kn, rfl⟩ := Int.eq_ofNat_of_zero_le (Int.le_of_lt h0)
        obtain ⟨j, hj⟩ : ∃ j, j = kn % (dn - sy + 1) := ⟨_, rfl⟩
        have hkz : (kn : Int) % ((dn : Int) - (sy : Int) + 1) = (j : Int) := by
          rw [hj, Int.natCast_emod, Int.natCast_add, Int.natCast_sub hok1]
          rfl
        have hste : st = sy + j := by
          rw [hst]
          unfold stayN
          rw [if_pos (Int.le_of_lt h0), hj, hdl]
          rfl
        have h0n : 0 < kn := by omega
        have e0 : decide (0 < kn) = true := decide_eq_true h0n
        clear hst hj h0
        subst hste
        have q2 := Lib.hid q2
        have hdl := Lib.hid hdl
        go_wp2_with fail
        rw [← hX]
        clear hX b0 z0 z1 z2
        refine wp_region_textL [(3, 1)] [wb, wr.heap.size] (by kernel_rfl) (by kernel_rfl) hcs ?_
        simp only [wpUL, tagOf, chk, List.nil_append, List.cons_append]
        have g0 : Grew X X.drew := (Chg.refl _ X).drew
        intro K hK
        go_wp2_with fail
        refine OnlyN.normal (hK _ _ (fun _ => ⟨_, _, _, rfl, rfl, by simp⟩) ?_)
        clear hK K
        have gE : Grew X (X.drew.alloc (.cells #[] 5)) := g0.alloc _
        have oE : OB (X.drew.alloc (.cells #[] 5)) X.heap.size 5 (some ⟨X.heap.size, 0, none⟩) 0 0 [] := by
          have := Own.made X.drew X.heap.size 5 1 g0.size
          first | exact this | simpa using this | (simpa only [World.size_alloc] using this)
        intro K hK
        go_wp2_with fail
        refine OnlyN.normal (hK _ _ (hsm.out _ gE) ?_)
        clear hK K
        intro K hK
        go_wp2_with fail
        refine OnlyN.normal (hK _ _ (fun _ => ⟨_, _, _, rfl, rfl, by simp⟩) ?_)
        clear hK K
        have sT := hsrc.out _ gE
        intro K hK
        go_wp2_with (at_builtin; refine wpList_appB rfl _ _ rfl X.heap.size _ 0 0 [] rfl oE gE.size da (sy + j) _ (vl.take (sy + j)) rfl sT (by omega) ?_; intro A5 c5 w5 h5)
        have g5 : Grew X w5 := h5.grew gE (hd_le1 (Nat.le_refl _))
        have o5 := h5.ob
        simp only [Nat.zero_add, List.nil_append] at o5
        refine OnlyN.normal (hK _ _ (hsm.out _ g5) ?_)
        clear hK K h5 oE sT gE g0
        have gr5 := gX.trans g5
        have s1 := hz1.out _ gr5
        have s2 := hz2.out _ gr5
        have hbg5 := hbg.out.grew g5
        have sf1 := hbg5.frozen (k * 3 + 1)
        have sf2 := hbg5.frozen (k * 3 + 2)
        have slt := hbg5.lt
        have b5 := (hRX.out.grew g5).hd.cell 0
        have hc6 : Chg (fun j => j = g) w5 ((w5.setCell ⟨g, k * 3 + 1, none⟩ (.slice A5 (sy + j) c5)).setCell ⟨g, k * 3 + 2, none⟩ (.int .i64 (((sy + j) : Nat) : Int))) := (Chg.one _ _ _ _).setCell (p := ⟨g, k * 3 + 2, none⟩) (.inr rfl) _
        have hro : OE elFi ((w5.setCell ⟨g, k * 3 + 1, none⟩ (.slice A5 (sy + j) c5)).setCell ⟨g, k * 3 + 2, none⟩ (.int .i64 (((sy + j) : Nat) : Int))) 0 55 (some ⟨g, 0, none⟩) n c (ms'.set k ⟨mn, A5, (sy + j), c5, (sy + j)⟩) := by
          have h9 := Own.set (Own.set (hRX.out.grew g5).row (k * 3 + 1) (.slice A5 (sy + j) c5)) (k * 3 + 2) (.int .i64 (((sy + j) : Nat) : Int))
          have h8 := fi_set hm.out A5 (sy + j) c5 (sy + j)
          unfold OE
          rw [h8]
          exact h9
        have hnew := Lib.hid (hRX.out.rows g5 hc6 hro (V2 := ((V.take k).map (cutV (kn : Int)) ++ V.drop k).set k (mn, vl.take (sy + j), (sy + j))) (by rw [List.length_set, List.length_set]; exact hml.out) (list_setW (fun i m v h1 h2 => (hRX.out.el i m v h1 h2).grew g5) ⟨rfl, rfl, Own.mono o5 (Nat.zero_le _)⟩) (fun m hm9 ad e => by
          rcases List.mem_or_eq_of_mem_set hm9 with h9 | rfl
          · exact .inl (hRX.out.rd m h9 ad e)
          · exact .inr (Own.blk_lt o5 ad e)))
        have hq2 := q2.out
        have hgR : R' g := hRX.out.rr ⟨g, 0, none⟩ rfl
        have hwz := hch.out.size
        have hXz := gX.size
        have hch2 : Hid (Chg R w ((w5.setCell ⟨g, k * 3 + 1, none⟩ (.slice A5 (sy + j) c5)).setCell ⟨g, k * 3 + 2, none⟩ (.int .i64 (((sy + j) : Nat) : Int)))) := ((hch.out.grow gr5).step hc6 fun j hj e => by
          have e : j = g := e
          subst e
          exact (hs2.out _ hgR).resolve_right (by omega))
        have hkd2 : Hid (KD w ((w5.setCell ⟨g, k * 3 + 1, none⟩ (.slice A5 (sy + j) c5)).setCell ⟨g, k * 3 + 2, none⟩ (.int .i64 (((sy + j) : Nat) : Int)))) := (hkd.out.trans (KD.of_grew gX)).trans hnew.out.2
        have hq2 := Lib.hid hq2
        clear hbg5 hro hc6 hcs hsm hsrc hdl hda o5 g5 gr5 bX x1 x2 hz1 hz2 hbx hRX hgR q2
        go_wp2_with fail
        refine OnlyN.normal ?_
        go_wp2
        go_roundw
        case rel =>
          have h7 := hnew.out.1
          rw [hq2.out] at h7
          exact ⟨k + 1, _, MoreR R' X w5, by omega, by go_num, h7, fun j h => .inl (hs1.out j h), fun j h => h.elim (hs2.out j) fun h => .inr (by omega), hch2.out, hkd2.out⟩
        case measure => simp [intOf] <;> omega
      · have hste : st = sy := by
          rw [hst]
          unfold stayN
          by_cases h1 : 0 ≤ kp
          · obtain rfl : kp = 0 := by omega
            rw [if_pos (Int.le_refl _)]
            show sy + 0 % _ = sy
            rw [Nat.zero_mod]
            rfl
          · rw [if_neg h1]
        have e0 : decide ((0 : Int) < kp) = false := decide_eq_false h0
        clear hst h0
        subst hste
        have q2 := Lib.hid q2
        have hdl := Lib.hid hdl
        go_wp2_with fail
        rw [← hX]
        clear hX b0 z0 z1 z2
        refine wp_region_textL [(3, 1)] [wb, wr.heap.size] (by kernel_rfl) (by kernel_rfl) hcs ?_
        simp only [wpUL, tagOf, chk, List.nil_append, List.cons_append]
        have g0 : Grew X X.drew := (Chg.refl _ X).drew
        intro K hK
        go_wp2_with fail
        refine OnlyN.normal (hK _ _ (fun _ => ⟨_, _, _, rfl, rfl, by simp⟩) ?_)
        clear hK K
        have gE : Grew X (X.drew.alloc (.cells #[] 5)) := g0.alloc _
        have oE : OB (X.drew.alloc (.cells #[] 5)) X.heap.size 5 (some ⟨X.heap.size, 0, none⟩) 0 0 [] := by
          have := Own.made X.drew X.heap.size 5 1 g0.size
          first | exact this | simpa using this | (simpa only [World.size_alloc] using this)
        intro K hK
        go_wp2_with fail
        refine OnlyN.normal (hK _ _ (hsm.out _ gE) ?_)
        clear hK K
        intro K hK
        go_wp2_with fail
        refine OnlyN.normal (hK _ _ (fun _ => ⟨_, _, _, rfl, rfl, by simp⟩) ?_)
        clear hK K
        have sT := hsrc.out _ gE
        intro K hK
        go_wp2_with (at_builtin; refine wpList_appB rfl _ _ rfl X.heap.size _ 0 0 [] rfl oE gE.size da st _ (vl.take st) rfl sT (by omega) ?_; intro A5 c5 w5 h5)
        have g5 : Grew X w5 := h5.grew gE (hd_le1 (Nat.le_refl _))
        have o5 := h5.ob
        simp only [Nat.zero_add, List.nil_append] at o5
        refine OnlyN.normal (hK _ _ (hsm.out _ g5) ?_)
        clear hK K h5 oE sT gE g0
        have gr5 := gX.trans g5
        have s1 := hz1.out _ gr5
        have s2 := hz2.out _ gr5
        have hbg5 := hbg.out.grew g5
        have sf1 := hbg5.frozen (k * 3 + 1)
        have sf2 := hbg5.frozen (k * 3 + 2)
        have slt := hbg5.lt
        have b5 := (hRX.out.grew g5).hd.cell 0
        have hc6 : Chg (fun j => j = g) w5 ((w5.setCell ⟨g, k * 3 + 1, none⟩ (.slice A5 st c5)).setCell ⟨g, k * 3 + 2, none⟩ (.int .i64 ((st : Nat) : Int))) := (Chg.one _ _ _ _).setCell (p := ⟨g, k * 3 + 2, none⟩) (.inr rfl) _
        have hro : OE elFi ((w5.setCell ⟨g, k * 3 + 1, none⟩ (.slice A5 st c5)).setCell ⟨g, k * 3 + 2, none⟩ (.int .i64 ((st : Nat) : Int))) 0 55 (some ⟨g, 0, none⟩) n c (ms'.set k ⟨mn, A5, st, c5, st⟩) := by
          have h9 := Own.set (Own.set (hRX.out.grew g5).row (k * 3 + 1) (.slice A5 st c5)) (k * 3 + 2) (.int .i64 ((st : Nat) : Int))
          have h8 := fi_set hm.out A5 st c5 st
          unfold OE
          rw [h8]
          exact h9
        have hnew := Lib.hid (hRX.out.rows g5 hc6 hro (V2 := ((V.take k).map (cutV kp) ++ V.drop k).set k (mn, vl.take st, st)) (by rw [List.length_set, List.length_set]; exact hml.out) (list_setW (fun i m v h1 h2 => (hRX.out.el i m v h1 h2).grew g5) ⟨rfl, rfl, Own.mono o5 (Nat.zero_le _)⟩) (fun m hm9 ad e => by
          rcases List.mem_or_eq_of_mem_set hm9 with h9 | rfl
          · exact .inl (hRX.out.rd m h9 ad e)
          · exact .inr (Own.blk_lt o5 ad e)))
        have hq2 := q2.out
        have hgR : R' g := hRX.out.rr ⟨g, 0, none⟩ rfl
        have hwz := hch.out.size
        have hXz := gX.size
        have hch2 : Hid (Chg R w ((w5.setCell ⟨g, k * 3 + 1, none⟩ (.slice A5 st c5)).setCell ⟨g, k * 3 + 2, none⟩ (.int .i64 ((st : Nat) : Int)))) := ((hch.out.grow gr5).step hc6 fun j hj e => by
          have e : j = g := e
          subst e
          exact (hs2.out _ hgR).resolve_right (by omega))
        have hkd2 : Hid (KD w ((w5.setCell ⟨g, k * 3 + 1, none⟩ (.slice A5 st c5)).setCell ⟨g, k * 3 + 2, none⟩ (.int .i64 ((st : Nat) : Int)))) := (hkd.out.trans (KD.of_grew gX)).trans hnew.out.2
        have hq2 := Lib.hid hq2
        clear hbg5 hro hc6 hcs hsm hsrc hdl hda o5 g5 gr5 bX x1 x2 hz1 hz2 hbx hRX hgR q2
        go_wp2_with fail
        refine OnlyN.normal ?_
        go_wp2
        go_roundw
        case rel =>
          have h7 := hnew.out.1
          rw [hq2.out] at h7
          exact ⟨k + 1, _, MoreR R' X w5, by omega, by go_num, h7, fun j h => .inl (hs1.out j h), fun j h => h.elim (hs2.out j) fun h => .inr (by omega), hch2.out, hkd2.out⟩
        case measure => simp [intOf] <;> omega
    · have hkn : k = n := by omega
      subst hkn
      have hf := hRF.out
      rw [List.take_of_length_le (by rw [hwl.out]; exact Nat.le_refl _), List.drop_eq_nil_of_le (by rw [hwl.out]; exact Nat.le_refl _), List.append_nil] at hf
      have hf := Lib.hid hf
      go_wp2
      go_end0
      exact ⟨by simp, R', ⟨_, _, _, _, hf.out⟩, hs1.out, hs2.out, hch.out, hkd.out⟩

/-- does the power go in the write that begins? -/
def goesB (armed : Bool) (left : Int) : Bool := armed && !decide (0 < left)
def leftG (armed : Bool) (left : Int) : Int := if armed = true ∧ 0 < left then left - 1 else left
section
variable {R : Nat → Prop} {w : World} {wb : Nat} {V : List Vw} {down armed : Bool} {left keep : Int} {nu : Nat}
theorem RF.rc {w' : World} {A : Option Addr} {n c : Nat} {ms : List FiM} (h : RF R w wb A n c ms V down armed left keep nu) (hc : Chg (fun j => j = wb) w w') {d' a' : Bool} {l' k' : Int} {nu' : Nat} (hb : Blk w' wb 29 #[.slice A n c, .bool d', .bool a', .int .i64 l', .int .i64 k', .int .u64 (nu' : Int)]) : RC R w wb V d' a' l' k' nu' w' :=
  ⟨R, ⟨_, _, _, _, h.head hc hb⟩, fun _ e => e, fun _ e => .inl e, hc.mono fun k _ e => by
    have e : k = wb := e
    rw [e]
    exact h.rh, KD.blk h.hd (by decide) hc⟩
theorem RFD.more {w' : World} (h : RFD R w wb V down armed left keep nu) (hg : Grew w w') : RFD (MoreR R w w') w' wb V down armed left keep nu := by
  obtain ⟨A, n, c, ms, hR⟩ := h
  have h1 := hR.grew hg
  have hz := hg.size
  exact ⟨A, n, c, ms, h1.hd, h1.row, h1.len, h1.el, .inl h1.rh, fun ad e => .inl (h1.rr ad e), fun m hm ad e => .inl (h1.rd m hm ad e), fun k hk => hk.elim (fun e => h1.lt k e) fun e => e.2⟩
set_option maxHeartbeats 1000000 in
theorem rOn_any (hD : RFD R w wb V down armed left keep nu) :
    Calls Tryz.prog 11 #[.pointer (some ⟨wb, 0, none⟩)] w fun e w' => e = .returned (.tuple #[]) ∧ RC R w wb V false armed left keep nu w' := by
  obtain ⟨A, n, c, ms, hR⟩ := hD
  have c1 := hR.hd.cell 1
  have f1 := hR.hd.frozen 1
  have hl := hR.hd.lt
  have hc : Chg (fun j => j = wb) w (w.setCell ⟨wb, 1, none⟩ (.bool false)) := Chg.one _ _ _ _
  have hr := Lib.hid (hR.rc hc (d' := false) (a' := armed) (l' := left) (k' := keep) (nu' := nu) (by simpa using hR.hd.set 1 (.bool false)))
  clear hR hc
  go_enter Tryz.func11, Tryz.ntmps11
  go_wp2
  go_end0
  exact ⟨by simp, hr.out⟩
set_option maxHeartbeats 1000000 in
theorem rArm_any (hD : RFD R w wb V down armed left keep nu) (wr kp : Int) :
    Calls Tryz.prog 32 #[.pointer (some ⟨wb, 0, none⟩), .int .i64 wr, .int .i64 kp] w fun e w' => e = .returned (.tuple #[]) ∧ RC R w wb V down (decide (0 ≤ wr)) wr kp nu w' := by
  obtain ⟨A, n, c, ms, hR⟩ := hD
  have c2 := hR.hd.cell 2
  have c3 := hR.hd.cell 3
  have c4 := hR.hd.cell 4
  have f2 := hR.hd.frozen 2
  have f3 := hR.hd.frozen 3
  have f4 := hR.hd.frozen 4
  have hl := hR.hd.lt
  have hc : Chg (fun j => j = wb) w (((w.setCell ⟨wb, 2, none⟩ (.bool (decide (0 ≤ wr)))).setCell ⟨wb, 3, none⟩ (.int .i64 wr)).setCell ⟨wb, 4, none⟩ (.int .i64 kp)) := ((Chg.one _ _ _ _).setCell (p := ⟨wb, 3, none⟩) (.inr rfl) _).setCell (p := ⟨wb, 4, none⟩) (.inr rfl) _
  have hr := Lib.hid (hR.rc hc (d' := down) (a' := decide (0 ≤ wr)) (l' := wr) (k' := kp) (nu' := nu) (by simpa using ((hR.hd.set 2 (.bool (decide (0 ≤ wr)))).set 3 (.int .i64 wr)).set 4 (.int .i64 kp)))
  clear hR hc
  go_enter Tryz.func32, Tryz.ntmps32
  go_wp2
  go_end0
  exact ⟨by simp, hr.out⟩
set_option maxHeartbeats 2000000 in
theorem rGoes_any (hD : RFD R w wb V down armed left keep nu) (hl64 : -9223372036854775808 ≤ left ∧ left ≤ 9223372036854775807) (hnu : nu ≤ 4000000000000000000) :
    Calls Tryz.prog 47 #[.pointer (some ⟨wb, 0, none⟩)] w fun e w' => e = .returned (.bool (goesB armed left)) ∧ RC R w wb V down armed (leftG armed left) keep (nu + 1) w' := by
  obtain ⟨A, n, c, ms, hR⟩ := hD
  have c2 := hR.hd.cell 2
  have c3 := hR.hd.cell 3
  have c5 := hR.hd.cell 5
  have f3 := hR.hd.frozen 3
  have f5 := hR.hd.frozen 5
  have hl := hR.hd.lt
  have hc1 : Chg (fun j => j = wb) w (w.setCell ⟨wb, 5, none⟩ (.int .u64 ((nu : Int) + 1))) := Chg.one _ _ _ _
  have hb1 : Blk (w.setCell ⟨wb, 5, none⟩ (.int .u64 ((nu : Int) + 1))) wb 29 #[.slice A n c, .bool down, .bool armed, .int .i64 left, .int .i64 keep, .int .u64 ((nu + 1 : Nat) : Int)] := by simpa using hR.hd.set 5 (.int .u64 ((nu : Int) + 1))
  have hc2 : Chg (fun j => j = wb) w ((w.setCell ⟨wb, 5, none⟩ (.int .u64 ((nu : Int) + 1))).setCell ⟨wb, 3, none⟩ (.int .i64 (left - 1))) := (Chg.one _ _ _ _).setCell (p := ⟨wb, 3, none⟩) (.inr rfl) _
  have hb2 : Blk ((w.setCell ⟨wb, 5, none⟩ (.int .u64 ((nu : Int) + 1))).setCell ⟨wb, 3, none⟩ (.int .i64 (left - 1))) wb 29 #[.slice A n c, .bool down, .bool armed, .int .i64 (left - 1), .int .i64 keep, .int .u64 ((nu + 1 : Nat) : Int)] := by simpa using hb1.set 3 (.int .i64 (left - 1))
  have hr1 := Lib.hid (hR.rc hc1 hb1)
  have hr2 := Lib.hid (hR.rc hc2 hb2)
  clear hR hc1 hb1 hc2 hb2
  cases armed
  · rw [show goesB false left = false from rfl, show leftG false left = left from if_neg (by simp)]
    go_enter Tryz.func47, Tryz.ntmps47
    go_wp2
    go_ret
    exact ⟨by simp, hr1.out⟩
  · by_cases h0 : 0 < left
    · have e0 : decide (0 < left) = true := decide_eq_true h0
      rw [show goesB true left = false by unfold goesB; rw [e0]; rfl, show leftG true left = left - 1 from if_pos ⟨rfl, h0⟩]
      go_enter Tryz.func47, Tryz.ntmps47
      go_wp2
      go_ret
      exact ⟨by simp, hr2.out⟩
    · have e0 : decide (0 < left) = false := decide_eq_false h0
      rw [show goesB true left = true by unfold goesB; rw [e0]; rfl, show leftG true left = left from if_neg fun e => h0 e.2]
      clear h0
      go_enter Tryz.func47, Tryz.ntmps47
      go_wp2
      go_ret
      exact ⟨by simp, hr1.out⟩
set_option maxHeartbeats 2000000 in
theorem rReady_off (hD : RFD R w wb V true armed left keep nu) (x : ByteArray) (th : Bool) :
    Calls Tryz.prog 46 #[.pointer (some ⟨wb, 0, none⟩), .string x, .bool th] w fun e w' => e = .returned (.int .i64 60) ∧ Grew w w' := by
  obtain ⟨A, n, c, ms, hR⟩ := hD
  have c1 := hR.hd.cell 1
  clear hR
  go_enter Tryz.func46, Tryz.ntmps46
  go_wp2
  go_ret
  exact ⟨by simp, Chg.refl _ _⟩
set_option maxHeartbeats 2000000 in
theorem rReady_any (hD : RFD R w wb V false armed left keep nu) (x : ByteArray) (hx : NmOk x) (th : Bool) :
    Calls Tryz.prog 46 #[.pointer (some ⟨wb, 0, none⟩), .string x, .bool th] w fun e w' => e = .returned (.int .i64 (if th && !hasV V x then 62 else 0)) ∧ Grew w w' := by
  have hF := rFind_any hD x
  have hN := rName_any x w
  rw [(nameB_iff x).2 hx] at hN
  obtain ⟨A, n, c, ms, hR⟩ := hD
  have c1 := hR.hd.cell 1
  clear hR hx
  generalize hasV V x = hh at *
  generalize posV V x = p at *
  go_enter Tryz.func46, Tryz.ntmps46
  go_wp2_with fail
  refine hN.mono ?_
  rintro e w1 ⟨rfl, rfl⟩
  go_wp2_with fail
  refine hF.mono ?_
  rintro e w2 ⟨rfl, g2⟩
  cases th <;> cases hh
  all_goals
    go_wp2
    go_ret
    exact ⟨by simp, g2⟩
end
end Go.Proofs.YtepncgeaehjhiaaGreat
