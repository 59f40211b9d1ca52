/-
  Several texts in one:
  Lists of series merged. Conditions: lengths that memory bears.
-/
import Derived.Test.YtjgbdkokcgcpjaaDoorPart26
import Derived.Test.YtjgbdkokcgcpjaaDoorPart27

namespace Go.Proofs.YtjgbdkokcgcpjaaDoor
open Go.RowKit
attribute [local go_sem] Oper.semAt_some

/-- a list handed in -/
structure LsIn (w : World) (x : Lst) : Prop where
  rs : RS w x.a x.n x.ss
  cap : x.n ≤ x.c ∧ x.c ≤ 9223372036854775807
theorem LsIn.grew {w w' : World} {x : Lst} (h : LsIn w x) (hc : Grew w w') : LsIn w' x := ⟨h.rs.grew hc, h.cap⟩

set_option maxHeartbeats 1000000 in
theorem each_any (La : Option Addr) (Ln Lc : Nat) (w : World) : Calls Tryd.prog 30 #[.slice La Ln Lc] w fun e w' => e = .returned (.func (.func 50) #[] #[.pointer (some ⟨w.heap.size, 0, none⟩)]) ∧ w' = w.alloc (.cells #[.slice La Ln Lc] 26) := by
  go_enter Tryd.func30, Tryd.ntmps30
  go_wp2
  go_ret
  exact ⟨rfl, rfl⟩

theorem chkL_len {L : List Lab} (h : chkL L = 0) : L.length ≤ 1048576 := by
  unfold chkL at h
  split at h
  · cases h
  · omega
set_option maxRecDepth 100000 in
set_option maxHeartbeats 4000000 in
theorem merge_yes (La : Option Addr) (Ln Lc : Nat) (ls : List Lst) (w : World) (hls : RE elLs w La Ln ls) (hin : ∀ x ∈ ls, LsIn w x) (hok : ∀ x ∈ ls, OkL x.ss) (hn : Ln ≤ 1048576) (hN : (sss ls).flatten.length ≤ 1073741824) (hT : tot (sss ls).flatten ≤ 1099511627776) :
    Calls Tryd.prog 11 #[.slice La Ln Lc] w fun e w' => ∃ m A c, Mrg (sss ls) m ∧ (m.length ≤ (sss ls).flatten.length ∧ tot m ≤ tot (sss ls).flatten) ∧ e = .returned (.tuple #[.slice A m.length c, .int .i64 0]) ∧ NS w' w.heap.size A m.length c m ∧ Grew w w' := by
  refine (callsIn_wide (n := 4)).1 ?_
  refine callsIn_of_wp_marks Tryd.func11 rfl trivial ?_ rfl
  simp only [Tryd.ntmps11, List.size_toArray, List.length_cons, List.length_nil, Nat.reduceAdd, Nat.reduceSub, Array.replicate_succ, Array.replicate_zero, List.push_toArray, List.append_toArray, List.nil_append, List.cons_append]
  have hlen := hls.1
  gi_wp2
  gi_loopw [12] (fun i wr => ∃ k : Nat, k ≤ Ln ∧ i = .int .i64 (k : Int) ∧ Grew w wr) (fun i _ => Ln - (intOf i).toNat)
  case atStart => exact ⟨0, Nat.zero_le _, rfl, Chg.refl _ _⟩
  case round =>
    obtain ⟨k, hk, rfl, hg⟩ := hrel
    by_cases hlt : k < Ln
    · obtain ⟨ad, x, rfl, hx, x0⟩ := (RE.grew hls hg).ls hlt
      have hC := checkS_any x.a x.n x.c x.ss wr ((hin x (List.mem_of_getElem? hx)).grew hg).rs (by have := (hin x (List.mem_of_getElem? hx)).cap; omega)
      rw [errS_ok (hok x (List.mem_of_getElem? hx))] at hC
      clear hx
      gi_wp2
      refine ⟨trivial, ?_⟩
      refine (callsIn_wide.2 hC).mono ?_
      rintro e w1 ⟨rfl, hg1⟩
      gi_wp2
      go_roundw
      case rel => exact ⟨k + 1, by omega, by go_num, hg.trans hg1⟩
      case measure => simp [intOf] <;> omega
    · obtain rfl : k = Ln := by omega
      gi_wp2
      refine ⟨trivial, ?_⟩
      refine (callsIn_wide.2 (each_any La k Lc _)).mono ?_
      rintro e w1 ⟨rfl, rfl⟩
      gi_wp2
      obtain ⟨wl, hwl⟩ : ∃ wl, wl = (wr.alloc (.cells #[.slice none 0 0] 22)).alloc (.cells #[.slice La k Lc] 26) := ⟨_, rfl⟩
      have hgl : Grew w wl := by rw [hwl]; exact (hg.alloc _).alloc _
      have hszl : wl.heap.size = wr.heap.size + 2 := by rw [hwl]; simp
      have hob : Blk wl wr.heap.size 22 #[.slice none 0 0] := by rw [hwl]; exact (Blk.new wr _ _).alloc _
      have hbox : Blk wl (wr.heap.size + 1) 26 #[.slice La k Lc] := by
        rw [hwl]
        have := Blk.new (wr.alloc (.cells #[.slice none 0 0] 22)) 26 #[.slice La k Lc]
        rwa [World.size_alloc] at this
      have hsz := hg.size
      have hlsok : ∀ x ∈ ls, LsOk w x := fun x hx => ⟨(hin x hx).rs, (hin x hx).cap, (hok x hx).1⟩
      rw [← hwl]
      generalize wr.heap.size = ob at *
      have hlo : w.heap.size ≤ wl.heap.size := hgl.size
      refine wpIn_rangeFuncM (F := Fence.wide) (n := 4) rfl (by omega) (gf := 50) (lb := #[.pointer (some ⟨ob + 1, 0, none⟩)]) rfl trivial (enters_of Tryd.func50 (by kernel_rfl) rfl)
        (encs := encS (w0 := w)) (Ab := HCh) (Kp := KpS w.heap.size) (Adm := AdmS ls) (S := EndS ls) (w0 := wl)
        (fun l J W hW hJ hY h0 => each1_in 3 (by omega) w (ob + 1) La k Lc ls hls hlsok hn l J W hJ hY ((Chg.of_grew (hgl.trans (Chg.of_below hW)))) ((hbox.grew (Chg.of_below hW)).cell 0) h0)
        (fun B W W' k o h hk ho => (h.block k (Array.getElem?_eq_some_iff.1 hk).1 (fun ⟨_, cs, t, fr, e, _⟩ => by rw [hk] at e; injection e with e; rw [e] at ho; cases ho)).trans hk)
        (fun h h' => h.trans h')
        (fun W l o o' hl hk ho => (Chg.of_grownBy (grownBy_putObj' W l o')).mono fun k hkl e => ⟨by injection e with e; omega, fun ⟨_, cs, t, fr, e2, _⟩ => by injection e with e; subst e; rw [hk] at e2; injection e2 with e2; rw [e2] at ho; cases ho⟩)
        (Below.refl _ _) (fun _ => rfl)
        (fun pre W => Inv w ob (addAll (sersOf pre)) W)
        (fun pre W W' row h hgr hr => h.frn (Chg.of_grownBy hgr) (frn_row hlo hr))
        (fun pre B A C hB h hab => h.frn hab (frn_heap (by omega)))
        ⟨none, 0, 0, [], hob, ⟨OE.nil _ _ _, rfl, fun i m s hm => by simp at hm⟩, Chg.of_grew hgl⟩
        (fun pre x a' W => ∃ Bx, w.heap.size ≤ Bx ∧ Blk W Bx 46 #[.slice x.1.1.la x.1.1.ln x.1.1.lc, .slice x.1.1.pa x.1.1.pn x.1.1.pc] ∧ (∀ A n c, Blk W ob 22 #[.slice A n c] → ∀ ad, A = some ad → ad.block ≠ Bx) ∧ Inv w ob (addAll (sersOf pre)) W ∧
          a' = { tmps := #[.slice La k Lc, undef, u2, u3, undef, u5, u6, .pointer (some ⟨ob, 0, none⟩), .pointer (some ⟨Bx, 0, none⟩), undef, .slice La k Lc, .int .i64 (k : Int), .int .i64 (k : Int), .bool false, u14, u15, u16, u17, u18, u19, u20, u21, .slice La k Lc, .func (.func 50) #[] #[.pointer (some ⟨ob + 1, 0, none⟩)], .agg #[.slice x.1.1.la x.1.1.ln x.1.1.lc, .slice x.1.1.pa x.1.1.pn x.1.1.pc],
            undef, undef, undef, undef, undef, undef, undef, undef, undef, undef, undef, undef, undef, undef, undef, undef, undef, undef, undef, undef, undef, undef, undef, undef, undef, undef, undef, undef, undef, undef, undef, undef, undef, undef, undef, undef], defers := [] })
        ?hAx ?assign ?body ?done
      case hAx =>
        rintro pre x a' u W W' row ⟨Bx, h1, h2, h3, h4, h5⟩ hgr hr
        have hf := frn_row (base := w.heap.size) hlo hr
        refine ⟨Bx, h1, h2.frn (Chg.of_grownBy hgr) hf (by decide) (by decide) (by decide), fun A n c hb => ?_, h4.frn (Chg.of_grownBy hgr) hf, h5⟩
        obtain ⟨A', n', c', ms, k1, k2, k3⟩ := h4
        have k1' := k1.frn (Chg.of_grownBy hgr) hf (by decide) (by decide) (by decide)
        unfold Blk at hb k1'
        rw [k1'] at hb
        have : (#[Value.slice A' n' c'] : Array Value) = #[Value.slice A n c] := by
          injection hb with hb
          injection hb
        have e : Value.slice A' n' c' = Value.slice A n c := by simpa using this
        injection e with e1 e2 e3
        subst e1 e2 e3
        exact h3 _ _ _ k1
      case assign =>
        intro l pre x W K hI hadm hK
        unfold encS
        gi_wp2
        have hga : Grew W (W.alloc (.cells #[.slice x.1.1.la x.1.1.ln x.1.1.lc, .slice x.1.1.pa x.1.1.pn x.1.1.pc] 46)) := (Chg.refl _ W).alloc _
        have hc : Chg (BodyS w.heap.size W) W _ := Chg.of_grew hga
        refine hK _ _ (bodyS_keeps hc) (bodyS_kp hc) ⟨W.heap.size, ?_, Blk.new W _ _, fun A n c hb ad e => ?_, hI.frn hga (frn_none _ _), rfl⟩
        · obtain ⟨_, _, _, _, _, _, h3⟩ := hI
          exact h3.size
        · obtain ⟨A', n', c', ms, k1, k2, k3⟩ := hI
          have k1' := k1.grew hga
          unfold Blk at hb k1'
          rw [k1'] at hb
          have : (#[Value.slice A' n' c'] : Array Value) = #[Value.slice A n c] := by
            injection hb with hb
            injection hb
          have e2 : Value.slice A' n' c' = Value.slice A n c := by simpa using this
          injection e2 with e3 e4 e5
          subst e3 e4 e5
          have := (Own.blk_lt k2.row ad e).2
          omega
      case body =>
        rintro l pre x a' W ⟨Bx, hBx, hbx, hne, ⟨A, n, c, ms, hb, hR, hf⟩, rfl⟩ hadm
        have hfin : ∀ (a : Act) W', Chg (BodyS w.heap.size W) W W' → Inv w ob (addAll (sersOf (pre ++ [x]))) W' → postM wl.heap.size (KpS w.heap.size) (fun pre W => Inv w ob (addAll (sersOf pre)) W) (pre ++ [x]) W .normal a W' := fun a W' h1 h2 => ⟨bodyS_keeps h1, bodyS_kp h1, h2⟩
        generalize postM wl.heap.size (KpS w.heap.size) (fun pre W => Inv w ob (addAll (sersOf pre)) W) (pre ++ [x]) W = Q at *
        rw [sersOf_snoc, addAll_snoc] at hfin
        obtain ⟨⟨m, s⟩, hsx⟩ := x
        obtain ⟨rest, hp⟩ := hadm
        rw [sersOf_snoc] at hp
        dsimp only at hbx hsx hp hfin ⊢
        have hle := hp.length_eq
        have hto := tot_perm hp
        rw [tot_append, tot_append, tot_cons] at hto
        rw [List.length_append, List.length_append] at hle
        have hat := addAll_tot (sersOf pre)
        have hml := hR.len
        have hmn := hR.row.len (by decide)
        have hne1 := hne _ _ _ hb
        generalize addAll (sersOf pre) = ss at *
        generalize sersOf pre = sp at *
        have hn1 : n < 1073741824 := by simp only [List.length_cons, List.length_nil] at hle; omega
        have hto1 : tot ss + s.pts.length ≤ 1099511627776 := by omega
        clear hp hle hto hat rest hne
        replace hfin := Lib.hid hfin
        have b7 := hb.cell 0
        have f7 := hb.frozen 0
        have c0 := hbx.cell 0
        have c1 := hbx.cell 1
        have hszW := hf.size
        have hcap := hR.row.cap
        have HO : Hid (w.heap.size ≤ ob) := hsz
        replace hml := Lib.hid hml
        rcases Nat.eq_zero_or_pos n with h0 | h0
        · subst h0
          have hss : ss = [] := List.eq_nil_of_length_eq_zero (by rw [← hml.out]; exact hmn)
          subst hss
          have hms : ms = [] := List.eq_nil_of_length_eq_zero hmn
          subst hms
          have hcs : CellsIn [ob] W := cellsIn_one hb
          have HG : Hid (Grew W (W.alloc (.cells #[.slice m.la m.ln m.lc, .slice m.pa m.pn m.pc] 46)).drew) := ((Chg.refl _ W).alloc _).drew
          have hrow2 := hR.row.grew HG.out
          have hsrc : RE elSr (W.alloc (.cells #[.slice m.la m.ln m.lc, .slice m.pa m.pn m.pc] 46)).drew (some ⟨W.heap.size, 0, none⟩) 1 [m] := RE.newAt rfl rfl rfl
          gi_wp2
          refine wp_region_textS_in [(3, 1)] [ob] (by kernel_rfl) (by kernel_rfl) (by kernel_rfl) hcs ?_
          simp only [wpU, tagOf, chk, look, Nat.reduceBEq, if_true, if_false, Nat.reduceEqDiff, List.nil_append, List.cons_append]
          intro K hK
          go_wp2_with fail
          refine OnlyN.normal (hK _ _ (fun hw => by cases (show false = true from hw)) ?_)
          clear hK K
          intro K hK
          go_wp2_with fail
          refine OnlyN.normal (hK _ _ (fun hw => by cases (show false = true from hw)) ?_)
          clear hK K
          intro K hK
          go_wp2_with fail
          refine OnlyN.normal (hK _ _ (fun hw => by cases (show false = true from hw)) ?_)
          clear hK K
          intro K hK
          go_wp2_with fail
          refine OnlyN.normal (hK _ _ (fun _ _ => rfl) ?_)
          clear hK K
          go_wp2_with fail
          refine OnlyN.normal ?_
          gi_wp2_with (gi_at_builtin; refine wpListIn_appE rfl _ _ 22 46 infoSer rfl Tryd.underlying22 rfl w.heap.size A 0 c [] rfl hrow2 (by simp; omega) _ 1 1 [m] rfl hsrc (by unfold maxLen; omega) (by omega) ?_; intro A2 c2 w2 h2; obtain ⟨hb2, hI2, hC2⟩ := hR.app hb hf HO.out HG.out hsx h2; have b2 := hb2.cell 0; have f2 := hb2.frozen 0)
          exact hfin.out _ _ hC2 hI2
        · have e1 : decide (0 < n) = true := decide_eq_true h0
          obtain ⟨g, rfl⟩ : ∃ g, A = some ⟨g, 0, none⟩ := (Own.at_ hR.row h0).imp fun _ h => h.1
          rcases List.eq_nil_or_concat ms with hms | ⟨ms, mo, rfl⟩
          · rw [hms] at hmn
            simp at hmn
            omega
          rw [List.concat_eq_append] at *
          rcases List.eq_nil_or_concat ss with hss | ⟨ss, so, rfl⟩
          · rw [hss] at hml
            have := hml.out
            simp at this
          rw [List.concat_eq_append] at *
          have hml2 : ms.length = ss.length := by have := hml.out; simpa using this
          obtain ⟨n1, rfl⟩ : ∃ n1, n = n1 + 1 := ⟨n - 1, by omega⟩
          have hmn1 : ms.length = n1 := by simpa using hmn
          have hoe := hR.el n1 mo so (by rw [← hmn1]; simp) (by rw [← hmn1, hml2]; simp)
          have hio := hoe.is hf
          have q1 : ((n1 + 1 : Nat) : Int) - 1 = (n1 : Int) := by omega
          obtain ⟨g', eg, _, _, hcl, hfr, _⟩ := Own.at_ hR.row h0
          injection eg with eg
          injection eg with eg
          subst eg
          have hmo : (ms ++ [mo])[n1]? = some mo := by rw [← hmn1]; simp
          have y0 : W.cell? ⟨g, n1 * 2, none⟩ = some (.slice mo.la mo.ln mo.lc) := by
            rw [hcl _ (by show n1 * 2 < (n1 + 1) * 2; omega)]
            exact elSr.flat_get _ (j := 0) hmo (by decide)
          have y1 : W.cell? ⟨g, n1 * 2 + 1, none⟩ = some (.slice mo.pa mo.pn mo.pc) := by
            rw [hcl _ (by show n1 * 2 + 1 < (n1 + 1) * 2; omega)]
            exact elSr.flat_get _ (j := 1) hmo (by decide)
          have hgl := World.block_lt_of_cell? W _ y0
          have hcs : CellsIn [ob, g, Bx] W := cellsIn_cons hb.ex (cellsIn_cons (ex_cell y0) (cellsIn_cons hbx.ex (cellsIn_nil _)))
          have hsame : Hid (∀ W1, Grew W W1 → SameIn [ob, g, Bx] W W1) := fun W1 h1 => sameIn_of h1 hcs fun _ _ e => e
          have hL := fun W1 (hW1 : Grew W W1) => compare_labels mo.la m.la mo.ln mo.lc m.ln m.lc so.lbs s.lbs W1 (hio.lb.grew hW1) ((far_re (by decide) hsx.lb hf).grew hW1) (by have := hio.lc; omega) (by have := hsx.lc; omega)
          have hto2 : so.pts.length + s.pts.length ≤ 8796093022208 := by
            rw [tot_append, tot_cons] at hto1
            omega
          have hol := hio.pt.1
          have hsl := hsx.pt.1
          have hadd0 := addS_eq (ss := ss) (o := so) (s := s)
          have hadd1 := addS_ne (ss := ss) (o := so) (s := s)
          generalize cmpLs so.lbs s.lbs = z at *
          replace hadd0 := Lib.hid hadd0
          replace hadd1 := Lib.hid hadd1
          replace hL := Lib.hid hL
          replace hmn := Lib.hid hmn
          replace hml2 := Lib.hid hml2
          replace hmn1 := Lib.hid hmn1
          replace hol := Lib.hid hol
          replace hsl := Lib.hid hsl
          have hpo := Lib.hid hio.pt
          have hpoc := hio.pc
          have hps := Lib.hid (far_re (by decide) hsx.pt hf)
          have hpsc := hsx.pc
          replace hsx := Lib.hid hsx
          have hf1 := Lib.hid hf
          clear hoe hio hmo hcl hfr hml hf
          gi_wp2
          refine wp_region_textS_in [(3, 1)] [ob, g, Bx] (by kernel_rfl) (by kernel_rfl) (by kernel_rfl) hcs ?_
          simp only [wpU, tagOf, chk, look, Nat.reduceBEq, if_true, if_false, Nat.reduceEqDiff, List.nil_append, List.cons_append]
          intro K hK
          go_wp2_with fail
          refine OnlyN.normal (hK _ _ (fun _ => ⟨_, _, _, rfl, rfl, by simp⟩) ?_)
          clear hK K
          intro K hK
          go_wp2_with fail
          refine OnlyN.normal (hK _ _ (fun _ => ⟨_, _, _, rfl, rfl, by simp⟩) ?_)
          clear hK K
          intro K hK
          go_wp2_with fail
          refine OnlyN.normal (hK _ _ (fun _ => ⟨_, _, _, rfl, rfl, by simp⟩) ?_)
          clear hK K
          intro K hK
          go_wp2_with fail
          refine (hL.out _ (Chg.refl _ W).drew).mono ?_
          rintro e w1 ⟨rfl, hg1⟩
          have hgg : Grew W w1 := (Chg.refl _ W).drew.trans hg1
          go_wp2_with fail
          refine OnlyN.normal (hK _ _ (hsame.out _ hgg) ?_)
          clear hK K
          go_wp2_with fail
          refine OnlyN.normal ?_
          have hb1 := hb.grew hgg
          have hbx1 := hbx.grew hgg
          have hR1 := hR.frn hgg (frn_none _ _)
          have hff := hf1.out.grow hgg
          have hsx1 := hsx.out
          have b7 := hb1.cell 0
          have f7 := hb1.frozen 0
          have c0 := hbx1.cell 0
          have c1 := hbx1.cell 1
          have y1 := hgg.cell y1 (fun e => e)
          have hC0 : Chg (BodyS w.heap.size W) W w1 := Chg.of_grew hgg
          have hp1 := Lib.hid (hpo.out.grew hgg)
          have hps1 := Lib.hid (hps.out.grew hgg)
          have hsz1 := hff.size
          clear hsame hL hcs hb hbx hR y0 hgl hpo hps hf1 hg1 hgg hszW
          by_cases hz : z = 0
          · subst hz
            rw [hadd0.out rfl] at hfin
            replace hfin := Lib.hid hfin
            have hcs : CellsIn [ob, g, Bx] w1 := cellsIn_cons hb1.ex (cellsIn_cons (ex_cell y1) (cellsIn_cons hbx1.ex (cellsIn_nil _)))
            have hsame : Hid (∀ W1, Grew w1 W1 → SameIn [ob, g, Bx] w1 W1) := fun W1 h1 => sameIn_of h1 hcs fun _ _ e => e
            have hP := fun W1 (hW1 : Grew w1 W1) => points_any mo.pa m.pa mo.pn mo.pc m.pn m.pc so.pts s.pts W1 (hp1.out.grew hW1) (hps1.out.grew hW1) hpoc hpsc (by have := hol.out; have := hsl.out; omega)
            replace hP := Lib.hid hP
            gi_wp2
            refine wp_region_textL_in [(3, 1)] [ob, g, Bx] (by kernel_rfl) (by kernel_rfl) (by kernel_rfl) hcs ?_
            simp only [wpUL, tagOf, chk, look, Nat.reduceBEq, if_true, if_false, Nat.reduceEqDiff, List.nil_append, List.cons_append]
            intro K hK
            go_wp2_with fail
            refine OnlyN.normal (hK _ _ (fun _ => ⟨_, _, _, rfl, rfl, by simp⟩) ?_)
            clear hK K
            intro K hK
            go_wp2_with fail
            refine OnlyN.normal (hK _ _ (fun _ => ⟨_, _, _, rfl, rfl, by simp⟩) ?_)
            clear hK K
            intro K hK
            go_wp2_with fail
            refine OnlyN.normal (hK _ _ (fun _ => ⟨_, _, _, rfl, rfl, by simp⟩) ?_)
            clear hK K
            intro K hK
            go_wp2_with fail
            refine OnlyN.normal (hK _ _ (fun _ => ⟨_, _, _, rfl, rfl, by simp⟩) ?_)
            clear hK K
            intro K hK
            go_wp2_with fail
            refine (hP.out _ (Chg.refl _ w1).drew).mono ?_
            rintro e w2 ⟨pa, pc, rfl, ho2, hg2⟩
            have hgg2 : Grew w1 w2 := (Chg.refl _ w1).drew.trans hg2
            have hb2 := hb1.grew hgg2
            have hR2 := hR1.frn hgg2 (frn_none _ _)
            have y12 := hgg2.cell y1 (fun e => e)
            obtain ⟨_, eg, _, _, _, fz2, _⟩ := Own.at_ hR2.row h0
            injection eg with eg
            injection eg with eg
            subst eg
            have fz := fz2 (n1 * 2 + 1)
            have hT := hR1.turn hb1 hff hgg2 (Own.mono ho2 (by exact hsz1))
            rw [hmn1.out] at hT
            obtain ⟨hI3, hC3⟩ := hT
            go_wp2_with fail
            refine OnlyN.normal (hK _ _ (hsame.out _ hgg2) ?_)
            clear hK K
            go_wp2_with fail
            refine OnlyN.normal ?_
            exact hfin.out _ _ (bodyS_trans hC0 hC3) hI3
          · have e2 : (z == 0) = false := by simpa using hz
            rw [hadd1.out hz] at hfin
            replace hfin := Lib.hid hfin
            have HG : Hid (Grew w1 (w1.alloc (.cells #[.slice m.la m.ln m.lc, .slice m.pa m.pn m.pc] 46))) := (Chg.refl _ w1).alloc _
            have hrow2 := hR1.row.grew HG.out
            have hsrc : RE elSr (w1.alloc (.cells #[.slice m.la m.ln m.lc, .slice m.pa m.pn m.pc] 46)) (some ⟨w1.heap.size, 0, none⟩) 1 [m] := RE.newAt rfl rfl rfl
            have hsz2 : w.heap.size ≤ (w1.alloc (.cells #[.slice m.la m.ln m.lc, .slice m.pa m.pn m.pc] 46)).heap.size := by simp; omega
            clear hz
            gi_wp2_with (gi_at_builtin; refine wpListIn_appE rfl _ _ 22 46 infoSer rfl Tryd.underlying22 rfl w.heap.size (some ⟨g, 0, none⟩) (n1 + 1) c (ms ++ [mo]) rfl hrow2 hsz2 _ 1 1 [m] rfl hsrc (by unfold maxLen; omega) (by omega) ?_; intro A2 c2 w2 h2; obtain ⟨hb2, hI2, hC2⟩ := hR1.app hb1 hff HO.out HG.out hsx1 h2; have b2 := hb2.cell 0; have f2 := hb2.frozen 0)
            exact hfin.out _ _ (bodyS_trans hC0 hC2) hI2
      case done =>
        rintro D xs W hD ⟨hM, hp⟩ ⟨A, n, c, ms, hb, hR, hf⟩ hK
        have hle := hp.length_eq
        have hto := tot_perm hp
        have hat := addAll_tot (sersOf xs)
        have hokm : OkL (addAll (sersOf xs)) := hM.ok fun a ha => by
          obtain ⟨x, hx, rfl⟩ := List.mem_map.1 ha
          exact hok x hx
        have hml := hR.len
        have hmn := hR.row.len (by decide)
        generalize addAll (sersOf xs) = mm at *
        have hsm : Small mm := ⟨by omega, fun s hs => ⟨chkL_len (hokm.2 s hs), by have := tot_mem hs; omega⟩⟩
        have hC := copyS_any A n c mm W (hR.rs hf) hsm
        have b7 := hb.cell 0
        have hDl := (Array.getElem?_eq_some_iff.1 hK).1
        have hszW := hf.size
        have hHf := Lib.hid hf
        have hHM := Lib.hid hM
        have hHB : Hid (mm.length ≤ (sss ls).flatten.length ∧ tot mm ≤ tot (sss ls).flatten) := ⟨by omega, by omega⟩
        clear hle hto hat hokm hml hmn hsm hR hlsok hls hin hok hM hf
        gi_wp2
        refine ⟨trivial, ?_⟩
        refine (callsIn_wide.2 hC).mono ?_
        rintro e w2 ⟨B, d, rfl, hNS, hg2⟩
        have hK2 : w2.heap[D]? = some (.deferred (some [])) := (hg2.block D hDl (fun e => e)).trans hK
        gi_wp2
        have hput : Chg (fun k => some k = some D) w2 (w2.putObj D (.deferred none)) := Chg.of_grownBy (grownBy_putObj' w2 D _)
        have hNS3 := (hNS.chg hput (fun k hk e => by injection e with e; omega)).mono hszW
        have hg3 : Grew w (w2.putObj D (.deferred none)) := ((hHf.out.grow hg2).step hput (fun k hk e => by injection e with e; omega)).mono fun k hk e => by omega
        refine ⟨by simp, .inl ⟨_, _, rfl, run_takeDeferred hK2, ?_⟩⟩
        exact ⟨_, by simp [results, Tryd.results11, go_sem], mm, B, d, hHM.out, hHB.out, rfl, hNS3, hg3⟩
end Go.Proofs.YtjgbdkokcgcpjaaDoor
