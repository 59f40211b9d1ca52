/-
  Several texts in one:
  Put at whose writes the power goes. Conditions: counts that have not come to their ends.
  The document's files through a put, a delete, a power cut: plain. Conditions: none; no program in sight.
-/
import Derived.Test.YtepncgeaehjhiaaGreatPart19
import Derived.Test.YtepncgeaehjhiaaGreatPart33
import Derived.Test.YtepncgeaehjhiaaGreatPart39

namespace Go.Proofs.YtepncgeaehjhiaaGreat
open Go.RowKit

section
variable {S : Nat → Prop} {w w' : World} {s d m : Nat} {Ob : List OEnt} {E : List FEnt} {clock : Nat} {armed : Bool} {left kp : Int} {n : Nat}
theorem stay_all (l : Nat) (kp : Int) : stayN l l kp = l := by
  unfold stayN
  split
  · rw [Nat.sub_self, Nat.zero_add, Nat.mod_one]
    rfl
  · rfl
theorem cut_view {f : FEnt} (h : f.sy = f.l.length) (kp : Int) : (cutE kp f).view = f.view := by
  unfold cutE FEnt.view
  simp only [h, stay_all, List.take_length]
theorem Stor.cut (h : Stor S w s d m Ob E clock armed left kp n) (keep : Int) : (E.map (cutE keep)).map FEnt.view = Ob.map OEnt.view := by
  rw [← h.vw, List.map_map]
  apply List.map_congr_left
  intro f hf
  refine cut_view ?_ keep
  obtain ⟨i, hi⟩ := List.getElem?_of_mem hf
  have h1 : (Ob.map OEnt.view)[i]? = some f.view := by rw [← h.vw]; simp [hi]
  rw [List.getElem?_map] at h1
  cases ho : Ob[i]? with
  | none => rw [ho] at h1; cases h1
  | some o =>
    rw [ho] at h1
    injection h1 with h1
    injection h1 with h2 h3
    injection h3 with h3 h4
    rw [← h4, ← h3]

/-- what a put leaves at which the power went -/
def LeftF (T : Nat → Prop) (d m : Nat) (Ob : List OEnt) (kp : Int) (n L : Nat) (x : ByteArray) (w' : World) : Prop :=
  ∃ (f : FEnt) (E1 : List FEnt) (clock' n' : Nat), f.nm = tN ++ x ∧ FS T w' d m (E1 ++ [f]) clock' false false 0 kp n' ∧ n' = n + L + 1 ∧ E1.map FEnt.view = Ob.map OEnt.view

set_option maxRecDepth 100000 in
set_option maxHeartbeats 8000000 in
theorem put_cut (L : Nat) (h : Stor S w s d m Ob E clock true (L : Int) kp n) (hL : L ≤ 2) (hn3 : n ≤ 1000000000000000000) (hkp : kp ≤ 9223372036854775807) (hE : Ob.length < 1048576) (x : ByteArray) (hx : keyB x = true) (hg : genO Ob x + 1 < 18446744073709551616) (A : Option Addr) (k c : Nat) (data : List UInt8) (hr : RB w A k data) (hk : k ≤ 1048576) :
    Calls Tryz.prog 20 #[.pointer (some ⟨s, 0, none⟩), .string x, .slice A k c] w fun e w' => e = .returned (.tuple #[.int .u64 0, .int .i64 60]) ∧ LeftF (Up S w) d m Ob kp n L x w' ∧ Chg S w w' := by
  have hcut := h.cut kp
  have hmf : ∀ (fn : Fn) (first cp : Array Value) (w : World), (Instr.makeFunc fn first cp).run Tryz.prog w = .ok (.func fn first cp) w := fun _ _ _ _ => rfl
  have hM : ∀ w, Calls Tryz.prog 50 #[.string x, .slice A k c] w fun e w' => e = .returned (.int .i64 0) ∧ w = w' := fun w => by
    have := may_any x A k c w
    unfold mayC at this
    rwa [hx, if_neg (by simp), if_neg (by omega)] at this
  have hR : ∃ er : Nat, (er = 0 ∨ er = 111) ∧ Calls Tryz.prog 51 #[.pointer (some ⟨s, 0, none⟩), .string x] w fun e w' => (∃ v, e = .returned (.tuple #[v, .int .u64 (genO Ob x : Int), .int .i64 (er : Int)])) ∧ Grew w w' := by
    unfold genO
    cases hl : lookO Ob x with
    | none => exact ⟨111, .inr rfl, (oread_none h x hx (look_not hl)).mono fun e w' ⟨h1, h2⟩ => ⟨⟨_, h1⟩, h2 ▸ Chg.refl _ _⟩⟩
    | some o =>
      obtain ⟨hok, i, hoi⟩ := look_here hl
      subst hok
      exact ⟨0, .inl rfl, (oread_ok h hoi).mono fun e w' ⟨A, c, h1, _, _, _, h2⟩ => ⟨⟨_, h1⟩, h2⟩⟩
  obtain ⟨er, her, hR⟩ := hR
  generalize hgo : genO Ob x = g at *
  have hsz := keyB_size hx
  go_enter Tryz.func20, Tryz.ntmps20
  go_wp2_with fail
  refine (hM _).mono ?_
  rintro e w1 ⟨rfl, rfl⟩
  go_wp2_with fail
  refine hR.mono ?_
  rintro e w1 ⟨⟨v, rfl⟩, hG1⟩
  clear hR hM
  obtain ⟨T, hT⟩ : ∃ T : Nat → Prop, T = fun k => S k ∧ k < w.heap.size := ⟨_, rfl⟩
  have h1 := h.tight
  rw [← hT] at h1
  have hTS : ∀ k, T k → S k := fun k e => by rw [hT] at e; exact e.1
  have hTl : ∀ k, T k → k < w.heap.size := fun k e => by rw [hT] at e; exact e.2
  clear hT
  have hs1 := hG1.size
  obtain ⟨W, hW, hgW, bp, bf, hzW⟩ := two_rows w1 #[.pointer (some ⟨s, 0, none⟩), .string x, .slice A k c, .int .u64 ((g : Int) + 1)]
    #[.func (.func 52) #[.pointer (some ⟨w1.heap.size, 0, none⟩)] #[], .func (.func 53) #[.pointer (some ⟨w1.heap.size, 0, none⟩)] #[], .func (.func 54) #[.pointer (some ⟨w1.heap.size, 0, none⟩)] #[], .func (.func 55) #[.pointer (some ⟨w1.heap.size, 0, none⟩)] #[]] 81 72
  have hGW := hG1.trans hgW
  have hh := h1.grew hGW
  have hrW := hr.grew hGW
  have f0 := bf.cell 0
  have hst := h.st.lt
  have hsn := h.sn
  have hnd := h1.ok
  have hpT : ¬ T w1.heap.size := fun e => by have := hTl _ e; omega
  have hsT : ¬ T s := fun e => hsn (hTS _ e)
  have hbT : ¬ T (w1.heap.size + 1) := fun e => by have := hTl _ e; omega
  have hClear := clear_none hh.fs.dsk w1.heap.size s x (.slice A k c) (.int .u64 ((g : Int) + 1)) bp hh.st (nm_t hx) (by omega) (find_no E 0 (hh.noT x))
  have hh := Lib.hid hh
  have hLayOk : 0 < L → Hid (∀ W2, Grew W W2 → Calls Tryz.prog 53 #[.pointer (some ⟨w1.heap.size, 0, none⟩)] W2 fun e w' => e = .returned (.int .i64 0) ∧ (∃ f : FEnt, f.nm = tN ++ x ∧ f.l = hdr (g + 1) ++ data ∧ FS (Up T W) w' d m (E ++ [f]) (clock + 1) true true (dcl (L : Int)) kp (n + 1)) ∧ Chg T W2 w') := by
    intro hL0 W2 hg2
    have hz2 := hg2.size
    refine lay_step w1.heap.size s x A k c data (g + 1) (bp.grew hg2) (hh.out.st.grew hg2) (by omega) (hrW.grew hg2) hk hg hpT hsT fun B cap w3 hg3 hr3 hb3 => ?_
    have hz3 := hg3.size
    have hdl : d < w.heap.size := hTl _ hh.out.fs.dsk.od
    have hhl := hdr_length hg
    refine (fs_append_new ((hh.out.fs.grew hg2).grew hg3) ⟨fun _ => by omega, by omega, by omega⟩ (tN ++ x) (nm_t hx) (hh.out.noT x) (by rw [hh.out.len]; exact hE) B _ cap _ hr3 (by omega) fun ad e _ => by have := hb3 ad e; omega).mono ?_
    rintro e w4 ⟨rfl, f, e1, e2, _, hF, hc4⟩
    exact ⟨rfl, ⟨f, e1, e2, hF.mono fun j hj => hj.elim .inl fun hj => .inr (by omega)⟩, hc4⟩
  have hLayCut : L = 0 → Hid (∀ W2, Grew W W2 → Calls Tryz.prog 53 #[.pointer (some ⟨w1.heap.size, 0, none⟩)] W2 fun e w' => e = .returned (.int .i64 60) ∧ LeftF (Up T W) d m Ob kp n L x w' ∧ Chg T W2 w') := by
    intro hL0 W2 hg2
    subst hL0
    have hz2 := hg2.size
    refine lay_step w1.heap.size s x A k c data (g + 1) (bp.grew hg2) (hh.out.st.grew hg2) (by omega) (hrW.grew hg2) hk hg hpT hsT fun B cap w3 hg3 hr3 hb3 => ?_
    have hz3 := hg3.size
    have hdl : d < w.heap.size := hTl _ hh.out.fs.dsk.od
    have hhl := hdr_length hg
    refine (fs_append_cut ((hh.out.fs.grew hg2).grew hg3) (by omega) hkp (tN ++ x) (nm_t hx) (hh.out.noT x) (by rw [hh.out.len]; exact hE) B _ cap _ hr3 (by omega) fun ad e _ => by have := hb3 ad e; omega).mono ?_
    rintro e w4 ⟨rfl, f, e1, hF, hc4⟩
    rw [List.map_append] at hF
    exact ⟨rfl, ⟨cutE kp f, _, _, _, e1, hF.mono fun j hj => hj.elim .inl fun hj => .inr (by omega), by omega, hcut⟩, hc4⟩
  have hUs : ¬ Up T W s := Up.old hh.out.st.lt hsT
  have hUp : ¬ Up T W w1.heap.size := Up.old bp.lt hpT
  have hUb : ¬ Up T W (w1.heap.size + 1) := Up.old bf.lt hbT
  have hSyncOk : 1 < L → Hid (∀ W4 (f : FEnt), Blk W4 w1.heap.size 81 #[.pointer (some ⟨s, 0, none⟩), .string x, .slice A k c, .int .u64 ((g : Int) + 1)] → Blk W4 s 51 #[.pointer (some ⟨d, 0, none⟩)] → f.nm = tN ++ x → FS (Up T W) W4 d m (E ++ [f]) (clock + 1) true true (dcl (L : Int)) kp (n + 1) →
      Calls Tryz.prog 54 #[.pointer (some ⟨w1.heap.size, 0, none⟩)] W4 fun e w' => e = .returned (.int .i64 0) ∧ FS (Up T W) w' d m (E ++ [{ f with sy := f.l.length }]) (clock + 1) true true (dcl (dcl (L : Int))) kp (n + 1 + 1) ∧ Chg (Up T W) W4 w') := by
    intro hL0 W4 f hb hs hn hF
    have hi : (E ++ [f])[E.length]? = some f := by simp
    have hd1 := dcl_pos (z := (L : Int)) (by omega)
    have := fs_sync (hF.grew (Chg.refl _ W4).drew) ⟨fun _ => by omega, by omega, by omega⟩ hi (hn ▸ nm_t hx)
    rw [List.set_append_right _ _ (Nat.le_refl _), Nat.sub_self] at this
    simp only [List.set_cons_zero] at this
    exact sync_step w1.heap.size s x (.slice A k c) (.int .u64 ((g : Int) + 1)) hb hs (by omega) (R := fun _ w' => FS (Up T W) w' d m (E ++ [{ f with sy := f.l.length }]) (clock + 1) true true (dcl (dcl (L : Int))) kp (n + 1 + 1)) hUp hUs (by rw [show ((⟨#[116, 47]⟩ : ByteArray) ++ x) = f.nm from hn.symm]; exact this)
  have hSyncCut : L = 1 → Hid (∀ W4 (f : FEnt), Blk W4 w1.heap.size 81 #[.pointer (some ⟨s, 0, none⟩), .string x, .slice A k c, .int .u64 ((g : Int) + 1)] → Blk W4 s 51 #[.pointer (some ⟨d, 0, none⟩)] → f.nm = tN ++ x → FS (Up T W) W4 d m (E ++ [f]) (clock + 1) true true (dcl (L : Int)) kp (n + 1) →
      Calls Tryz.prog 54 #[.pointer (some ⟨w1.heap.size, 0, none⟩)] W4 fun e w' => e = .returned (.int .i64 60) ∧ LeftF (Up T W) d m Ob kp n L x w' ∧ Chg (Up T W) W4 w') := by
    intro hL0 W4 f hb hs hn hF
    subst hL0
    rw [show dcl ((1 : Nat) : Int) = 0 from rfl] at hF
    have hi : (E ++ [f])[E.length]? = some f := by simp
    have : Calls Tryz.prog 76 #[.pointer (some ⟨d, 0, none⟩), .string f.nm] W4.drew fun e w' => e = .returned (.int .i64 60) ∧ LeftF (Up T W) d m Ob kp n 1 x w' ∧ Chg (Up T W) W4.drew w' := (fs_sync_cut (hF.grew (Chg.refl _ W4).drew) (by omega) hkp hi (hn ▸ nm_t hx)).mono fun e w' ⟨e1, e2, e3⟩ => ⟨e1, ⟨cutE kp f, _, _, _, hn, by rw [List.map_append] at e2; exact e2, by omega, hcut⟩, e3⟩
    exact sync_step w1.heap.size s x (.slice A k c) (.int .u64 ((g : Int) + 1)) hb hs (by omega) (R := fun _ w' => LeftF (Up T W) d m Ob kp n 1 x w') hUp hUs (by rw [show ((⟨#[116, 47]⟩ : ByteArray) ++ x) = f.nm from hn.symm]; exact this)
  have hRenCut : L = 2 → Hid (∀ W5 (f : FEnt), Blk W5 w1.heap.size 81 #[.pointer (some ⟨s, 0, none⟩), .string x, .slice A k c, .int .u64 ((g : Int) + 1)] → Blk W5 s 51 #[.pointer (some ⟨d, 0, none⟩)] → f.nm = tN ++ x → FS (Up T W) W5 d m (E ++ [f]) (clock + 1) true true (dcl (dcl (L : Int))) kp (n + 1 + 1) →
      Calls Tryz.prog 55 #[.pointer (some ⟨w1.heap.size, 0, none⟩)] W5 fun e w' => e = .returned (.int .i64 60) ∧ LeftF (Up T W) d m Ob kp n L x w' ∧ Chg (Up T W) W5 w') := by
    intro hL0 W5 f hb hs hn hF
    subst hL0
    rw [show dcl (dcl ((2 : Nat) : Int)) = 0 from rfl] at hF
    have hi : (E ++ [f])[E.length]? = some f := by simp
    have : Calls Tryz.prog 77 #[.pointer (some ⟨d, 0, none⟩), .string f.nm, .string (oN ++ x)] W5.drew fun e w' => e = .returned (.int .i64 60) ∧ LeftF (Up T W) d m Ob kp n 2 x w' ∧ Chg (Up T W) W5.drew w' := (fs_rename_cut (hF.grew (Chg.refl _ W5).drew) (by omega) hkp hi (hn ▸ nm_t hx) (oN ++ x) (nm_o hx)).mono fun e w' ⟨e1, e2, e3⟩ => ⟨e1, ⟨cutE kp f, _, _, _, hn, by rw [List.map_append] at e2; exact e2, by omega, hcut⟩, e3⟩
    rw [hn] at this
    exact rename_step w1.heap.size s x (.slice A k c) (.int .u64 ((g : Int) + 1)) hb hs (by omega) (R := fun _ w' => LeftF (Up T W) d m Ob kp n 2 x w') hUp hUs this
  have hS0 := Lib.hid hh.out.st
  clear hh h1 h hnd hx hcut
  have hSw : Hid (∀ k, Up T W k → Up S w k) := fun k e => e.elim (fun e => .inl (hTS k e)) fun e => .inr (by have := hGW.size; omega)
  have hOut : Hid (∀ w', LeftF (Up T W) d m Ob kp n L x w' → LeftF (Up S w) d m Ob kp n L x w') := by
    rintro w' ⟨f, E1, c1, n1, e1, e2, e3, e4⟩
    exact ⟨f, E1, c1, n1, e1, e2.mono hSw.out, e3, e4⟩
  have hGWs := hGW.size
  rcases her with rfl | rfl
  all_goals
    go_wp2_with fail
    rw [← hW]
    clear hW
    refine wp_loop_rounds 5 ?_
    rw [rounds_succ]
    go_wp2_with fail
    refine hClear.mono ?_
    rintro e W2 ⟨rfl, hG2⟩
    have f1 := (bf.grew hG2).cell 1
    have hg2s := hG2.size
    clear f0
    go_wp2_with fail
    rw [rounds_succ]
    go_wp2_with fail
    by_cases hL0 : L = 0
    · refine ((hLayCut hL0).out W2 hG2).mono ?_
      rintro e W4 ⟨rfl, hF4, hc4⟩
      go_wp2
      go_ret2
      exact ⟨by simp, hOut.out _ hF4, (Chg.of_grew (hGW.trans hG2)).step hc4 fun k hk e => hTS k e⟩
    refine ((hLayOk (by omega)).out W2 hG2).mono ?_
    rintro e W4 ⟨rfl, ⟨f, hfn, hfl, hF4⟩, hc4⟩
    have hF4 := Lib.hid hF4
    have b4 := (bf.grew hG2).chg hc4 hbT
    have p4 := (bp.grew hG2).chg hc4 hpT
    have s4 := (hS0.out.grew hG2).chg hc4 hsT
    have f2 := b4.cell 2
    clear f1
    go_wp2_with fail
    rw [rounds_succ]
    go_wp2_with fail
    by_cases hL1 : L = 1
    · refine ((hSyncCut hL1).out W4 f p4 s4 hfn hF4.out).mono ?_
      rintro e W5 ⟨rfl, hF5, hc5⟩
      go_wp2
      go_ret2
      exact ⟨by simp, hOut.out _ hF5, (Chg.of_grew (hGW.trans hG2)).step ((hc4.mono (S' := Up T W) fun _ _ e => .inl e).trans hc5) fun k hk e => e.elim (hTS k) fun e => by omega⟩
    refine ((hSyncOk (by omega)).out W4 f p4 s4 hfn hF4.out).mono ?_
    rintro e W5 ⟨rfl, hF5, hc5⟩
    have hF5 := Lib.hid hF5
    have b5 := b4.chg hc5 hUb
    have p5 := p4.chg hc5 hUp
    have s5 := s4.chg hc5 hUs
    have f3 := b5.cell 3
    clear f2
    go_wp2_with fail
    rw [rounds_succ]
    go_wp2_with fail
    refine ((hRenCut (by omega)).out W5 { f with sy := f.l.length } p5 s5 hfn hF5.out).mono ?_
    rintro e W6 ⟨rfl, hF6, hc6⟩
    go_wp2
    go_ret2
    exact ⟨by simp, hOut.out _ hF6, (Chg.of_grew (hGW.trans hG2)).step ((hc4.mono (S' := Up T W) fun _ _ e => .inl e).trans (hc5.trans hc6)) fun k hk e => e.elim (hTS k) fun e => by omega⟩
end
end Go.Proofs.YtepncgeaehjhiaaGreat

namespace Go.Proofs.YtepncgeaehjhiaaGreat
open Go.RowKit

theorem cutV_view (o : OEnt) (kp : Int) : cutV kp o.view = o.view := by
  unfold cutV OEnt.view
  simp only [stay_all, List.take_length]
theorem cutV_map (Ob : List OEnt) (kp : Int) : (Ob.map OEnt.view).map (cutV kp) = Ob.map OEnt.view := by
  rw [List.map_map]
  exact List.map_congr_left fun o _ => cutV_view o kp
theorem sortV_map {V : List Vw} (h : SortV V) (kp : Int) : SortV (V.map (cutV kp)) := by
  unfold SortV at h ⊢
  rw [List.pairwise_map]
  exact h
theorem vok_cut {V : List Vw} (h : VOk V) (kp : Int) : VOk (V.map (cutV kp)) := fun v hv => by
  obtain ⟨u, hu, rfl⟩ := List.mem_map.1 hv
  have h1 := h u hu
  have h2 := stay_le h1.1 kp
  unfold cutV
  simp only [List.length_take]
  omega
theorem vok_ins {V : List Vw} (h : VOk V) {v : Vw} (hv : v.2.2 ≤ v.2.1.length ∧ v.2.1.length ≤ 4194304) : VOk (insV V v) := fun u hu => by
  rcases List.mem_cons.1 ((insV_perm V v).mem_iff.1 hu) with rfl | hu
  · exact hv
  · exact h u hu
theorem vok_set {V : List Vw} (h : VOk V) {v : Vw} (hv : v.2.2 ≤ v.2.1.length ∧ v.2.1.length ≤ 4194304) (k : Nat) : VOk (V.set k v) := fun u hu => by
  rcases List.mem_or_eq_of_mem_set hu with hu | rfl
  · exact h u hu
  · exact hv
/-- the disk's files as the power left them: the objects, and maybe one unfinished file -/
structure DownV (V : List Vw) (Ob : List OEnt) (t : Option ByteArray) : Prop where
  so : SortV V
  vok : VOk V
  pe : ∃ F : List Vw, F.map Prod.fst = t.toList.map (fun x => tN ++ x) ∧ V.Perm (F ++ Ob.map OEnt.view)
/-- three steps of a put -/
structure Put3 (V V1 V2 V4 : List Vw) (t t' : Vw) : Prop where
  so1 : SortV V1
  h1 : hasV V1 t.1 = true
  g1 : V1[posV V1 t.1]? = some t
  p1 : V1.Perm (t :: V)
  so2 : SortV V2
  h2 : hasV V2 t.1 = true
  g2 : V2[posV V2 t.1]? = some t'
  p2 : V2.Perm (t' :: V)
  so4 : SortV V4
  p4 : V4.Perm V
theorem put3 {V : List Vw} (hs : SortV V) {t t' : Vw} (ht : t'.1 = t.1) (hn : hasV V t.1 = false) :
    Put3 V (insV V t) ((insV V t).set (posV (insV V t) t.1) t') (((insV V t).set (posV (insV V t) t.1) t').eraseIdx (posV ((insV V t).set (posV (insV V t) t.1) t') t.1)) t t' := by
  have so1 := insV_sort hs hn
  have p1 := insV_perm V t
  obtain ⟨h1, g1⟩ := hasV_mem (x := t.1) so1 (p1.mem_iff.2 (List.mem_cons_self)) rfl
  have so2 := setV_sort so1 g1 ht
  have e1 : ((insV V t).eraseIdx (posV (insV V t) t.1)).Perm V := List.Perm.cons_inv ((delV_perm g1).symm.trans p1)
  have p2 : ((insV V t).set (posV (insV V t) t.1) t').Perm (t' :: V) := (setV_perm g1).trans (e1.cons t')
  obtain ⟨h2, g2⟩ := hasV_mem (x := t.1) so2 (p2.mem_iff.2 (List.mem_cons_self)) ht
  exact ⟨so1, h1, g1, p1, so2, h2, g2, p2, delV_sort so2 _, List.Perm.cons_inv ((delV_perm g2).symm.trans p2)⟩
theorem map_set_perm {Ob : List OEnt} {i : Nat} {o0 o : OEnt} (hi : Ob[i]? = some o0) : ((Ob.set i o).map OEnt.view).Perm (o.view :: (Ob.eraseIdx i).map OEnt.view) := by
  induction Ob generalizing i with
  | nil => cases hi
  | cons a r ih =>
    cases i with
    | zero => exact List.Perm.refl _
    | succ i =>
      have h1 : r[i]? = some o0 := by simpa using hi
      rw [List.set_cons_succ, List.map_cons, List.eraseIdx_cons_succ, List.map_cons]
      exact ((ih h1).cons _).trans (List.Perm.swap _ _ _)
theorem map_del_perm {Ob : List OEnt} {i : Nat} {o0 : OEnt} (hi : Ob[i]? = some o0) : (Ob.map OEnt.view).Perm (o0.view :: (Ob.eraseIdx i).map OEnt.view) := by
  have key : ∀ {l : List OEnt} {k : Nat} {a : OEnt}, l[k]? = some a → l.Perm (a :: l.eraseIdx k) := by
    intro l
    induction l with
    | nil => intro k a h; cases h
    | cons b r ih =>
      intro k a h
      cases k with
      | zero =>
        obtain rfl : b = a := by simpa using h
        exact List.Perm.refl _
      | succ k =>
        have h1 : r[k]? = some a := by simpa using h
        rw [List.eraseIdx_cons_succ]
        exact ((ih h1).cons b).trans (List.Perm.swap a b _)
  exact (key hi).map OEnt.view
/-- the file takes its object's place -/
theorem putV_set {V4 : List Vw} {Ob : List OEnt} (hs : SortV V4) (hp : V4.Perm (Ob.map OEnt.view)) (hnd : (Ob.map OEnt.key).Nodup) (o : OEnt) : SortV (putV V4 o.view) ∧ (putV V4 o.view).Perm ((setO Ob o).map OEnt.view) := by
  unfold putV
  cases hl : lookO Ob o.key with
  | none =>
    have hno : hasV V4 o.view.1 = false := hasV_not fun v hv e => by
      obtain ⟨p, hpo, rfl⟩ := List.mem_map.1 (hp.mem_iff.1 hv)
      exact look_not hl p hpo (oN_inj e)
    rw [if_neg (by rw [hno]; simp)]
    refine ⟨insV_sort hs hno, (insV_perm _ _).trans ?_⟩
    rw [setO_none (look_not hl), List.map_append]
    exact (hp.cons _).trans (List.perm_append_comm (l₁ := [o.view]))
  | some o0 =>
    obtain ⟨hk, i, hi⟩ := look_here hl
    have hv0 : o0.view ∈ V4 := hp.mem_iff.2 (List.mem_map_of_mem (List.mem_of_getElem? hi))
    have hn0 : o0.view.1 = o.view.1 := by show oN ++ o0.key = oN ++ o.key; rw [hk]
    obtain ⟨h1, h2⟩ := hasV_mem (x := o.view.1) hs hv0 hn0
    rw [if_pos h1]
    have hso := delV_sort hs (posV V4 o.view.1)
    have hpe : (V4.eraseIdx (posV V4 o.view.1)).Perm ((Ob.eraseIdx i).map OEnt.view) := List.Perm.cons_inv ((delV_perm h2).symm.trans (hp.trans (map_del_perm hi)))
    have hno : hasV (V4.eraseIdx (posV V4 o.view.1)) o.view.1 = false := hasV_not fun v hv e => by
      have h3 := sortV_nd hs
      have h4 : (V4.map Prod.fst).Perm (o0.view.1 :: (V4.eraseIdx (posV V4 o.view.1)).map Prod.fst) := (delV_perm h2).map Prod.fst
      have h5 := h4.nodup_iff.1 h3
      rw [List.nodup_cons] at h5
      have h6 := List.mem_map_of_mem (f := Prod.fst) hv
      rw [e] at h6
      rw [hn0] at h5
      exact h5.1 h6
    refine ⟨insV_sort hso hno, (insV_perm _ _).trans ?_⟩
    rw [setO_some (o := o) hnd hi hk]
    exact (hpe.cons _).trans (map_set_perm hi).symm
end Go.Proofs.YtepncgeaehjhiaaGreat
