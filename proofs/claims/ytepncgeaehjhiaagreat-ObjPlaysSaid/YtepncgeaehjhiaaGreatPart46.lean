/-
  Several texts in one:
  Two stores side by side: deletions; the power off and on; opened anew. Conditions: counts far from their ends.
-/
import Derived.Test.YtepncgeaehjhiaaGreatPart45

namespace Go.Proofs.YtepncgeaehjhiaaGreat
open Go.RowKit

section
variable {B B' : Nat → Prop} {S R : Nat → Prop} {w0 w w' : World} {d s wb sb m : Nat} {Ob : List OEnt} {E : List FEnt} {clock : Nat} {kp : Int} {n q : Nat} {armed up : Bool} {left leftR : Int} {t : Option ByteArray}

set_option maxHeartbeats 2000000 in
theorem odelete_cut (h : Stor S w s d m Ob E clock true 0 kp n) (hn : n ≤ 1000000000000000000) (hkp : kp ≤ 9223372036854775807) {x : ByteArray} (hx : keyB x = true) {o : OEnt} (hl : lookO Ob x = some o) :
    Calls Tryz.prog 29 #[.pointer (some ⟨s, 0, none⟩), .string x] w fun e w' => e = .returned (.int .i64 60) ∧ PF S w' d Ob kp (n + 1) false none ∧ Chg S w w' := by
  have hR := get_any h x hx
  rw [hl] at hR
  unfold ReadTo at hR
  simp only at hR
  obtain ⟨hok, i, hi⟩ := look_here hl
  obtain ⟨f, hf, hnm, _, _⟩ := h.ent hi
  rw [hok] at hnm
  have hcut := h.cut kp
  have hD : Hid (∀ w1, Grew w w1 → Calls Tryz.prog 15 #[.pointer (some ⟨d, 0, none⟩), .string ((⟨#[111, 47]⟩ : ByteArray) ++ x)] w1 fun e w' => e = .returned (.int .i64 60) ∧ PF S w' d Ob kp (n + 1) false none ∧ Chg S w w') := by
    intro w1 hg1
    have := fs_delete_cut (h.fs.grew hg1) (by omega) hkp hf (hnm ▸ nm_o hx)
    rw [hnm] at this
    refine this.mono ?_
    rintro e w' ⟨rfl, h1, h2⟩
    exact ⟨rfl, ⟨m, E.map (cutE kp), [], clock, 0, by rw [List.append_nil]; exact h1, hcut, rfl, by unfold Rng; omega⟩, (Chg.of_grew hg1).trans h2⟩
  have hst := h.st
  have hsz := keyB_size hx
  clear h hf hnm hi hcut hx hok hl
  go_enter Tryz.func29, Tryz.ntmps29
  go_wp2_with fail
  refine hR.mono ?_
  rintro e w1 ⟨A, c, rfl, hr, hcap, hbk, hG⟩
  have s0 := (hst.grew hG).cell 0
  have hr := Lib.hid hr
  have hcap := Lib.hid hcap
  clear hR
  go_wp2_with fail
  refine (hD.out w1 hG).mono ?_
  rintro e w2 ⟨rfl, h1, h2⟩
  have h1 := Lib.hid h1
  go_wp2
  go_ret
  exact ⟨by simp, h1.out, h2⟩

set_option maxHeartbeats 2000000 in
theorem rOff_down {V : List Vw} {lr : Int} (hD : RFD R w wb V true armed lr kp n) (kp' : Int) :
    Calls Tryz.prog 9 #[.pointer (some ⟨wb, 0, none⟩), .int .i64 kp'] w fun e w' => e = .returned (.tuple #[]) ∧ Grew w w' := by
  obtain ⟨A, k, c, ms, hR⟩ := hD
  have c1 := hR.hd.cell 1
  clear hR
  go_enter Tryz.func9, Tryz.ntmps9
  go_wp2
  refine bodyPost_ret (results_none rfl _ _ _) rfl ?_
  exact ⟨rfl, Chg.refl _ _⟩
theorem both_del (hc : Com B S R w0 d s wb sb Ob kp n q) (hu : UpS S R w0 d s wb sb Ob kp n armed left leftR) (hq : q ≤ 100000000000000000) (x : ByteArray) (g : Grew w0 w) :
    ∃ er : Nat, Calls Tryz.prog 29 #[.pointer (some ⟨s, 0, none⟩), .string x] w fun e w1 => e = .returned (.int .i64 (er : Int)) ∧ Chg S w w1 ∧
      ∀ w2, Grew w1 w2 → Calls Tryz.prog 30 #[.pointer (some ⟨sb, 0, none⟩), .string x] w2 fun e w' => e = .returned (.int .i64 (er : Int)) ∧ Chg R w2 w' ∧ ∃ up, Play (More B w0 w) w' d s wb sb (q + 3) up := by
  have hp := play_of hc hu
  have hnq := hc.nq
  cases hx : keyB x with
  | false =>
    refine ⟨110, (odelete_no x hx _ w).mono ?_⟩
    rintro e w1 ⟨rfl, rfl⟩
    refine ⟨rfl, Chg.refl _ _, fun w2 g2 => (rDel_bad x hx _ w2).mono ?_⟩
    rintro e w' ⟨rfl, g3⟩
    exact ⟨rfl, Chg.of_grew g3, true, hp.stay (g.trans (g2.trans g3))⟩
  | true =>
  obtain ⟨⟨m, E, clock, hs⟩, ⟨V, hr0⟩, heq, l1, l2, hlen⟩ := hu
  have hs0 := hs.grew g
  cases hl : lookO Ob x with
  | none =>
    refine ⟨111, (odelete_none hs0 x hx (look_not hl)).mono ?_⟩
    rintro e w1 ⟨rfl, rfl⟩
    refine ⟨rfl, Chg.refl _ _, fun w2 g2 => (rDel_none (hr0.grew (g.trans g2)) x hx hl).mono ?_⟩
    rintro e w' ⟨rfl, g3⟩
    exact ⟨rfl, Chg.of_grew g3, true, hp.stay (g.trans (g2.trans g3))⟩
  | some o =>
  have hl0 := hl
  obtain ⟨hok, i, hi⟩ := look_here hl
  have hom := List.mem_of_getElem? hi
  by_cases hcut : armed = true ∧ left ≤ 0
  · obtain ⟨ha, hl2⟩ := hcut
    subst ha
    obtain ⟨hlr, hl1⟩ := heq rfl
    obtain rfl : left = 0 := by omega
    refine ⟨60, (odelete_cut hs0 (by omega) hc.kl hx hl).mono ?_⟩
    rintro e w1 ⟨rfl, hpf, c1⟩
    refine ⟨rfl, c1, fun w2 g2 => ?_⟩
    have hrw : RSt R w2 sb wb Ob true leftR kp n V := ((hr0.grew g).chg c1 hc.bS fun k e1 e2 => hc.ap k e2 e1).grew g2
    subst hok
    refine (rDel_cut hrw l2 (by omega) hc.kl hlen hom hl0 rfl hlr).mono ?_
    rintro e w' ⟨rfl, hd⟩
    have hd0 := hd
    obtain ⟨V', left', _, _, _, R', _, _, _, h6, _⟩ := hd0
    exact ⟨rfl, h6, false, play_down (hc.old.grew g) (B' := More B w0 w) (fun k e => .inl e) (fun k e => .inr e) (S1 := S) (fun k e => .inl e) hpf c1 g2 hd hc.kl (by omega) (by omega) (fun y e => by cases e) (by simpa using hlen) rfl⟩
  · have h3 : armed = true → 0 < left := fun e => by
      have := Int.not_le.1 fun h => hcut ⟨e, h⟩
      omega
    subst hok
    refine ⟨0, (odelete_ok hs0 ⟨fun e => by have := h3 e; omega, l1, by omega⟩ hi).mono ?_⟩
    rintro e w1 ⟨rfl, hS1, c1⟩
    refine ⟨rfl, c1, fun w2 g2 => ?_⟩
    have hrw : RSt R w2 sb wb Ob armed leftR kp n V := ((hr0.grew g).chg c1 hc.bS fun k e1 e2 => hc.ap k e2 e1).grew g2
    refine (rDel_ok hrw l2 (by omega) hc.kl hlen hi hl0 fun e => by have := h3 e; have := (heq e).1; omega).mono ?_
    rintro e w' ⟨rfl, left', hl', hlr, hU⟩
    have hU0 := hU
    obtain ⟨R', V', _, _, _, h6⟩ := hU0
    refine ⟨rfl, h6, true, play_up (hc.old.grew g) (B' := More B w0 w) (fun k e => .inl e) (fun k e => .inr e) (S1 := S) (fun k e => .inl e) ⟨m, _, clock, hS1⟩ c1 g2 hU hc.kl (by omega) (fun p hp => by have := hc.gen p (List.mem_of_mem_eraseIdx hp); omega) (fun e => ?_) (dcl_rng l1) hlr (by have := List.length_eraseIdx_le Ob i; omega)⟩
    have h4 := h3 e
    have h5 := hl' e
    have h6 := (heq e).1
    rw [dcl_pos (z := left) (by omega)]
    omega

/-! ### the power off, on; opened anew -/
theorem both_off (h : Play B w0 d s wb sb q up) (hb : ∀ k, w0.heap.size ≤ k → B k) (kp' : Int) (hkp : kp' ≤ 9223372036854775807) :
    ∃ S R Ob kp n t, Com B S R w0 d s wb sb Ob kp n q ∧ Hid (∀ w, Grew w0 w → Calls Tryz.prog 8 #[.pointer (some ⟨d, 0, none⟩), .int .i64 kp'] w fun e w1 => e = .returned (.tuple #[]) ∧ Chg S w w1 ∧
      ∀ w2, Grew w1 w2 → Calls Tryz.prog 9 #[.pointer (some ⟨wb, 0, none⟩), .int .i64 kp'] w2 fun e w' => e = .returned (.tuple #[]) ∧ Chg R w2 w' ∧ ∃ R', Com B S R' w' d s wb sb Ob kp n q ∧ DnS S R' w' d wb Ob kp n false t) := by
  obtain ⟨S, R, Ob, kp, n, hc, h1⟩ := h
  cases up with
  | false =>
    rw [if_neg (by simp)] at h1
    obtain ⟨t, hd⟩ := h1
    have hd0 := hd
    obtain ⟨⟨m, E1, F, clock, left, hf, hv, hF, hl⟩, ⟨V, lr, hr, hV, hlr⟩, hk, hlen⟩ := hd
    refine ⟨S, R, Ob, kp, n, t, hc, fun w g => (fs_off_down (hf.grew g) kp').mono ?_⟩
    rintro e w1 ⟨rfl, rfl⟩
    refine ⟨rfl, Chg.refl _ _, fun w2 g2 => (rOff_down (hr.grew (g.trans g2)) kp').mono ?_⟩
    rintro e w' ⟨rfl, g3⟩
    have gg := (g.trans g2).trans g3
    exact ⟨rfl, Chg.of_grew g3, R, hc.grew gg, hd0.grew gg⟩
  | true =>
    rw [if_pos rfl] at h1
    obtain ⟨armed, left, leftR, hu⟩ := h1
    obtain ⟨⟨m, E, clock, hs⟩, ⟨V, hr0⟩, heq, l1, l2, hlen⟩ := hu
    refine ⟨S, R, Ob, kp, n, none, hc, fun w g => (fs_off (hs.fs.grew g) kp' hkp).mono ?_⟩
    rintro e w1 ⟨rfl, hF1, c1⟩
    refine ⟨rfl, c1, fun w2 g2 => ?_⟩
    have hrw : RSt R w2 sb wb Ob armed leftR kp n V := ((hr0.grew g).chg c1 hc.bS fun k e1 e2 => hc.ap k e2 e1).grew g2
    refine (rOff_any hrw.rf hrw.vok (by rw [hrw.len]; omega) kp' hkp).mono ?_
    rintro e w' ⟨rfl, R', h3, h4, h5, h6, _⟩
    obtain ⟨hC, aa⟩ := (hc.grew g).step (fun k (e : S k) => ⟨.inl e, Nat.lt_of_lt_of_le (hc.Sl k e) (Nat.le_trans g.size c1.size)⟩) c1 g2 (fun k e => ⟨h5 k e, h3.lt k e⟩) h6 hc.kl hc.nq hc.gen hc.ok hc.nd (fun _ e => e) fun k e => hb k (Nat.le_trans g.size e)
    have hp : (V.map (cutV kp')).Perm (Ob.map OEnt.view) := by
      have := hr0.pe.map (cutV kp')
      rwa [cutV_map] at this
    refine ⟨rfl, h6, R', hC, ⟨⟨m, E.map (cutE kp'), [], clock, left, ?_, hs.cut kp', rfl, l1⟩, ⟨V.map (cutV kp'), leftR, h3, ⟨sortV_map hr0.so kp', vok_cut hrw.vok kp', [], rfl, by simpa using hp⟩, l2⟩, fun y e => (by cases e), by simpa using hlen⟩⟩
    rw [List.append_nil]
    exact (hF1.grew g2).chg h6 aa
theorem both_on (hc : Com B S R w0 d s wb sb Ob kp n q) (hb : ∀ k, w0.heap.size ≤ k → B k) (hd : DnS S R w0 d wb Ob kp n false t) (g : Grew w0 w) :
    Calls Tryz.prog 10 #[.pointer (some ⟨d, 0, none⟩)] w fun e w1 => e = .returned (.tuple #[]) ∧ Chg S w w1 ∧
      ∀ w2, Grew w1 w2 → Calls Tryz.prog 11 #[.pointer (some ⟨wb, 0, none⟩)] w2 fun e w' => e = .returned (.tuple #[]) ∧ Chg R w2 w' ∧ ∃ R', Com B S R' w' d s wb sb Ob kp n q ∧ DnS S R' w' d wb Ob kp n true t := by
  obtain ⟨⟨m, E1, F, clock, left, hf, hv, hF, hl⟩, ⟨V, lr, hr, hV, hlr⟩, hk, hlen⟩ := hd
  refine (fs_on (hf.grew g)).mono ?_
  rintro e w1 ⟨rfl, hF1, c1⟩
  refine ⟨rfl, c1, fun w2 g2 => ?_⟩
  have hrw : RFD R w2 wb V true false lr kp n := ((hr.grew g).chg c1 fun k e1 e2 => hc.ap k e2 e1).grew g2
  refine (rOn_any hrw).mono ?_
  rintro e w' ⟨rfl, R', h3, h4, h5, h6, _⟩
  obtain ⟨hC, aa⟩ := (hc.grew g).step (fun k (e : S k) => ⟨.inl e, Nat.lt_of_lt_of_le (hc.Sl k e) (Nat.le_trans g.size c1.size)⟩) c1 g2 (fun k e => ⟨h5 k e, h3.lt k e⟩) h6 hc.kl hc.nq hc.gen hc.ok hc.nd (fun _ e => e) fun k e => hb k (Nat.le_trans g.size e)
  exact ⟨rfl, h6, R', hC, ⟨m, E1, F, clock, left, (hF1.grew g2).chg h6 aa, hv, hF, hl⟩, ⟨V, lr, h3, hV, hlr⟩, hk, hlen⟩

/-- the program's opening -/
theorem p_open (hc : Com B S R w0 d s wb sb Ob kp n q) (hd : DnS S R w0 d wb Ob kp n true t) (hq : q ≤ 100000000000000000) (g : Grew w0 w) :
    Calls Tryz.prog 5 #[.pointer (some ⟨d, 0, none⟩)] w fun e w1 => ∃ s', e = .returned (.tuple #[.pointer (some ⟨s', 0, none⟩), .int .i64 0]) ∧ Blk w1 s' 51 #[.pointer (some ⟨d, 0, none⟩)] ∧ w.heap.size ≤ s' ∧ (∃ m E clock left', Rng left' ∧ FS S w1 d m E clock true false left' kp (n + t.toList.length) ∧ E.map FEnt.view = Ob.map OEnt.view) ∧ Chg S w w1 := by
  have hnq := hc.nq
  obtain ⟨⟨m, E1, F, clock, left, hf, hv, hF, hl⟩, _, hk, hlen⟩ := hd
  have h1 := hf.grew g
  have hel := congrArg List.length hv
  rw [List.length_map, List.length_map] at hel
  cases t with
  | none =>
    have : F = [] := by simpa using hF
    subst this
    rw [List.append_nil] at h1
    refine (open_clean h1 (by simp at hlen; omega) (begun_o hv)).mono ?_
    rintro e w' ⟨s', rfl, h7, h8, h9⟩
    exact ⟨s', rfl, h7, h8, ⟨m, E1, clock, left, hl, h1.grew h9, hv⟩, Chg.of_grew h9⟩
  | some x =>
    obtain ⟨f, rfl⟩ : ∃ f, F = [f] := by
      have := congrArg List.length hF
      rw [List.length_map] at this
      match F, this with
      | [f], _ => exact ⟨f, rfl⟩
    have hf : f.nm = tN ++ x := by simpa using hF
    have hb : begun (E1 ++ [f]) tN = [tN ++ x] := by
      rw [begun_append, begun_o hv, List.nil_append]
      unfold begun
      have : Lib.hasPrefix (lst f.nm) (lst tN) = true := by
        rw [hf, lst_append]
        exact List.isPrefixOf_iff_prefix.2 (List.prefix_append _ _)
      rw [List.filter_cons, if_pos this]
      simp [hf]
    simp at hlen
    refine (open_one h1 ⟨by simp, hl, by omega⟩ (by simp; omega) hb (i := E1.length) (f := f) (by simp) hf (hk x rfl)).mono ?_
    rintro e w' ⟨s', rfl, h7, h8, h9, h10⟩
    rw [show (E1 ++ [f]).eraseIdx E1.length = E1 by rw [List.eraseIdx_append_of_length_le (Nat.le_refl _), Nat.sub_self]; simp] at h9
    exact ⟨s', rfl, h7, h8, ⟨m, E1, clock, dcl left, dcl_rng hl, h9, hv⟩, h10⟩
theorem r_open {wa : World} {V : List Vw} {lr : Int} (hr : RFD R wa wb V false false lr kp n) (hV : DownV V Ob t) (hlr : Rng lr) (hk : ∀ x, t = some x → keyB x = true) (hlen : Ob.length + t.toList.length ≤ 1048576) (hn : n ≤ 100000000000000000) (hkl : kp ≤ 9223372036854775807) (hok : ∀ o ∈ Ob, o.Ok) (hnd : (Ob.map OEnt.key).Nodup) :
    Calls Tryz.prog 6 #[.pointer (some ⟨wb, 0, none⟩)] wa (OpenR R wa wb Ob kp (n + t.toList.length)) := by
  cases t with
  | none => exact rOpen_none hr hlr hV (by simpa using hlen) hok hnd
  | some x => exact rOpen_one hr hlr (by omega) hkl (hk x rfl) hV (by simp at hlen; omega) hok hnd

/-- both opened anew -/
theorem both_open (hc : Com B S R w0 d s wb sb Ob kp n q) (hb : ∀ k, w0.heap.size ≤ k → B k) (hd : DnS S R w0 d wb Ob kp n true t) (hq : q ≤ 100000000000000000) (g : Grew w0 w) :
    Calls Tryz.prog 5 #[.pointer (some ⟨d, 0, none⟩)] w fun e w1 => ∃ s', e = .returned (.tuple #[.pointer (some ⟨s', 0, none⟩), .int .i64 0]) ∧ Chg S w w1 ∧
      ∀ w2, Grew w1 w2 → Calls Tryz.prog 6 #[.pointer (some ⟨wb, 0, none⟩)] w2 fun e w' => ∃ sb', e = .returned (.tuple #[.pointer (some ⟨sb', 0, none⟩), .int .i64 0]) ∧ Chg R w2 w' ∧ Play B w' d s' wb sb' (q + 1) true := by
  have hnq := hc.nq
  refine (p_open hc hd hq g).mono ?_
  rintro e w1 ⟨s', rfl, h7, h8, ⟨m, E, clock, left', hl', hF, hv⟩, c1⟩
  refine ⟨s', rfl, c1, fun w2 g2 => ?_⟩
  obtain ⟨_, ⟨V, lr, hr, hV, hlr⟩, hk, hlen⟩ := hd
  have hrw : RFD R w2 wb V false false lr kp n := ((hr.grew g).chg c1 fun k e1 e2 => hc.ap k e2 e1).grew g2
  refine (r_open hrw hV hlr hk hlen (by omega) hc.kl hc.ok hc.nd).mono ?_
  rintro e w' ⟨sb', R', V', l2, rfl, hst, hl2, hsb, h4, h5, h6⟩
  have tl : t.toList.length ≤ 1 := by cases t <;> simp
  have hS1 : ∀ k, S k → k < w1.heap.size := fun k e => Nat.lt_of_lt_of_le (hc.Sl k e) (Nat.le_trans g.size c1.size)
  obtain ⟨hC, aa⟩ := (hc.grew g).step (fun k (e : S k) => ⟨.inl e, hS1 k e⟩) c1 g2 (fun k e => ⟨h5 k e, hst.rf.lt k e⟩) h6 hc.kl (show n + t.toList.length ≤ q + 1 by omega) (fun o ho => by have := hc.gen o ho; omega) hc.ok hc.nd (fun _ e => e) fun k e => hb k (Nat.le_trans g.size e)
  have hs1 := h7.lt
  have z1 := g2.size
  have z2 := g.size
  have z3 := c1.size
  have sS : ¬ S s' := fun e => by have := hc.Sl _ e; omega
  have sR : ¬ R s' := fun e => by have := hc.Rl _ e; omega
  have hsw : Blk w' s' 51 #[.pointer (some ⟨d, 0, none⟩)] := (h7.grew g2).chg h6 sR
  refine ⟨sb', rfl, h6, S, R', Ob, kp, n + t.toList.length, ⟨hC.Sb, hC.Rb, hC.Sl, hC.Rl, hC.ap, sS, fun e => ?_, fun e => ?_, hst.sn, hsw, hst.st, hC.kl, hC.nq, hC.gen, hC.ok, hC.nd⟩, ?_⟩
  · rcases h5 s' e with e | e
    · exact sR e
    · omega
  · have := hc.Sl _ e
    omega
  · rw [if_pos rfl]
    exact ⟨false, left', l2, ⟨m, E, clock, ⟨hsw, sS, (hF.grew g2).chg h6 aa, hv, hc.ok⟩⟩, ⟨V', hst⟩, fun e => (by cases e), hl', hl2, by omega⟩
end
end Go.Proofs.YtepncgeaehjhiaaGreat
