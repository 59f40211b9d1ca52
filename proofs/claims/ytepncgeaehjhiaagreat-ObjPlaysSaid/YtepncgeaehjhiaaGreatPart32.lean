/-
  Several texts in one:
  Put. Conditions: the power stays; counts that have not come to their ends.
  PutIf, Get, Slice, Delete of a store; what they answer. Conditions: the power stays; counts that have not come to their ends.
-/
import Derived.Test.YtepncgeaehjhiaaGreatPart31

namespace Go.Proofs.YtepncgeaehjhiaaGreat
open Go.RowKit

def setO : List OEnt → OEnt → List OEnt
  | [], o => [o]
  | p :: r, o => if p.key = o.key then o :: r else p :: setO r o
def lookO (Ob : List OEnt) (x : ByteArray) : Option OEnt := Ob.find? fun o => decide (o.key = x)
def genO (Ob : List OEnt) (x : ByteArray) : Nat := match lookO Ob x with | some o => o.gen | none => 0
theorem setO_none : ∀ {Ob : List OEnt} {o : OEnt}, (∀ p ∈ Ob, p.key ≠ o.key) → setO Ob o = Ob ++ [o]
  | [], o, _ => rfl
  | p :: r, o, h => by
    rw [setO, if_neg (h p (by simp)), setO_none fun q hq => h q (by simp [hq])]
    rfl
theorem setO_some : ∀ {Ob : List OEnt} {o p : OEnt} {i : Nat}, (Ob.map OEnt.key).Nodup → Ob[i]? = some p → p.key = o.key → setO Ob o = Ob.set i o
  | [], o, p, i, _, h, _ => by simp at h
  | q :: r, o, p, 0, _, h, hk => by
    simp at h
    subst h
    rw [setO, if_pos hk]
    rfl
  | q :: r, o, p, i + 1, hn, h, hk => by
    simp at h
    simp only [List.map_cons, List.nodup_cons] at hn
    have hne : q.key ≠ o.key := fun e => hn.1 (by rw [e, ← hk]; exact List.mem_map_of_mem (List.mem_of_getElem? h))
    rw [setO, if_neg hne, setO_some hn.2 h hk]
    rfl
theorem setO_mem : ∀ {Ob : List OEnt} {o p : OEnt}, p ∈ setO Ob o → p = o ∨ p ∈ Ob
  | [], o, p, h => by simp [setO] at h; exact .inl h
  | q :: r, o, p, h => by
    unfold setO at h
    split at h
    · rcases List.mem_cons.1 h with h | h
      · exact .inl h
      · exact .inr (by simp [h])
    · rcases List.mem_cons.1 h with h | h
      · exact .inr (by simp [h])
      · rcases setO_mem h with h | h
        · exact .inl h
        · exact .inr (by simp [h])
theorem look_here {Ob : List OEnt} {x : ByteArray} {o : OEnt} (h : lookO Ob x = some o) : o.key = x ∧ ∃ i : Nat, Ob[i]? = some o := by
  unfold lookO at h
  exact ⟨by simpa using List.find?_some h, List.getElem?_of_mem (List.mem_of_find?_eq_some h)⟩
theorem look_not {Ob : List OEnt} {x : ByteArray} (h : lookO Ob x = none) : ∀ o ∈ Ob, o.key ≠ x := by
  unfold lookO at h
  intro o ho
  simpa using (List.find?_eq_none.1 h) o ho

theorem two_rows (w : World) (c1 c2 : Array Value) (t1 t2 : TypeId) : ∃ W, W = (w.alloc (.cells c1 t1)).alloc (.cells c2 t2) ∧ Grew w W ∧ Blk W w.heap.size t1 c1 ∧ Blk W (w.heap.size + 1) t2 c2 ∧ W.heap.size = w.heap.size + 2 := by
  have h1 := Blk.new w t1 c1
  have h2 := Blk.new (w.alloc (.cells c1 t1)) t2 c2
  have e1 : (w.alloc (.cells c1 t1)).heap.size = w.heap.size + 1 := by simp
  rw [e1] at h2
  exact ⟨_, rfl, ((Chg.refl _ w).alloc _).alloc _, h1.alloc _, h2, by simp⟩

section
variable {S : Nat → Prop} {w w' : World} {s d m : Nat} {Ob : List OEnt} {E : List FEnt} {clock : Nat} {armed : Bool} {left kp : Int} {n : Nat}
theorem FS.tight {up : Bool} (h : FS S w d m E clock up armed left kp n) : FS (fun k => S k ∧ k < w.heap.size) w d m E clock up armed left kp n :=
  ⟨⟨h.dsk.hd, h.dsk.hm, ⟨h.dsk.od, h.dsk.hd.lt⟩, ⟨h.dsk.om, h.dsk.hm.lt⟩⟩, fun e he => ⟨⟨(h.ok e he).fil.hg, (h.ok e he).fil.hA, ⟨(h.ok e he).fil.og, (h.ok e he).fil.hg.lt⟩, fun ad ha => ⟨(h.ok e he).fil.oA ad ha, (Own.blk_lt (h.ok e he).fil.hA ad ha).2⟩⟩, (h.ok e he).sy, (h.ok e he).len, (h.ok e he).born⟩, h.ap⟩
theorem Stor.tight (h : Stor S w s d m Ob E clock armed left kp n) : Stor (fun k => S k ∧ k < w.heap.size) w s d m Ob E clock armed left kp n := ⟨h.st, fun e => h.sn e.1, h.fs.tight, h.vw, h.ok⟩
theorem Stor.nd (h : Stor S w s d m Ob E clock armed left kp n) : (Ob.map OEnt.key).Nodup := by
  have h1 : (E.map FEnt.nm) = Ob.map fun o => oN ++ o.key := by
    have := congrArg (List.map Prod.fst) h.vw
    rw [List.map_map, List.map_map] at this
    exact this
  have h2 : (E.map FEnt.nm).Nodup := List.Pairwise.map _ (fun a b h => h.1) h.fs.ap
  rw [h1] at h2
  have h3 : (Ob.map fun o => oN ++ o.key) = (Ob.map OEnt.key).map fun k => oN ++ k := by rw [List.map_map]; rfl
  rw [h3] at h2
  exact List.Pairwise.of_map _ (fun a b hne e => hne (by rw [e])) h2

/-- what Put leaves -/
def PutTo (S : Nat → Prop) (w : World) (s d m : Nat) (Ob : List OEnt) (armed : Bool) (left kp : Int) (n : Nat) (w' : World) : Prop :=
  (∃ E clock, Stor (Up S w) w' s d m Ob E clock armed left kp n) ∧ Chg S w w'

theorem put_end {left0 : Int} {n0 : Nat} (h : Stor S w s d m Ob E clock armed left0 kp n0) (x : ByteArray) (hx : keyB x = true) (data : List UInt8) (g : Nat) {T : Nat → Prop} {w1 : World} (hc : Cnt armed left n)
    (f : FEnt) (hfn : f.nm = tN ++ x) (hfl : f.l = hdr g ++ data) (hfs : f.sy = f.l.length) {clock1 : Nat} (hF : FS T w1 d m (E ++ [f]) clock1 true armed left kp n) :
    Calls Tryz.prog 77 #[.pointer (some ⟨d, 0, none⟩), .string (tN ++ x), .string (oN ++ x)] w1 fun e w' => e = .returned (.int .i64 0) ∧ (∃ E' clock', FS T w' d m E' clock' true armed (dcl left) kp (n + 1) ∧ E'.map FEnt.view = (setO Ob ⟨x, data, g⟩).map OEnt.view) ∧ Chg T w1 w' := by
  have hi : (E ++ [f])[E.length]? = some f := by simp
  have he : (E ++ [f]).eraseIdx E.length = E := by
    rw [List.eraseIdx_append_of_length_le (Nat.le_refl _), Nat.sub_self]
    simp
  have hv : ({ f with nm := oN ++ x, born := clock1 } : FEnt).view = OEnt.view ⟨x, data, g⟩ := by simp [FEnt.view, OEnt.view, hfl, hfs]
  cases hl : lookO Ob x with
  | none =>
    have hno := look_not hl
    have := fs_rename_new hF hc hi (hfn ▸ nm_t hx) (oN ++ x) (nm_o hx) (by rw [he]; exact h.no hno)
    rw [hfn, he] at this
    refine this.mono ?_
    rintro e w' ⟨rfl, h1, h2⟩
    refine ⟨rfl, ⟨_, _, h1, ?_⟩, h2⟩
    rw [setO_none (o := ⟨x, data, g⟩) hno, List.map_append, List.map_append, h.vw]
    congr 1
    simpa using hv
  | some o =>
    obtain ⟨hok, i, hoi⟩ := look_here hl
    obtain ⟨t, ht, htn, htl, hts⟩ := h.ent hoi
    have := fs_rename_old hF hc hi (hfn ▸ nm_t hx) (j := i) (t := t) (by rw [he]; exact ht) (by rw [htn, hok]; exact nm_o hx)
    rw [hfn, he, htn, hok] at this
    refine this.mono ?_
    rintro e w' ⟨rfl, h1, h2⟩
    refine ⟨rfl, ⟨_, _, h1, ?_⟩, h2⟩
    rw [setO_some (o := ⟨x, data, g⟩) h.nd hoi hok, List.map_set, List.map_set, h.vw]
    simp [FEnt.view, OEnt.view, hfl, hfs]

set_option maxRecDepth 100000 in
set_option maxHeartbeats 4000000 in
theorem put_ok (h : Stor S w s d m Ob E clock armed left kp n) (hc : ∀ j : Nat, j ≤ 2 → Cnt armed (dclN j left) (n + j)) (hE : Ob.length < 1048576) (x : ByteArray) (hx : keyB x = true) (hg : genO Ob x + 1 < 18446744073709551616) (A : Option Addr) (k c : Nat) (data : List UInt8) (hr : RB w A k data) (hk : k ≤ 1048576) :
    Calls Tryz.prog 20 #[.pointer (some ⟨s, 0, none⟩), .string x, .slice A k c] w fun e w' => e = .returned (.tuple #[.int .u64 ((genO Ob x + 1 : Nat) : Int), .int .i64 0]) ∧ PutTo S w s d m (setO Ob ⟨x, data, genO Ob x + 1⟩) armed (dcl (dcl (dcl left))) kp (n + 3) w' := by
  have hmf : ∀ (fn : Fn) (first cp : Array Value) (w : World), (Instr.makeFunc fn first cp).run Tryz.prog w = .ok (.func fn first cp) w := fun _ _ _ _ => rfl
  have hM : ∀ w, Calls Tryz.prog 50 #[.string x, .slice A k c] w fun e w' => e = .returned (.int .i64 0) ∧ w = w' := fun w => by
    have := may_any x A k c w
    unfold mayC at this
    rwa [hx, if_neg (by simp), if_neg (by omega)] at this
  have hR : ∃ er : Nat, (er = 0 ∨ er = 111) ∧ Calls Tryz.prog 51 #[.pointer (some ⟨s, 0, none⟩), .string x] w fun e w' => (∃ v, e = .returned (.tuple #[v, .int .u64 (genO Ob x : Int), .int .i64 (er : Int)])) ∧ Grew w w' := by
    unfold genO
    cases hl : lookO Ob x with
    | none => exact ⟨111, .inr rfl, (oread_none h x hx (look_not hl)).mono fun e w' ⟨h1, h2⟩ => ⟨⟨_, h1⟩, h2 ▸ Chg.refl _ _⟩⟩
    | some o =>
      obtain ⟨hok, i, hoi⟩ := look_here hl
      subst hok
      exact ⟨0, .inl rfl, (oread_ok h hoi).mono fun e w' ⟨A, c, h1, _, _, _, h2⟩ => ⟨⟨_, h1⟩, h2⟩⟩
  obtain ⟨er, her, hR⟩ := hR
  generalize hgo : genO Ob x = g at *
  have hsz := keyB_size hx
  go_enter Tryz.func20, Tryz.ntmps20
  go_wp2_with fail
  refine (hM _).mono ?_
  rintro e w1 ⟨rfl, rfl⟩
  go_wp2_with fail
  refine hR.mono ?_
  rintro e w1 ⟨⟨v, rfl⟩, hG1⟩
  clear hR hM
  obtain ⟨T, hT⟩ : ∃ T : Nat → Prop, T = fun k => S k ∧ k < w.heap.size := ⟨_, rfl⟩
  have h1 := h.tight
  rw [← hT] at h1
  have hTS : ∀ k, T k → S k := fun k e => by rw [hT] at e; exact e.1
  have hTl : ∀ k, T k → k < w.heap.size := fun k e => by rw [hT] at e; exact e.2
  clear hT
  have hs1 := hG1.size
  obtain ⟨W, hW, hgW, bp, bf, hzW⟩ := two_rows w1 #[.pointer (some ⟨s, 0, none⟩), .string x, .slice A k c, .int .u64 ((g : Int) + 1)]
    #[.func (.func 52) #[.pointer (some ⟨w1.heap.size, 0, none⟩)] #[], .func (.func 53) #[.pointer (some ⟨w1.heap.size, 0, none⟩)] #[], .func (.func 54) #[.pointer (some ⟨w1.heap.size, 0, none⟩)] #[], .func (.func 55) #[.pointer (some ⟨w1.heap.size, 0, none⟩)] #[]] 81 72
  have hGW := hG1.trans hgW
  have hh := h1.grew hGW
  have hrW := hr.grew hGW
  have f0 := bf.cell 0
  have hst := h.st.lt
  have hsn := h.sn
  have hnd := h1.ok
  have hpT : ¬ T w1.heap.size := fun e => by have := hTl _ e; omega
  have hsT : ¬ T s := fun e => hsn (hTS _ e)
  have hbT : ¬ T (w1.heap.size + 1) := fun e => by have := hTl _ e; omega
  have hClear := clear_none hh.fs.dsk w1.heap.size s x (.slice A k c) (.int .u64 ((g : Int) + 1)) bp hh.st (nm_t hx) (by omega) (find_no E 0 (hh.noT x))
  have hh := Lib.hid hh
  have hLay : Hid (∀ W2, Grew W W2 → Calls Tryz.prog 53 #[.pointer (some ⟨w1.heap.size, 0, none⟩)] W2 fun e w' => e = .returned (.int .i64 0) ∧ (∃ f : FEnt, f.nm = tN ++ x ∧ f.l = hdr (g + 1) ++ data ∧ FS (Up T W) w' d m (E ++ [f]) (clock + 1) true armed (dcl left) kp (n + 1)) ∧ Chg T W2 w') := by
    intro W2 hg2
    have hz2 := hg2.size
    refine lay_step w1.heap.size s x A k c data (g + 1) (bp.grew hg2) (hh.out.st.grew hg2) (by omega) (hrW.grew hg2) hk hg hpT hsT fun B cap w3 hg3 hr3 hb3 => ?_
    have hz3 := hg3.size
    have hdl : d < w.heap.size := hTl _ hh.out.fs.dsk.od
    have hhl := hdr_length hg
    refine (fs_append_new ((hh.out.fs.grew hg2).grew hg3) (hc 0 (by omega)) (tN ++ x) (nm_t hx) (hh.out.noT x) (by rw [hh.out.len]; exact hE) B _ cap _ hr3 (by omega) fun ad e _ => by have := hb3 ad e; omega).mono ?_
    rintro e w4 ⟨rfl, f, e1, e2, _, hF, hc4⟩
    exact ⟨rfl, ⟨f, e1, e2, hF.mono fun j hj => hj.elim .inl fun hj => .inr (by omega)⟩, hc4⟩
  have hUs : ¬ Up T W s := Up.old hh.out.st.lt hsT
  have hUp : ¬ Up T W w1.heap.size := Up.old bp.lt hpT
  have hUb : ¬ Up T W (w1.heap.size + 1) := Up.old bf.lt hbT
  have hSync : Hid (∀ W4 (f : FEnt), Blk W4 w1.heap.size 81 #[.pointer (some ⟨s, 0, none⟩), .string x, .slice A k c, .int .u64 ((g : Int) + 1)] → Blk W4 s 51 #[.pointer (some ⟨d, 0, none⟩)] → f.nm = tN ++ x → FS (Up T W) W4 d m (E ++ [f]) (clock + 1) true armed (dcl left) kp (n + 1) →
      Calls Tryz.prog 54 #[.pointer (some ⟨w1.heap.size, 0, none⟩)] W4 fun e w' => e = .returned (.int .i64 0) ∧ FS (Up T W) w' d m (E ++ [{ f with sy := f.l.length }]) (clock + 1) true armed (dcl (dcl left)) kp (n + 1 + 1) ∧ Chg (Up T W) W4 w') := by
    intro W4 f hb hs hn hF
    have hi : (E ++ [f])[E.length]? = some f := by simp
    have := fs_sync (hF.grew (Chg.refl _ W4).drew) (hc 1 (by omega)) hi (hn ▸ nm_t hx)
    rw [List.set_append_right _ _ (Nat.le_refl _), Nat.sub_self] at this
    simp only [List.set_cons_zero] at this
    exact sync_step w1.heap.size s x (.slice A k c) (.int .u64 ((g : Int) + 1)) hb hs (by omega) (R := fun _ w' => FS (Up T W) w' d m (E ++ [{ f with sy := f.l.length }]) (clock + 1) true armed (dcl (dcl left)) kp (n + 1 + 1)) hUp hUs (by rw [show ((⟨#[116, 47]⟩ : ByteArray) ++ x) = f.nm from hn.symm]; exact this)
  have hRen : Hid (∀ W5 (f : FEnt), Blk W5 w1.heap.size 81 #[.pointer (some ⟨s, 0, none⟩), .string x, .slice A k c, .int .u64 ((g : Int) + 1)] → Blk W5 s 51 #[.pointer (some ⟨d, 0, none⟩)] → f.nm = tN ++ x → f.l = hdr (g + 1) ++ data → f.sy = f.l.length → FS (Up T W) W5 d m (E ++ [f]) (clock + 1) true armed (dcl (dcl left)) kp (n + 1 + 1) →
      Calls Tryz.prog 55 #[.pointer (some ⟨w1.heap.size, 0, none⟩)] W5 fun e w' => e = .returned (.int .i64 0) ∧ (∃ E' clock', FS (Up T W) w' d m E' clock' true armed (dcl (dcl (dcl left))) kp (n + 1 + 1 + 1) ∧ E'.map FEnt.view = (setO Ob ⟨x, data, g + 1⟩).map OEnt.view) ∧ Chg (Up T W) W5 w') := by
    intro W5 f hb hs hn hl hy hF
    have hc2 := hc 2 (by omega)
    have e1 : dcl (dcl left) = dclN 2 left := rfl
    have := put_end h1 x hx data (g + 1) (w1 := W5.drew) (T := Up T W) (by rw [e1]; exact hc2) f hn hl hy (hF.grew (Chg.refl _ W5).drew)
    exact rename_step w1.heap.size s x (.slice A k c) (.int .u64 ((g : Int) + 1)) hb hs (by omega) (R := fun _ w' => ∃ E' clock', FS (Up T W) w' d m E' clock' true armed (dcl (dcl (dcl left))) kp (n + 1 + 1 + 1) ∧ E'.map FEnt.view = (setO Ob ⟨x, data, g + 1⟩).map OEnt.view) hUp hUs this
  have hOk : Hid (∀ o ∈ setO Ob ⟨x, data, g + 1⟩, o.Ok) := fun o ho => by
    have hr1 := hr.1
    rcases setO_mem ho with rfl | ho
    · exact ⟨hx, hg, by show data.length ≤ _; omega⟩
    · exact hnd o ho
  have hS0 := Lib.hid hh.out.st
  clear hh h1 h hnd hx
  have hSw : Hid (∀ k, Up T W k → Up S w k) := fun k e => e.elim (fun e => .inl (hTS k e)) fun e => .inr (by have := hGW.size; omega)
  rcases her with rfl | rfl
  all_goals
    go_wp2_with fail
    rw [← hW]
    clear hW
    refine wp_loop_rounds 5 ?_
    rw [rounds_succ]
    go_wp2_with fail
    refine hClear.mono ?_
    rintro e W2 ⟨rfl, hG2⟩
    have f1 := (bf.grew hG2).cell 1
    clear f0
    go_wp2_with fail
    rw [rounds_succ]
    go_wp2_with fail
    refine (hLay.out W2 hG2).mono ?_
    rintro e W4 ⟨rfl, ⟨f, hfn, hfl, hF4⟩, hc4⟩
    have hF4 := Lib.hid hF4
    have b4 := (bf.grew hG2).chg hc4 hbT
    have p4 := (bp.grew hG2).chg hc4 hpT
    have s4 := (hS0.out.grew hG2).chg hc4 hsT
    have f2 := b4.cell 2
    clear f1
    go_wp2_with fail
    rw [rounds_succ]
    go_wp2_with fail
    refine (hSync.out W4 f p4 s4 hfn hF4.out).mono ?_
    rintro e W5 ⟨rfl, hF5, hc5⟩
    have hF5 := Lib.hid hF5
    have b5 := b4.chg hc5 hUb
    have p5 := p4.chg hc5 hUp
    have s5 := s4.chg hc5 hUs
    have f3 := b5.cell 3
    clear f2
    go_wp2_with fail
    rw [rounds_succ]
    go_wp2_with fail
    refine (hRen.out W5 { f with sy := f.l.length } p5 s5 hfn hfl rfl hF5.out).mono ?_
    rintro e W6 ⟨rfl, ⟨E', clock', hF6, hvw⟩, hc6⟩
    have hF6 := Lib.hid hF6
    have p6 := p5.chg hc6 hUp
    have s6 := s5.chg hc6 hUs
    have g3 := p6.cell 3
    clear f3
    go_wp2_with fail
    rw [rounds_succ]
    go_wp2
    go_ret2
    refine ⟨by simp, ⟨E', clock', s6, Up.old hst hsn, ?_, hvw, hOk.out⟩, ?_⟩
    · skip
      exact hF6.out.mono hSw.out
    · have hGWs := hGW.size
      have hg2s := hG2.size
      exact (Chg.of_grew (hGW.trans hG2)).step ((hc4.mono (S' := Up T W) fun _ _ e => .inl e).trans (hc5.trans hc6)) fun k hk e => e.elim (hTS k) fun e => by omega
end
end Go.Proofs.YtepncgeaehjhiaaGreat

namespace Go.Proofs.YtepncgeaehjhiaaGreat
open Go.RowKit

section
variable {S : Nat → Prop} {w w' : World} {s d m : Nat} {Ob : List OEnt} {E : List FEnt} {clock : Nat} {armed : Bool} {left kp : Int} {n : Nat}

/-- what a read gives, whether there is such an object or not -/
def ReadTo (w : World) (r : Option OEnt) (e : Ending) (w' : World) : Prop :=
  match r with
  | some o => GotO w o e w'
  | none => e = .returned (.tuple #[.slice none 0 0, .int .u64 0, .int .i64 111]) ∧ w = w'
theorem oread_any (h : Stor S w s d m Ob E clock armed left kp n) (x : ByteArray) (hx : keyB x = true) :
    Calls Tryz.prog 51 #[.pointer (some ⟨s, 0, none⟩), .string x] w (ReadTo w (lookO Ob x)) := by
  unfold ReadTo
  cases hl : lookO Ob x with
  | none => exact oread_none h x hx (look_not hl)
  | some o =>
    obtain ⟨hok, i, hoi⟩ := look_here hl
    subst hok
    exact oread_ok h hoi

set_option maxHeartbeats 2000000 in
theorem get_any (h : Stor S w s d m Ob E clock armed left kp n) (x : ByteArray) (hx : keyB x = true) :
    Calls Tryz.prog 33 #[.pointer (some ⟨s, 0, none⟩), .string x] w (ReadTo w (lookO Ob x)) := by
  have hR := oread_any h x hx
  have hN : ∀ w, Calls Tryz.prog 64 #[.string x] w fun e w' => e = .returned (.bool true) ∧ w = w' := fun w => by
    have := named_any x w
    rwa [hx] at this
  clear h hx
  unfold ReadTo at hR ⊢
  cases hl : lookO Ob x with
  | none =>
    rw [hl] at hR
    simp only at hR ⊢
    go_enter Tryz.func33, Tryz.ntmps33
    go_wp2_with fail
    refine (hN _).mono ?_
    rintro e w1 ⟨rfl, rfl⟩
    go_wp2_with fail
    refine hR.mono ?_
    rintro e w1 ⟨rfl, rfl⟩
    go_wp2
    go_ret3
    exact ⟨by simp, rfl⟩
  | some o =>
    rw [hl] at hR
    simp only at hR ⊢
    go_enter Tryz.func33, Tryz.ntmps33
    go_wp2_with fail
    refine (hN _).mono ?_
    rintro e w1 ⟨rfl, rfl⟩
    go_wp2_with fail
    refine hR.mono ?_
    rintro e w1 ⟨A, c, rfl, hr, hcap, hbk, hG⟩
    have hr := Lib.hid hr
    have hcap := Lib.hid hcap
    go_wp2
    go_ret3
    exact ⟨A, c, by simp, hr.out, hcap.out, hbk, hG⟩
set_option maxHeartbeats 2000000 in
theorem get_no (x : ByteArray) (hx : keyB x = false) (v : Value) (w : World) :
    Calls Tryz.prog 33 #[v, .string x] w fun e w' => e = .returned (.tuple #[.slice none 0 0, .int .u64 0, .int .i64 110]) ∧ w = w' := by
  have hN : ∀ w, Calls Tryz.prog 64 #[.string x] w fun e w' => e = .returned (.bool false) ∧ w = w' := fun w => by
    have := named_any x w
    rwa [hx] at this
  go_enter Tryz.func33, Tryz.ntmps33
  go_wp2_with fail
  refine (hN _).mono ?_
  rintro e w1 ⟨rfl, rfl⟩
  go_wp2
  go_ret3
  exact ⟨by simp, rfl⟩

set_option maxHeartbeats 2000000 in
theorem put_no (x : ByteArray) (A : Option Addr) (k c : Nat) (hm : 0 < mayC x k) (v : Value) (w : World) :
    Calls Tryz.prog 20 #[v, .string x, .slice A k c] w fun e w' => e = .returned (.tuple #[.int .u64 0, .int .i64 (mayC x k : Int)]) ∧ w = w' := by
  have hM := may_any x A k c
  have h0 : ((mayC x k : Int) != 0) = true := by simp; omega
  generalize mayC x k = z at *
  go_enter Tryz.func20, Tryz.ntmps20
  go_wp2_with fail
  refine (hM _).mono ?_
  rintro e w1 ⟨rfl, rfl⟩
  go_wp2
  go_ret2
  exact ⟨by simp, rfl⟩

/-! ### PutIf -/
theorem may_ok {x : ByteArray} (hx : keyB x = true) (A : Option Addr) {k : Nat} (c : Nat) (hk : k ≤ 1048576) (w : World) : Calls Tryz.prog 50 #[.string x, .slice A k c] w fun e w' => e = .returned (.int .i64 0) ∧ w = w' := by
  have := may_any x A k c w
  unfold mayC at this
  rwa [hx, if_neg (by simp), if_neg (by omega)] at this
theorem gen_read (h : Stor S w s d m Ob E clock armed left kp n) (x : ByteArray) (hx : keyB x = true) :
    ∃ er : Nat, (er = 0 ∨ er = 111) ∧ Calls Tryz.prog 51 #[.pointer (some ⟨s, 0, none⟩), .string x] w fun e w' => (∃ v, e = .returned (.tuple #[v, .int .u64 (genO Ob x : Int), .int .i64 (er : Int)])) ∧ Grew w w' := by
  unfold genO
  cases hl : lookO Ob x with
  | none => exact ⟨111, .inr rfl, (oread_none h x hx (look_not hl)).mono fun e w' ⟨h1, h2⟩ => ⟨⟨_, h1⟩, h2 ▸ Chg.refl _ _⟩⟩
  | some o =>
    obtain ⟨hok, i, hoi⟩ := look_here hl
    subst hok
    exact ⟨0, .inl rfl, (oread_ok h hoi).mono fun e w' ⟨A, c, h1, _, _, _, h2⟩ => ⟨⟨_, h1⟩, h2⟩⟩
set_option maxHeartbeats 2000000 in
theorem putIf_no (h : Stor S w s d m Ob E clock armed left kp n) (x : ByteArray) (hx : keyB x = true) (A : Option Addr) (k c : Nat) (hk : k ≤ 1048576) (g : Nat) (hg : genO Ob x ≠ g) :
    Calls Tryz.prog 22 #[.pointer (some ⟨s, 0, none⟩), .string x, .slice A k c, .int .u64 (g : Int)] w fun e w' => e = .returned (.tuple #[.int .u64 (genO Ob x : Int), .int .i64 112]) ∧ Grew w w' := by
  have hM := may_ok hx A c hk
  obtain ⟨er, her, hR⟩ := gen_read h x hx
  have hne : ((genO Ob x : Int) != (g : Int)) = true := by simp; omega
  generalize genO Ob x = g0 at *
  clear h
  go_enter Tryz.func22, Tryz.ntmps22
  go_wp2_with fail
  refine (hM _).mono ?_
  rintro e w1 ⟨rfl, rfl⟩
  go_wp2_with fail
  refine hR.mono ?_
  rintro e w1 ⟨⟨v, rfl⟩, hG1⟩
  rcases her with rfl | rfl
  all_goals
    go_wp2
    go_ret2
    exact ⟨by simp, hG1⟩
set_option maxHeartbeats 2000000 in
theorem putIf_ok (h : Stor S w s d m Ob E clock armed left kp n) (hc : ∀ j : Nat, j ≤ 2 → Cnt armed (dclN j left) (n + j)) (hE : Ob.length < 1048576) (x : ByteArray) (hx : keyB x = true) (hg : genO Ob x + 1 < 18446744073709551616) (A : Option Addr) (k c : Nat) (data : List UInt8) (hr : RB w A k data) (hk : k ≤ 1048576) :
    Calls Tryz.prog 22 #[.pointer (some ⟨s, 0, none⟩), .string x, .slice A k c, .int .u64 (genO Ob x : Int)] w fun e w' => e = .returned (.tuple #[.int .u64 ((genO Ob x + 1 : Nat) : Int), .int .i64 0]) ∧ PutTo S w s d m (setO Ob ⟨x, data, genO Ob x + 1⟩) armed (dcl (dcl (dcl left))) kp (n + 3) w' := by
  have hM := may_ok hx A c hk
  obtain ⟨er, her, hR⟩ := gen_read h x hx
  have hP : Hid (∀ w1, Grew w w1 → Calls Tryz.prog 20 #[.pointer (some ⟨s, 0, none⟩), .string x, .slice A k c] w1 fun e w' => e = .returned (.tuple #[.int .u64 ((genO Ob x + 1 : Nat) : Int), .int .i64 0]) ∧ PutTo S w s d m (setO Ob ⟨x, data, genO Ob x + 1⟩) armed (dcl (dcl (dcl left))) kp (n + 3) w') := by
    intro w1 hg1
    refine (put_ok (h.tight.grew hg1) hc hE x hx hg A k c data (hr.grew hg1) hk).mono ?_
    rintro e w' ⟨rfl, ⟨E', clock', h1⟩, h2⟩
    have hz := hg1.size
    refine ⟨rfl, ⟨E', clock', h1.st, Up.old h.st.lt h.sn, h1.fs.mono ?_, h1.vw, h1.ok⟩, ?_⟩
    · intro j hj
      exact hj.elim (fun e => .inl e.1) fun e => .inr (by omega)
    · exact (Chg.of_grew hg1).step h2 fun j hj e => e.1
  generalize genO Ob x = g0 at *
  have he : ((g0 : Int) != (g0 : Int)) = false := by simp
  clear h
  go_enter Tryz.func22, Tryz.ntmps22
  go_wp2_with fail
  refine (hM _).mono ?_
  rintro e w1 ⟨rfl, rfl⟩
  go_wp2_with fail
  refine hR.mono ?_
  rintro e w1 ⟨⟨v, rfl⟩, hG1⟩
  rcases her with rfl | rfl
  all_goals
    go_wp2_with fail
    refine (hP.out _ hG1).mono ?_
    rintro e w2 ⟨rfl, hQ⟩
    have hQ := Lib.hid hQ
    go_wp2
    go_ret2
    exact ⟨by simp, hQ.out⟩
end
end Go.Proofs.YtepncgeaehjhiaaGreat
