/-
  Several texts in one:
  An object that is not there read; the step lay of a put; Put. Conditions: the power stays.
  Put. Conditions: the power stays; counts that have not come to their ends.
  PutIf, Get, Slice, Delete of a store; what they answer. Conditions: the power stays; counts that have not come to their ends.
  Slice and Delete of a store; Open of a disk without unfinished objects. Conditions: the power stays; counts that have not come to their ends.
  Lists of texts compared; the list of a store's keys. Conditions: the power stays.
  Put at whose writes the power goes. Conditions: counts that have not come to their ends.
-/
import Derived.Test.YtepncgeaehjhiaaPart8
import Derived.Lib.IndexBytes
import Derived.Test.YtepncgeaehjhiaaPart6

namespace Go.Proofs.Ytepncgeaehjhiaa
open Go.RowKit

set_option maxHeartbeats 2000000 in
theorem oread_none {S : Nat → Prop} {w : World} {s d m : Nat} {Ob : List OEnt} {E : List FEnt} {clock : Nat} {armed : Bool} {left kp : Int} {n : Nat} (h : Stor S w s d m Ob E clock armed left kp n) (x : ByteArray) (hx : keyB x = true) (hno : ∀ o ∈ Ob, o.key ≠ x) :
    Calls Try.prog 29 #[.pointer (some ⟨s, 0, none⟩), .string x] w fun e w' => e = .returned (.tuple #[.slice none 0 0, .int .u64 0, .int .i64 111]) ∧ w = w' := by
  have hR := fs_read_none h.fs (oN ++ x) (nm_o hx) (h.no hno)
  have s0 : w.cell? ⟨s, 0, none⟩ = some (.pointer (some ⟨d, 0, none⟩)) := h.st.cell 0
  have hsz := keyB_size hx
  unfold oN at hR
  clear hx h hno
  go_enter Try.func29, Try.ntmps29
  go_wp2_with fail
  refine hR.mono ?_
  rintro e w1 ⟨rfl, rfl⟩
  go_wp2
  go_ret3
  exact ⟨by simp, rfl⟩

set_option maxRecDepth 100000 in
set_option maxHeartbeats 2000000 in
theorem lay_step {er : Int} {w : World} {d : Nat} (p s : Nat) (x : ByteArray) (A : Option Addr) (k c : Nat) (data : List UInt8) (g : Nat) (hP : Blk w p 63 #[.pointer (some ⟨s, 0, none⟩), .string x, .slice A k c, .int .u64 (g : Int)]) (hS : Blk w s 56 #[.pointer (some ⟨d, 0, none⟩)]) (hxs : x.size ≤ 64)
    (hr : RB w A k data) (hk : k ≤ 1048576) (hg : g < 18446744073709551616) {R : World → Prop} {S : Nat → Prop} (hp : ¬ S p) (hs : ¬ S s)
    (hC : ∀ B cap w1, Grew w w1 → RB w1 B ((hdr g).length + k) (hdr g ++ data) → (∀ ad, B = some ad → w.heap.size ≤ ad.block) → Calls Try.prog 50 #[.pointer (some ⟨d, 0, none⟩), .string ((⟨#[116, 47]⟩ : ByteArray) ++ x), .slice B ((hdr g).length + k) cap] w1 fun e w' => e = .returned (.int .i64 er) ∧ R w' ∧ Chg S w1 w') :
    Calls Try.prog 32 #[.pointer (some ⟨p, 0, none⟩)] w fun e w' => e = .returned (.int .i64 er) ∧ R w' ∧ Chg S w w' := by
  have p0 : w.cell? ⟨p, 0, none⟩ = some (.pointer (some ⟨s, 0, none⟩)) := hP.cell 0
  have p1 : w.cell? ⟨p, 1, none⟩ = some (.string x) := hP.cell 1
  have p2 : w.cell? ⟨p, 2, none⟩ = some (.slice A k c) := hP.cell 2
  have p3 : w.cell? ⟨p, 3, none⟩ = some (.int .u64 (g : Int)) := hP.cell 3
  have s0 : w.cell? ⟨s, 0, none⟩ = some (.pointer (some ⟨d, 0, none⟩)) := hS.cell 0
  have hU := putUint_any none 0 0 [] g (g : Int) w ⟨rfl, Rd.nil _ _⟩ rfl (by omega) hg
  have hul := uv_len10 hg
  have hhl := hdr_length hg
  have hfl : (uv (uv g).length).length + 4 + (uv g).length = (hdr g).length := by unfold hdr; rw [frameB_length]
  have hF := fun B c w h => frame_any B (uv g).length c (uv g) w h (by omega)
  rw [hfl, show frameB (uv g) = hdr g from rfl] at hF
  simp only [Nat.zero_add, List.nil_append] at hU
  generalize hdr g = hd at *
  generalize uv g = ul at *
  obtain ⟨hn, hhn⟩ : ∃ hn, hd.length = hn := ⟨_, rfl⟩
  rw [hhn] at hF hC hhl
  generalize ul.length = un at *
  clear hfl
  go_enter Try.func32, Try.ntmps32
  go_wp2_with fail
  refine hU.mono ?_
  rintro e w1 ⟨B1, c1, rfl, hO1, hG1⟩
  go_wp2_with fail
  refine (hF B1 c1 w1 hO1.rb).mono ?_
  rintro e w2 ⟨B2, c2, rfl, hO2, hG2⟩
  have hG := hG1.trans hG2
  have hw1 := hG1.size
  have q0 := hG.cell p0 (fun e => e)
  have q1 := hG.cell p1 (fun e => e)
  have q2 := hG.cell p2 (fun e => e)
  have t0 := hG.cell s0 (fun e => e)
  have hr2 := hr.grew hG
  clear p0 p1 p2 p3 s0 hU hF hO1
  go_wp2_with fail
  refine wp_region_textS [(9, 2)] [p, s] (by kernel_rfl) (by kernel_rfl) (cellsIn_cons q0 (cellsIn_cons t0 (cellsIn_nil _))) ?_
  simp only [wpU, tagOf, chk, look, Nat.reduceBEq, if_true, if_false, Nat.reduceEqDiff, List.nil_append, List.cons_append]
  intro K hK
  go_wp2_with fail
  refine OnlyN.normal (hK _ _ (fun _ => ⟨_, _, _, rfl, rfl, by simp⟩) ?_)
  clear hK K
  intro K hK
  go_wp2_with fail
  refine OnlyN.normal (hK _ _ (fun _ => ⟨_, _, _, rfl, rfl, by simp⟩) ?_)
  clear hK K
  intro K hK
  go_wp2_with fail
  refine OnlyN.normal (hK _ _ (fun _ => ⟨_, _, _, rfl, rfl, by simp⟩) ?_)
  clear hK K
  intro K hK
  go_wp2_with fail
  refine OnlyN.normal (hK _ _ (fun _ => ⟨_, _, _, rfl, rfl, by simp⟩) ?_)
  clear hK K
  intro K hK
  go_wp2_with (at_builtin; refine wpList_appB rfl _ _ rfl w1.heap.size B2 hn c2 hd rfl (by exact hO2) (by have := hG2.size; simpa using this) A k c data rfl (by exact hr2) (by omega) ?_; intro B3 c3 w3 h3)
  have hc23 : Chg (fun j => ∃ ad, B2 = some ad ∧ j = ad.block) w2 w3 := Chg.step (S := fun j => ∃ ad, B2 = some ad ∧ j = ad.block) (Chg.refl _ w2).drew h3.chg fun _ _ e => e
  have hB2 : ∀ j, j < w.heap.size → ¬ ∃ ad, B2 = some ad ∧ j = ad.block := fun j hj ⟨ad, e, he⟩ => by
    have := (Own.blk_lt hO2 ad e).1
    omega
  have hpl := hP.lt
  have hsl := hS.lt
  have hpl2 : p < w2.heap.size := (hP.grew hG).lt
  have hsl2 : s < w2.heap.size := (hS.grew hG).lt
  have hG3 : Grew w w3 := hG1.trans (hG2.step (Chg.step (S := fun j => ∃ ad, B2 = some ad ∧ j = ad.block) (Chg.refl _ w2).drew h3.chg fun _ _ e => e) fun j hj ⟨ad, e, he⟩ => by
    have := (Own.blk_lt hO2 ad e).1
    omega)
  have ho3 := h3.ob
  have hbk : ∀ ad, B3 = some ad → w.heap.size ≤ ad.block := fun ad e => by
    have := (Own.blk_lt ho3 ad e).1
    omega
  have hP3 := hP.grew hG3
  have hS3 := hS.grew hG3
  refine OnlyN.normal (hK _ _ (sameIn_all hc23 (by
    intro k hk
    simp only [List.mem_cons, List.not_mem_nil, or_false] at hk
    rcases hk with rfl | rfl
    · exact ⟨hpl2, hB2 _ hpl⟩
    · exact ⟨hsl2, hB2 _ hsl⟩)) ?_)
  clear hK K
  intro K hK
  go_wp2_with fail
  refine (hC B3 c3 w3 hG3 ho3.rb hbk).mono ?_
  rintro e w4 ⟨rfl, hR4, hc4⟩
  have hc24 : Chg (fun j => S j ∨ ∃ ad, B2 = some ad ∧ j = ad.block) w2 w4 := (hc23.mono fun _ _ e => .inr e).trans (hc4.mono fun _ _ e => .inl e)
  go_wp2_with fail
  refine OnlyN.normal (hK _ _ (sameIn_all hc24 (by
    intro k hk
    simp only [List.mem_cons, List.not_mem_nil, or_false] at hk
    rcases hk with rfl | rfl
    · exact ⟨hpl2, fun e => e.elim hp (hB2 _ hpl)⟩
    · exact ⟨hsl2, fun e => e.elim hs (hB2 _ hsl)⟩)) ?_)
  clear hK K
  go_wp2_with fail
  refine OnlyN.normal ?_
  go_wp2
  go_ret
  exact ⟨by simp, hR4, (Chg.of_grew hG3).trans hc4⟩
end Go.Proofs.Ytepncgeaehjhiaa

namespace Go.Proofs.Ytepncgeaehjhiaa
open Go.RowKit

def setO : List OEnt → OEnt → List OEnt
  | [], o => [o]
  | p :: r, o => if p.key = o.key then o :: r else p :: setO r o
def lookO (Ob : List OEnt) (x : ByteArray) : Option OEnt := Ob.find? fun o => decide (o.key = x)
def genO (Ob : List OEnt) (x : ByteArray) : Nat := match lookO Ob x with | some o => o.gen | none => 0
theorem setO_none : ∀ {Ob : List OEnt} {o : OEnt}, (∀ p ∈ Ob, p.key ≠ o.key) → setO Ob o = Ob ++ [o]
  | [], o, _ => rfl
  | p :: r, o, h => by
    rw [setO, if_neg (h p (by simp)), setO_none fun q hq => h q (by simp [hq])]
    rfl
theorem setO_some : ∀ {Ob : List OEnt} {o p : OEnt} {i : Nat}, (Ob.map OEnt.key).Nodup → Ob[i]? = some p → p.key = o.key → setO Ob o = Ob.set i o
  | [], o, p, i, _, h, _ => by simp at h
  | q :: r, o, p, 0, _, h, hk => by
    simp at h
    subst h
    rw [setO, if_pos hk]
    rfl
  | q :: r, o, p, i + 1, hn, h, hk => by
    simp at h
    simp only [List.map_cons, List.nodup_cons] at hn
    have hne : q.key ≠ o.key := fun e => hn.1 (by rw [e, ← hk]; exact List.mem_map_of_mem (List.mem_of_getElem? h))
    rw [setO, if_neg hne, setO_some hn.2 h hk]
    rfl
theorem setO_mem : ∀ {Ob : List OEnt} {o p : OEnt}, p ∈ setO Ob o → p = o ∨ p ∈ Ob
  | [], o, p, h => by simp [setO] at h; exact .inl h
  | q :: r, o, p, h => by
    unfold setO at h
    split at h
    · rcases List.mem_cons.1 h with h | h
      · exact .inl h
      · exact .inr (by simp [h])
    · rcases List.mem_cons.1 h with h | h
      · exact .inr (by simp [h])
      · rcases setO_mem h with h | h
        · exact .inl h
        · exact .inr (by simp [h])
theorem look_here {Ob : List OEnt} {x : ByteArray} {o : OEnt} (h : lookO Ob x = some o) : o.key = x ∧ ∃ i : Nat, Ob[i]? = some o := by
  unfold lookO at h
  exact ⟨by simpa using List.find?_some h, List.getElem?_of_mem (List.mem_of_find?_eq_some h)⟩
theorem look_not {Ob : List OEnt} {x : ByteArray} (h : lookO Ob x = none) : ∀ o ∈ Ob, o.key ≠ x := by
  unfold lookO at h
  intro o ho
  simpa using (List.find?_eq_none.1 h) o ho

theorem two_rows (w : World) (c1 c2 : Array Value) (t1 t2 : TypeId) : ∃ W, W = (w.alloc (.cells c1 t1)).alloc (.cells c2 t2) ∧ Grew w W ∧ Blk W w.heap.size t1 c1 ∧ Blk W (w.heap.size + 1) t2 c2 ∧ W.heap.size = w.heap.size + 2 := by
  have h1 := Blk.new w t1 c1
  have h2 := Blk.new (w.alloc (.cells c1 t1)) t2 c2
  have e1 : (w.alloc (.cells c1 t1)).heap.size = w.heap.size + 1 := by simp
  rw [e1] at h2
  exact ⟨_, rfl, ((Chg.refl _ w).alloc _).alloc _, h1.alloc _, h2, by simp⟩

section
variable {S : Nat → Prop} {w w' : World} {s d m : Nat} {Ob : List OEnt} {E : List FEnt} {clock : Nat} {armed : Bool} {left kp : Int} {n : Nat}
theorem FS.tight {up : Bool} (h : FS S w d m E clock up armed left kp n) : FS (fun k => S k ∧ k < w.heap.size) w d m E clock up armed left kp n :=
  ⟨⟨h.dsk.hd, h.dsk.hm, ⟨h.dsk.od, h.dsk.hd.lt⟩, ⟨h.dsk.om, h.dsk.hm.lt⟩⟩, fun e he => ⟨⟨(h.ok e he).fil.hg, (h.ok e he).fil.hA, ⟨(h.ok e he).fil.og, (h.ok e he).fil.hg.lt⟩, fun ad ha => ⟨(h.ok e he).fil.oA ad ha, (Own.blk_lt (h.ok e he).fil.hA ad ha).2⟩⟩, (h.ok e he).sy, (h.ok e he).len, (h.ok e he).born⟩, h.ap⟩
theorem Stor.tight (h : Stor S w s d m Ob E clock armed left kp n) : Stor (fun k => S k ∧ k < w.heap.size) w s d m Ob E clock armed left kp n := ⟨h.st, fun e => h.sn e.1, h.fs.tight, h.vw, h.ok⟩
theorem Stor.nd (h : Stor S w s d m Ob E clock armed left kp n) : (Ob.map OEnt.key).Nodup := by
  have h1 : (E.map FEnt.nm) = Ob.map fun o => oN ++ o.key := by
    have := congrArg (List.map Prod.fst) h.vw
    rw [List.map_map, List.map_map] at this
    exact this
  have h2 : (E.map FEnt.nm).Nodup := List.Pairwise.map _ (fun a b h => h.1) h.fs.ap
  rw [h1] at h2
  have h3 : (Ob.map fun o => oN ++ o.key) = (Ob.map OEnt.key).map fun k => oN ++ k := by rw [List.map_map]; rfl
  rw [h3] at h2
  exact List.Pairwise.of_map _ (fun a b hne e => hne (by rw [e])) h2

/-- what Put leaves -/
def PutTo (S : Nat → Prop) (w : World) (s d m : Nat) (Ob : List OEnt) (armed : Bool) (left kp : Int) (n : Nat) (w' : World) : Prop :=
  (∃ E clock, Stor (Up S w) w' s d m Ob E clock armed left kp n) ∧ Chg S w w'

theorem put_end {left0 : Int} {n0 : Nat} (h : Stor S w s d m Ob E clock armed left0 kp n0) (x : ByteArray) (hx : keyB x = true) (data : List UInt8) (g : Nat) {T : Nat → Prop} {w1 : World} (hc : Cnt armed left n)
    (f : FEnt) (hfn : f.nm = tN ++ x) (hfl : f.l = hdr g ++ data) (hfs : f.sy = f.l.length) {clock1 : Nat} (hF : FS T w1 d m (E ++ [f]) clock1 true armed left kp n) :
    Calls Try.prog 52 #[.pointer (some ⟨d, 0, none⟩), .string (tN ++ x), .string (oN ++ x)] w1 fun e w' => e = .returned (.int .i64 0) ∧ (∃ E' clock', FS T w' d m E' clock' true armed (left - 1) kp (n + 1) ∧ E'.map FEnt.view = (setO Ob ⟨x, data, g⟩).map OEnt.view) ∧ Chg T w1 w' := by
  have hi : (E ++ [f])[E.length]? = some f := by simp
  have he : (E ++ [f]).eraseIdx E.length = E := by
    rw [List.eraseIdx_append_of_length_le (Nat.le_refl _), Nat.sub_self]
    simp
  have hv : ({ f with nm := oN ++ x, born := clock1 } : FEnt).view = OEnt.view ⟨x, data, g⟩ := by simp [FEnt.view, OEnt.view, hfl, hfs]
  cases hl : lookO Ob x with
  | none =>
    have hno := look_not hl
    have := fs_rename_new hF hc hi (hfn ▸ nm_t hx) (oN ++ x) (nm_o hx) (by rw [he]; exact h.no hno)
    rw [hfn, he] at this
    refine this.mono ?_
    rintro e w' ⟨rfl, h1, h2⟩
    refine ⟨rfl, ⟨_, _, h1, ?_⟩, h2⟩
    rw [setO_none (o := ⟨x, data, g⟩) hno, List.map_append, List.map_append, h.vw]
    congr 1
    simpa using hv
  | some o =>
    obtain ⟨hok, i, hoi⟩ := look_here hl
    obtain ⟨t, ht, htn, htl, hts⟩ := h.ent hoi
    have := fs_rename_old hF hc hi (hfn ▸ nm_t hx) (j := i) (t := t) (by rw [he]; exact ht) (by rw [htn, hok]; exact nm_o hx)
    rw [hfn, he, htn, hok] at this
    refine this.mono ?_
    rintro e w' ⟨rfl, h1, h2⟩
    refine ⟨rfl, ⟨_, _, h1, ?_⟩, h2⟩
    rw [setO_some (o := ⟨x, data, g⟩) h.nd hoi hok, List.map_set, List.map_set, h.vw]
    simp [FEnt.view, OEnt.view, hfl, hfs]

set_option maxRecDepth 100000 in
set_option maxHeartbeats 4000000 in
theorem put_ok (h : Stor S w s d m Ob E clock armed left kp n) (hc : ∀ j : Nat, j ≤ 2 → Cnt armed (left - j) (n + j)) (hE : Ob.length < 1048576) (x : ByteArray) (hx : keyB x = true) (hg : genO Ob x + 1 < 18446744073709551616) (A : Option Addr) (k c : Nat) (data : List UInt8) (hr : RB w A k data) (hk : k ≤ 1048576) :
    Calls Try.prog 13 #[.pointer (some ⟨s, 0, none⟩), .string x, .slice A k c] w fun e w' => e = .returned (.tuple #[.int .u64 ((genO Ob x + 1 : Nat) : Int), .int .i64 0]) ∧ PutTo S w s d m (setO Ob ⟨x, data, genO Ob x + 1⟩) armed (left - 3) kp (n + 3) w' := by
  have hmf : ∀ (fn : Fn) (first cp : Array Value) (w : World), (Instr.makeFunc fn first cp).run Try.prog w = .ok (.func fn first cp) w := fun _ _ _ _ => rfl
  have hM : ∀ w, Calls Try.prog 28 #[.string x, .slice A k c] w fun e w' => e = .returned (.int .i64 0) ∧ w = w' := fun w => by
    have := may_any x A k c w
    unfold mayC at this
    rwa [hx, if_neg (by simp), if_neg (by omega)] at this
  have hR : ∃ er : Nat, (er = 0 ∨ er = 111) ∧ Calls Try.prog 29 #[.pointer (some ⟨s, 0, none⟩), .string x] w fun e w' => (∃ v, e = .returned (.tuple #[v, .int .u64 (genO Ob x : Int), .int .i64 (er : Int)])) ∧ Grew w w' := by
    unfold genO
    cases hl : lookO Ob x with
    | none => exact ⟨111, .inr rfl, (oread_none h x hx (look_not hl)).mono fun e w' ⟨h1, h2⟩ => ⟨⟨_, h1⟩, h2 ▸ Chg.refl _ _⟩⟩
    | some o =>
      obtain ⟨hok, i, hoi⟩ := look_here hl
      subst hok
      exact ⟨0, .inl rfl, (oread_ok h hoi).mono fun e w' ⟨A, c, h1, _, _, _, h2⟩ => ⟨⟨_, h1⟩, h2⟩⟩
  obtain ⟨er, her, hR⟩ := hR
  generalize hgo : genO Ob x = g at *
  have hsz := keyB_size hx
  go_enter Try.func13, Try.ntmps13
  go_wp2_with fail
  refine (hM _).mono ?_
  rintro e w1 ⟨rfl, rfl⟩
  go_wp2_with fail
  refine hR.mono ?_
  rintro e w1 ⟨⟨v, rfl⟩, hG1⟩
  clear hR hM
  obtain ⟨T, hT⟩ : ∃ T : Nat → Prop, T = fun k => S k ∧ k < w.heap.size := ⟨_, rfl⟩
  have h1 := h.tight
  rw [← hT] at h1
  have hTS : ∀ k, T k → S k := fun k e => by rw [hT] at e; exact e.1
  have hTl : ∀ k, T k → k < w.heap.size := fun k e => by rw [hT] at e; exact e.2
  clear hT
  have hs1 := hG1.size
  obtain ⟨W, hW, hgW, bp, bf, hzW⟩ := two_rows w1 #[.pointer (some ⟨s, 0, none⟩), .string x, .slice A k c, .int .u64 ((g : Int) + 1)]
    #[.func (.func 31) #[.pointer (some ⟨w1.heap.size, 0, none⟩)] #[], .func (.func 32) #[.pointer (some ⟨w1.heap.size, 0, none⟩)] #[], .func (.func 33) #[.pointer (some ⟨w1.heap.size, 0, none⟩)] #[], .func (.func 34) #[.pointer (some ⟨w1.heap.size, 0, none⟩)] #[]] 63 64
  have hGW := hG1.trans hgW
  have hh := h1.grew hGW
  have hrW := hr.grew hGW
  have f0 := bf.cell 0
  have hst := h.st.lt
  have hsn := h.sn
  have hnd := h1.ok
  have hpT : ¬ T w1.heap.size := fun e => by have := hTl _ e; omega
  have hsT : ¬ T s := fun e => hsn (hTS _ e)
  have hbT : ¬ T (w1.heap.size + 1) := fun e => by have := hTl _ e; omega
  have hClear := clear_none hh.fs.dsk w1.heap.size s x (.slice A k c) (.int .u64 ((g : Int) + 1)) bp hh.st (nm_t hx) (by omega) (find_no E 0 (hh.noT x))
  have hh := Lib.hid hh
  have hLay : Hid (∀ W2, Grew W W2 → Calls Try.prog 32 #[.pointer (some ⟨w1.heap.size, 0, none⟩)] W2 fun e w' => e = .returned (.int .i64 0) ∧ (∃ f : FEnt, f.nm = tN ++ x ∧ f.l = hdr (g + 1) ++ data ∧ FS (Up T W) w' d m (E ++ [f]) (clock + 1) true armed (left - 1) kp (n + 1)) ∧ Chg T W2 w') := by
    intro W2 hg2
    have hz2 := hg2.size
    refine lay_step w1.heap.size s x A k c data (g + 1) (bp.grew hg2) (hh.out.st.grew hg2) (by omega) (hrW.grew hg2) hk hg hpT hsT fun B cap w3 hg3 hr3 hb3 => ?_
    have hz3 := hg3.size
    have hdl : d < w.heap.size := hTl _ hh.out.fs.dsk.od
    have hhl := hdr_length hg
    refine (fs_append_new ((hh.out.fs.grew hg2).grew hg3) (by simpa using hc 0 (by omega)) (tN ++ x) (nm_t hx) (hh.out.noT x) (by rw [hh.out.len]; exact hE) B _ cap _ hr3 (by omega) fun ad e _ => by have := hb3 ad e; omega).mono ?_
    rintro e w4 ⟨rfl, f, e1, e2, _, hF, hc4⟩
    exact ⟨rfl, ⟨f, e1, e2, hF.mono fun j hj => hj.elim .inl fun hj => .inr (by omega)⟩, hc4⟩
  have hUs : ¬ Up T W s := Up.old hh.out.st.lt hsT
  have hUp : ¬ Up T W w1.heap.size := Up.old bp.lt hpT
  have hUb : ¬ Up T W (w1.heap.size + 1) := Up.old bf.lt hbT
  have hSync : Hid (∀ W4 (f : FEnt), Blk W4 w1.heap.size 63 #[.pointer (some ⟨s, 0, none⟩), .string x, .slice A k c, .int .u64 ((g : Int) + 1)] → Blk W4 s 56 #[.pointer (some ⟨d, 0, none⟩)] → f.nm = tN ++ x → FS (Up T W) W4 d m (E ++ [f]) (clock + 1) true armed (left - 1) kp (n + 1) →
      Calls Try.prog 33 #[.pointer (some ⟨w1.heap.size, 0, none⟩)] W4 fun e w' => e = .returned (.int .i64 0) ∧ FS (Up T W) w' d m (E ++ [{ f with sy := f.l.length }]) (clock + 1) true armed (left - 1 - 1) kp (n + 1 + 1) ∧ Chg (Up T W) W4 w') := by
    intro W4 f hb hs hn hF
    have hi : (E ++ [f])[E.length]? = some f := by simp
    have := fs_sync (hF.grew (Chg.refl _ W4).drew) (by simpa using hc 1 (by omega)) hi (hn ▸ nm_t hx)
    rw [List.set_append_right _ _ (Nat.le_refl _), Nat.sub_self] at this
    simp only [List.set_cons_zero] at this
    exact sync_step w1.heap.size s x (.slice A k c) (.int .u64 ((g : Int) + 1)) hb hs (by omega) (R := fun _ w' => FS (Up T W) w' d m (E ++ [{ f with sy := f.l.length }]) (clock + 1) true armed (left - 1 - 1) kp (n + 1 + 1)) hUp hUs (by rw [show ((⟨#[116, 47]⟩ : ByteArray) ++ x) = f.nm from hn.symm]; exact this)
  have hRen : Hid (∀ W5 (f : FEnt), Blk W5 w1.heap.size 63 #[.pointer (some ⟨s, 0, none⟩), .string x, .slice A k c, .int .u64 ((g : Int) + 1)] → Blk W5 s 56 #[.pointer (some ⟨d, 0, none⟩)] → f.nm = tN ++ x → f.l = hdr (g + 1) ++ data → f.sy = f.l.length → FS (Up T W) W5 d m (E ++ [f]) (clock + 1) true armed (left - 1 - 1) kp (n + 1 + 1) →
      Calls Try.prog 34 #[.pointer (some ⟨w1.heap.size, 0, none⟩)] W5 fun e w' => e = .returned (.int .i64 0) ∧ (∃ E' clock', FS (Up T W) w' d m E' clock' true armed (left - 1 - 1 - 1) kp (n + 1 + 1 + 1) ∧ E'.map FEnt.view = (setO Ob ⟨x, data, g + 1⟩).map OEnt.view) ∧ Chg (Up T W) W5 w') := by
    intro W5 f hb hs hn hl hy hF
    have hc2 := hc 2 (by omega)
    have e1 : left - 1 - 1 = left - ((2 : Nat) : Int) := by omega
    have := put_end h1 x hx data (g + 1) (w1 := W5.drew) (T := Up T W) (by rw [e1]; exact hc2) f hn hl hy (hF.grew (Chg.refl _ W5).drew)
    exact rename_step w1.heap.size s x (.slice A k c) (.int .u64 ((g : Int) + 1)) hb hs (by omega) (R := fun _ w' => ∃ E' clock', FS (Up T W) w' d m E' clock' true armed (left - 1 - 1 - 1) kp (n + 1 + 1 + 1) ∧ E'.map FEnt.view = (setO Ob ⟨x, data, g + 1⟩).map OEnt.view) hUp hUs this
  have hOk : Hid (∀ o ∈ setO Ob ⟨x, data, g + 1⟩, o.Ok) := fun o ho => by
    have hr1 := hr.1
    rcases setO_mem ho with rfl | ho
    · exact ⟨hx, hg, by show data.length ≤ _; omega⟩
    · exact hnd o ho
  have hS0 := Lib.hid hh.out.st
  clear hh h1 h hnd hx
  have hSw : Hid (∀ k, Up T W k → Up S w k) := fun k e => e.elim (fun e => .inl (hTS k e)) fun e => .inr (by have := hGW.size; omega)
  rcases her with rfl | rfl
  all_goals
    go_wp2_with fail
    rw [← hW]
    clear hW
    refine wp_loop_rounds 5 ?_
    rw [rounds_succ]
    go_wp2_with fail
    refine hClear.mono ?_
    rintro e W2 ⟨rfl, hG2⟩
    have f1 := (bf.grew hG2).cell 1
    clear f0
    go_wp2_with fail
    rw [rounds_succ]
    go_wp2_with fail
    refine (hLay.out W2 hG2).mono ?_
    rintro e W4 ⟨rfl, ⟨f, hfn, hfl, hF4⟩, hc4⟩
    have hF4 := Lib.hid hF4
    have b4 := (bf.grew hG2).chg hc4 hbT
    have p4 := (bp.grew hG2).chg hc4 hpT
    have s4 := (hS0.out.grew hG2).chg hc4 hsT
    have f2 := b4.cell 2
    clear f1
    go_wp2_with fail
    rw [rounds_succ]
    go_wp2_with fail
    refine (hSync.out W4 f p4 s4 hfn hF4.out).mono ?_
    rintro e W5 ⟨rfl, hF5, hc5⟩
    have hF5 := Lib.hid hF5
    have b5 := b4.chg hc5 hUb
    have p5 := p4.chg hc5 hUp
    have s5 := s4.chg hc5 hUs
    have f3 := b5.cell 3
    clear f2
    go_wp2_with fail
    rw [rounds_succ]
    go_wp2_with fail
    refine (hRen.out W5 { f with sy := f.l.length } p5 s5 hfn hfl rfl hF5.out).mono ?_
    rintro e W6 ⟨rfl, ⟨E', clock', hF6, hvw⟩, hc6⟩
    have hF6 := Lib.hid hF6
    have p6 := p5.chg hc6 hUp
    have s6 := s5.chg hc6 hUs
    have g3 := p6.cell 3
    clear f3
    go_wp2_with fail
    rw [rounds_succ]
    go_wp2
    go_ret2
    refine ⟨by simp, ⟨E', clock', s6, Up.old hst hsn, ?_, hvw, hOk.out⟩, ?_⟩
    · rw [show left - 3 = left - 1 - 1 - 1 by omega]
      exact hF6.out.mono hSw.out
    · have hGWs := hGW.size
      have hg2s := hG2.size
      exact (Chg.of_grew (hGW.trans hG2)).step ((hc4.mono (S' := Up T W) fun _ _ e => .inl e).trans (hc5.trans hc6)) fun k hk e => e.elim (hTS k) fun e => by omega
end
end Go.Proofs.Ytepncgeaehjhiaa

namespace Go.Proofs.Ytepncgeaehjhiaa
open Go.RowKit

section
variable {S : Nat → Prop} {w w' : World} {s d m : Nat} {Ob : List OEnt} {E : List FEnt} {clock : Nat} {armed : Bool} {left kp : Int} {n : Nat}

/-- what a read gives, whether there is such an object or not -/
def ReadTo (w : World) (r : Option OEnt) (e : Ending) (w' : World) : Prop :=
  match r with
  | some o => GotO w o e w'
  | none => e = .returned (.tuple #[.slice none 0 0, .int .u64 0, .int .i64 111]) ∧ w = w'
theorem oread_any (h : Stor S w s d m Ob E clock armed left kp n) (x : ByteArray) (hx : keyB x = true) :
    Calls Try.prog 29 #[.pointer (some ⟨s, 0, none⟩), .string x] w (ReadTo w (lookO Ob x)) := by
  unfold ReadTo
  cases hl : lookO Ob x with
  | none => exact oread_none h x hx (look_not hl)
  | some o =>
    obtain ⟨hok, i, hoi⟩ := look_here hl
    subst hok
    exact oread_ok h hoi

set_option maxHeartbeats 2000000 in
theorem get_any (h : Stor S w s d m Ob E clock armed left kp n) (x : ByteArray) (hx : keyB x = true) :
    Calls Try.prog 12 #[.pointer (some ⟨s, 0, none⟩), .string x] w (ReadTo w (lookO Ob x)) := by
  have hR := oread_any h x hx
  have hN : ∀ w, Calls Try.prog 30 #[.string x] w fun e w' => e = .returned (.bool true) ∧ w = w' := fun w => by
    have := named_any x w
    rwa [hx] at this
  clear h hx
  unfold ReadTo at hR ⊢
  cases hl : lookO Ob x with
  | none =>
    rw [hl] at hR
    simp only at hR ⊢
    go_enter Try.func12, Try.ntmps12
    go_wp2_with fail
    refine (hN _).mono ?_
    rintro e w1 ⟨rfl, rfl⟩
    go_wp2_with fail
    refine hR.mono ?_
    rintro e w1 ⟨rfl, rfl⟩
    go_wp2
    go_ret3
    exact ⟨by simp, rfl⟩
  | some o =>
    rw [hl] at hR
    simp only at hR ⊢
    go_enter Try.func12, Try.ntmps12
    go_wp2_with fail
    refine (hN _).mono ?_
    rintro e w1 ⟨rfl, rfl⟩
    go_wp2_with fail
    refine hR.mono ?_
    rintro e w1 ⟨A, c, rfl, hr, hcap, hbk, hG⟩
    have hr := Lib.hid hr
    have hcap := Lib.hid hcap
    go_wp2
    go_ret3
    exact ⟨A, c, by simp, hr.out, hcap.out, hbk, hG⟩
set_option maxHeartbeats 2000000 in
theorem get_no (x : ByteArray) (hx : keyB x = false) (v : Value) (w : World) :
    Calls Try.prog 12 #[v, .string x] w fun e w' => e = .returned (.tuple #[.slice none 0 0, .int .u64 0, .int .i64 110]) ∧ w = w' := by
  have hN : ∀ w, Calls Try.prog 30 #[.string x] w fun e w' => e = .returned (.bool false) ∧ w = w' := fun w => by
    have := named_any x w
    rwa [hx] at this
  go_enter Try.func12, Try.ntmps12
  go_wp2_with fail
  refine (hN _).mono ?_
  rintro e w1 ⟨rfl, rfl⟩
  go_wp2
  go_ret3
  exact ⟨by simp, rfl⟩

set_option maxHeartbeats 2000000 in
theorem put_no (x : ByteArray) (A : Option Addr) (k c : Nat) (hm : 0 < mayC x k) (v : Value) (w : World) :
    Calls Try.prog 13 #[v, .string x, .slice A k c] w fun e w' => e = .returned (.tuple #[.int .u64 0, .int .i64 (mayC x k : Int)]) ∧ w = w' := by
  have hM := may_any x A k c
  have h0 : ((mayC x k : Int) != 0) = true := by simp; omega
  generalize mayC x k = z at *
  go_enter Try.func13, Try.ntmps13
  go_wp2_with fail
  refine (hM _).mono ?_
  rintro e w1 ⟨rfl, rfl⟩
  go_wp2
  go_ret2
  exact ⟨by simp, rfl⟩

/-! ### PutIf -/
theorem may_ok {x : ByteArray} (hx : keyB x = true) (A : Option Addr) {k : Nat} (c : Nat) (hk : k ≤ 1048576) (w : World) : Calls Try.prog 28 #[.string x, .slice A k c] w fun e w' => e = .returned (.int .i64 0) ∧ w = w' := by
  have := may_any x A k c w
  unfold mayC at this
  rwa [hx, if_neg (by simp), if_neg (by omega)] at this
theorem gen_read (h : Stor S w s d m Ob E clock armed left kp n) (x : ByteArray) (hx : keyB x = true) :
    ∃ er : Nat, (er = 0 ∨ er = 111) ∧ Calls Try.prog 29 #[.pointer (some ⟨s, 0, none⟩), .string x] w fun e w' => (∃ v, e = .returned (.tuple #[v, .int .u64 (genO Ob x : Int), .int .i64 (er : Int)])) ∧ Grew w w' := by
  unfold genO
  cases hl : lookO Ob x with
  | none => exact ⟨111, .inr rfl, (oread_none h x hx (look_not hl)).mono fun e w' ⟨h1, h2⟩ => ⟨⟨_, h1⟩, h2 ▸ Chg.refl _ _⟩⟩
  | some o =>
    obtain ⟨hok, i, hoi⟩ := look_here hl
    subst hok
    exact ⟨0, .inl rfl, (oread_ok h hoi).mono fun e w' ⟨A, c, h1, _, _, _, h2⟩ => ⟨⟨_, h1⟩, h2⟩⟩
set_option maxHeartbeats 2000000 in
theorem putIf_no (h : Stor S w s d m Ob E clock armed left kp n) (x : ByteArray) (hx : keyB x = true) (A : Option Addr) (k c : Nat) (hk : k ≤ 1048576) (g : Nat) (hg : genO Ob x ≠ g) :
    Calls Try.prog 10 #[.pointer (some ⟨s, 0, none⟩), .string x, .slice A k c, .int .u64 (g : Int)] w fun e w' => e = .returned (.tuple #[.int .u64 (genO Ob x : Int), .int .i64 112]) ∧ Grew w w' := by
  have hM := may_ok hx A c hk
  obtain ⟨er, her, hR⟩ := gen_read h x hx
  have hne : ((genO Ob x : Int) != (g : Int)) = true := by simp; omega
  generalize genO Ob x = g0 at *
  clear h
  go_enter Try.func10, Try.ntmps10
  go_wp2_with fail
  refine (hM _).mono ?_
  rintro e w1 ⟨rfl, rfl⟩
  go_wp2_with fail
  refine hR.mono ?_
  rintro e w1 ⟨⟨v, rfl⟩, hG1⟩
  rcases her with rfl | rfl
  all_goals
    go_wp2
    go_ret2
    exact ⟨by simp, hG1⟩
set_option maxHeartbeats 2000000 in
theorem putIf_ok (h : Stor S w s d m Ob E clock armed left kp n) (hc : ∀ j : Nat, j ≤ 2 → Cnt armed (left - j) (n + j)) (hE : Ob.length < 1048576) (x : ByteArray) (hx : keyB x = true) (hg : genO Ob x + 1 < 18446744073709551616) (A : Option Addr) (k c : Nat) (data : List UInt8) (hr : RB w A k data) (hk : k ≤ 1048576) :
    Calls Try.prog 10 #[.pointer (some ⟨s, 0, none⟩), .string x, .slice A k c, .int .u64 (genO Ob x : Int)] w fun e w' => e = .returned (.tuple #[.int .u64 ((genO Ob x + 1 : Nat) : Int), .int .i64 0]) ∧ PutTo S w s d m (setO Ob ⟨x, data, genO Ob x + 1⟩) armed (left - 3) kp (n + 3) w' := by
  have hM := may_ok hx A c hk
  obtain ⟨er, her, hR⟩ := gen_read h x hx
  have hP : Hid (∀ w1, Grew w w1 → Calls Try.prog 13 #[.pointer (some ⟨s, 0, none⟩), .string x, .slice A k c] w1 fun e w' => e = .returned (.tuple #[.int .u64 ((genO Ob x + 1 : Nat) : Int), .int .i64 0]) ∧ PutTo S w s d m (setO Ob ⟨x, data, genO Ob x + 1⟩) armed (left - 3) kp (n + 3) w') := by
    intro w1 hg1
    refine (put_ok (h.tight.grew hg1) hc hE x hx hg A k c data (hr.grew hg1) hk).mono ?_
    rintro e w' ⟨rfl, ⟨E', clock', h1⟩, h2⟩
    have hz := hg1.size
    refine ⟨rfl, ⟨E', clock', h1.st, Up.old h.st.lt h.sn, h1.fs.mono ?_, h1.vw, h1.ok⟩, ?_⟩
    · intro j hj
      exact hj.elim (fun e => .inl e.1) fun e => .inr (by omega)
    · exact (Chg.of_grew hg1).step h2 fun j hj e => e.1
  generalize genO Ob x = g0 at *
  have he : ((g0 : Int) != (g0 : Int)) = false := by simp
  clear h
  go_enter Try.func10, Try.ntmps10
  go_wp2_with fail
  refine (hM _).mono ?_
  rintro e w1 ⟨rfl, rfl⟩
  go_wp2_with fail
  refine hR.mono ?_
  rintro e w1 ⟨⟨v, rfl⟩, hG1⟩
  rcases her with rfl | rfl
  all_goals
    go_wp2_with fail
    refine (hP.out _ hG1).mono ?_
    rintro e w2 ⟨rfl, hQ⟩
    have hQ := Lib.hid hQ
    go_wp2
    go_ret2
    exact ⟨by simp, hQ.out⟩
end
end Go.Proofs.Ytepncgeaehjhiaa

namespace Go.Proofs.Ytepncgeaehjhiaa
open Go.RowKit

section
variable {S : Nat → Prop} {w w' : World} {s d m : Nat} {Ob : List OEnt} {E : List FEnt} {clock : Nat} {armed : Bool} {left kp : Int} {n : Nat}

set_option maxHeartbeats 2000000 in
theorem slice_ok (h : Stor S w s d m Ob E clock armed left kp n) (x : ByteArray) (hx : keyB x = true) {o : OEnt} (hl : lookO Ob x = some o) (a b : Nat) (hab : a ≤ b) (hb : b ≤ o.data.length) :
    Calls Try.prog 19 #[.pointer (some ⟨s, 0, none⟩), .string x, .int .i64 (a : Int), .int .i64 (b : Int)] w fun e w' => ∃ A c, e = .returned (.tuple #[.slice A (b - a) c, .int .i64 0]) ∧ OB w' w.heap.size 5 A (b - a) c ((o.data.drop a).take (b - a)) ∧ Grew w w' := by
  have hR := get_any h x hx
  rw [hl] at hR
  unfold ReadTo at hR
  simp only at hR
  have hdl := (h.ok o (List.mem_of_find?_eq_some hl)).data
  have e1 : decide ((a : Int) < 0) = false := decide_eq_false (by omega)
  have e2 : decide ((b : Int) < (a : Int)) = false := decide_eq_false (by omega)
  have e3 : decide ((o.data.length : Int) < (b : Int)) = false := decide_eq_false (by omega)
  obtain ⟨nn, hnn⟩ : ∃ nn, b - a = nn := ⟨_, rfl⟩
  have hba : (b : Int) - (a : Int) = (nn : Int) := by omega
  have hnl : nn ≤ 1048576 := by omega
  rw [hnn]
  clear h hx
  go_enter Try.func19, Try.ntmps19
  go_wp2_with fail
  refine hR.mono ?_
  rintro e w1 ⟨A, c, rfl, hr, hcap, hbk, hG⟩
  have hown : OB (w1.alloc (.cells #[] 5)) w.heap.size 5 (some ⟨w1.heap.size, 0, none⟩) 0 0 [] := Own.made w1 w.heap.size 5 1 hG.size
  have hr1 : RB (w1.alloc (.cells #[] 5)) A o.data.length o.data := hr.grew ((Chg.refl _ w1).alloc _)
  have hrd := ((hr1.dropO a).take (i := b - a) (by omega))
  have hrd := Lib.hid hrd
  have hs1 := hG.size
  rw [hnn] at hrd
  by_cases hca : c = a
  · obtain rfl : nn = 0 := by omega
    have hz : RB (w1.alloc (.cells #[] 5)) A 0 [] := ⟨rfl, Rd.nil _ _⟩
    go_wp2_with (at_builtin; refine wpList_appB rfl _ _ rfl w.heap.size _ 0 0 [] rfl hown (by simp; omega) A 0 _ [] rfl hz (by omega) ?_; intro A3 c3 w3 h3)
    go_ret2
    have ho3 := h3.ob
    exact ⟨A3, c3, by simp, by simpa using ho3, hG.trans (h3.grew ((Chg.refl _ w1).alloc _) (head_ge (Nat.le_refl _)))⟩
  · have hca' : decide (c = a) = false := decide_eq_false hca
    go_wp2_with (at_builtin; refine wpList_appB rfl _ _ rfl w.heap.size _ 0 0 [] rfl hown (by simp; omega) (A.map fun x => x.add a) nn _ _ rfl hrd.out (by omega) ?_; intro A3 c3 w3 h3)
    go_ret2
    have ho3 := h3.ob
    exact ⟨A3, c3, by simp, by simpa using ho3, hG.trans (h3.grew ((Chg.refl _ w1).alloc _) (head_ge (Nat.le_refl _)))⟩
set_option maxHeartbeats 2000000 in
theorem slice_bad (h : Stor S w s d m Ob E clock armed left kp n) (x : ByteArray) (hx : keyB x = true) {o : OEnt} (hl : lookO Ob x = some o) (b : Nat) (hb : o.data.length < b) :
    Calls Try.prog 19 #[.pointer (some ⟨s, 0, none⟩), .string x, .int .i64 0, .int .i64 (b : Int)] w fun e w' => e = .returned (.tuple #[.slice none 0 0, .int .i64 113]) ∧ Grew w w' := by
  have hR := get_any h x hx
  rw [hl] at hR
  unfold ReadTo at hR
  simp only at hR
  have e2 : decide ((b : Int) < 0) = false := decide_eq_false (by omega)
  have e3 : decide ((o.data.length : Int) < (b : Int)) = true := decide_eq_true (by omega)
  clear h hx
  go_enter Try.func19, Try.ntmps19
  go_wp2_with fail
  refine hR.mono ?_
  rintro e w1 ⟨A, c, rfl, hr, hcap, hbk, hG⟩
  have hr := Lib.hid hr
  have hcap := Lib.hid hcap
  go_wp2
  go_ret2
  exact ⟨by simp, hG⟩
set_option maxHeartbeats 2000000 in
theorem odelete_ok (h : Stor S w s d m Ob E clock armed left kp n) (hc : Cnt armed left n) {i : Nat} {o : OEnt} (hi : Ob[i]? = some o) :
    Calls Try.prog 27 #[.pointer (some ⟨s, 0, none⟩), .string o.key] w fun e w' => e = .returned (.int .i64 0) ∧ Stor S w' s d m (Ob.eraseIdx i) (E.eraseIdx i) clock armed (left - 1) kp (n + 1) ∧ Chg S w w' := by
  have ho := h.ok o (List.mem_of_getElem? hi)
  have hsz := keyB_size ho.key
  have hl : lookO Ob o.key = some o := by
    cases hl : lookO Ob o.key with
    | none => exact absurd rfl (look_not hl o (List.mem_of_getElem? hi))
    | some p =>
      obtain ⟨hk, j, hj⟩ := look_here hl
      have hnd := h.nd
      rw [List.Nodup, List.pairwise_iff_getElem] at hnd
      obtain ⟨a1, a2⟩ := List.getElem?_eq_some_iff.1 hi
      obtain ⟨b1, b2⟩ := List.getElem?_eq_some_iff.1 hj
      have hij : i = j := by
        rcases Nat.lt_trichotomy i j with hlt | rfl | hlt
        · exact absurd (by rw [List.getElem_map, List.getElem_map, a2, b2, hk]) (hnd i j (by simpa using a1) (by simpa using b1) hlt)
        · rfl
        · exact absurd (by rw [List.getElem_map, List.getElem_map, a2, b2, hk]) (hnd j i (by simpa using b1) (by simpa using a1) hlt)
      subst hij
      rw [hi] at hj
      exact hj.symm
  have hR := get_any h o.key ho.key
  rw [hl] at hR
  unfold ReadTo at hR
  simp only at hR
  obtain ⟨f, hf, hnm, _, _⟩ := h.ent hi
  have hD : Hid (∀ w1, Grew w w1 → Calls Try.prog 26 #[.pointer (some ⟨d, 0, none⟩), .string ((⟨#[111, 47]⟩ : ByteArray) ++ o.key)] w1 fun e w' => e = .returned (.int .i64 0) ∧ Stor S w' s d m (Ob.eraseIdx i) (E.eraseIdx i) clock armed (left - 1) kp (n + 1) ∧ Chg S w w') := by
    intro w1 hg1
    have := fs_delete (h.fs.grew hg1) hc hf (hnm ▸ nm_o ho.key)
    rw [hnm] at this
    refine this.mono ?_
    rintro e w' ⟨rfl, h1, h2⟩
    refine ⟨rfl, ⟨(h.st.grew hg1).chg h2 h.sn, h.sn, h1, ?_, fun p hp => h.ok p (List.mem_of_mem_eraseIdx hp)⟩, (Chg.of_grew hg1).trans h2⟩
    rw [← map_erase, ← map_erase, h.vw]
  have hst := h.st
  clear h hf hnm hc hi
  go_enter Try.func27, Try.ntmps27
  go_wp2_with fail
  refine hR.mono ?_
  rintro e w1 ⟨A, c, rfl, hr, hcap, hbk, hG⟩
  have s0 := (hst.grew hG).cell 0
  have hr := Lib.hid hr
  have hcap := Lib.hid hcap
  clear hR
  go_wp2_with fail
  refine (hD.out w1 hG).mono ?_
  rintro e w2 ⟨rfl, h1, h2⟩
  have h1 := Lib.hid h1
  go_wp2
  go_ret
  exact ⟨by simp, h1.out, h2⟩
set_option maxHeartbeats 2000000 in
theorem odelete_none (h : Stor S w s d m Ob E clock armed left kp n) (x : ByteArray) (hx : keyB x = true) (hno : ∀ o ∈ Ob, o.key ≠ x) :
    Calls Try.prog 27 #[.pointer (some ⟨s, 0, none⟩), .string x] w fun e w' => e = .returned (.int .i64 111) ∧ w = w' := by
  have hl : lookO Ob x = none := by
    unfold lookO
    rw [List.find?_eq_none]
    intro o ho
    simpa using hno o ho
  have hR := get_any h x hx
  rw [hl] at hR
  unfold ReadTo at hR
  simp only at hR
  clear h hx
  go_enter Try.func27, Try.ntmps27
  go_wp2_with fail
  refine hR.mono ?_
  rintro e w1 ⟨rfl, rfl⟩
  go_wp2
  go_ret
  exact ⟨by simp, rfl⟩
set_option maxHeartbeats 2000000 in
theorem open_clean (h : FS S w d m E clock true armed left kp n) (hE : E.length ≤ 1048576) (hno : begun E tN = []) :
    Calls Try.prog 7 #[.pointer (some ⟨d, 0, none⟩)] w fun e w' => ∃ s, e = .returned (.tuple #[.pointer (some ⟨s, 0, none⟩), .int .i64 0]) ∧ Blk w' s 56 #[.pointer (some ⟨d, 0, none⟩)] ∧ w.heap.size ≤ s ∧ Grew w w' := by
  have hL := fs_list h hE tN
  have hU := up_any h.dsk
  rw [hno] at hL
  unfold tN at hL
  simp only [sortT, List.map_nil, List.mergeSort_nil, List.length_nil] at hL
  clear h hno
  go_enter Try.func7, Try.ntmps7
  go_wp2_with fail
  refine hU.mono ?_
  rintro e w1 ⟨rfl, rfl⟩
  go_wp2_with fail
  refine hL.mono ?_
  rintro e w1 ⟨A, c, rfl, hO, hG⟩
  go_wp2
  refine wp_loop_rounds 1 ?_
  rw [rounds_succ]
  go_wp2
  go_ret2
  exact ⟨w1.heap.size, by simp, Blk.new w1 _ _, hG.size, hG.trans ((Chg.refl _ w1).alloc _)⟩
end
end Go.Proofs.Ytepncgeaehjhiaa

namespace Go.Proofs.Ytepncgeaehjhiaa
open Go.RowKit

set_option maxHeartbeats 1000000 in
theorem sameTexts_any (A B : Option Addr) (n m c d : Nat) (l r : List ByteArray) (w : World) (ha : RE elNm w A n l) (hb : RE elNm w B m r) (hn : n ≤ 9223372036854775807) (hm : m ≤ 9223372036854775807) :
    Calls Try.prog 23 #[.slice A n c, .slice B m d] w fun e w' => e = .returned (.bool (decide (l = r))) ∧ ∃ k, w' = w.drewN k := by
  by_cases hnm : n = m
  · subst hnm
    go_enter Try.func23, Try.ntmps23
    go_wp2
    go_loopw [5] (fun i wr => ∃ k : Nat, k ≤ n ∧ i = .int .i64 k ∧ l.take k = r.take k ∧ ∃ j, wr = w.drewN j) (fun i _ => n - (intOf i).toNat)
    case atStart => exact ⟨0, Nat.zero_le _, rfl, rfl, 0, rfl⟩
    case round =>
      obtain ⟨k, hk, rfl, ht, j, rfl⟩ := hrel
      by_cases hlt : k < n
      · obtain ⟨ad, x, rfl, hx, hcx⟩ := ha.at_ hlt (by decide)
        obtain ⟨bd, y, rfl, hy, hcy⟩ := hb.at_ hlt (by decide)
        have hcx := hcx 0 _ rfl
        have hcy := hcy 0 _ rfl
        simp only [elNm, Nat.mul_one, Nat.add_zero] at hcx hcy
        go_wp2
        go_quiet (fail)
        go_wp2
        · have hne : (!(x.toList == y.toList)) = true := by assumption
          go_ret
          refine ⟨?_, j + nq, by simp⟩
          have : decide (l = r) = false := by
            refine decide_eq_false ?_
            rintro rfl
            rw [hx] at hy
            injection hy with hy
            subst hy
            simp at hne
          simp [this]
        · have he : (!(x.toList == y.toList)) = false := by assumption
          go_roundw
          case rel =>
            refine ⟨k + 1, by omega, by go_num, ?_, _, rfl⟩
            have hxy : x = y := by
              simp only [Bool.not_eq_false', beq_iff_eq, ByteArray.toList_eq] at he
              exact lst_inj.1 he
            rw [List.take_add_one, List.take_add_one, ht, hx, hy, hxy]
          case measure => simp [intOf]; omega
      · have hkn : k = n := by omega
        subst hkn
        go_wp2
        go_ret
        refine ⟨?_, _, rfl⟩
        have h1 : l.take k = l := List.take_of_length_le (by rw [ha.1]; omega)
        have h2 : r.take k = r := List.take_of_length_le (by rw [hb.1]; omega)
        rw [h1, h2] at ht
        simp [ht]
  · go_enter Try.func23, Try.ntmps23
    have hne : ((n : Int) != (m : Int)) = true := by simp; omega
    go_wp2
    go_ret
    refine ⟨?_, 0, rfl⟩
    have : decide (l = r) = false := decide_eq_false (by
      rintro rfl
      exact hnm (ha.1.symm.trans hb.1))
    simp [this]

/-! ### Keys listed -/
def cut2 (x : ByteArray) : ByteArray := x.extract 2 x.size
theorem lst_cut2 (x : ByteArray) : lst (cut2 x) = (lst x).drop 2 := Lib.extract_to_end x 2
theorem cut2_o (x : ByteArray) : cut2 (oN ++ x) = x := by
  apply lst_inj.1
  rw [lst_cut2, lst_append]
  rfl
def hasP (x p : ByteArray) : Bool := Lib.hasPrefix (lst x) (lst p)
def keysO (Ob : List OEnt) (p : ByteArray) : List ByteArray := sortT ((Ob.filter fun o => hasP o.key p).map OEnt.key)
theorem hasP_o (x p : ByteArray) : hasP (oN ++ x) (oN ++ p) = hasP x p := by
  unfold hasP Lib.hasPrefix
  rw [lst_append, lst_append]
  show List.isPrefixOf (111 :: 47 :: lst p) (111 :: 47 :: lst x) = _
  simp [List.isPrefixOf]
theorem sortT_pre (l : List ByteArray) : sortT (l.map fun k => oN ++ k) = (sortT l).map fun k => oN ++ k := by
  unfold sortT
  rw [List.map_map, List.map_map]
  have h1 : (l.map (lst ∘ fun k => oN ++ k)) = (l.map lst).map fun k => 111 :: 47 :: k := by
    rw [List.map_map]
    apply List.map_congr_left
    intro a _
    show lst (oN ++ a) = _
    rw [lst_append]
    rfl
  have h2 : ((l.map lst).mergeSort fun x y => decide (x ≤ y)).map (fun k => (111 : UInt8) :: 47 :: k) = ((l.map lst).map fun k => 111 :: 47 :: k).mergeSort fun x y => decide (x ≤ y) := by
    apply List.map_mergeSort
    intro a _ b _
    simp [List.cons_le_cons_iff]
  rw [h1, ← h2, List.map_map]
  apply List.map_congr_left
  intro a _
  apply lst_inj.1
  show lst (txt (111 :: 47 :: a)) = lst (oN ++ txt a)
  rw [lst_append, lst_txt, lst_txt]
  rfl

section
variable {S : Nat → Prop} {w w' : World} {s d m : Nat} {Ob : List OEnt} {E : List FEnt} {clock : Nat} {armed : Bool} {left kp : Int} {n : Nat}
theorem begun_keys (h : Stor S w s d m Ob E clock armed left kp n) (p : ByteArray) : begun E (oN ++ p) = ((Ob.filter fun o => hasP o.key p).map OEnt.key).map fun k => oN ++ k := by
  have h1 : (E.map FEnt.nm) = Ob.map fun o => oN ++ o.key := by
    have := congrArg (List.map Prod.fst) h.vw
    rw [List.map_map, List.map_map] at this
    exact this
  have h2 : begun E (oN ++ p) = (E.map FEnt.nm).filter fun x => hasP x (oN ++ p) := by
    unfold begun hasP
    rw [List.filter_map]
    rfl
  rw [h2, h1, List.filter_map, List.map_map]
  congr 1
theorem list_keys (h : Stor S w s d m Ob E clock armed left kp n) (p : ByteArray) : sortT (begun E (oN ++ p)) = (keysO Ob p).map fun k => oN ++ k := by
  rw [begun_keys h, sortT_pre]
  unfold keysO
  rfl
theorem keysO_len (Ob : List OEnt) (p : ByteArray) : (keysO Ob p).length ≤ Ob.length := by
  unfold keysO
  rw [sortT_length, List.length_map]
  exact List.length_filter_le _ _
set_option maxHeartbeats 2000000 in
theorem olist_any (h : Stor S w s d m Ob E clock armed left kp n) (hE : E.length ≤ 1048576) (p : ByteArray) (hp : p.size ≤ 140737488355328) :
    Calls Try.prog 16 #[.pointer (some ⟨s, 0, none⟩), .string p] w fun e w' => ∃ A c, e = .returned (.slice A (keysO Ob p).length c) ∧ OE elNm w' w.heap.size 9 A (keysO Ob p).length c (keysO Ob p) ∧ Grew w w' := by
  have hL := fs_list h.fs hE (oN ++ p)
  rw [list_keys h p] at hL
  have hkl := keysO_len Ob p
  rw [← h.len] at hkl
  have s0 : w.cell? ⟨s, 0, none⟩ = some (.pointer (some ⟨d, 0, none⟩)) := h.st.cell 0
  generalize keysO Ob p = K at *
  rw [List.length_map] at hL
  unfold oN at hL
  obtain ⟨kn, hkn⟩ : ∃ kn, K.length = kn := ⟨_, rfl⟩
  rw [hkn] at hL hkl ⊢
  clear h
  go_enter Try.func16, Try.ntmps16
  go_wp2_with fail
  refine (hL).mono ?_
  rintro e w1 ⟨A, c, rfl, hO, hG⟩
  have hOr := hO.re (by decide)
  have hsz := hG.size
  clear hL
  go_wp2
  go_loopw [5, 16] (fun v i wr => ∃ k : Nat, k ≤ kn ∧ i = .int .i64 k ∧ ∃ B cb, v = .slice B k cb ∧ OE elNm wr w1.heap.size 9 B k cb (K.take k) ∧ Grew w1 wr) (fun _ i _ => kn - (intOf i).toNat)
  case atStart => exact ⟨0, by omega, rfl, none, 0, rfl, OE.nil _ _ _, Chg.refl _ _⟩
  case round =>
    obtain ⟨k, hk, rfl, B, cb, rfl, hB, hg⟩ := hrel
    by_cases hlt : k < kn
    · have hcl := hg.size
      obtain ⟨ad, x, rfl, hx, hcx⟩ := (hOr.grew hg).at_ hlt (by decide)
      have hcx := hcx 0 _ rfl
      rw [List.getElem?_map] at hx
      cases hK : K[k]? with
      | none => rw [hK] at hx; cases hx
      | some y =>
      rw [hK] at hx
      injection hx with hx
      subst hx
      have hcx : wr.cell? (ad.add k) = some (.string ((⟨#[111, 47]⟩ : ByteArray) ++ y)) := by simpa [elNm] using hcx
      have hys : 2 ≤ ((⟨#[111, 47]⟩ : ByteArray) ++ y).size := by rw [ByteArray.size_append]; exact Nat.le_add_right _ _
      have hcut : ((⟨#[111, 47]⟩ : ByteArray) ++ y).extract 2 ((⟨#[111, 47]⟩ : ByteArray) ++ y).size = y := cut2_o y
      have hKt : K.take (k + 1) = K.take k ++ [y] := by rw [List.take_add_one, hK]; rfl
      have hKt := Lib.hid hKt
      generalize ((⟨#[111, 47]⟩ : ByteArray) ++ y) = z at *
      have hsrc : RE elNm (wr.alloc (.cells #[.string y] 9)) (some ⟨wr.heap.size, 0, none⟩) 1 [y] := RE.newAt rfl rfl rfl
      have hown : OE elNm (wr.alloc (.cells #[.string y] 9)) w1.heap.size 9 B k cb (K.take k) := hB.grew ((Chg.refl _ wr).alloc _)
      go_wp2_with (at_builtin; refine wpList_appE rfl _ _ 38 9 infoNm rfl Try.underlying38 rfl w1.heap.size B k cb (K.take k) rfl hown (by simp; omega) _ 1 1 [y] rfl hsrc (by unfold maxLen; omega) (by omega) ?_; intro A3 c3 w3 h3)
      have hc3 : Grew w1 w3 := h3.grew (hg.alloc _) fun ad e => (Own.blk_lt hB ad e).1
      have ho3 := h3.oe
      rw [← hKt.out] at ho3
      clear h3 hsrc hown hcx
      go_roundw
      case rel => exact ⟨k + 1, by omega, by go_num, A3, c3, by simp, by simpa using ho3, hc3⟩
      case measure => simp [intOf]; omega
    · obtain rfl : k = kn := by omega
      rw [List.take_of_length_le (by omega)] at hB
      go_wp2
      go_ret
      exact ⟨B, cb, by simp, hB.mono hsz, hG.trans hg⟩
end
end Go.Proofs.Ytepncgeaehjhiaa

namespace Go.Proofs.Ytepncgeaehjhiaa
open Go.RowKit

section
variable {S : Nat → Prop} {w w' : World} {s d m : Nat} {Ob : List OEnt} {E : List FEnt} {clock : Nat} {armed : Bool} {left kp : Int} {n : Nat}
theorem stay_all (l : Nat) (kp : Int) : stayN l l kp = l := by
  unfold stayN
  split
  · rw [Nat.sub_self, Nat.zero_add, Nat.mod_one]
    rfl
  · rfl
theorem cut_view {f : FEnt} (h : f.sy = f.l.length) (kp : Int) : (cutE kp f).view = f.view := by
  unfold cutE FEnt.view
  simp only [h, stay_all, List.take_length]
theorem Stor.cut (h : Stor S w s d m Ob E clock armed left kp n) (keep : Int) : (E.map (cutE keep)).map FEnt.view = Ob.map OEnt.view := by
  rw [← h.vw, List.map_map]
  apply List.map_congr_left
  intro f hf
  refine cut_view ?_ keep
  obtain ⟨i, hi⟩ := List.getElem?_of_mem hf
  have h1 : (Ob.map OEnt.view)[i]? = some f.view := by rw [← h.vw]; simp [hi]
  rw [List.getElem?_map] at h1
  cases ho : Ob[i]? with
  | none => rw [ho] at h1; cases h1
  | some o =>
    rw [ho] at h1
    injection h1 with h1
    injection h1 with h2 h3
    injection h3 with h3 h4
    rw [← h4, ← h3]

/-- what a put leaves at which the power went -/
def LeftF (T : Nat → Prop) (d m : Nat) (Ob : List OEnt) (kp : Int) (n : Nat) (x : ByteArray) (w' : World) : Prop :=
  ∃ (f : FEnt) (E1 : List FEnt) (clock' n' : Nat), f.nm = tN ++ x ∧ FS T w' d m (E1 ++ [f]) clock' false false 0 kp n' ∧ n' ≤ n + 3 ∧ E1.map FEnt.view = Ob.map OEnt.view

set_option maxRecDepth 100000 in
set_option maxHeartbeats 8000000 in
theorem put_cut (L : Nat) (h : Stor S w s d m Ob E clock true (L : Int) kp n) (hL : L ≤ 2) (hn3 : n ≤ 1000000000000000000) (hkp : kp ≤ 9223372036854775807) (hE : Ob.length < 1048576) (x : ByteArray) (hx : keyB x = true) (hg : genO Ob x + 1 < 18446744073709551616) (A : Option Addr) (k c : Nat) (data : List UInt8) (hr : RB w A k data) (hk : k ≤ 1048576) :
    Calls Try.prog 13 #[.pointer (some ⟨s, 0, none⟩), .string x, .slice A k c] w fun e w' => e = .returned (.tuple #[.int .u64 0, .int .i64 60]) ∧ LeftF (Up S w) d m Ob kp n x w' ∧ Chg S w w' := by
  have hcut := h.cut kp
  have hmf : ∀ (fn : Fn) (first cp : Array Value) (w : World), (Instr.makeFunc fn first cp).run Try.prog w = .ok (.func fn first cp) w := fun _ _ _ _ => rfl
  have hM : ∀ w, Calls Try.prog 28 #[.string x, .slice A k c] w fun e w' => e = .returned (.int .i64 0) ∧ w = w' := fun w => by
    have := may_any x A k c w
    unfold mayC at this
    rwa [hx, if_neg (by simp), if_neg (by omega)] at this
  have hR : ∃ er : Nat, (er = 0 ∨ er = 111) ∧ Calls Try.prog 29 #[.pointer (some ⟨s, 0, none⟩), .string x] w fun e w' => (∃ v, e = .returned (.tuple #[v, .int .u64 (genO Ob x : Int), .int .i64 (er : Int)])) ∧ Grew w w' := by
    unfold genO
    cases hl : lookO Ob x with
    | none => exact ⟨111, .inr rfl, (oread_none h x hx (look_not hl)).mono fun e w' ⟨h1, h2⟩ => ⟨⟨_, h1⟩, h2 ▸ Chg.refl _ _⟩⟩
    | some o =>
      obtain ⟨hok, i, hoi⟩ := look_here hl
      subst hok
      exact ⟨0, .inl rfl, (oread_ok h hoi).mono fun e w' ⟨A, c, h1, _, _, _, h2⟩ => ⟨⟨_, h1⟩, h2⟩⟩
  obtain ⟨er, her, hR⟩ := hR
  generalize hgo : genO Ob x = g at *
  have hsz := keyB_size hx
  go_enter Try.func13, Try.ntmps13
  go_wp2_with fail
  refine (hM _).mono ?_
  rintro e w1 ⟨rfl, rfl⟩
  go_wp2_with fail
  refine hR.mono ?_
  rintro e w1 ⟨⟨v, rfl⟩, hG1⟩
  clear hR hM
  obtain ⟨T, hT⟩ : ∃ T : Nat → Prop, T = fun k => S k ∧ k < w.heap.size := ⟨_, rfl⟩
  have h1 := h.tight
  rw [← hT] at h1
  have hTS : ∀ k, T k → S k := fun k e => by rw [hT] at e; exact e.1
  have hTl : ∀ k, T k → k < w.heap.size := fun k e => by rw [hT] at e; exact e.2
  clear hT
  have hs1 := hG1.size
  obtain ⟨W, hW, hgW, bp, bf, hzW⟩ := two_rows w1 #[.pointer (some ⟨s, 0, none⟩), .string x, .slice A k c, .int .u64 ((g : Int) + 1)]
    #[.func (.func 31) #[.pointer (some ⟨w1.heap.size, 0, none⟩)] #[], .func (.func 32) #[.pointer (some ⟨w1.heap.size, 0, none⟩)] #[], .func (.func 33) #[.pointer (some ⟨w1.heap.size, 0, none⟩)] #[], .func (.func 34) #[.pointer (some ⟨w1.heap.size, 0, none⟩)] #[]] 63 64
  have hGW := hG1.trans hgW
  have hh := h1.grew hGW
  have hrW := hr.grew hGW
  have f0 := bf.cell 0
  have hst := h.st.lt
  have hsn := h.sn
  have hnd := h1.ok
  have hpT : ¬ T w1.heap.size := fun e => by have := hTl _ e; omega
  have hsT : ¬ T s := fun e => hsn (hTS _ e)
  have hbT : ¬ T (w1.heap.size + 1) := fun e => by have := hTl _ e; omega
  have hClear := clear_none hh.fs.dsk w1.heap.size s x (.slice A k c) (.int .u64 ((g : Int) + 1)) bp hh.st (nm_t hx) (by omega) (find_no E 0 (hh.noT x))
  have hh := Lib.hid hh
  have hLayOk : 0 < L → Hid (∀ W2, Grew W W2 → Calls Try.prog 32 #[.pointer (some ⟨w1.heap.size, 0, none⟩)] W2 fun e w' => e = .returned (.int .i64 0) ∧ (∃ f : FEnt, f.nm = tN ++ x ∧ f.l = hdr (g + 1) ++ data ∧ FS (Up T W) w' d m (E ++ [f]) (clock + 1) true true ((L : Int) - 1) kp (n + 1)) ∧ Chg T W2 w') := by
    intro hL0 W2 hg2
    have hz2 := hg2.size
    refine lay_step w1.heap.size s x A k c data (g + 1) (bp.grew hg2) (hh.out.st.grew hg2) (by omega) (hrW.grew hg2) hk hg hpT hsT fun B cap w3 hg3 hr3 hb3 => ?_
    have hz3 := hg3.size
    have hdl : d < w.heap.size := hTl _ hh.out.fs.dsk.od
    have hhl := hdr_length hg
    refine (fs_append_new ((hh.out.fs.grew hg2).grew hg3) ⟨fun _ => by omega, by omega, by omega⟩ (tN ++ x) (nm_t hx) (hh.out.noT x) (by rw [hh.out.len]; exact hE) B _ cap _ hr3 (by omega) fun ad e _ => by have := hb3 ad e; omega).mono ?_
    rintro e w4 ⟨rfl, f, e1, e2, _, hF, hc4⟩
    exact ⟨rfl, ⟨f, e1, e2, hF.mono fun j hj => hj.elim .inl fun hj => .inr (by omega)⟩, hc4⟩
  have hLayCut : L = 0 → Hid (∀ W2, Grew W W2 → Calls Try.prog 32 #[.pointer (some ⟨w1.heap.size, 0, none⟩)] W2 fun e w' => e = .returned (.int .i64 60) ∧ LeftF (Up T W) d m Ob kp n x w' ∧ Chg T W2 w') := by
    intro hL0 W2 hg2
    subst hL0
    have hz2 := hg2.size
    refine lay_step w1.heap.size s x A k c data (g + 1) (bp.grew hg2) (hh.out.st.grew hg2) (by omega) (hrW.grew hg2) hk hg hpT hsT fun B cap w3 hg3 hr3 hb3 => ?_
    have hz3 := hg3.size
    have hdl : d < w.heap.size := hTl _ hh.out.fs.dsk.od
    have hhl := hdr_length hg
    refine (fs_append_cut ((hh.out.fs.grew hg2).grew hg3) (by omega) hkp (tN ++ x) (nm_t hx) (hh.out.noT x) (by rw [hh.out.len]; exact hE) B _ cap _ hr3 (by omega) fun ad e _ => by have := hb3 ad e; omega).mono ?_
    rintro e w4 ⟨rfl, f, e1, hF, hc4⟩
    rw [List.map_append] at hF
    exact ⟨rfl, ⟨cutE kp f, _, _, _, e1, hF.mono fun j hj => hj.elim .inl fun hj => .inr (by omega), by omega, hcut⟩, hc4⟩
  have hUs : ¬ Up T W s := Up.old hh.out.st.lt hsT
  have hUp : ¬ Up T W w1.heap.size := Up.old bp.lt hpT
  have hUb : ¬ Up T W (w1.heap.size + 1) := Up.old bf.lt hbT
  have hSyncOk : 1 < L → Hid (∀ W4 (f : FEnt), Blk W4 w1.heap.size 63 #[.pointer (some ⟨s, 0, none⟩), .string x, .slice A k c, .int .u64 ((g : Int) + 1)] → Blk W4 s 56 #[.pointer (some ⟨d, 0, none⟩)] → f.nm = tN ++ x → FS (Up T W) W4 d m (E ++ [f]) (clock + 1) true true ((L : Int) - 1) kp (n + 1) →
      Calls Try.prog 33 #[.pointer (some ⟨w1.heap.size, 0, none⟩)] W4 fun e w' => e = .returned (.int .i64 0) ∧ FS (Up T W) w' d m (E ++ [{ f with sy := f.l.length }]) (clock + 1) true true ((L : Int) - 1 - 1) kp (n + 1 + 1) ∧ Chg (Up T W) W4 w') := by
    intro hL0 W4 f hb hs hn hF
    have hi : (E ++ [f])[E.length]? = some f := by simp
    have := fs_sync (hF.grew (Chg.refl _ W4).drew) ⟨fun _ => by omega, by omega, by omega⟩ hi (hn ▸ nm_t hx)
    rw [List.set_append_right _ _ (Nat.le_refl _), Nat.sub_self] at this
    simp only [List.set_cons_zero] at this
    exact sync_step w1.heap.size s x (.slice A k c) (.int .u64 ((g : Int) + 1)) hb hs (by omega) (R := fun _ w' => FS (Up T W) w' d m (E ++ [{ f with sy := f.l.length }]) (clock + 1) true true ((L : Int) - 1 - 1) kp (n + 1 + 1)) hUp hUs (by rw [show ((⟨#[116, 47]⟩ : ByteArray) ++ x) = f.nm from hn.symm]; exact this)
  have hSyncCut : L = 1 → Hid (∀ W4 (f : FEnt), Blk W4 w1.heap.size 63 #[.pointer (some ⟨s, 0, none⟩), .string x, .slice A k c, .int .u64 ((g : Int) + 1)] → Blk W4 s 56 #[.pointer (some ⟨d, 0, none⟩)] → f.nm = tN ++ x → FS (Up T W) W4 d m (E ++ [f]) (clock + 1) true true ((L : Int) - 1) kp (n + 1) →
      Calls Try.prog 33 #[.pointer (some ⟨w1.heap.size, 0, none⟩)] W4 fun e w' => e = .returned (.int .i64 60) ∧ LeftF (Up T W) d m Ob kp n x w' ∧ Chg (Up T W) W4 w') := by
    intro hL0 W4 f hb hs hn hF
    subst hL0
    have hi : (E ++ [f])[E.length]? = some f := by simp
    have : Calls Try.prog 51 #[.pointer (some ⟨d, 0, none⟩), .string f.nm] W4.drew fun e w' => e = .returned (.int .i64 60) ∧ LeftF (Up T W) d m Ob kp n x w' ∧ Chg (Up T W) W4.drew w' := (fs_sync_cut (hF.grew (Chg.refl _ W4).drew) (by omega) hkp hi (hn ▸ nm_t hx)).mono fun e w' ⟨e1, e2, e3⟩ => ⟨e1, ⟨cutE kp f, _, _, _, hn, by rw [List.map_append] at e2; exact e2, by omega, hcut⟩, e3⟩
    exact sync_step w1.heap.size s x (.slice A k c) (.int .u64 ((g : Int) + 1)) hb hs (by omega) (R := fun _ w' => LeftF (Up T W) d m Ob kp n x w') hUp hUs (by rw [show ((⟨#[116, 47]⟩ : ByteArray) ++ x) = f.nm from hn.symm]; exact this)
  have hRenCut : L = 2 → Hid (∀ W5 (f : FEnt), Blk W5 w1.heap.size 63 #[.pointer (some ⟨s, 0, none⟩), .string x, .slice A k c, .int .u64 ((g : Int) + 1)] → Blk W5 s 56 #[.pointer (some ⟨d, 0, none⟩)] → f.nm = tN ++ x → FS (Up T W) W5 d m (E ++ [f]) (clock + 1) true true ((L : Int) - 1 - 1) kp (n + 1 + 1) →
      Calls Try.prog 34 #[.pointer (some ⟨w1.heap.size, 0, none⟩)] W5 fun e w' => e = .returned (.int .i64 60) ∧ LeftF (Up T W) d m Ob kp n x w' ∧ Chg (Up T W) W5 w') := by
    intro hL0 W5 f hb hs hn hF
    subst hL0
    have hi : (E ++ [f])[E.length]? = some f := by simp
    have : Calls Try.prog 52 #[.pointer (some ⟨d, 0, none⟩), .string f.nm, .string (oN ++ x)] W5.drew fun e w' => e = .returned (.int .i64 60) ∧ LeftF (Up T W) d m Ob kp n x w' ∧ Chg (Up T W) W5.drew w' := (fs_rename_cut (hF.grew (Chg.refl _ W5).drew) (by omega) hkp hi (hn ▸ nm_t hx) (oN ++ x) (nm_o hx)).mono fun e w' ⟨e1, e2, e3⟩ => ⟨e1, ⟨cutE kp f, _, _, _, hn, by rw [List.map_append] at e2; exact e2, by omega, hcut⟩, e3⟩
    rw [hn] at this
    exact rename_step w1.heap.size s x (.slice A k c) (.int .u64 ((g : Int) + 1)) hb hs (by omega) (R := fun _ w' => LeftF (Up T W) d m Ob kp n x w') hUp hUs this
  have hS0 := Lib.hid hh.out.st
  clear hh h1 h hnd hx hcut
  have hSw : Hid (∀ k, Up T W k → Up S w k) := fun k e => e.elim (fun e => .inl (hTS k e)) fun e => .inr (by have := hGW.size; omega)
  have hOut : Hid (∀ w', LeftF (Up T W) d m Ob kp n x w' → LeftF (Up S w) d m Ob kp n x w') := by
    rintro w' ⟨f, E1, c1, n1, e1, e2, e3, e4⟩
    exact ⟨f, E1, c1, n1, e1, e2.mono hSw.out, e3, e4⟩
  have hGWs := hGW.size
  rcases her with rfl | rfl
  all_goals
    go_wp2_with fail
    rw [← hW]
    clear hW
    refine wp_loop_rounds 5 ?_
    rw [rounds_succ]
    go_wp2_with fail
    refine hClear.mono ?_
    rintro e W2 ⟨rfl, hG2⟩
    have f1 := (bf.grew hG2).cell 1
    have hg2s := hG2.size
    clear f0
    go_wp2_with fail
    rw [rounds_succ]
    go_wp2_with fail
    by_cases hL0 : L = 0
    · refine ((hLayCut hL0).out W2 hG2).mono ?_
      rintro e W4 ⟨rfl, hF4, hc4⟩
      go_wp2
      go_ret2
      exact ⟨by simp, hOut.out _ hF4, (Chg.of_grew (hGW.trans hG2)).step hc4 fun k hk e => hTS k e⟩
    refine ((hLayOk (by omega)).out W2 hG2).mono ?_
    rintro e W4 ⟨rfl, ⟨f, hfn, hfl, hF4⟩, hc4⟩
    have hF4 := Lib.hid hF4
    have b4 := (bf.grew hG2).chg hc4 hbT
    have p4 := (bp.grew hG2).chg hc4 hpT
    have s4 := (hS0.out.grew hG2).chg hc4 hsT
    have f2 := b4.cell 2
    clear f1
    go_wp2_with fail
    rw [rounds_succ]
    go_wp2_with fail
    by_cases hL1 : L = 1
    · refine ((hSyncCut hL1).out W4 f p4 s4 hfn hF4.out).mono ?_
      rintro e W5 ⟨rfl, hF5, hc5⟩
      go_wp2
      go_ret2
      exact ⟨by simp, hOut.out _ hF5, (Chg.of_grew (hGW.trans hG2)).step ((hc4.mono (S' := Up T W) fun _ _ e => .inl e).trans hc5) fun k hk e => e.elim (hTS k) fun e => by omega⟩
    refine ((hSyncOk (by omega)).out W4 f p4 s4 hfn hF4.out).mono ?_
    rintro e W5 ⟨rfl, hF5, hc5⟩
    have hF5 := Lib.hid hF5
    have b5 := b4.chg hc5 hUb
    have p5 := p4.chg hc5 hUp
    have s5 := s4.chg hc5 hUs
    have f3 := b5.cell 3
    clear f2
    go_wp2_with fail
    rw [rounds_succ]
    go_wp2_with fail
    refine ((hRenCut (by omega)).out W5 { f with sy := f.l.length } p5 s5 hfn hF5.out).mono ?_
    rintro e W6 ⟨rfl, hF6, hc6⟩
    go_wp2
    go_ret2
    exact ⟨by simp, hOut.out _ hF6, (Chg.of_grew (hGW.trans hG2)).step ((hc4.mono (S' := Up T W) fun _ _ e => .inl e).trans (hc5.trans hc6)) fun k hk e => e.elim (hTS k) fun e => by omega⟩
end
end Go.Proofs.Ytepncgeaehjhiaa
