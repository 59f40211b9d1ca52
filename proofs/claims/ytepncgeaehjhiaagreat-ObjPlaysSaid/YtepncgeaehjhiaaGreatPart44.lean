/-
  Several texts in one:
  A store's calls that take nothing: keys that may not be, slices outside, the power off; a put that names a generation, whatever the put; a disk armed. Conditions: none of note.
  Open of a disk with no unfinished object, or with one. Conditions: counts that have not come to their ends.
  Two stores side by side: the program's and the document's; each call answered alike. Conditions: counts far from their ends.
-/
import Derived.Test.YtepncgeaehjhiaaGreatPart42
import Derived.Test.YtepncgeaehjhiaaGreatPart40
import Derived.Test.YtepncgeaehjhiaaGreatPart43
import Derived.Test.YtepncgeaehjhiaaGreatPart34

namespace Go.Proofs.YtepncgeaehjhiaaGreat
open Go.RowKit

section
variable {S : Nat → Prop} {w w' : World} {s d m : Nat} {Ob : List OEnt} {E : List FEnt} {clock : Nat} {armed : Bool} {left kp : Int} {n : Nat}

set_option maxHeartbeats 2000000 in
theorem slice_out (h : Stor S w s d m Ob E clock armed left kp n) (x : ByteArray) (hx : keyB x = true) {o : OEnt} (hl : lookO Ob x = some o) (a b : Int) (hab : sliceB a b o.data.length = false) :
    Calls Tryz.prog 25 #[.pointer (some ⟨s, 0, none⟩), .string x, .int .i64 a, .int .i64 b] w fun e w' => e = .returned (.tuple #[.slice none 0 0, .int .i64 113]) ∧ Grew w w' := by
  have hR := get_any h x hx
  rw [hl] at hR
  unfold ReadTo at hR
  simp only at hR
  clear h hx
  unfold sliceB at hab
  go_enter Tryz.func25, Tryz.ntmps25
  go_wp2_with fail
  refine hR.mono ?_
  rintro e w1 ⟨A, c, rfl, hr, hcap, hbk, hG⟩
  have hr := Lib.hid hr
  have hcap := Lib.hid hcap
  clear hR
  by_cases h1 : a < 0
  · have e1 : decide (a < 0) = true := decide_eq_true h1
    clear hab
    go_wp2
    go_ret2
    exact ⟨by simp, hG⟩
  · have e1 : decide (a < 0) = false := decide_eq_false h1
    by_cases h2 : b < a
    · have e2 : decide (b < a) = true := decide_eq_true h2
      clear hab
      go_wp2
      go_ret2
      exact ⟨by simp, hG⟩
    · have e2 : decide (b < a) = false := decide_eq_false h2
      have h3 : (o.data.length : Int) < b := by
        simp only [Bool.and_eq_false_iff, decide_eq_false_iff_not] at hab
        omega
      have e3 : decide ((o.data.length : Int) < b) = true := decide_eq_true h3
      clear hab
      go_wp2
      go_ret2
      exact ⟨by simp, hG⟩
set_option maxHeartbeats 2000000 in
theorem slice_none (h : Stor S w s d m Ob E clock armed left kp n) (x : ByteArray) (hx : keyB x = true) (hl : lookO Ob x = none) (a b : Int) :
    Calls Tryz.prog 25 #[.pointer (some ⟨s, 0, none⟩), .string x, .int .i64 a, .int .i64 b] w fun e w' => e = .returned (.tuple #[.slice none 0 0, .int .i64 111]) ∧ w = w' := by
  have hR := get_any h x hx
  rw [hl] at hR
  unfold ReadTo at hR
  simp only at hR
  clear h hx
  go_enter Tryz.func25, Tryz.ntmps25
  go_wp2_with fail
  refine hR.mono ?_
  rintro e w1 ⟨rfl, rfl⟩
  go_wp2
  go_ret2
  exact ⟨by simp, rfl⟩
set_option maxHeartbeats 2000000 in
theorem slice_no (x : ByteArray) (hx : keyB x = false) (v : Value) (a b : Int) (w : World) :
    Calls Tryz.prog 25 #[v, .string x, .int .i64 a, .int .i64 b] w fun e w' => e = .returned (.tuple #[.slice none 0 0, .int .i64 110]) ∧ w = w' := by
  have hR := get_no x hx v w
  go_enter Tryz.func25, Tryz.ntmps25
  go_wp2_with fail
  refine hR.mono ?_
  rintro e w1 ⟨rfl, rfl⟩
  go_wp2
  go_ret2
  exact ⟨by simp, rfl⟩
set_option maxHeartbeats 2000000 in
theorem odelete_no (x : ByteArray) (hx : keyB x = false) (v : Value) (w : World) :
    Calls Tryz.prog 29 #[v, .string x] w fun e w' => e = .returned (.int .i64 110) ∧ w = w' := by
  have hR := get_no x hx v w
  go_enter Tryz.func29, Tryz.ntmps29
  go_wp2_with fail
  refine hR.mono ?_
  rintro e w1 ⟨rfl, rfl⟩
  go_wp2
  go_ret
  exact ⟨by simp, rfl⟩
set_option maxHeartbeats 2000000 in
theorem putIf_bad (x : ByteArray) (A : Option Addr) (k c : Nat) (hm : 0 < mayC x k) (v g : Value) (w : World) :
    Calls Tryz.prog 22 #[v, .string x, .slice A k c, g] w fun e w' => e = .returned (.tuple #[.int .u64 0, .int .i64 (mayC x k : Int)]) ∧ w = w' := by
  have hM := may_any x A k c
  have h0 : ((mayC x k : Int) != 0) = true := by simp; omega
  generalize mayC x k = z at *
  go_enter Tryz.func22, Tryz.ntmps22
  go_wp2_with fail
  refine (hM _).mono ?_
  rintro e w1 ⟨rfl, rfl⟩
  go_wp2
  go_ret2
  exact ⟨by simp, rfl⟩
set_option maxHeartbeats 2000000 in
theorem putIf_yes {Q : World → World → Prop} {r0 r1 : Value} (h : Stor S w s d m Ob E clock armed left kp n) (x : ByteArray) (hx : keyB x = true) (A : Option Addr) (k c : Nat) (hk : k ≤ 1048576)
    (hP : ∀ w1, Grew w w1 → Calls Tryz.prog 20 #[.pointer (some ⟨s, 0, none⟩), .string x, .slice A k c] w1 fun e w' => e = .returned (.tuple #[r0, r1]) ∧ Q w1 w') :
    Calls Tryz.prog 22 #[.pointer (some ⟨s, 0, none⟩), .string x, .slice A k c, .int .u64 (genO Ob x : Int)] w fun e w' => e = .returned (.tuple #[r0, r1]) ∧ ∃ w1, Grew w w1 ∧ Q w1 w' := by
  have hM := may_ok hx A c hk
  obtain ⟨er, her, hR⟩ := gen_read h x hx
  have hP := Lib.hid hP
  generalize genO Ob x = g0 at *
  have he : ((g0 : Int) != (g0 : Int)) = false := by simp
  clear h
  go_enter Tryz.func22, Tryz.ntmps22
  go_wp2_with fail
  refine (hM _).mono ?_
  rintro e w1 ⟨rfl, rfl⟩
  go_wp2_with fail
  refine hR.mono ?_
  rintro e w1 ⟨⟨v, rfl⟩, hG1⟩
  rcases her with rfl | rfl
  all_goals
    go_wp2_with fail
    refine (hP.out _ hG1).mono ?_
    rintro e w2 ⟨rfl, hQ⟩
    have hQ := Lib.hid hQ
    go_wp2
    go_ret2
    exact ⟨by simp, w1, hG1, hQ.out⟩

set_option maxHeartbeats 2000000 in
theorem get_off {E : List FEnt} (h : FS S w d m E clock false armed left kp n) (hst : Blk w s 51 #[.pointer (some ⟨d, 0, none⟩)]) (x : ByteArray) (hx : keyB x = true) :
    Calls Tryz.prog 33 #[.pointer (some ⟨s, 0, none⟩), .string x] w fun e w' => e = .returned (.tuple #[.slice none 0 0, .int .u64 0, .int .i64 60]) ∧ w = w' := by
  have hN : ∀ w, Calls Tryz.prog 64 #[.string x] w fun e w' => e = .returned (.bool true) ∧ w = w' := fun w => by
    have := named_any x w
    rwa [hx] at this
  have hsz := keyB_size hx
  have hR : Calls Tryz.prog 51 #[.pointer (some ⟨s, 0, none⟩), .string x] w fun e w' => e = .returned (.tuple #[.slice none 0 0, .int .u64 0, .int .i64 60]) ∧ w = w' := by
    have hR := read_off h.dsk (oN ++ x)
    have s0 : w.cell? ⟨s, 0, none⟩ = some (.pointer (some ⟨d, 0, none⟩)) := hst.cell 0
    unfold oN at hR
    clear hx h hst hN
    go_enter Tryz.func51, Tryz.ntmps51
    go_wp2_with fail
    refine hR.mono ?_
    rintro e w1 ⟨rfl, rfl⟩
    go_wp2
    go_ret3
    exact ⟨by simp, rfl⟩
  clear h hx hst
  go_enter Tryz.func33, Tryz.ntmps33
  go_wp2_with fail
  refine (hN _).mono ?_
  rintro e w1 ⟨rfl, rfl⟩
  go_wp2_with fail
  refine hR.mono ?_
  rintro e w1 ⟨rfl, rfl⟩
  go_wp2
  go_ret3
  exact ⟨by simp, rfl⟩
set_option maxHeartbeats 2000000 in
theorem olist_off {E : List FEnt} (h : FS S w d m E clock false armed left kp n) (hst : Blk w s 51 #[.pointer (some ⟨d, 0, none⟩)]) :
    Calls Tryz.prog 36 #[.pointer (some ⟨s, 0, none⟩), .string ⟨#[]⟩] w fun e w' => e = .returned (.slice none 0 0) ∧ w = w' := by
  have hL := list_off h.dsk ((⟨#[111, 47]⟩ : ByteArray) ++ (⟨#[]⟩ : ByteArray))
  have s0 : w.cell? ⟨s, 0, none⟩ = some (.pointer (some ⟨d, 0, none⟩)) := hst.cell 0
  clear h hst
  go_enter Tryz.func36, Tryz.ntmps36
  go_wp2_with fail
  refine hL.mono ?_
  rintro e w1 ⟨rfl, rfl⟩
  go_wp2
  refine wp_loop_rounds 1 ?_
  rw [rounds_succ]
  go_wp2
  go_ret
  exact ⟨by simp, rfl⟩
end

set_option maxHeartbeats 1000000 in
theorem arm_int {O : Nat → Prop} {w : World} {d m : Nat} {es : Array MapEntry} {clock : Nat} {up armed : Bool} {left keep : Int} {n : Nat} (hD : Dsk O w d m es clock up armed left keep n) (k kp : Int) :
    Calls Tryz.prog 31 #[.pointer (some ⟨d, 0, none⟩), .int .i64 k, .int .i64 kp] w fun e w' => e = .returned (.tuple #[]) ∧ Dsk O w' d m es clock up (decide (0 ≤ k)) k kp n ∧ Chg (fun k => k = d) w w' := by
  have c2 := hD.c2
  have c3 := hD.c3
  have c4 := hD.c4
  have f2 : w.frozen? ⟨d, 2, none⟩ = false := hD.hd.frozen 2
  have f3 : w.frozen? ⟨d, 3, none⟩ = false := hD.hd.frozen 3
  have f4 : w.frozen? ⟨d, 4, none⟩ = false := hD.hd.frozen 4
  generalize hb : decide (0 ≤ k) = b
  go_enter Tryz.func31, Tryz.ntmps31
  go_wp2
  go_end0
  have hc : Chg (fun j => j = d) w (((w.setCell ⟨d, 2, none⟩ (.bool b)).setCell ⟨d, 3, none⟩ (.int .i64 k)).setCell ⟨d, 4, none⟩ (.int .i64 kp)) :=
    Chg.setCell (S := fun j => j = d) (Chg.setCell (S := fun j => j = d) (Chg.setCell (S := fun j => j = d) (Chg.refl _ w) (p := ⟨d, 2, none⟩) (.inr rfl) _) (p := ⟨d, 3, none⟩) (.inr rfl) _) (p := ⟨d, 4, none⟩) (.inr rfl) _
  exact ⟨rfl, ⟨Blk.set (Blk.set (Blk.set hD.hd 2 (.bool b)) 3 (.int .i64 k)) 4 (.int .i64 kp), hD.hm.chg hc (hD.hm.ne_blk hD.hd), hD.od, hD.om⟩, hc⟩
end Go.Proofs.YtepncgeaehjhiaaGreat

namespace Go.Proofs.YtepncgeaehjhiaaGreat
open Go.RowKit

section
variable {S : Nat → Prop} {w w' : World} {s d m : Nat} {Ob : List OEnt} {E : List FEnt} {clock : Nat} {armed : Bool} {left kp : Int} {n : Nat}
theorem begun_o {E1 : List FEnt} (h : E1.map FEnt.view = Ob.map OEnt.view) : begun E1 tN = [] := by
  unfold begun
  rw [List.map_eq_nil_iff, List.filter_eq_nil_iff]
  intro f hf
  have : f.view ∈ Ob.map OEnt.view := by
    rw [← h]
    exact List.mem_map_of_mem hf
  obtain ⟨o, _, he⟩ := List.mem_map.1 this
  injection he with h1 _
  rw [← h1, lst_append]
  show ¬ Lib.hasPrefix (111 :: 47 :: lst o.key) [116, 47] = true
  unfold Lib.hasPrefix
  simp [List.isPrefixOf]
theorem sortT_one (x : ByteArray) : sortT [x] = [x] := by simp [sortT]
theorem begun_append (E1 F : List FEnt) (p : ByteArray) : begun (E1 ++ F) p = begun E1 p ++ begun F p := by
  unfold begun
  rw [List.filter_append, List.map_append]
set_option maxHeartbeats 2000000 in
theorem open_one (h : FS S w d m E clock true false left kp n) (hc : Cnt false left n) (hE : E.length ≤ 1048576) {x : ByteArray} (hno : begun E tN = [tN ++ x]) {i : Nat} {f : FEnt} (hi : E[i]? = some f) (hf : f.nm = tN ++ x) (hx : keyB x = true) :
    Calls Tryz.prog 5 #[.pointer (some ⟨d, 0, none⟩)] w fun e w' => ∃ s, e = .returned (.tuple #[.pointer (some ⟨s, 0, none⟩), .int .i64 0]) ∧ Blk w' s 51 #[.pointer (some ⟨d, 0, none⟩)] ∧ w.heap.size ≤ s ∧ FS S w' d m (E.eraseIdx i) clock true false (dcl left) kp (n + 1) ∧ Chg S w w' := by
  have hL := fs_list h hE tN
  have hU := up_any h.dsk
  rw [hno, sortT_one] at hL
  have hDel : Hid (∀ w1, Grew w w1 → Calls Tryz.prog 15 #[.pointer (some ⟨d, 0, none⟩), .string (tN ++ x)] w1 fun e w' => e = .returned (.int .i64 0) ∧ FS S w' d m (E.eraseIdx i) clock true false (dcl left) kp (n + 1) ∧ Chg S w1 w') := by
    intro w1 hg
    have := fs_delete (h.grew hg) hc hi (hf ▸ nm_t hx)
    rwa [hf] at this
  unfold tN at hL hDel
  simp only [List.length_cons, List.length_nil, Nat.zero_add] at hL
  generalize ((⟨#[116, 47]⟩ : ByteArray) ++ x) = y at *
  clear h hno
  go_enter Tryz.func5, Tryz.ntmps5
  go_wp2_with fail
  refine hU.mono ?_
  rintro e w1 ⟨rfl, rfl⟩
  go_wp2_with fail
  refine hL.mono ?_
  rintro e w1 ⟨A, c, rfl, hO, hG⟩
  obtain ⟨ad, y', rfl, hy, hcy⟩ := (hO.re (by decide)).at_ (k := 0) (by omega) (by decide)
  have hcy := hcy 0 _ rfl
  simp only [List.getElem?_cons_zero, Option.some.injEq] at hy
  subst hy
  simp only [Nat.zero_mul, Nat.add_zero] at hcy
  have z1 : ad.add 0 = ad := by unfold Addr.add; simp
  have hcy1 := hcy
  rw [z1] at hcy1
  clear hL z1
  go_wp2
  refine wp_loop_rounds 2 ?_
  rw [rounds_succ]
  go_wp2_with fail
  refine (hDel.out w1 hG).mono ?_
  rintro e w2 ⟨rfl, hF, hc2⟩
  have hF := Lib.hid hF
  go_wp2_with fail
  rw [rounds_succ]
  go_wp2
  go_ret2
  have hgs := hG.size
  have hcs := hc2.size
  exact ⟨w2.heap.size, by simp, Blk.new w2 _ _, by omega, hF.out.grew ((Chg.refl _ w2).alloc _), ((Chg.of_grew hG).trans hc2).alloc _⟩

end
end Go.Proofs.YtepncgeaehjhiaaGreat

namespace Go.Proofs.YtepncgeaehjhiaaGreat
open Go.RowKit

/-- what both states share -/
structure Com (B : Nat → Prop) (S R : Nat → Prop) (w : World) (d s wb sb : Nat) (Ob : List OEnt) (kp : Int) (n q : Nat) : Prop where
  Sb : ∀ k, S k → B k
  Rb : ∀ k, R k → B k
  Sl : ∀ k, S k → k < w.heap.size
  Rl : ∀ k, R k → k < w.heap.size
  ap : ∀ k, S k → ¬ R k
  sS : ¬ S s
  sR : ¬ R s
  bS : ¬ S sb
  bR : ¬ R sb
  st : Blk w s 51 #[.pointer (some ⟨d, 0, none⟩)]
  rt : Blk w sb 53 #[.pointer (some ⟨wb, 0, none⟩)]
  kl : kp ≤ 9223372036854775807
  nq : n ≤ q
  gen : ∀ o ∈ Ob, o.gen ≤ q
  ok : ∀ o ∈ Ob, o.Ok
  nd : (Ob.map OEnt.key).Nodup
def Rng (z : Int) : Prop := -9223372036854775808 ≤ z ∧ z ≤ 9223372036854775807
structure UpS (S R : Nat → Prop) (w : World) (d s wb sb : Nat) (Ob : List OEnt) (kp : Int) (n : Nat) (armed : Bool) (left leftR : Int) : Prop where
  ps : ∃ m E clock, Stor S w s d m Ob E clock armed left kp n
  rs : ∃ V, RSt R w sb wb Ob armed leftR kp n V
  eq : armed = true → leftR = left ∧ 0 ≤ left
  l1 : Rng left
  l2 : Rng leftR
  len : Ob.length ≤ 1048576
def PF (S : Nat → Prop) (w : World) (d : Nat) (Ob : List OEnt) (kp : Int) (n : Nat) (up : Bool) (t : Option ByteArray) : Prop := ∃ m E1 F clock left, FS S w d m (E1 ++ F) clock up false left kp n ∧ E1.map FEnt.view = Ob.map OEnt.view ∧ F.map FEnt.nm = t.toList.map (fun x => tN ++ x) ∧ Rng left
def RFm (R : Nat → Prop) (w : World) (wb : Nat) (Ob : List OEnt) (kp : Int) (n : Nat) (up : Bool) (t : Option ByteArray) : Prop := ∃ V left, RFD R w wb V (!up) false left kp n ∧ DownV V Ob t ∧ Rng left
structure DnS (S R : Nat → Prop) (w : World) (d wb : Nat) (Ob : List OEnt) (kp : Int) (n : Nat) (up : Bool) (t : Option ByteArray) : Prop where
  ps : PF S w d Ob kp n up t
  rs : RFm R w wb Ob kp n up t
  key : ∀ x, t = some x → keyB x = true
  len : Ob.length + t.toList.length ≤ 1048576
/-- both stores, as they stand -/
def Play (B : Nat → Prop) (w : World) (d s wb sb q : Nat) (up : Bool) : Prop :=
  ∃ S R Ob kp n, Com B S R w d s wb sb Ob kp n q ∧ (if up = true then ∃ armed left leftR, UpS S R w d s wb sb Ob kp n armed left leftR else ∃ t, DnS S R w d wb Ob kp n false t)

section
variable {B B' : Nat → Prop} {S R : Nat → Prop} {w w' : World} {d s wb sb : Nat} {Ob : List OEnt} {kp : Int} {n q : Nat} {armed up : Bool} {left leftR : Int} {t : Option ByteArray}
theorem Com.grew (h : Com B S R w d s wb sb Ob kp n q) (g : Grew w w') : Com B S R w' d s wb sb Ob kp n q :=
  ⟨h.Sb, h.Rb, fun k e => Nat.lt_of_lt_of_le (h.Sl k e) g.size, fun k e => Nat.lt_of_lt_of_le (h.Rl k e) g.size, h.ap, h.sS, h.sR, h.bS, h.bR, h.st.grew g, h.rt.grew g, h.kl, h.nq, h.gen, h.ok, h.nd⟩
theorem Com.more (h : Com B S R w d s wb sb Ob kp n q) {q' : Nat} (hq : q ≤ q') : Com B S R w d s wb sb Ob kp n q' :=
  ⟨h.Sb, h.Rb, h.Sl, h.Rl, h.ap, h.sS, h.sR, h.bS, h.bR, h.st, h.rt, h.kl, Nat.le_trans h.nq hq, fun o ho => Nat.le_trans (h.gen o ho) hq, h.ok, h.nd⟩
theorem UpS.grew (h : UpS S R w d s wb sb Ob kp n armed left leftR) (g : Grew w w') : UpS S R w' d s wb sb Ob kp n armed left leftR := by
  obtain ⟨⟨m, E, clock, h1⟩, ⟨V, h2⟩, h3, h4, h5, h6⟩ := h
  exact ⟨⟨m, E, clock, h1.grew g⟩, ⟨V, h2.grew g⟩, h3, h4, h5, h6⟩
theorem PF.grew (h : PF S w d Ob kp n up t) (g : Grew w w') : PF S w' d Ob kp n up t := by
  obtain ⟨m, E1, F, clock, left, h1, h2, h3, h4⟩ := h
  exact ⟨m, E1, F, clock, left, h1.grew g, h2, h3, h4⟩
theorem PF.chg {T : Nat → Prop} (h : PF S w d Ob kp n up t) (hc : Chg T w w') (hT : ∀ k, S k → ¬ T k) : PF S w' d Ob kp n up t := by
  obtain ⟨m, E1, F, clock, left, h1, h2, h3, h4⟩ := h
  exact ⟨m, E1, F, clock, left, h1.chg hc hT, h2, h3, h4⟩
theorem PF.tight (h : PF S w d Ob kp n up t) : PF (fun k => S k ∧ k < w.heap.size) w d Ob kp n up t := by
  obtain ⟨m, E1, F, clock, left, h1, h2, h3, h4⟩ := h
  exact ⟨m, E1, F, clock, left, h1.tight, h2, h3, h4⟩
theorem RFm.chg {T : Nat → Prop} (h : RFm R w wb Ob kp n up t) (hc : Chg T w w') (hT : ∀ k, R k → ¬ T k) : RFm R w' wb Ob kp n up t := by
  obtain ⟨V, left, h1, h2, h3⟩ := h
  exact ⟨V, left, h1.chg hc hT, h2, h3⟩
theorem RFm.grew (h : RFm R w wb Ob kp n up t) (g : Grew w w') : RFm R w' wb Ob kp n up t := h.chg g fun _ _ e => e
theorem RFm.lt (h : RFm R w wb Ob kp n up t) : ∀ k, R k → k < w.heap.size := by
  obtain ⟨V, left, h1, h2, h3⟩ := h
  exact h1.lt
theorem DnS.grew (h : DnS S R w d wb Ob kp n up t) (g : Grew w w') : DnS S R w' d wb Ob kp n up t := ⟨h.ps.grew g, h.rs.grew g, h.key, h.len⟩
theorem Play.grew (h : Play B w d s wb sb q up) (g : Grew w w') : Play B w' d s wb sb q up := by
  obtain ⟨S, R, Ob, kp, n, hc, h1⟩ := h
  refine ⟨S, R, Ob, kp, n, hc.grew g, ?_⟩
  split at h1
  · rename_i e
    rw [if_pos e]
    obtain ⟨a, l, l2, h2⟩ := h1
    exact ⟨a, l, l2, h2.grew g⟩
  · rename_i e
    rw [if_neg e]
    obtain ⟨t, h2⟩ := h1
    exact ⟨t, h2.grew g⟩
theorem Play.more (h : Play B w d s wb sb q up) {q' : Nat} (hq : q ≤ q') : Play B w d s wb sb q' up := by
  obtain ⟨S, R, Ob, kp, n, hc, h1⟩ := h
  exact ⟨S, R, Ob, kp, n, hc.more hq, h1⟩
/-- the program's call, then the document's: what is shared stands again -/
theorem Com.step {w1 w2 : World} {S' R' : Nat → Prop} {Ob' : List OEnt} {kp' : Int} {n' q' : Nat} (h : Com B S R w d s wb sb Ob kp n q) (hS : ∀ k, S' k → (S k ∨ w.heap.size ≤ k) ∧ k < w1.heap.size) (c1 : Chg S w w1) (g2 : Grew w1 w2) (hR : ∀ k, R' k → (R k ∨ w2.heap.size ≤ k) ∧ k < w'.heap.size) (c2 : Chg R w2 w')
    (kl : kp' ≤ 9223372036854775807) (nq : n' ≤ q') (gen : ∀ o ∈ Ob', o.gen ≤ q') (ok : ∀ o ∈ Ob', o.Ok) (nd : (Ob'.map OEnt.key).Nodup) (hb1 : ∀ k, B k → B' k) (hb : ∀ k, w.heap.size ≤ k → B' k) : Com B' S' R' w' d s wb sb Ob' kp' n' q' ∧ ∀ k, S' k → ¬ R k := by
  have z1 := c1.size
  have z2 := g2.size
  have z3 := c2.size
  have ls := h.st.lt
  have lr := h.rt.lt
  have aa : ∀ k, S' k → ¬ R k := fun k e1 e2 => by
    have := h.Rl k e2
    rcases (hS k e1).1 with e | e
    · exact h.ap k e e2
    · omega
  refine ⟨⟨fun k e => ?_, fun k e => ?_, fun k e => ?_, fun k e => (hR k e).2, fun k e1 e2 => ?_, fun e => ?_, fun e => ?_, fun e => ?_, fun e => ?_, ((h.st.chg c1 h.sS).grew g2).chg c2 h.sR, ((h.rt.chg c1 h.bS).grew g2).chg c2 h.bR, kl, nq, gen, ok, nd⟩, aa⟩
  · exact (hS k e).1.elim (fun e => hb1 k (h.Sb k e)) (hb k)
  · exact (hR k e).1.elim (fun e => hb1 k (h.Rb k e)) fun e => hb k (by omega)
  · have := (hS k e).2; omega
  · rcases (hR k e2).1 with e | e
    · exact aa k e1 e
    · have := (hS k e1).2; omega
  · exact (hS s e).1.elim h.sS (by omega)
  · exact (hR s e).1.elim h.sR (by omega)
  · exact (hS sb e).1.elim h.bS (by omega)
  · exact (hR sb e).1.elim h.bR (by omega)
/-- blocks of B that were there at w0, and those since w -/
def More (B : Nat → Prop) (w0 w : World) : Nat → Prop := fun k => (B k ∧ k < w0.heap.size) ∨ w.heap.size ≤ k
theorem Com.mono (h : Com B S R w d s wb sb Ob kp n q) (hb : ∀ k, B k → k < w.heap.size → B' k) : Com B' S R w d s wb sb Ob kp n q :=
  ⟨fun k e => hb k (h.Sb k e) (h.Sl k e), fun k e => hb k (h.Rb k e) (h.Rl k e), h.Sl, h.Rl, h.ap, h.sS, h.sR, h.bS, h.bR, h.st, h.rt, h.kl, h.nq, h.gen, h.ok, h.nd⟩
theorem Com.old (h : Com B S R w d s wb sb Ob kp n q) : Com (fun k => B k ∧ k < w.heap.size) S R w d s wb sb Ob kp n q := h.mono fun _ e1 e2 => ⟨e1, e2⟩
theorem Play.mono (h : Play B w d s wb sb q up) (hb : ∀ k, B k → k < w.heap.size → B' k) : Play B' w d s wb sb q up := by
  obtain ⟨S, R, Ob, kp, n, hc, h1⟩ := h
  exact ⟨S, R, Ob, kp, n, hc.mono hb, h1⟩
theorem Play.stay {w0 : World} (h : Play B w0 d s wb sb q up) (g : Grew w0 w') : Play (More B w0 w) w' d s wb sb (q + 3) up :=
  ((h.mono (B' := More B w0 w) fun _ e1 e2 => .inl ⟨e1, e2⟩).grew g).more (Nat.le_add_right _ _)
/-- a change outside both -/
theorem Play.chg {T : Nat → Prop} (h : Play B w d s wb sb q up) (hc : Chg T w w') (hT : ∀ k, B k → ¬ T k) (hs : ¬ T s) (hsb : ¬ T sb) : Play B w' d s wb sb q up := by
  obtain ⟨S, R, Ob, kp, n, h, h1⟩ := h
  have z := hc.size
  refine ⟨S, R, Ob, kp, n, ⟨h.Sb, h.Rb, fun k e => Nat.lt_of_lt_of_le (h.Sl k e) z, fun k e => Nat.lt_of_lt_of_le (h.Rl k e) z, h.ap, h.sS, h.sR, h.bS, h.bR, h.st.chg hc hs, h.rt.chg hc hsb, h.kl, h.nq, h.gen, h.ok, h.nd⟩, ?_⟩
  have hTS : ∀ k, S k → ¬ T k := fun k e => hT k (h.Sb k e)
  have hTR : ∀ k, R k → ¬ T k := fun k e => hT k (h.Rb k e)
  split at h1
  · rename_i e
    rw [if_pos e]
    obtain ⟨a, l, l2, ⟨m, E, clock, k1⟩, ⟨V, k2⟩, k3, k4, k5, k6⟩ := h1
    exact ⟨a, l, l2, ⟨m, E, clock, k1.chg hc hs hTS⟩, ⟨V, k2.chg hc hsb hTR⟩, k3, k4, k5, k6⟩
  · rename_i e
    rw [if_neg e]
    obtain ⟨t, h2⟩ := h1
    exact ⟨t, h2.ps.chg hc hTS, h2.rs.chg hc hTR, h2.key, h2.len⟩
theorem Play.lt (h : Play B w d s wb sb q up) : s < w.heap.size ∧ sb < w.heap.size := by
  obtain ⟨S, R, Ob, kp, n, h, h1⟩ := h
  exact ⟨h.st.lt, h.rt.lt⟩
/-- both up again -/
theorem play_up {w1 w2 : World} {Ob' : List OEnt} {n' q' : Nat} {armed' : Bool} {left' leftR' kp' : Int} (h : Com B S R w d s wb sb Ob kp n q) (hb1 : ∀ k, B k → B' k) (hb : ∀ k, w.heap.size ≤ k → B' k) {S1 : Nat → Prop} (hS1 : ∀ k, S1 k → S k ∨ w.heap.size ≤ k) (hS : ∃ m E clock, Stor S1 w1 s d m Ob' E clock armed' left' kp' n') (c1 : Chg S w w1) (g2 : Grew w1 w2) (hR : UpR R w2 sb wb Ob' armed' leftR' kp' n' w')
    (kl : kp' ≤ 9223372036854775807) (nq : n' ≤ q') (gen : ∀ o ∈ Ob', o.gen ≤ q') (eq : armed' = true → leftR' = left' ∧ 0 ≤ left') (l1 : Rng left') (l2 : Rng leftR') (len : Ob'.length ≤ 1048576) : Play B' w' d s wb sb q' true := by
  obtain ⟨m, E, clock, h1⟩ := hS
  obtain ⟨R', V', h2, h3, h4, h5⟩ := hR
  obtain ⟨hC, aa⟩ := h.step (fun k (e : S1 k ∧ k < w1.heap.size) => ⟨hS1 k e.1, e.2⟩) c1 g2 (fun k e => ⟨h4 k e, h2.rf.lt k e⟩) h5 kl nq gen h1.ok h1.nd hb1 hb
  refine ⟨_, R', Ob', kp', n', hC, ?_⟩
  rw [if_pos rfl]
  exact ⟨armed', left', leftR', ⟨m, E, clock, (h1.tight.grew g2).chg h5 h.sR aa⟩, ⟨V', h2⟩, eq, l1, l2, len⟩
/-- both down -/
theorem play_down {w1 w2 : World} {n' q' : Nat} {kp' : Int} {up' : Bool} (h : Com B S R w d s wb sb Ob kp n q) (hb1 : ∀ k, B k → B' k) (hb : ∀ k, w.heap.size ≤ k → B' k) {S1 : Nat → Prop} (hS1 : ∀ k, S1 k → S k ∨ w.heap.size ≤ k) (hS : PF S1 w1 d Ob kp' n' false t) (c1 : Chg S w w1) (g2 : Grew w1 w2) (hR : DownR R w2 wb Ob t kp' n' w')
    (kl : kp' ≤ 9223372036854775807) (nq : n' ≤ q') (hq : q ≤ q') (hk : ∀ x, t = some x → keyB x = true) (len : Ob.length + t.toList.length ≤ 1048576) (hu : up' = false) : Play B' w' d s wb sb q' up' := by
  obtain ⟨V', left', h2, l1, l2, R', h3, h4, h5, h6, _⟩ := hR
  obtain ⟨hC, aa⟩ := h.step (fun k (e : S1 k ∧ k < w1.heap.size) => ⟨hS1 k e.1, e.2⟩) c1 g2 (fun k e => ⟨h5 k e, h3.lt k e⟩) h6 kl nq (fun o ho => Nat.le_trans (h.gen o ho) hq) h.ok h.nd hb1 hb
  refine ⟨_, R', Ob, kp', n', hC, ?_⟩
  rw [hu, if_neg (by simp)]
  exact ⟨t, (hS.tight.grew g2).chg h6 aa, ⟨V', left', h3, h2, l1, l2⟩, hk, len⟩
end
end Go.Proofs.YtepncgeaehjhiaaGreat
