/-
  Several texts in one:
  The iterator over lists of series by their labels: what comes, and that a loop's body may do what it likes beside it. Conditions: lengths that memory bears.
-/
import Derived.Test.YtjgbdkokcgcpjaaDoorPart20
import Derived.RangeFuncCalls
import Derived.RangeFuncLeaves
import Derived.Shelf.Abstract
import Derived.OwnWalkIn
import Derived.TacticsInMore
import Derived.LoopNIn
import Derived.LoopIn
import Derived.Sort.LoopGhostIn

namespace Go.Proofs.YtjgbdkokcgcpjaaDoor
open Go.RowKit
attribute [local go_sem] Oper.semAt_some

/-- a list of series as it lies in a cell -/
structure Lst where
  a : Option Addr
  n : Nat
  c : Nat
  ss : List Ser
def elLs : El Lst := ⟨fun x => [.slice x.a x.n x.c], 1, fun _ => rfl, by
  intro x u hu
  simp only [List.mem_cons, List.not_mem_nil, or_false] at hu
  rcases hu with rfl
  rfl⟩
structure LsOk (w0 : World) (x : Lst) : Prop where
  rs : RS w0 x.a x.n x.ss
  cap : x.n ≤ x.c ∧ x.c ≤ 9223372036854775807
  vs : Vs x.ss
/-- a series that is told -/
abbrev SX (w0 : World) := { x : SerM × Ser // SrIs w0 x.1 x.2 }
def sersOf {w0 : World} (xs : List (SX w0)) : List Ser := xs.map (·.1.2)
theorem sersOf_snoc {w0 : World} (xs : List (SX w0)) (x : SX w0) : sersOf (xs ++ [x]) = sersOf xs ++ [x.1.2] := by simp [sersOf]
def encS {w0 : World} (x : SX w0) : Array Value := #[.agg #[.slice x.1.1.la x.1.1.ln x.1.1.lc, .slice x.1.1.pa x.1.1.pn x.1.1.pc]]
def sss (ls : List Lst) : List (List Ser) := ls.map Lst.ss
/-- what may come: no series twice -/
def AdmS (ls : List Lst) {w0 : World} (xs : List (SX w0)) : Prop := ∃ rest, (sersOf xs ++ rest).Perm (sss ls).flatten
def EndS (ls : List Lst) {w0 : World} (xs : List (SX w0)) : Prop := Mrg (sss ls) (addAll (sersOf xs)) ∧ (sersOf xs).Perm (sss ls).flatten
/-- what a body does -/
def KpS (lo : Nat) (W W' : World) : Prop := Chg (fun k => lo ≤ k ∧ ¬ HeapTy 0 W k) W W'
theorem KpS.trans {lo : Nat} {a b c : World} (h : KpS lo a b) (h' : KpS lo b c) : KpS lo a c := Chg.step h h' fun k hk ⟨h1, h2⟩ => ⟨h1, fun ⟨h3, cs, t, fr, e, ht⟩ => h2 (by
    refine ⟨h3, cs, t, fr, ?_, ht⟩
    rw [h.block k hk (fun ⟨_, h5⟩ => h5 ⟨h3, cs, t, fr, e, ht⟩)]
    exact e)⟩
theorem RE.ls {w : World} {A : Option Addr} {n : Nat} {l : List Lst} (h : RE elLs w A n l) {k : Nat} (hk : k < n) : ∃ ad x, A = some ad ∧ l[k]? = some x ∧ w.cell? (ad.add k) = some (.slice x.a x.n x.c) := by
  obtain ⟨ad, x, e, hx, hc⟩ := h.at_ hk (by decide)
  have := hc 0 _ rfl
  rw [show k * elLs.sz + 0 = k by show k * 1 + 0 = k; omega] at this
  exact ⟨ad, x, e, hx, this⟩
/-- the heap on the way, beside what the caller says of the world -/
structure On (w0 w : World) (base : Nat) (A : Option Addr) (n c : Nat) (l : List Cur) : Prop where
  hp : HpAt w0 w base base A n c l
  ord : IsH ltC l
  live : Live n l
  nd : (l.map Cur.g).Nodup
theorem HpAt.kp {w0 w w' : World} {base hb n c : Nat} {A : Option Addr} {l : List Cur} (h : HpAt w0 w base hb A n c l) (hc : KpS w0.heap.size w w') : HpAt w0 w' base hb A n c l :=
  have hrow : ∀ k, InH hb A k → HeapTy 0 w k := fun _k hk => ⟨Nat.zero_le _, (h.inTy hk).2⟩
  ⟨h.box.chg hc (fun e => e.2 (hrow _ (.inl rfl))), h.row.chg hc (fun ad e e2 => e2.2 (hrow _ (.inr ⟨ad, e, rfl⟩))), fun x hx => (h.cu x hx).chg hc (fun e => e.2 ⟨Nat.zero_le _, _, _, _, (h.cu x hx).blk, .inr (.inr rfl)⟩),
    h.far.step hc (fun _ _ hk => hk.1), h.lo, Nat.le_trans h.hi hc.size, h.blo⟩
theorem On.kp {w0 w w' : World} {base n c : Nat} {A : Option Addr} {l : List Cur} (h : On w0 w base A n c l) (hc : KpS w0.heap.size w w') : On w0 w' base A n c l := ⟨h.hp.kp hc, h.ord, h.live, h.nd⟩

theorem live_all {n : Nat} {l : List Cur} (h : Live n l) (hl : l.length = n) : ∀ x ∈ l, 0 < x.ln := fun x hx => by
  obtain ⟨i, hi, hx⟩ := List.getElem_of_mem hx
  exact h i x (by omega) (List.getElem?_eq_some_iff.2 ⟨hi, hx⟩)
theorem live_of {n : Nat} {l : List Cur} (h : ∀ x ∈ l, 0 < x.ln) : Live n l := fun _ x _ hx => h x (List.mem_of_getElem? hx)
theorem On.len {w0 w : World} {base n c : Nat} {A : Option Addr} {l : List Cur} (h : On w0 w base A n c l) : l.length = n := h.hp.row.len (by decide)
/-- one more cursor -/
theorem On.push {w0 w w1 w2 : World} {base n c n' c' : Nat} {A A' : Option Addr} {l l' : List Cur} {x : Cur} (h : On w0 w base A n c l) (hg : x.g = w.heap.size) (hx : 0 < x.ln) (hp : l'.Perm (x :: l)) (hH : IsH ltC l') (h2 : HpAt w0 w2 base base A' n' c' l') (_ : Grew w w1) : On w0 w2 base A' n' c' l' := by
  refine ⟨h2, hH, live_of fun y hy => ?_, ?_⟩
  · rcases List.mem_cons.1 (hp.subset hy) with rfl | hy
    · exact hx
    · exact live_all h.live h.len y hy
  · rw [(hp.map Cur.g).nodup_iff, List.map_cons, List.nodup_cons]
    refine ⟨fun hm => ?_, h.nd⟩
    obtain ⟨y, hy, e⟩ := List.mem_map.1 hm
    have := (h.hp.cu y hy).blk.lt
    omega
theorem full_snoc {ls : List Lst} {k : Nat} {x : Lst} (hx : ls[k]? = some x) : fullL (sss (ls.take (k + 1))) = if x.ss = [] then fullL (sss (ls.take k)) else fullL (sss (ls.take k)) ++ [x.ss] := by
  rw [take_snoc hx, sss, List.map_append]
  unfold fullL
  rw [List.filter_append]
  split
  · rename_i h
    simp [h, sss]
  · rename_i h
    have : (!x.ss.isEmpty) = true := by cases hh : x.ss <;> simp_all
    simp [this, sss]
theorem far_cell {w0 w : World} {ad : Addr} {u : Value} (hfar : Chg (fun k => w0.heap.size ≤ k) w0 w) (h : w0.cell? ad = some u) : w.cell? ad = some u := hfar.cell h (by have := World.block_lt_of_cell? w0 _ h; omega)
theorem isH_spent {x : Cur} {l : List Cur} {y : Cur} (h : IsH ltC (y :: l)) (hx : x.ss = []) : IsH ltC (x :: l) := by
  intro k a b hk ha hb
  by_cases h0 : (k - 1) / 2 = 0
  · rw [h0] at hb
    obtain rfl : x = b := by simpa using hb
    unfold ltC
    rw [hx]
    exact decide_eq_false (cmpLs_nil _)
  · obtain ⟨k', rfl⟩ : ∃ k', k = k' + 1 := ⟨k - 1, by omega⟩
    obtain ⟨p', hp'⟩ : ∃ p', (k' + 1 - 1) / 2 = p' + 1 := ⟨(k' + 1 - 1) / 2 - 1, by omega⟩
    rw [hp', List.getElem?_cons_succ] at hb
    rw [List.getElem?_cons_succ] at ha
    exact h (k' + 1) a b (by omega) (by rw [List.getElem?_cons_succ]; exact ha) (by rw [hp', List.getElem?_cons_succ]; exact hb)
/-- the head's cursor goes on by one -/
theorem HpAt.next {w0 w : World} {base n c : Nat} {A : Option Addr} {x : Cur} {l : List Cur} (h : HpAt w0 w base base A n c (x :: l)) (hnd : ((x :: l).map Cur.g).Nodup) (x' : Cur) (hg : x'.g = x.g) (hrs : RS w0 x'.la x'.ln x'.ss) (hcap : x'.ln ≤ x'.lc ∧ x'.lc ≤ 9223372036854775807) :
    HpAt w0 (w.setCell ⟨x.g, 0, none⟩ (.slice x'.la x'.ln x'.lc)) base base A n c (x' :: l) ∧ HCh base w (w.setCell ⟨x.g, 0, none⟩ (.slice x'.la x'.ln x'.lc)) := by
  have hx := h.cu x (by simp)
  have hch : Chg (fun k => k = x.g) w (w.setCell ⟨x.g, 0, none⟩ (.slice x'.la x'.ln x'.lc)) := Chg.one _ _ _ _
  have hbx : Blk (w.setCell ⟨x.g, 0, none⟩ (.slice x'.la x'.ln x'.lc)) x.g 80 #[.slice x'.la x'.ln x'.lc] := by simpa using hx.blk.set 0 (.slice x'.la x'.ln x'.lc)
  have hrow : OE elCu w base 78 A n c (x' :: l) := by
    have h0 := h.row
    unfold OE at h0 ⊢
    rw [flatCu] at h0 ⊢
    rw [List.map_cons] at h0 ⊢
    rw [hg]
    exact h0
  rw [List.map_cons, List.nodup_cons] at hnd
  refine ⟨⟨h.box.chg hch (fun e => Blk.tyne h.box hx.blk (by decide) e), hrow.chg hch (fun ad e e2 => Own.ne_blk h.row hx.blk (by decide) ad e e2), fun y hy => ?_, h.far.step hch (fun k _ hk => by have := h.lo; have := hx.lo; omega), h.lo, Nat.le_trans h.hi hch.size, h.blo⟩, hch.mono fun k _ hk => ?_⟩
  · rcases List.mem_cons.1 hy with rfl | hy
    · exact ⟨by rw [hg]; exact hbx, by rw [hg]; exact hx.lo, hrs, hcap⟩
    · refine (h.cu y (by simp [hy])).chg hch fun e => hnd.1 ?_
      rw [← e]
      exact List.mem_map.2 ⟨y, hy, rfl⟩
  · rw [hk]
    exact ⟨hx.lo, _, _, _, hx.blk, .inr (.inr rfl)⟩
theorem min_of {l : List Cur} {x : Cur} {s : Ser} {r : List Ser} (h : IsH ltC (x :: l)) (hx : x.ss = s :: r) : ∀ s' r', s' :: r' ∈ l.map Cur.ss → cmpLs s.lbs s'.lbs ≤ 0 := by
  intro s' r' hm
  obtain ⟨y, hy, e⟩ := List.mem_map.1 hm
  obtain ⟨i, hi, hy⟩ := List.getElem_of_mem hy
  have h1 := h.head wkC (x := x) rfl (i + 1) y (by simp [List.getElem?_eq_some_iff.2 ⟨hi, hy⟩])
  unfold ltC at h1
  rw [decide_eq_false_iff_not, hx, e] at h1
  have h2 := (cmpLs_ok.anti s'.lbs s.lbs)
  have h3 : hdL (s' :: r') = s'.lbs := rfl
  have h4 : hdL (s :: r) = s.lbs := rfl
  rw [h3, h4, h2] at h1
  omega
theorem step_all {w0 : World} {ls : List Lst} {pre : List (SX w0)} {rest l' : List Cur} {s : Ser} {r : List Ser} (sx : SX w0) (hsx : sx.1.2 = s) (hM : MOn (sss ls) (addAll (sersOf pre)) ((s :: r) :: rest.map Cur.ss)) (hF : (sersOf pre ++ ((s :: r) :: rest.map Cur.ss).flatten).Perm (sss ls).flatten)
    (hmin : ∀ s' r', s' :: r' ∈ rest.map Cur.ss → cmpLs s.lbs s'.lbs ≤ 0) (hp : (l'.map Cur.ss).Perm (if r = [] then rest.map Cur.ss else r :: rest.map Cur.ss)) :
    MOn (sss ls) (addAll (sersOf (pre ++ [sx]))) (l'.map Cur.ss) ∧ (sersOf (pre ++ [sx]) ++ (l'.map Cur.ss).flatten).Perm (sss ls).flatten ∧ ((l'.map Cur.ss).flatten).length < (((s :: r) :: rest.map Cur.ss).flatten).length := by
  have hfl : ((l'.map Cur.ss).flatten).Perm (r ++ (rest.map Cur.ss).flatten) := by
    refine hp.flatten.trans ?_
    split
    · rename_i h
      rw [h]
      exact List.Perm.refl _
    · exact List.Perm.refl _
  rw [sersOf_snoc, hsx, addAll_snoc]
  refine ⟨hM.step hmin hp, ?_, ?_⟩
  · refine List.Perm.trans ?_ hF
    rw [List.append_assoc]
    refine List.Perm.append_left _ ?_
    exact (List.Perm.cons s hfl)
  · rw [hfl.length_eq]
    simp
set_option maxRecDepth 100000 in
set_option maxHeartbeats 4000000 in
theorem each1_in (m : Nat) (hm : 1 ≤ m) (w0 : World) (Bn : Nat) (La : Option Addr) (Ln Lc : Nat) (ls : List Lst) (hls : RE elLs w0 La Ln ls) (hok : ∀ x ∈ ls, LsOk w0 x) (hn : Ln ≤ 1048576) (l : Nat) (J : List (SX w0) → World → Prop) (W : World)
    (hJ : ∀ s A B, J s A → HCh W.heap.size A B → J s B)
    (hY : ∀ pre x W1, J pre W1 → AdmS ls (pre ++ [x]) → YieldAt Fence.wide (m - 1) Tryd.prog l (encS x) W1 fun e W' => e = .returned (.bool true) ∧ J (pre ++ [x]) W' ∧ KpS w0.heap.size W1 W')
    (hfar : Chg (fun k => w0.heap.size ≤ k) w0 W) (hBn : W.cell? ⟨Bn, 0, none⟩ = some (.slice La Ln Lc)) (h0 : J [] W) :
    CallsIn Fence.wide m Tryd.prog 50 #[.func (.yield l) #[] #[], .pointer (some ⟨Bn, 0, none⟩)] W fun e W' => (∃ v, e = .returned v) ∧ ∃ xs, EndS ls xs ∧ J xs W' := by
  refine callsIn_of_wp Tryd.func50 rfl trivial ?_ rfl
  simp only [Tryd.ntmps50, List.size_toArray, List.length_cons, List.length_nil, Nat.reduceAdd, Nat.reduceSub, Array.replicate_succ, Array.replicate_zero, List.push_toArray, List.append_toArray, List.nil_append, List.cons_append]
  have hlen := hls.1
  have hBn1 : (W.alloc (.cells #[.slice none 0 0] 75)).cell? ⟨Bn, 0, none⟩ = some (.slice La Ln Lc) := ((Chg.refl (fun _ => False) W).alloc _).cell hBn (fun e => e)
  have hbox := Blk.new W 75 #[.slice none 0 0]
  gi_wp2
  gi_loopw [9] (fun i wr => ∃ (k n c : Nat) (A : Option Addr) (l1 : List Cur), k ≤ Ln ∧ n ≤ k ∧ i = .int .i64 (k : Int) ∧ On w0 wr W.heap.size A n c l1 ∧ (l1.map Cur.ss).Perm (fullL (sss (ls.take k))) ∧ J [] wr) (fun i _ => Ln - (intOf i).toNat)
  case atStart => exact ⟨0, 0, 0, none, [], Nat.zero_le _, Nat.le_refl _, rfl, ⟨⟨hbox, OE.nil _ _ _, fun x hx => (by cases hx), hfar.alloc _, hfar.size, (by simp), Nat.le_refl _⟩, fun i x y _ hx => (by simp at hx), fun i x _ hx => (by simp at hx), List.nodup_nil⟩, List.Perm.refl _, hJ _ _ _ h0 (Chg.of_grew ((Chg.refl _ W).alloc _))⟩
  case round =>
    clear hbox hBn1 hBn
    obtain ⟨k, n, c, A, l1, hk, hnk, rfl, hO, hp, hJ0⟩ := hrel
    by_cases hlt : k < Ln
    · obtain ⟨ad, x, rfl, hx, x0⟩ := hls.ls hlt
      have x0 := far_cell hO.hp.far x0
      have hok1 := hok x (List.mem_of_getElem? hx)
      have hfs := full_snoc hx
      have hxl := hok1.rs.len
      by_cases hx0 : 0 < x.n
      · rw [if_neg (by intro e; rw [e] at hxl; simp at hxl; omega)] at hfs
        obtain ⟨cu, hcu⟩ : ∃ cu : Cur, cu = ⟨wr.heap.size, x.a, x.n, x.c, x.ss⟩ := ⟨_, rfl⟩
        have hga : Grew wr (wr.alloc (.cells #[.slice x.a x.n x.c] 80)) := (Chg.refl _ wr).alloc _
        have hat : CuAt w0 (wr.alloc (.cells #[.slice x.a x.n x.c] 80)) W.heap.size cu := by
          rw [hcu]
          exact ⟨Blk.new wr _ _, hO.hp.hi, hok1.rs, hok1.cap⟩
        have hP := hpush w0 (wr.alloc (.cells #[.slice x.a x.n x.c] 80)) W.heap.size W.heap.size A n c l1 cu (hO.hp.grew hga) (by omega) hO.ord hO.live hat (by rw [hcu]; exact hx0)
        have hcg : cu.g = wr.heap.size := by rw [hcu]
        have hcs : cu.ss = x.ss := by rw [hcu]
        have hcn : 0 < cu.ln := by rw [hcu]; exact hx0
        rw [hcg] at hP
        replace hfs := Lib.hid hfs
        replace hcg := Lib.hid hcg
        replace hcs := Lib.hid hcs
        clear hcu hx hxl
        gi_wp2
        refine ⟨trivial, ?_⟩
        refine (callsIn_wide.2 hP).mono ?_
        rintro e w2 ⟨rfl, A2, c2, l2, hp2, hH2, h2, hc2⟩
        have hO2 := hO.push hcg.out hcn hp2 hH2 h2 hga
        have hpp : (l2.map Cur.ss).Perm (fullL (sss (ls.take (k + 1)))) := by
          rw [hfs.out]
          have h5 := hp2.map Cur.ss
          rw [List.map_cons, hcs.out] at h5
          exact h5.trans ((List.Perm.cons _ hp).trans (List.perm_append_comm (l₁ := [x.ss])))
        have hJ2 : J [] w2 := hJ _ _ _ hJ0 (HCh.trans (Chg.of_grew hga) hc2)
        clear hp2 hP
        gi_wp2
        go_roundw
        case rel => exact ⟨k + 1, n + 1, c2, A2, l2, by omega, by omega, by go_num, hO2, hpp, hJ2⟩
        case measure => simp [intOf] <;> omega
      · rw [if_pos (List.eq_nil_of_length_eq_zero (by omega))] at hfs
        rw [← hfs] at hp
        clear hfs hx hxl
        gi_wp2
        go_roundw
        case rel => exact ⟨k + 1, n, c, A, l1, by omega, by omega, by go_num, hO, hp, hJ0⟩
        case measure => simp [intOf] <;> omega
    · obtain rfl : k = Ln := by omega
      rw [List.take_of_length_le (by omega)] at hp
      have hvs : ∀ a ∈ sss ls, Vs a := fun a ha => by
        obtain ⟨x, hx, rfl⟩ := List.mem_map.1 ha
        exact (hok x hx).vs
      have hM0 : MOn (sss ls) (addAll (sersOf ([] : List (SX w0)))) (l1.map Cur.ss) := (MOn.start hvs).perm hp
      have hF0 : (sersOf ([] : List (SX w0)) ++ (l1.map Cur.ss).flatten).Perm (sss ls).flatten := by
        have := hp.flatten
        rw [flat_full] at this
        exact this
      clear hvs hok hp hls hlen hfar
      gi_wp2
      gi_loopg [] ((l1.map Cur.ss).flatten).length (fun gh wr => ∃ (n c : Nat) (A : Option Addr) (l1 : List Cur) (pre : List (SX w0)), n ≤ k ∧ On w0 wr W.heap.size A n c l1 ∧ MOn (sss ls) (addAll (sersOf pre)) (l1.map Cur.ss) ∧ (sersOf pre ++ (l1.map Cur.ss).flatten).Perm (sss ls).flatten ∧ J pre wr ∧ gh = ((l1.map Cur.ss).flatten).length)
      case atStart => exact ⟨n, c, A, l1, [], hnk, hO, hM0, hF0, hJ0, rfl⟩
      case round =>
        clear hM0 hF0 hO hJ0 hnk
        obtain ⟨n, c, A, l1, pre, hnk, hO, hM, hF, hJ0, rfl⟩ := hrel
        have hll := hO.len
        have b0 := hO.hp.box.cell 0
        rcases l1 with _ | ⟨x0, rest⟩
        · obtain rfl : n = 0 := hll.symm
          have hd : EndS ls pre := ⟨MOn.done hM, by simpa using hF⟩
          gi_wp2
          go_end0
          exact ⟨⟨_, rfl⟩, pre, hd, hJ0⟩
        · have hn0 : 0 < n := by rw [← hll]; simp
          have e1 : decide (0 < n) = true := decide_eq_true hn0
          replace hll := Lib.hid hll
          obtain ⟨g, rfl, _, cx, _, _⟩ := hO.hp.row.cu (i := 0) (x := x0) rfl
          have hcu := hO.hp.cu x0 (by simp)
          have hx0n := live_all hO.live hll.out x0 (by simp)
          have bx := hcu.blk.cell 0
          obtain ⟨ad, mm, s, r, ela, ess, hsi, y0, y1⟩ := hcu.hd hx0n
          have y0 := far_cell hO.hp.far y0
          have y1 := far_cell hO.hp.far y1
          have hrs := hcu.rs
          rw [ela, ess] at hrs
          have hrl := hrs.len
          have htl := hrs.tl hx0n hcu.cap.1
          rw [ela] at bx
          have hmin := min_of hO.ord ess
          rw [List.map_cons, ess] at hM hF
          have hadm : AdmS ls (pre ++ [⟨(mm, s), hsi⟩]) := ⟨r ++ (rest.map Cur.ss).flatten, by
            rw [sersOf_snoc]
            refine List.Perm.trans ?_ hF
            simp⟩
          obtain ⟨fn, tmps, assign, body, hy, hR⟩ := hY pre ⟨(mm, s), hsi⟩ wr hJ0 hadm
          unfold encS at hy
          dsimp only at hy
          obtain ⟨la', ela'⟩ : ∃ la', (if x0.lc = 1 then some ad else some { block := ad.block, off := ad.off + 2 }) = la' := ⟨_, rfl⟩
          rw [ela', show (s :: r).drop 1 = r from rfl] at htl
          replace hmin := Lib.hid hmin
          replace hrl := Lib.hid hrl
          replace ess := Lib.hid ess
          clear hrs
          gi_wp2
          refine hR.mono ?_
          rintro e W3 ⟨rfl, hJ3, hk3⟩
          have hO3 := hO.kp hk3
          have hcap := hcu.cap
          have hcu3 := hO3.hp.cu x0 (by simp)
          have c3 := hcu3.blk.cell 0
          have f3 := hcu3.blk.frozen 0
          rw [ela] at c3
          obtain ⟨x1, hx1⟩ : ∃ x1 : Cur, x1 = ⟨x0.g, la', x0.ln - 1, x0.lc - 1, r⟩ := ⟨_, rfl⟩
          obtain ⟨hN, hC⟩ := hO3.hp.next hO3.nd x1 (by rw [hx1]) (by rw [hx1]; exact htl) (by rw [hx1]; dsimp only; omega)
          have hxe : (Value.slice x1.la x1.ln x1.lc) = .slice la' (x0.ln - 1) (x0.lc - 1) := by rw [hx1]
          rw [hxe] at hN hC
          have hx1g : x1.g = x0.g := by rw [hx1]
          have hx1s : x1.ss = r := by rw [hx1]
          have hx1n : x1.ln = x0.ln - 1 := by rw [hx1]
          have hnd1 : ((x1 :: rest).map Cur.g).Nodup := by
            have := hO3.nd
            rw [List.map_cons] at this ⊢
            rw [hx1g]
            exact this
          have hJ4 := hJ _ _ _ hJ3 hC
          have hb4 := hN.box.cell 0
          have hcell4 : (W3.setCell ⟨x0.g, 0, none⟩ (.slice la' (x0.ln - 1) (x0.lc - 1))).cell? ⟨x0.g, 0, none⟩ = some (.slice la' (x0.ln - 1) (x0.lc - 1)) := World.cell?_setCell_same' _ _ _ (by rw [c3]; rfl)
          have hord := hO.ord
          have hlive := live_all hO.live hll.out
          have hDn := hord.turn x1
          rw [hll.out, show (x0 :: rest).set 0 x1 = x1 :: rest from rfl] at hDn
          have hlo := hO3.hp.lo
          clear hC hO hO3 hcu hcu3 hJ0 hJ3 hk3 bx b0 y0 y1 cx hadm hR hy
          have hm0 := List.map_cons (f := Cur.ss) (a := x0) (l := rest)
          rw [ess.out] at hm0
          replace hm0 := Lib.hid hm0
          by_cases h1 : x0.ln = 1
          · have e0 : x0.ln - 1 = 0 := by omega
            rw [e0] at hN hJ4 hb4 hcell4
            obtain ⟨m', hm'⟩ : ∃ m', n = m' + 1 := ⟨n - 1, by omega⟩
            have hr0 : r = [] := List.eq_nil_of_length_eq_zero (by have := hrl.out; simp at this; omega)
            have hP := hpop w0 _ W.heap.size W.heap.size (some ⟨g, 0, none⟩) m' c (x1 :: rest) x1 (hm' ▸ hN) (by omega) rfl (fun i y hi hy => by
              obtain ⟨i', rfl⟩ : ∃ i', i = i' + 1 := ⟨i - 1, by omega⟩
              rw [List.getElem?_cons_succ] at hy
              exact hlive y (by simp [List.mem_of_getElem? hy])) (isH_spent hord (by rw [hx1s, hr0]))
            replace hr0 := Lib.hid hr0
            replace hm' := Lib.hid hm'
            replace hP := Lib.hid hP
            clear hx1 hxe hx1g hx1s hx1n e0
            gi_wp2
            refine ⟨trivial, ?_⟩
            refine (callsIn_wide.2 hP.out).mono ?_
            rintro e w5 ⟨⟨v, rfl⟩, l', hH', hp', h5, hc5⟩
            have hp2 : l'.Perm rest := hp'.cons_inv
            obtain ⟨k1, k2, k3⟩ := step_all (l' := l') ⟨(mm, s), hsi⟩ rfl hM hF hmin.out (by rw [if_pos hr0.out]; exact hp2.map _)
            have hJ5 := hJ _ _ _ hJ4 hc5
            have hO5 : On w0 w5 W.heap.size (some ⟨g, 0, none⟩) m' c l' := ⟨h5, hH', live_of fun y hy => hlive y (by simp [hp2.subset hy]), by
              rw [(hp2.map Cur.g).nodup_iff]
              rw [List.map_cons, List.nodup_cons] at hnd1
              exact hnd1.2⟩
            clear hP hp' hc5
            gi_wp2
            gi_roundg ((l'.map Cur.ss).flatten).length
            case measure => rw [hm0.out]; exact k3
            case rel => exact ⟨m', c, _, l', _, by have := hm'.out; omega, hO5, k1, k2, hJ5, rfl⟩
          · have e2 : ((x0.ln - 1 : Nat) == 0) = false := by simp; omega
            have hr0 : r ≠ [] := by
              rintro rfl
              have := hrl.out
              simp at this
              omega
            have hlv1 : Live n (x1 :: rest) := live_of fun y hy => by
              rcases List.mem_cons.1 hy with rfl | hy
              · omega
              · exact hlive y (by simp [hy])
            have hP := hfix w0 _ W.heap.size W.heap.size (some ⟨g, 0, none⟩) n c (x1 :: rest) hN (by omega) hn0 hlv1 hDn
            replace hx1s := Lib.hid hx1s
            replace hP := Lib.hid hP
            clear hx1 hxe hx1g hx1n
            gi_wp2
            refine ⟨trivial, ?_⟩
            refine (callsIn_wide.2 hP.out).mono ?_
            rintro e w5 ⟨rfl, l', hH', hM'⟩
            obtain ⟨k1, k2, k3⟩ := step_all (l' := l') ⟨(mm, s), hsi⟩ rfl hM hF hmin.out (by
              rw [if_neg hr0]
              have := hM'.perm.map Cur.ss
              rw [List.map_cons, hx1s.out] at this
              exact this)
            have hJ5 := hJ _ _ _ hJ4 (hM'.hch hN)
            have hO5 : On w0 w5 W.heap.size (some ⟨g, 0, none⟩) n c l' := ⟨hM'.at_, hH', live_of fun y hy => by
              have := hM'.perm.subset hy
              exact live_all hlv1 (by have := hll.out; simpa using this) y this, by
              rw [(hM'.perm.map Cur.g).nodup_iff]
              exact hnd1⟩
            clear hP
            gi_wp2
            gi_roundg ((l'.map Cur.ss).flatten).length
            case measure => rw [hm0.out]; exact k3
            case rel => exact ⟨n, c, _, l', _, hnk, hO5, k1, k2, hJ5, rfl⟩
end Go.Proofs.YtjgbdkokcgcpjaaDoor
