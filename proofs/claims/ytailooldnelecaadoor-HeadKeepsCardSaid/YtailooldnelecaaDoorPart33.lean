/-
  Several texts in one:
  slices.SortFunc at series, laid by the kit's own tool. Conditions: those that the contract names.
  sorted: a list of series by their labels. Conditions: fewer than 2^62; the rows of labels lie elsewhere than the list.
  sorted at rows of series in new memory. Conditions: fewer than 2^62.
-/
import Derived.Shelf.SlSortCmp.WholeK
import Derived.Test.YtailooldnelecaaDoorPart32
import Derived.Test.YtailooldnelecaaDoorPart18
import Derived.Test.YtailooldnelecaaDoorPart20
import Derived.Shelf.SlSortCmp.NoneTotal

namespace Go.Proofs
open Go.Shelf
def Tryd.sortSr_ren : Go.Shelf.Ren := ⟨fun | 6 => 35 | 15 => 43 | 14 => 42 | 28 => 61 | 29 => 62 | 20 => 53 | 21 => 54 | 22 => 55 | 23 => 56 | 24 => 57 | 25 => 58 | 26 => 59 | 27 => 60 | 46 => 66 | 47 => 67 | 48 => 68 | 49 => 69 | 50 => 70 | 57 => 76 | n => n, fun | 22 => 30 | 24 => 37 | 25 => 84 | 3 => 3 | 39 => 85 | 0 => 0 | 53 => 114 | 55 => 27 | 4 => 4 | 46 => 107 | 45 => 106 | 50 => 111 | 5 => 5 | 9 => 9 | 66 => 118 | 70 => 122 | 76 => 125 | 77 => 32 | n => n, fun | n => n⟩
theorem Tryd.sortSr : Go.Proofs.SlLaysF0.n6 Tryd.prog Tryd.sortSr_ren := {
  mixed := by kernel_rfl
  f6 := ⟨Tryd.f35.name, by decide, Tryd.func35.trans (congrArg some (by kernel_rfl))⟩
  f14 := ⟨Tryd.f42.name, by decide, Tryd.func42.trans (congrArg some (by kernel_rfl))⟩
  f15 := Tryd.func43.trans (congrArg some (by kernel_rfl))
  f20 := ⟨Tryd.f53.name, by decide, Tryd.func53.trans (congrArg some (by kernel_rfl))⟩
  f21 := ⟨Tryd.f54.name, by decide, Tryd.func54.trans (congrArg some (by kernel_rfl))⟩
  f22 := ⟨Tryd.f55.name, by decide, Tryd.func55.trans (congrArg some (by kernel_rfl))⟩
  f23 := ⟨Tryd.f56.name, by decide, Tryd.func56.trans (congrArg some (by kernel_rfl))⟩
  f24 := ⟨Tryd.f57.name, by decide, Tryd.func57.trans (congrArg some (by kernel_rfl))⟩
  f25 := ⟨Tryd.f58.name, by decide, Tryd.func58.trans (congrArg some (by kernel_rfl))⟩
  f26 := ⟨Tryd.f59.name, by decide, Tryd.func59.trans (congrArg some (by kernel_rfl))⟩
  f27 := ⟨Tryd.f60.name, by decide, Tryd.func60.trans (congrArg some (by kernel_rfl))⟩
  f28 := Tryd.func61.trans (congrArg some (by kernel_rfl))
  f29 := Tryd.func62.trans (congrArg some (by kernel_rfl))
  f46 := ⟨Tryd.f66.name, by decide, Tryd.func66.trans (congrArg some (by kernel_rfl))⟩
  f47 := Tryd.func67.trans (congrArg some (by kernel_rfl))
  f48 := Tryd.func68.trans (congrArg some (by kernel_rfl))
  f49 := ⟨Tryd.f69.name, by decide, Tryd.func69.trans (congrArg some (by kernel_rfl))⟩
  f50 := ⟨Tryd.f70.name, by decide, Tryd.func70.trans (congrArg some (by kernel_rfl))⟩
  f57 := ⟨Tryd.f76.name, by decide, Tryd.func76.trans (congrArg some (by kernel_rfl))⟩
  t0 := Tryd.underlying0
  a0 := Tryd.isAgg0
  z0 := Tryd.sizeOf0
  v0 := Tryd.zeroValue0
  t3 := Tryd.underlying3
  a3 := Tryd.isAgg3
  z3 := Tryd.sizeOf3
  v3 := Tryd.zeroValue3
  t4 := Tryd.underlying4
  a4 := Tryd.isAgg4
  z4 := Tryd.sizeOf4
  v4 := Tryd.zeroValue4
  t5 := Tryd.underlying5
  a5 := Tryd.isAgg5
  z5 := Tryd.sizeOf5
  v5 := Tryd.zeroValue5
  t9 := Tryd.underlying9
  a9 := Tryd.isAgg9
  z9 := Tryd.sizeOf9
  v9 := Tryd.zeroValue9
  t22 := Tryd.underlying30
  a22 := Tryd.isAgg30
  z22 := Tryd.sizeOf30
  v22 := Tryd.zeroValue30
  t25 := Tryd.underlying84
  a25 := Tryd.isAgg84
  z25 := Tryd.sizeOf84
  v25 := Tryd.zeroValue84
  t39 := Tryd.underlying85
  a39 := Tryd.isAgg85
  z39 := Tryd.sizeOf85
  v39 := Tryd.zeroValue85
  t45 := Tryd.underlying106
  a45 := Tryd.isAgg106
  z45 := Tryd.sizeOf106
  v45 := Tryd.zeroValue106
  t46 := Tryd.underlying107
  a46 := Tryd.isAgg107
  z46 := Tryd.sizeOf107
  v46 := Tryd.zeroValue107
  t50 := Tryd.underlying111
  a50 := Tryd.isAgg111
  z50 := Tryd.sizeOf111
  v50 := Tryd.zeroValue111
  t53 := Tryd.underlying114
  a53 := Tryd.isAgg114
  z53 := Tryd.sizeOf114
  v53 := Tryd.zeroValue114
  t55 := Tryd.underlying27
  a55 := Tryd.isAgg27
  z55 := Tryd.sizeOf27
  v55 := Tryd.zeroValue27
  t66 := Tryd.underlying118
  a66 := Tryd.isAgg118
  z66 := Tryd.sizeOf118
  v66 := Tryd.zeroValue118
  t70 := Tryd.underlying122
  a70 := Tryd.isAgg122
  z70 := Tryd.sizeOf122
  v70 := Tryd.zeroValue122
  t76 := Tryd.underlying125
  a76 := Tryd.isAgg125
  z76 := Tryd.sizeOf125
  v76 := Tryd.zeroValue125
  t77 := Tryd.underlying32
  a77 := Tryd.isAgg32
  z77 := Tryd.sizeOf32
  v77 := Tryd.zeroValue32 }
end Go.Proofs

namespace Go.Proofs.YtailooldnelecaaDoor
open Go.RowKit Go.Sort Go.Lib

def encS (m : SerM) : List Value := [.slice m.la m.ln m.lc, .slice m.pa m.pn m.pc]
/-- a series whose labels may be read at w, elsewhere than in the block blk -/
structure LbAt (w : World) (blk : Nat) (x : SerM × Ser) : Prop where
  lb : RE elLb w x.1.la x.1.ln x.2.lbs
  ne : ∀ ad, x.1.la = some ad → ad.block ≠ blk
  lt : ∀ ad, x.1.la = some ad → ad.block < w.heap.size
  ln : x.1.ln ≤ 9223372036854775807
abbrev LbS (w : World) (blk : Nat) : Type := { x : SerM × Ser // LbAt w blk x }
def encB {w : World} {blk : Nat} (x : LbS w blk) : List Value := encS x.1.1
def cfB {w : World} {blk : Nat} (x y : LbS w blk) : Int := cmpLs x.1.2.lbs y.1.2.lbs
instance (w : World) (blk : Nat) : Inhabited (LbS w blk) := ⟨⟨(⟨none, 0, 0, none, 0, 0⟩, ⟨[], []⟩), ⟨rfl, Rd.nil _ _⟩, fun _ e => (by cases e), fun _ e => (by cases e), by decide⟩⟩
theorem cmpLays_ser (w : World) (blk off size : Nat) : CmpLays Tryd.prog 36 #[] (encB (w := w) (blk := blk)) 2 cfB blk off size w := fun m os dk hs x y => by
  have key : ∀ z : LbS w blk, RE elLb (sortWorldK encB 2 w blk off m dk os) z.1.1.la z.1.1.ln z.1.2.lbs := fun z => ⟨z.2.lb.1, fun k u hu => by
    obtain ⟨ad, h1, h2⟩ := z.2.lb.2 k u hu
    exact ⟨ad, h1, (cell?_sortWorldK_other encB 2 w blk off m dk os (ad.add k) (by rw [block_add]; exact z.2.ne ad h1) (by rw [block_add]; exact z.2.lt ad h1)).trans h2⟩⟩
  exact (bySeries_x x.1.1 y.1.1 x.1.2.lbs y.1.2.lbs _ (key x) (key y) x.2.ln y.2.ln).mono fun _ _ h => h
theorem ltOf_cfB {w : World} {blk : Nat} (x y : LbS w blk) : ltOf cfB x y = decide (cmpLs x.1.2.lbs y.1.2.lbs < 0) := rfl
theorem swo_ser (w : World) (blk : Nat) : SWO (ltOf (cfB (w := w) (blk := blk))) where
  irrefl x := by
    rw [ltOf_cfB, decide_eq_false_iff_not]
    exact cmpLs_ok.irrefl _
  trans x y z h1 h2 := by
    rw [ltOf_cfB, decide_eq_true_eq] at *
    exact cmpLs_ok.trans _ _ _ h1 h2
  ntrans x y z h1 h2 := by
    rw [ltOf_cfB, decide_eq_false_iff_not] at *
    intro h3
    rcases cmpLs_ok.tri x.1.2.lbs y.1.2.lbs with h | h | h
    · exact h1 h
    · rw [h] at h3
      exact h2 h3
    · exact h2 (cmpLs_ok.trans _ _ _ h h3)
theorem encS_get (m : SerM) (t : Nat) : (encS m)[t % 2]? = some ((encS m)[t % 2]!) := by
  rcases Nat.mod_two_eq_zero_or_one t with h | h <;> rw [h] <;> rfl
theorem flatS_get {l : List SerM} {t : Nat} (ht : t / 2 < l.length) : (elSr.flat l)[t]? = some ((encS l[t / 2])[t % 2]!) := by
  have h1 : l[t / 2]? = some l[t / 2] := List.getElem?_eq_getElem ht
  have h2 : t / 2 * 2 + t % 2 = t := by omega
  have h3 := elSr.flat_get l (j := t % 2) h1 (by show t % 2 < 2; omega)
  rw [show t / 2 * elSr.sz + t % 2 = t from h2] at h3
  rw [h3]
  exact encS_get _ _
def toB {w : World} {g : Nat} {xs : List (SerM × Ser)} (hx : ∀ x ∈ xs, LbAt w g x) : Array (LbS w g) := (xs.attach.map fun x => (⟨x.1, hx x.1 x.2⟩ : LbS w g)).toArray
theorem toB_val {w : World} {g : Nat} {xs : List (SerM × Ser)} (hx : ∀ x ∈ xs, LbAt w g x) : (toB hx).toList.map Subtype.val = xs := by
  unfold toB
  simp only [List.map_map]
  exact List.attach_map_subtype_val xs
theorem toB_size {w : World} {g : Nat} {xs : List (SerM × Ser)} (hx : ∀ x ∈ xs, LbAt w g x) : (toB hx).size = xs.length := by
  have := congrArg List.length (toB_val hx)
  rwa [List.length_map, Array.length_toList] at this
theorem at_add (g j : Nat) : (⟨g, 0, none⟩ : Addr).add j = ⟨g, 0 + j, none⟩ := by
  unfold Addr.add
  split <;> simp_all
/-- a row of series, read as the sort reads it -/
theorem holds_of {w : World} {g n : Nat} {cur : Array Value} (d : Array (LbS w g)) {W : World} (hb : Blk W g 37 cur) (hR : RE elSr W (some ⟨g, 0, none⟩) n (d.toList.map fun x => x.1.1)) : HoldsK encB 2 W g 0 d := fun j hj => by
  rw [size_flatK] at hj
  have hj2 : j / 2 < d.size := by omega
  have h1 := flatS_get (l := d.toList.map fun x => x.1.1) (t := j) (by simpa using hj2)
  obtain ⟨ad, e, hc⟩ := hR.2 j _ h1
  injection e with e
  subst e
  refine ⟨?_, hb.frozen _⟩
  rw [get_flatK encB 2 d j hj]
  have h2 : (d.toList.map fun x => x.1.1)[j / 2]'(by simpa using hj2) = d[j / 2]!.1.1 := by simp [hj2]
  rw [h2, at_add] at hc
  exact hc
theorem re_of {w W : World} {g n : Nat} (d : Array (LbS w g)) (hn : d.size = n) (h : HoldsK encB 2 W g 0 d) : RE elSr W (some ⟨g, 0, none⟩) n (d.toList.map fun x => x.1.1) := by
  refine ⟨by simpa using hn, fun j u hu => ⟨_, rfl, ?_⟩⟩
  have hlt := (List.getElem?_eq_some_iff.1 hu).1
  have hl := elSr.flat_length (d.toList.map fun x => x.1.1)
  rw [show elSr.sz = 2 from rfl] at hl
  simp only [List.length_map, Array.length_toList] at hl
  have hj : j < d.size * 2 := by omega
  have hj2 : j / 2 < d.size := by omega
  rw [flatS_get (by simpa using hj2)] at hu
  injection hu with hu
  have h1 := (h j (by rw [size_flatK]; exact hj)).1
  rw [get_flatK encB 2 d j hj] at h1
  have h2 : (d.toList.map fun x => x.1.1)[j / 2]'(by simpa using hj2) = d[j / 2]!.1.1 := by simp [hj2]
  rw [h2] at hu
  rw [← hu, at_add]
  exact h1
theorem chg_sortW {w : World} {g : Nat} {cur : Array Value} (hb : Blk w g 37 cur) (m : Nat) (d : Array (LbS w g)) (os : Array Obj) : Chg (fun k => k = g) w (sortWorldK encB 2 w g 0 m d os) ∧ ∃ cur', Blk (sortWorldK encB 2 w g 0 m d os) g 37 cur' ∧ cur'.size = cur.size := by
  have hlt := hb.lt
  unfold sortWorldK putRowK putRow mapBlock
  refine ⟨⟨rfl, rfl, rfl, by show w.heap.size ≤ (w.heap.modify g _ ++ os).size; rw [Array.size_append, Array.size_modify]; exact Nat.le_add_right _ _, fun k hk hn => ?_⟩, ?_⟩
  · show (w.heap.modify g _ ++ os)[k]? = w.heap[k]?
    rw [Array.getElem?_append_left (by rw [Array.size_modify]; exact hk), Array.getElem?_modify, if_neg (fun e => hn e.symm)]
  · have h0 : w.heap[g]? = some (.cells cur 37 (0, 0)) := hb
    refine ⟨putCells id 0 (flatK encB 2 d) cur, ?_, by unfold putCells; exact Array.size_mapIdx⟩
    show (w.heap.modify g _ ++ os)[g]? = _
    rw [Array.getElem?_append_left (by simpa using hlt), Array.getElem?_modify, if_pos rfl, h0]
    rfl

set_option maxRecDepth 100000 in
set_option maxHeartbeats 1000000 in
theorem sorted_any (g n c : Nat) (cur : Array Value) (xs : List (SerM × Ser)) (w : World) (hb : Blk w g 37 cur) (hR : RE elSr w (some ⟨g, 0, none⟩) n (xs.map Prod.fst)) (hx : ∀ x ∈ xs, LbAt w g x) (h62 : n < 4611686018427387904) :
    Calls Tryd.prog 25 #[.slice (some ⟨g, 0, none⟩) n c] w fun e w' => e = .returned (.slice (some ⟨g, 0, none⟩) n c) ∧ ∃ ys : List (SerM × Ser), ys.Perm xs ∧ (ys.Pairwise fun a b => ¬ cmpLs b.2.lbs a.2.lbs < 0) ∧ RE elSr w' (some ⟨g, 0, none⟩) n (ys.map Prod.fst) ∧ Chg (fun k => k = g) w w' ∧ ∃ cur', Blk w' g 37 cur' ∧ cur'.size = cur.size := by
  have hn : xs.length = n := by simpa using hR.1
  have hd : (toB hx).size = n := (toB_size hx).trans hn
  have hv : (toB hx).toList.map (fun x => x.1.1) = xs.map Prod.fst := by
    have := congrArg (List.map Prod.fst) (toB_val hx)
    rwa [List.map_map] at this
  have eg : ∀ args w, (callFunc 36 args).run Tryd.prog w = .ok (.enter 36 args) w := enters_of Tryd.func36 (by kernel_rfl) rfl
  have hH : HoldsK encB 2 w g 0 (toB hx) := holds_of (n := n) _ hb (by rw [hv]; exact hR)
  have hcon := AnyQ.slices_SortFunc (α := LbS w g) Tryd.sortSr 2 Tryd.isAgg37 Tryd.sizeOf37 encB (fun _ => rfl) (fun x v hv => by
    simp only [encB, encS, List.mem_cons, List.not_mem_nil, or_false] at hv
    rcases hv with rfl | rfl <;> rfl) cfB (swo_ser w g) 36 #[] g 0 c (toB hx) w eg (cmpLays_ser w g 0 _) hH hb.lt (by omega)
  rw [hd] at hcon
  change Calls Tryd.prog 35 _ _ _ at hcon
  have hfin : ∀ (d' : Array (LbS w g)) m os, PermIn 0 n (toB hx) d' → SortedIn (ltOf cfB) 0 n d' → ∃ ys : List (SerM × Ser), ys.Perm xs ∧ (ys.Pairwise fun a b => ¬ cmpLs b.2.lbs a.2.lbs < 0) ∧ RE elSr (sortWorldK encB 2 w g 0 m d' os) (some ⟨g, 0, none⟩) n (ys.map Prod.fst) ∧ Chg (fun k => k = g) w (sortWorldK encB 2 w g 0 m d' os) ∧ ∃ cur', Blk (sortWorldK encB 2 w g 0 m d' os) g 37 cur' ∧ cur'.size = cur.size := fun d' m os hp hs => by
    have hsz : d'.size = n := hp.1.trans hd
    obtain ⟨hc, hb'⟩ := chg_sortW hb m d' os
    refine ⟨d'.toList.map Subtype.val, ?_, ?_, ?_, hc, hb'⟩
    · have h2 := hp.2.2
      have e1 : d'.extract 0 n = d' := by rw [← hsz]; exact Array.extract_size
      have e2 : (toB hx).extract 0 n = toB hx := by rw [← hd]; exact Array.extract_size
      rw [e1, e2] at h2
      have h3 := h2.map Subtype.val
      rw [toB_val hx] at h3
      exact h3
    · rw [List.pairwise_map]
      refine List.pairwise_iff_getElem.2 fun i j hi hj hij => ?_
      have := hs i j (Nat.zero_le _) hij (by simpa [hsz] using hj)
      rw [ltOf_cfB, decide_eq_false_iff_not] at this
      rw [Array.length_toList] at hi hj
      rw [getElem!_pos d' j hj, getElem!_pos d' i hi] at this
      simpa using this
    · have h4 : HoldsK encB 2 (sortWorldK encB 2 w g 0 m d' os) g 0 d' := holdsK_grow encB 2 _ os g 0 d' (by rw [size_putRowK]; exact hb.lt) (holdsK_putRowK encB 2 (Go.Sort.ahead w m) g 0 (toB hx) d' (holdsK_ahead encB 2 w m g 0 _ hH) (hsz.trans hd.symm))
      have h5 := re_of (n := n) d' hsz h4
      rw [List.map_map]
      exact h5
  replace hfin := Lib.hid hfin
  clear hH eg hv hb hR
  go_enter Tryd.func25, Tryd.ntmps25
  go_wp2_with fail
  refine hcon.mono ?_
  rintro e w' ⟨rfl, d', m, os, hp, hs, rfl⟩
  go_wp2
  go_ret
  exact ⟨by simp, hfin.out d' m os hp hs⟩
end Go.Proofs.YtailooldnelecaaDoor

namespace Go.Proofs.YtailooldnelecaaDoor
open Go.RowKit Go.Sort Go.Lib

theorem sorted_nil (A : Option Addr) (c : Nat) (w : World) : Calls Tryd.prog 25 #[.slice A 0 c] w fun e w' => e = .returned (.slice A 0 c) ∧ w' = w := by
  have hcon := AnyF.slices_SortFunc_none Tryd.sortSr A c (.func (.func 36) #[] #[]) w
  change Calls Tryd.prog 35 _ _ _ at hcon
  go_enter Tryd.func25, Tryd.ntmps25
  go_wp2_with fail
  refine hcon.mono ?_
  rintro e w' ⟨rfl, rfl⟩
  go_wp2
  go_ret
  exact ⟨by simp, rfl⟩
theorem own_again {w w' : World} {base : Nat} {A : Option Addr} {n c g : Nat} {ms ms' : List SerM} {cur cur' : Array Value} (h : OE elSr w base 37 A n c ms) (hA : A = some ⟨g, 0, none⟩) (hb : Blk w g 37 cur) (hb' : Blk w' g 37 cur') (hs : cur'.size = cur.size) (hR : RE elSr w' A n ms') : OE elSr w' base 37 A n c ms' := by
  subst hA
  have hl := hR.1
  refine ⟨by rw [elSr.flat_length, hl], ?_⟩
  rcases h.2 with ⟨e, h3⟩ | ⟨g', cap, cur0, e, hb0, hg, h3, h4, h5, h6⟩
  · injection e with e1 e2 e3
    cases e1
  · injection e with e1 e2 e3
    injection e1 with e1
    injection e1 with e1 _
    subst e1
    have hcc : cur0 = cur := by
      have := Eq.trans (Eq.symm (show w.heap[g]? = _ from hg)) hb
      injection this with this
      injection this with this
    subst hcc
    refine .inr ⟨g, cap, cur', by rw [e2, e3], hb0, hb', h3, h4, by rw [hs]; exact h5, ?_⟩
    refine List.ext_getElem? fun k => ?_
    rw [List.getElem?_take]
    have hfl := elSr.flat_length ms'
    rw [hl] at hfl
    split
    · rename_i hk
      obtain ⟨ad, e7, h7⟩ := hR.2 k _ (List.getElem?_eq_getElem (by rw [hfl]; exact hk))
      injection e7 with e7
      subst e7
      rw [at_add, hb'.cell] at h7
      rw [Array.getElem?_toList, show k = 0 + k by omega, h7, Nat.zero_add]
      exact (List.getElem?_eq_getElem _).symm
    · rename_i hk
      rw [List.getElem?_eq_none (by rw [hfl]; omega)]
/-- sorted, of such a row -/
theorem sorted_ns {w : World} {base : Nat} {A : Option Addr} {n c : Nat} {ss : List Ser} (h : NS w base A n c ss) (h62 : n < 4611686018427387904) :
    Calls Tryd.prog 25 #[.slice A n c] w fun e w' => e = .returned (.slice A n c) ∧ ∃ ss', ss'.Perm ss ∧ (ss'.Pairwise fun a b => ¬ cmpLs b.lbs a.lbs < 0) ∧ NS w' base A n c ss' ∧ Chg (fun k => base ≤ k) w w' := by
  have hln := h.len
  rcases Nat.eq_zero_or_pos n with h0 | h0
  · subst h0
    obtain rfl : ss = [] := List.eq_nil_of_length_eq_zero hln
    refine (sorted_nil A c w).mono ?_
    rintro e w' ⟨rfl, rfl⟩
    exact ⟨rfl, [], List.Perm.refl _, List.Pairwise.nil, h, Chg.refl _ _⟩
  · obtain ⟨ms, h1, h2, h3⟩ := h
    have hml := h1.len
    obtain ⟨g, rfl, hgb, cur, hb⟩ : ∃ g, A = some ⟨g, 0, none⟩ ∧ base ≤ g ∧ ∃ cur, Blk w g 37 cur := by
      rcases h1.2 with ⟨e, h4⟩ | ⟨g', cap, cur0, e, hb0, hg, _⟩
      · omega
      · injection e with e1 e2 e3
        exact ⟨g', e1, hb0, cur0, hg⟩
    have hz : (ms.zip ss).map Prod.fst = ms := List.map_fst_zip (by omega)
    have hz2 : (ms.zip ss).map Prod.snd = ss := List.map_snd_zip (by omega)
    have hel : ∀ x ∈ ms.zip ss, NsE w base x.1 x.2 := fun x hx => by
      obtain ⟨i, hi⟩ := List.getElem?_of_mem hx
      rw [List.getElem?_zip_eq_some] at hi
      exact h3 i x.1 x.2 hi.1 hi.2
    have hne : ∀ x ∈ ms.zip ss, (∀ ad, x.1.la = some ad → ad.block ≠ g) ∧ ∀ ad, x.1.pa = some ad → ad.block ≠ g := fun x hx =>
      ⟨fun ad e => h1.ne (hel x hx).lb (by decide) _ ad rfl e |>.symm, fun ad e => h1.ne (hel x hx).pt (by decide) _ ad rfl e |>.symm⟩
    have hat : ∀ x ∈ ms.zip ss, LbAt w g x := fun x hx => ⟨(hel x hx).lb.re (by decide), (hne x hx).1, fun ad e => (Own.blk_lt (hel x hx).lb ad e).2, by have := (hel x hx).lb.cap; omega⟩
    refine (sorted_any g n c cur (ms.zip ss) w hb (by rw [hz]; exact h1.re (by decide)) hat h62).mono ?_
    rintro e w' ⟨rfl, ys, hp, hs, hR, hc, cur', hb', hcs⟩
    refine ⟨rfl, ys.map Prod.snd, by rw [← hz2]; exact hp.map _, List.pairwise_map.2 hs, ⟨ys.map Prod.fst, own_again h1 rfl hb hb' hcs hR, by simp, fun i m s hm hs => ?_⟩, hc.mono fun k _ e => by rw [e]; exact hgb⟩
    rw [List.getElem?_map] at hm hs
    cases hy : ys[i]? with
    | none => rw [hy] at hm; cases hm
    | some y =>
      rw [hy] at hm hs
      injection hm with hm
      injection hs with hs
      subst hm
      subst hs
      have hyx := hp.mem_iff.1 (List.mem_of_getElem? hy)
      exact ⟨(hel y hyx).lb.chg hc fun ad e => (hne y hyx).1 ad e, (hel y hyx).pt.chg hc fun ad e => (hne y hyx).2 ad e⟩
end Go.Proofs.YtailooldnelecaaDoor
