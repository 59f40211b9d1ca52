/-
  Several texts in one:
  A head's list of series, whatever order it stands in: its sorted form is told by it, and what is cut off, left and selected. Conditions: none; no program in sight.
  A head's state while a series is cut in place, or goes out. Conditions: none.
-/
import Derived.Test.YtailooldnelecaaGreatDoorPart25

namespace Go.Proofs.YtailooldnelecaaGreatDoor
open Go.RowKit

/-- a list of series that a head may hold -/
structure HV (lim : Nat) (ss : List Ser) : Prop where
  chk : ∀ s ∈ ss, chkL s.lbs = 0
  ris : ∀ s ∈ ss, Rise s.pts
  non : ∀ s ∈ ss, s.pts ≠ []
  bnd : ∀ s ∈ ss, ∀ p ∈ s.pts, -1099511627776 ≤ p.1 ∧ p.1 ≤ 1099511627776
  dis : ss.Pairwise fun a b => a.lbs ≠ b.lbs
  len : ss.length ≤ lim
theorem HS.hv {S : Nat → Prop} {w : World} {h b p : Nat} {L : List HEnt} {cb : Nat} {PL : List PEnt} {cp lim : Nat} (hH : HS S w h b p L cb PL cp lim) : HV lim (L.map HEnt.s) := by
  refine ⟨fun s hs => ?_, fun s hs => ?_, fun s hs => ?_, fun s hs => ?_, ?_, by rw [List.length_map]; exact hH.len⟩
  · obtain ⟨e, he, rfl⟩ := List.mem_map.1 hs
    exact (hH.tb.ok e he).chk
  · obtain ⟨e, he, rfl⟩ := List.mem_map.1 hs
    exact (hH.tb.ok e he).ris
  · obtain ⟨e, he, rfl⟩ := List.mem_map.1 hs
    exact (hH.tb.ok e he).non
  · obtain ⟨e, he, rfl⟩ := List.mem_map.1 hs
    exact (hH.tb.ok e he).bnd
  · rw [List.pairwise_map]
    refine List.Pairwise.imp_of_mem (fun {x y} hx hy hxy e1 => hxy.key ?_) hH.tb.ap
    rw [(hH.tb.ok x hx).key, (hH.tb.ok y hy).key, e1]
theorem HV.perm {lim : Nat} {a b : List Ser} (h : HV lim a) (hp : a.Perm b) : HV lim b :=
  ⟨fun s hs => h.chk s (hp.mem_iff.2 hs), fun s hs => h.ris s (hp.mem_iff.2 hs), fun s hs => h.non s (hp.mem_iff.2 hs), fun s hs => h.bnd s (hp.mem_iff.2 hs),
    (hp.pairwise_iff (fun e => fun e1 => e e1.symm)).1 h.dis, by rw [← hp.length_eq]; exact h.len⟩

/-! ### The sorted form -/
theorem srt_strict {a : List Ser} (hd : a.Pairwise fun x y => x.lbs ≠ y.lbs) (ha : a.Pairwise fun x y => 0 ≤ cmpLs y.lbs x.lbs) : SortS a := by
  refine (hd.and ha).imp fun {x y} ⟨h1, h2⟩ => ?_
  rcases cmpLs_ok.tri x.lbs y.lbs with h3 | h3 | h3
  · exact h3
  · exact absurd h3 h1
  · exact absurd h3 (by omega)
theorem srt_uniq {a b : List Ser} (ha : SortS a) (hb : SortS b) (hp : a.Perm b) : a = b :=
  sorted_ext (fun x y : Ser => cmpLs x.lbs y.lbs < 0) (fun x => cmpLs_ok.irrefl x.lbs) (fun x y z => cmpLs_ok.trans x.lbs y.lbs z.lbs) ha hb fun _ => hp.mem_iff
/-- what a sorted list of distinct series is, of which another one is told -/
theorem srt_of {a c b : List Ser} (hp : a.Perm c) (hd : c.Pairwise fun x y => x.lbs ≠ y.lbs) (ha : a.Pairwise fun x y => 0 ≤ cmpLs y.lbs x.lbs) (hb : SortS b) (hpb : b.Perm c) : a = b :=
  srt_uniq (srt_strict ((hp.pairwise_iff (fun e => fun e1 => e e1.symm)).2 hd) ha) hb (hp.trans hpb.symm)
def leB (a b : Ser) : Bool := decide (cmpLs a.lbs b.lbs ≤ 0)
def srtS (ss : List Ser) : List Ser := ss.mergeSort leB
theorem srtS_perm (ss : List Ser) : (srtS ss).Perm ss := List.mergeSort_perm _ _
theorem leB_tot (a b : Ser) : (leB a b || leB b a) = true := by
  unfold leB
  rcases cmpLs_ok.tri a.lbs b.lbs with h | h | h
  · rw [decide_eq_true (by omega)]; rfl
  · rw [decide_eq_true (by rw [(cmpLs_ok.zero _ _).2 h]; omega)]; rfl
  · rw [decide_eq_true (p := cmpLs b.lbs a.lbs ≤ 0) (by omega)]; simp
theorem leB_tr (a b c : Ser) (h1 : leB a b = true) (h2 : leB b c = true) : leB a c = true := by
  unfold leB at *
  simp only [decide_eq_true_eq] at *
  rcases Int.lt_or_eq_of_le h1 with h1 | h1
  · rcases Int.lt_or_eq_of_le h2 with h2 | h2
    · exact Int.le_of_lt (cmpLs_ok.trans _ _ _ h1 h2)
    · rw [← (cmpLs_ok.zero _ _).1 h2]; omega
  · rw [(cmpLs_ok.zero _ _).1 h1]; exact h2
theorem srtS_le (ss : List Ser) : (srtS ss).Pairwise fun x y => leB x y = true := List.pairwise_mergeSort leB_tr leB_tot ss
theorem srtS_sort {ss : List Ser} (hd : ss.Pairwise fun x y => x.lbs ≠ y.lbs) : SortS (srtS ss) := by
  refine srt_strict (((srtS_perm ss).pairwise_iff (fun e => fun e1 => e e1.symm)).2 hd) ((srtS_le ss).imp fun {x y} h => ?_)
  unfold leB at h
  simp only [decide_eq_true_eq] at h
  rcases Int.lt_trichotomy (cmpLs y.lbs x.lbs) 0 with h1 | h1 | h1
  · have := (cmpLs_ok.anti y.lbs x.lbs).1 h1
    omega
  · omega
  · omega
/-- an answer that is a head's list put through something and sorted is the sorted list put through it -/
theorem srt_fm {ss W out : List Ser} {f : Ser → Option Ser} (hf : ∀ s s', f s = some s' → s'.lbs = s.lbs) (hd : ss.Pairwise fun x y => x.lbs ≠ y.lbs) (hW : SortS W) (hp : W.Perm ss) (hq : out.Perm (ss.filterMap f)) (ho : out.Pairwise fun x y => 0 ≤ cmpLs y.lbs x.lbs) : out = W.filterMap f := by
  refine srt_of hq ?_ ho ?_ (hp.filterMap f)
  · exact hd.filterMap f fun x y hxy x' hx y' hy e => hxy (by rw [← hf _ _ hx, ← hf _ _ hy, e])
  · exact List.Pairwise.filterMap f (fun x y hxy x' hx y' hy => by
      show cmpLs x'.lbs y'.lbs < 0
      rw [hf _ _ hx, hf _ _ hy]
      exact hxy) hW

/-! ### Points cut and selected -/
def selF (a b : Int) (s : Ser) : Option Ser := if (s.pts.filter (inR a b)).length = 0 then none else some ⟨s.lbs, s.pts.filter (inR a b)⟩
theorem selS_fm (a b : Int) (ss : List Ser) : selS a b ss = ss.filterMap (selF a b) := rfl
theorem selF_lbs {a b : Int} {s s' : Ser} (h : selF a b s = some s') : s'.lbs = s.lbs := by
  unfold selF at h
  split at h
  · cases h
  · injection h with h
    rw [← h]
theorem cutOff_lbs {t : Int} {s s' : Ser} (h : cutOff t s = some s') : s'.lbs = s.lbs := by
  unfold cutOff at h
  split at h
  · cases h
  · injection h with h
    rw [← h]
/-- in points that rise those ahead of a moment stand first -/
theorem rise_take {t : Int} : ∀ {ps : List Ptn}, Rise ps → ps.take (cutN t ps) = ps.filter (fun p => decide (p.1 < t)) ∧ ps.drop (cutN t ps) = ps.filter (fun p => !decide (p.1 < t))
  | [], _ => ⟨rfl, rfl⟩
  | p :: r, h => by
    unfold Rise at h
    rw [List.pairwise_cons] at h
    obtain ⟨h1, h2⟩ := rise_take (t := t) (ps := r) h.2
    unfold cutN at *
    rw [List.takeWhile_cons]
    by_cases hp : p.1 < t
    · simp only [decide_eq_true hp, if_true, List.length_cons, List.take_succ_cons, List.drop_succ_cons, List.filter_cons, Bool.not_true, Bool.false_eq_true, if_false]
      exact ⟨by rw [h1], h2⟩
    · have h3 : r.filter (fun p => decide (p.1 < t)) = [] := List.filter_eq_nil_iff.2 fun q hq => by
        have := h.1 q hq
        simp only [decide_eq_true_eq]
        omega
      have h4 : r.filter (fun p => !decide (p.1 < t)) = r := List.filter_eq_self.2 fun q hq => by
        have := h.1 q hq
        simp only [Bool.not_eq_true', decide_eq_false_iff_not]
        omega
      simp only [decide_eq_false hp, List.filter_cons, Bool.not_false, if_true, Bool.false_eq_true, if_false, List.length_nil, List.take_zero, List.drop_zero, h3, h4, and_self]
theorem cutOff_sel {t : Int} {s : Ser} (hr : Rise s.pts) (hb : ∀ p ∈ s.pts, -1099511627776 ≤ p.1 ∧ p.1 ≤ 1099511627776) : cutOff t s = selF (-1099511627776) (t - 1) s := by
  have h1 := (rise_take (t := t) hr).1
  have h2 : s.pts.filter (inR (-1099511627776) (t - 1)) = s.pts.filter (fun p => decide (p.1 < t)) := List.filter_congr fun p hp => by
    have := hb p hp
    unfold inR
    rw [decide_eq_true this.1, Bool.true_and]
    exact decide_eq_decide.2 (by omega)
  have h3 : (s.pts.filter (fun p => decide (p.1 < t))).length = cutN t s.pts := by
    rw [← h1, List.length_take]
    exact Nat.min_eq_left (cutN_le t s.pts)
  unfold cutOff selF
  rw [h2, h3, h1]
theorem cutLeft_sel {t : Int} {s : Ser} (hr : Rise s.pts) (hb : ∀ p ∈ s.pts, -1099511627776 ≤ p.1 ∧ p.1 ≤ 1099511627776) : cutLeft t s = selF t 1099511627776 s := by
  have h1 := (rise_take (t := t) hr).2
  have h2 : s.pts.filter (inR t 1099511627776) = s.pts.filter (fun p => !decide (p.1 < t)) := List.filter_congr fun p hp => by
    have := hb p hp
    unfold inR
    rw [decide_eq_true this.2, Bool.and_true, ← decide_not]
    exact decide_eq_decide.2 (by omega)
  have h3 : (s.pts.filter (fun p => !decide (p.1 < t))).length = s.pts.length - cutN t s.pts := by rw [← h1, List.length_drop]
  have h4 := cutN_le t s.pts
  unfold cutLeft selF
  rw [h2, h3, h1]
  by_cases h5 : cutN t s.pts = s.pts.length
  · rw [if_pos h5, if_pos (by omega)]
  · rw [if_neg h5, if_neg (by omega)]
theorem HV.cutOff {lim : Nat} {ss : List Ser} (h : HV lim ss) (t : Int) : ss.filterMap (cutOff t) = selS (-1099511627776) (t - 1) ss := fm_same fun s hs => cutOff_sel (h.ris s hs) (h.bnd s hs)
theorem HV.cutLeft {lim : Nat} {ss : List Ser} (h : HV lim ss) (t : Int) : ss.filterMap (cutLeft t) = selS t 1099511627776 ss := fm_same fun s hs => cutLeft_sel (h.ris s hs) (h.bnd s hs)
theorem fm_some {α : Type} {f : α → Option α} : ∀ {l : List α}, (∀ x ∈ l, f x = some x) → l.filterMap f = l
  | [], _ => rfl
  | x :: l, h => by rw [List.filterMap_cons, h x List.mem_cons_self, fm_some fun y hy => h y (List.mem_cons_of_mem _ hy)]
theorem fm_none {α β : Type} {f : α → Option β} : ∀ {l : List α}, (∀ x ∈ l, f x = none) → l.filterMap f = []
  | [], _ => rfl
  | x :: l, h => by rw [List.filterMap_cons, h x List.mem_cons_self, fm_none fun y hy => h y (List.mem_cons_of_mem _ hy)]
theorem selF_all {a b : Int} {s : Ser} (h : ∀ p ∈ s.pts, a ≤ p.1 ∧ p.1 ≤ b) (hn : s.pts ≠ []) : selF a b s = some s := by
  have : s.pts.filter (inR a b) = s.pts := List.filter_eq_self.2 fun p hp => by
    unfold inR
    rw [decide_eq_true (h p hp).1, decide_eq_true (h p hp).2]
    rfl
  unfold selF
  rw [this, if_neg fun e => hn (List.eq_nil_of_length_eq_zero e)]
theorem HV.sel_all {lim : Nat} {ss : List Ser} (h : HV lim ss) {a b : Int} (ha : a ≤ -1099511627776) (hb : 1099511627776 ≤ b) : selS a b ss = ss := fm_some fun s hs => selF_all (fun p hp => by have := h.bnd s hs p hp; omega) (h.non s hs)
theorem selF_none {a b : Int} {s : Ser} (h : ∀ p ∈ s.pts, p.1 < a ∨ b < p.1) : selF a b s = none := by
  unfold selF
  rw [List.filter_eq_nil_iff.2 fun p hp => by
    have := h p hp
    unfold inR
    simp only [Bool.and_eq_true, decide_eq_true_eq]
    omega]
  rfl
theorem HV.sel_none {lim : Nat} {ss : List Ser} (h : HV lim ss) {a b : Int} (hb : b < -1099511627776 ∨ 1099511627776 < a) : selS a b ss = [] := fm_none fun s hs => selF_none fun p hp => by have := h.bnd s hs p hp; omega
theorem HV.sel {lim : Nat} {ss : List Ser} (h : HV lim ss) (a b : Int) : HV lim (selS a b ss) := by
  have key : ∀ s' ∈ selS a b ss, ∃ s ∈ ss, s'.lbs = s.lbs ∧ s'.pts = s.pts.filter (inR a b) ∧ s'.pts ≠ [] := fun s' hs' => by
    obtain ⟨s, hs, h1⟩ := List.mem_filterMap.1 hs'
    split at h1
    · cases h1
    · rename_i h2
      injection h1 with h1
      subst h1
      exact ⟨s, hs, rfl, rfl, fun e => h2 (by rw [show s.pts.filter (inR a b) = [] from e]; rfl)⟩
  refine ⟨fun s' hs' => ?_, fun s' hs' => ?_, fun s' hs' => ?_, fun s' hs' => ?_, ?_, Nat.le_trans (List.length_filterMap_le _ _) h.len⟩
  · obtain ⟨s, hs, h1, _⟩ := key s' hs'
    rw [h1]
    exact h.chk s hs
  · obtain ⟨s, hs, _, h1, _⟩ := key s' hs'
    rw [h1]
    exact List.Pairwise.filter _ (h.ris s hs)
  · exact (key s' hs').choose_spec.2.2.2
  · obtain ⟨s, hs, _, h1, _⟩ := key s' hs'
    rw [h1]
    exact fun p hp => h.bnd s hs p (List.mem_filter.1 hp).1
  · exact h.dis.filterMap _ fun x y hxy x' hx y' hy e => hxy (by rw [← selF_lbs (a := a) (b := b) hx, ← selF_lbs (a := a) (b := b) hy, e])
/-- one select after another -/
theorem selF_tot {a m b : Int} (h1 : a ≤ m) (h2 : m ≤ b) (ps : List Ptn) : (ps.filter (inR a m)).length + (ps.filter (inR (m + 1) b)).length = (ps.filter (inR a b)).length := by
  induction ps with
  | nil => rfl
  | cons p r ih =>
    simp only [List.filter_cons]
    by_cases ha : a ≤ p.1
    · by_cases hb : p.1 ≤ b
      · rw [show inR a b p = true by simp [inR, ha, hb]]
        by_cases hm : p.1 ≤ m
        · rw [show inR a m p = true by simp [inR, ha, hm], show inR (m + 1) b p = false by simp [inR]; omega]
          simp only [if_true, Bool.false_eq_true, if_false, List.length_cons]
          omega
        · rw [show inR a m p = false by simp [inR]; omega, show inR (m + 1) b p = true by simp [inR, hb]; omega]
          simp only [if_true, Bool.false_eq_true, if_false, List.length_cons]
          omega
      · rw [show inR a b p = false by simp [inR]; omega, show inR a m p = false by simp [inR]; omega, show inR (m + 1) b p = false by simp [inR]; omega]
        simpa using ih
    · rw [show inR a b p = false by simp [inR]; omega, show inR a m p = false by simp [inR]; omega, show inR (m + 1) b p = false by simp [inR]; omega]
      simpa using ih
theorem rise_split {a m b : Int} (h1 : a ≤ m) (h2 : m ≤ b) : ∀ {ps : List Ptn}, Rise ps → ps.filter (inR a m) ++ ps.filter (inR (m + 1) b) = ps.filter (inR a b)
  | [], _ => rfl
  | p :: r, h => by
    unfold Rise at h
    rw [List.pairwise_cons] at h
    have ih := rise_split h1 h2 (ps := r) h.2
    simp only [List.filter_cons]
    by_cases ha : a ≤ p.1
    · by_cases hm : p.1 ≤ m
      · rw [show inR a b p = true by simp [inR, ha]; omega, show inR a m p = true by simp [inR, ha, hm], show inR (m + 1) b p = false by simp [inR]; omega]
        simp only [if_true, Bool.false_eq_true, if_false, List.cons_append]
        rw [ih]
      · have h3 : r.filter (inR a m) = [] := List.filter_eq_nil_iff.2 fun q hq => by
          have := h.1 q hq
          simp [inR]
          omega
        rw [h3, List.nil_append] at ih
        rw [show inR a m p = false by simp [inR]; omega, show inR (m + 1) b p = inR a b p by simp [inR, ha]; omega]
        simp only [Bool.false_eq_true, if_false]
        rw [h3, List.nil_append, ih]
    · rw [show inR a b p = false by simp [inR]; omega, show inR a m p = false by simp [inR]; omega, show inR (m + 1) b p = false by simp [inR]; omega]
      simpa using ih
end Go.Proofs.YtailooldnelecaaGreatDoor

namespace Go.Proofs.YtailooldnelecaaGreatDoor
open Go.RowKit

theorem nodupL {L : List HEnt} (h : L.Pairwise HAp) : L.Nodup := h.imp fun h e => h.key (by rw [e])
theorem mem_set_ne {L : List HEnt} {i : Nat} {e e' x : HEnt} (hi : L[i]? = some e) (hx : x ∈ L) (hne : x ≠ e) : x ∈ L.set i e' := by
  obtain ⟨j, hj⟩ := List.getElem?_of_mem hx
  refine List.mem_of_getElem? (i := j) ?_
  rw [List.getElem?_set, if_neg, hj]
  intro e1
  subst e1
  rw [hi] at hj
  injection hj with hj
  exact hne hj.symm
theorem mem_era_ne {L : List HEnt} {i : Nat} {e x : HEnt} (hi : L[i]? = some e) (hx : x ∈ L) (hne : x ≠ e) : x ∈ L.eraseIdx i := by
  obtain ⟨j, hj⟩ := List.getElem?_of_mem hx
  refine List.mem_eraseIdx_iff_getElem?.2 ⟨j, fun e1 => ?_, hj⟩
  subst e1
  rw [hi] at hj
  injection hj with hj
  exact hne hj.symm
theorem fm_set {f : Ser → Option Ser} : ∀ {L : List HEnt} {i : Nat} {e e' : HEnt}, L[i]? = some e → f e.s = some e'.s → (∀ j x, j ≠ i → L[j]? = some x → f x.s = some x.s) → (L.map HEnt.s).filterMap f = (L.set i e').map HEnt.s
  | [], i, e, e', h, _, _ => by simp at h
  | a :: L, 0, e, e', h, h1, h2 => by
    obtain rfl : a = e := by simpa using h
    rw [List.set_cons_zero, List.map_cons, List.map_cons, List.filterMap_cons, h1]
    simp only
    rw [fm_some]
    intro s hs
    obtain ⟨x, hx, rfl⟩ := List.mem_map.1 hs
    obtain ⟨j, hj⟩ := List.getElem?_of_mem hx
    exact h2 (j + 1) x (by omega) (by simpa using hj)
  | a :: L, i + 1, e, e', h, h1, h2 => by
    rw [List.set_cons_succ, List.map_cons, List.map_cons, List.filterMap_cons, h2 0 a (by omega) rfl]
    simp only
    rw [fm_set (L := L) (i := i) (by simpa using h) h1 fun j x hj hx => h2 (j + 1) x (by omega) (by simpa using hx)]
theorem fm_era {f : Ser → Option Ser} : ∀ {L : List HEnt} {i : Nat} {e : HEnt}, L[i]? = some e → f e.s = none → (∀ j x, j ≠ i → L[j]? = some x → f x.s = some x.s) → (L.map HEnt.s).filterMap f = (L.eraseIdx i).map HEnt.s
  | [], i, e, h, _, _ => by simp at h
  | a :: L, 0, e, h, h1, h2 => by
    obtain rfl : a = e := by simpa using h
    rw [List.eraseIdx_cons_zero, List.map_cons, List.filterMap_cons, h1]
    simp only
    rw [fm_some]
    intro s hs
    obtain ⟨x, hx, rfl⟩ := List.mem_map.1 hs
    obtain ⟨j, hj⟩ := List.getElem?_of_mem hx
    exact h2 (j + 1) x (by omega) (by simpa using hj)
  | a :: L, i + 1, e, h, h1, h2 => by
    rw [List.eraseIdx_cons_succ, List.map_cons, List.map_cons, List.filterMap_cons, h2 0 a (by omega) rfl]
    simp only
    rw [fm_era (L := L) (i := i) (by simpa using h) h1 fun j x hj hx => h2 (j + 1) x (by omega) (by simpa using hx)]

section
variable {S : Nat → Prop} {w W : World} {h b p : Nat} {L : List HEnt} {cb : Nat} {PL : List PEnt} {cp lim : Nat} {i n : Nat} {e : HEnt} {ad : Addr}
theorem HS.lbs_ne (hH : HS S w h b p L cb PL cp lim) {j : Nat} {x : HEnt} (hi : L[i]? = some e) (hj : L[j]? = some x) (hne : j ≠ i) : x.s.lbs ≠ e.s.lbs := fun e1 => by
  have h1 := hap_at hH.tb.ap hj hi hne
  refine h1.key ?_
  rw [(hH.tb.ok x (List.mem_of_getElem? hj)).key, (hH.tb.ok e (List.mem_of_getElem? hi)).key, e1]
theorem HS.cutE (hH : HS S w h b p L cb PL cp lim) (hi : L[i]? = some e) (hp : e.m.pa = some ad) (hn : n < e.m.pn) (hc : Chg (fun k => k = e.g) w W) (hz : W.heap.size = w.heap.size)
    (hb : Blk W e.g 67 #[.slice e.m.la e.m.ln e.m.lc, .slice (some ⟨ad.block, ad.off + n * 2, none⟩) (e.m.pn - n) (e.m.pc - n)]) : HS S W h b p (L.set i (e.cut ad n)) cb PL cp lim := by
  have hoe := hH.tb.ok e (List.mem_of_getElem? hi)
  have ho := hoe.cut hp hn hc hb
  have hTB := hH.tb.setE (W := W) hi (hc.mono fun k _ e1 => .inl e1) (ho.mono fun k hk => .inl hk) rfl rfl rfl (fun ad' e1 => .inl ⟨ad, hp, by injection e1 with e1; rw [← e1]⟩)
  exact ⟨hH.hd.chg hc (hH.hd.neT hoe.blk (by decide)), hTB.mono (fun k hk => hk.elim id fun h1 => by omega) (fun k hk => by have := hH.tb.lt k hk; omega), fun l s => (hH.rel l s).trans (inL_push (e' := e.cut ad n) hi rfl rfl l s).symm, hH.non, hH.oh, hH.ml, by rw [List.length_set]; exact hH.len⟩
theorem HS.bt (hH : HS S w h b p L cb PL cp lim) : ∀ k, BT b p PL k → S k ∧ ∃ es c, MapB w k es c := fun k hk => by
  rcases hk with rfl | rfl | ⟨q, hq, rfl⟩
  · exact ⟨hH.tb.ob, _, _, hH.tb.mb⟩
  · exact ⟨hH.tb.op, _, _, hH.tb.mp⟩
  · exact ⟨(hH.tb.pok q hq).oq, _, _, (hH.tb.pok q hq).mb⟩
theorem HS.nbt (hH : HS S w h b p L cb PL cp lim) {k : Nat} {t : TypeId} {cs : Array Value} (hk : Blk w k t cs) : ¬ BT b p PL k := fun hT => by
  obtain ⟨_, es, c, hm⟩ := hH.bt _ hT
  exact (hm.ne_blk hk) rfl
theorem HS.dropE {X : World} {PL' : List PEnt} (hH : HS S w h b p L cb PL cp lim) (hi : L[i]? = some e) (hc : Chg (fun k => k = e.g) w W) (D : DrpS S W X b p e i L cb PL PL' cp) : HS S X h b p (L.eraseIdx i) cb PL' cp lim := by
  have hoe := hH.tb.ok e (List.mem_of_getElem? hi)
  have hx : ∀ x ∈ L.eraseIdx i, ∃ j, j ≠ i ∧ L[j]? = some x := fun x hx => List.mem_eraseIdx_iff_getElem?.1 hx
  have hz1 := hc.size
  have hz2 := D.chg.size
  refine ⟨(hH.hd.chg hc (hH.hd.neT hoe.blk (by decide))).chg D.chg (hH.nbt hH.hd), ⟨D.mb, fun x hxm => ?_, hH.tb.ap.sublist (List.eraseIdx_sublist L i), D.pt.mp, D.pt.pok, D.pt.pap, hH.tb.bp, fun q hq => ⟨D.neb q hq, D.pt.pb q hq⟩, hH.tb.ob, hH.tb.op, fun k hk => ?_⟩, fun l s => ?_, D.non, hH.oh, hH.ml, ?_⟩
  · obtain ⟨j, hj, hjx⟩ := hx x hxm
    have hxo := hH.tb.ok x (List.mem_of_getElem? hjx)
    have ha := hap_at hH.tb.ap hjx hi hj
    obtain ⟨h1, h2, h3⟩ := hoe.et hxo ha
    have h4 := hxo.chg hc (fun e1 => h1 (.inl e1)) (fun ad e1 e2 => h2 ad e1 (.inl e2)) (fun ad e1 e2 => h3 ad e1 (.inl e2)) (Nat.le_refl _)
    exact h4.chg D.chg (hH.nbt hxo.blk) (fun ad e1 => by obtain ⟨c, hc⟩ := hxo.lb.blk ad e1; exact hH.nbt hc) (fun ad e1 => by obtain ⟨c, hc⟩ := hxo.pt.blk ad e1; exact hH.nbt hc) (Nat.le_refl _)
  · have := hH.tb.lt k hk
    omega
  · rw [D.rel, hH.rel]
    constructor
    · rintro ⟨⟨x, hx1, hx2, hx3⟩, hne⟩
      exact ⟨x, mem_era_ne hi hx1 (fun e1 => hne (by rw [← hx2, e1])), hx2, hx3⟩
    · rintro ⟨x, hx1, hx2, hx3⟩
      obtain ⟨j, hj, hjx⟩ := hx x hx1
      exact ⟨⟨x, List.mem_of_getElem? hjx, hx2, hx3⟩, fun e1 => (hap_at hH.tb.ap hjx hi hj).key (hx2.trans e1)⟩
  · have := List.length_eraseIdx_le L i
    have := hH.len
    omega
/-- a series goes out whose points have gone -/
theorem HS.drop (hH : HS S w h b p L cb PL cp lim) (hi : L[i]? = some e) (hc : Chg (fun k => k = e.g) w W) {pa : Option Addr} {pn pc : Nat} (hb : Blk W e.g 67 #[.slice e.m.la e.m.ln e.m.lc, .slice pa pn pc]) :
    Calls Tryz.prog 43 #[.pointer (some ⟨h, 0, none⟩), .string e.key] W fun x w' => x = .returned (.tuple #[]) ∧ ∃ PL', HS S w' h b p (L.eraseIdx i) cb PL' cp lim ∧ Chg S W w' := by
  have he := List.mem_of_getElem? hi
  have hoe := hH.tb.ok e he
  refine (drop_any (S := S) (PL := PL) pa pn pc W hi (hH.tb.mb.chg hc (hH.tb.mb.ne_blk hoe.blk)) ?_ (hH.tb.pt.chg hc (hH.tb.mp.ne_blk hoe.blk) fun q hq => ((hH.tb.pok q hq).mb.ne_blk hoe.blk)) hH.tb.bp (fun q hq => (hH.tb.pb q hq).1) (hH.hd.chg hc (hH.hd.neT hoe.blk (by decide))) hb
    (hoe.lb.chg hc fun ad e1 e2 => hoe.la ad e1 (.inl e2)) (chkL_nodup hoe.chk) (chkL_sizes hoe.chk).1 (fun l => ?_) hH.non).mono ?_
  · simpa using hH.tb.kap
  · rw [hH.rel]
    constructor
    · rintro ⟨x, hx, h1, h2⟩
      by_cases e1 : x = e
      · exact e1 ▸ h2
      · exact absurd h1 (hap_of hH.tb.ap hx he e1).key
    · exact fun h1 => ⟨e, he, rfl, h1⟩
  · rintro x w' ⟨h1, PL', D⟩
    exact ⟨h1, PL', hH.dropE hi hc D, D.chg.mono fun k _ hk => (hH.bt k hk).1⟩
end
end Go.Proofs.YtailooldnelecaaGreatDoor
