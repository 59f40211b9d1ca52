/-
  Several texts in one:
  Samples in memory. Conditions: none.
  A head as its list of series: what its calls answer and leave. Conditions: lengths that memory bears.
  The keys that a first matcher that asks for a label leaves: a range over the label's own map. Conditions: texts that memory bears.
-/
import Derived.Test.YtailooldnelecaaGreatDoorPart12
import Derived.Test.YtailooldnelecaaGreatDoorPart18
import Derived.Test.YtailooldnelecaaGreatDoorPart28
import Derived.Laws.IdiomRangeMap

namespace Go.Proofs.YtailooldnelecaaGreatDoor
open Go.RowKit

structure Smp where
  lbs : List Lab
  t : Int
  v : Nat
structure SmpM where
  la : Option Addr
  ln : Nat
  lc : Nat
  t : Int
  v : Nat
def elSa : El SmpM := ⟨fun s => [.slice s.la s.ln s.lc, .int .i64 s.t, .int .u64 (s.v : Int)], 3, fun _ => rfl, by
  intro x u hu
  simp only [List.mem_cons, List.not_mem_nil, or_false] at hu
  rcases hu with rfl | rfl | rfl <;> rfl⟩
structure SmIs (w : World) (m : SmpM) (s : Smp) : Prop where
  lb : RE elLb w m.la m.ln s.lbs
  lc : m.ln ≤ m.lc ∧ m.lc ≤ 9223372036854775807
  t : m.t = s.t
  v : m.v = s.v
  bt : -9223372036854775808 ≤ s.t ∧ s.t ≤ 9223372036854775807
  bv : s.v < 18446744073709551616
theorem SmIs.grew {w w' : World} {m : SmpM} {s : Smp} (h : SmIs w m s) (hc : Grew w w') : SmIs w' m s := ⟨h.lb.grew hc, h.lc, h.t, h.v, h.bt, h.bv⟩
/-- a slice's cells are these samples -/
def RSa (w : World) (A : Option Addr) (n : Nat) (ss : List Smp) : Prop := ∃ ms : List SmpM, RE elSa w A n ms ∧ ms.length = ss.length ∧ ∀ (i : Nat) (m : SmpM) (s : Smp), ms[i]? = some m → ss[i]? = some s → SmIs w m s
theorem RSa.grew {w w' : World} {A : Option Addr} {n : Nat} {ss : List Smp} (h : RSa w A n ss) (hc : Grew w w') : RSa w' A n ss := by
  obtain ⟨ms, h1, h2, h3⟩ := h
  exact ⟨ms, h1.grew hc, h2, fun i m s hm hs => (h3 i m s hm hs).grew hc⟩
theorem RSa.len {w : World} {A : Option Addr} {n : Nat} {ss : List Smp} (h : RSa w A n ss) : ss.length = n := by
  obtain ⟨ms, h1, h2, _⟩ := h
  rw [← h2, h1.1]
theorem RSa.at_ {w : World} {A : Option Addr} {n : Nat} {ss : List Smp} (h : RSa w A n ss) {k : Nat} (hk : k < n) :
    ∃ ad la ln lc s, A = some ad ∧ ss[k]? = some s ∧ RE elLb w la ln s.lbs ∧ (ln ≤ lc ∧ lc ≤ 9223372036854775807) ∧ (-9223372036854775808 ≤ s.t ∧ s.t ≤ 9223372036854775807) ∧ s.v < 18446744073709551616 ∧ w.cell? (ad.add (k * 3)) = some (.slice la ln lc) ∧ w.cell? ⟨(ad.add (k * 3)).block, (ad.add (k * 3)).off + 1, none⟩ = some (.int .i64 s.t) ∧ w.cell? ⟨(ad.add (k * 3)).block, (ad.add (k * 3)).off + 2, none⟩ = some (.int .u64 (s.v : Int)) := by
  obtain ⟨ms, h1, h2, h3⟩ := h
  obtain ⟨ad, m, e, hm, hc⟩ := h1.at_ hk (by decide)
  have hs : ss[k]? = some (ss[k]'(by have := h1.1; omega)) := List.getElem?_eq_getElem _
  have h4 := h3 k m _ hm hs
  refine ⟨ad, m.la, m.ln, m.lc, _, e, hs, h4.lb, h4.lc, h4.bt, h4.bv, hc 0 _ rfl, ?_, ?_⟩
  · have := hc 1 _ rfl
    rw [h4.t] at this
    exact cell_off (by decide) this
  · have := hc 2 _ rfl
    rw [h4.v] at this
    exact cell_off (by decide) this

/-! ### What adding keeps, in plain words -/
theorem lastS_put {ss : List Ser} {lbs : List Lab} {q : Ptn} : lastS (putS ss lbs q) lbs = some q := by
  unfold lastS putS
  by_cases h : (ss.any fun s => decide (s.lbs = lbs)) = true
  · rw [if_pos h]
    induction ss with
    | nil => simp at h
    | cons s r ih =>
      rw [List.map_cons, List.find?_cons]
      by_cases hs : s.lbs = lbs
      · rw [if_pos hs, decide_eq_true hs]
        simp
      · rw [if_neg hs, decide_eq_false hs]
        refine ih ?_
        rw [List.any_cons, decide_eq_false hs] at h
        simpa using h
  · rw [if_neg h, List.find?_append]
    have : (ss.find? fun s => decide (s.lbs = lbs)) = none := by
      rw [List.find?_eq_none]
      intro s hs h1
      exact h (List.any_eq_true.2 ⟨s, hs, h1⟩)
    rw [this]
    simp
theorem fateS_form {lim : Nat} {ss : List Ser} {lbs : List Lab} {T : Int} {V : Nat} (h : fateS lim ss lbs T V = 1) : chkL lbs = 0 ∧ okT T := by
  unfold fateS at h
  split at h
  · assumption
  · cases h
/-- a sample's twin -/
theorem fateS_twin {lim : Nat} {ss : List Ser} {lbs : List Lab} {T : Int} {V : Nat} (h : fateS lim ss lbs T V = 1) : fateS lim (addT lim ss lbs T V) lbs T V = 2 := by
  unfold addT
  rw [if_pos h]
  unfold fateS
  rw [if_pos (fateS_form h), lastS_put]
  unfold fateO
  simp
theorem fateS_same {lim : Nat} {ss : List Ser} {lbs : List Lab} {T : Int} {V : Nat} (h : fateS lim ss lbs T V ≠ 1) : addT lim ss lbs T V = ss := by
  unfold addT
  rw [if_neg h]
theorem fateS_full {lim : Nat} {ss : List Ser} {lbs : List Lab} {T : Int} {V : Nat} (h : fateS lim ss lbs T V = 5) : lim ≤ ss.length := by
  unfold fateS at h
  split at h
  · unfold fateO at h
    split at h
    · split at h
      · assumption
      · cases h
    · split at h
      · cases h
      · split at h
        · cases h
        · split at h <;> cases h
  · cases h
theorem tot_cons1 (s : Ser) (r : List Ser) : tot (s :: r) = s.pts.length + tot r := by simp [tot]
theorem tot_put {lbs : List Lab} {q : Ptn} : ∀ {ss : List Ser}, (ss.Pairwise fun a b => a.lbs ≠ b.lbs) → tot (putS ss lbs q) = tot ss + 1 := by
  have key : ∀ {ss : List Ser}, (ss.Pairwise fun a b => a.lbs ≠ b.lbs) → (ss.any fun s => decide (s.lbs = lbs)) = true → tot (ss.map fun s => if s.lbs = lbs then (⟨s.lbs, s.pts ++ [q]⟩ : Ser) else s) = tot ss + 1 := by
    intro ss
    induction ss with
    | nil => intro _ h; simp at h
    | cons s r ih =>
      intro hd h
      rw [List.pairwise_cons] at hd
      rw [List.map_cons, tot_cons1, tot_cons1]
      by_cases hs : s.lbs = lbs
      · have : (r.map fun s => if s.lbs = lbs then (⟨s.lbs, s.pts ++ [q]⟩ : Ser) else s) = r := by
          refine (List.map_congr_left fun x hx => ?_).trans (List.map_id _)
          rw [if_neg fun e => hd.1 x hx (hs.trans e.symm)]
          rfl
        rw [this, if_pos hs]
        simp only [List.length_append, List.length_singleton]
        omega
      · rw [if_neg hs, ih hd.2 (by rw [List.any_cons, decide_eq_false hs] at h; simpa using h)]
        omega
  intro ss hd
  unfold putS
  by_cases h : (ss.any fun s => decide (s.lbs = lbs)) = true
  · rw [if_pos h, key hd h]
  · rw [if_neg h]
    simp [tot]
theorem mem_put {lbs : List Lab} {q : Ptn} {ss : List Ser} {s : Ser} (h : s ∈ putS ss lbs q) {p : Ptn} (hp : p ∈ s.pts) : (∃ s' ∈ ss, s'.lbs = s.lbs ∧ p ∈ s'.pts) ∨ s.lbs = lbs ∧ p = q := by
  unfold putS at h
  split at h
  · obtain ⟨x, hx, e⟩ := List.mem_map.1 h
    by_cases hxl : x.lbs = lbs
    · rw [if_pos hxl] at e
      subst e
      rcases List.mem_append.1 hp with hp | hp
      · exact .inl ⟨x, hx, rfl, hp⟩
      · exact .inr ⟨hxl, List.mem_singleton.1 hp⟩
    · rw [if_neg hxl] at e
      subst e
      exact .inl ⟨x, hx, rfl, hp⟩
  · rcases List.mem_append.1 h with hx | hx
    · exact .inl ⟨s, hx, rfl, hp⟩
    · obtain rfl := List.mem_singleton.1 hx
      exact .inr ⟨rfl, List.mem_singleton.1 hp⟩
theorem tot_add {lim : Nat} {ss : List Ser} {lbs : List Lab} {T : Int} {V : Nat} (hd : ss.Pairwise fun a b => a.lbs ≠ b.lbs) : tot (addT lim ss lbs T V) = tot ss + if fateS lim ss lbs T V = 1 then 1 else 0 := by
  unfold addT
  split
  · exact tot_put hd
  · rfl
theorem mem_add {lim : Nat} {lbs : List Lab} {T : Int} {V : Nat} {ss : List Ser} {s : Ser} (h : s ∈ addT lim ss lbs T V) {p : Ptn} (hp : p ∈ s.pts) : (∃ s' ∈ ss, s'.lbs = s.lbs ∧ p ∈ s'.pts) ∨ s.lbs = lbs ∧ p = (T, V) := by
  unfold addT at h
  split at h
  · exact mem_put h hp
  · exact .inl ⟨s, h, rfl, hp⟩
theorem totH_tot {S : Nat → Prop} {w : World} {cb : Nat} {L : List HEnt} (h : ∀ e ∈ L, e.Ok S w cb) : totH L = tot (L.map HEnt.s) := by
  unfold totH tot
  rw [List.map_map]
  refine congrArg List.sum (List.map_congr_left fun e he => ?_)
  exact ((h e he).pt.len (by decide)).symm
theorem tot_perm1 {a b : List Ser} (h : a.Perm b) : tot a = tot b := (h.map _).sum_nat
end Go.Proofs.YtailooldnelecaaGreatDoor

namespace Go.Proofs.YtailooldnelecaaGreatDoor
open Go.RowKit

/-- a head in blocks of its own, with these series -/
def HD (S : Nat → Prop) (w : World) (h lim : Nat) (ss : List Ser) : Prop := ∃ b p L cb PL cp, HS S w h b p L cb PL cp lim ∧ L.map HEnt.s = ss
section
variable {S : Nat → Prop} {w w' : World} {h lim : Nat} {ss : List Ser}
theorem HD.hv (hD : HD S w h lim ss) : HV lim ss := by
  obtain ⟨b, p, L, cb, PL, cp, hH, rfl⟩ := hD
  exact hH.hv
theorem HD.ml (hD : HD S w h lim ss) : lim ≤ 1024 := by
  obtain ⟨b, p, L, cb, PL, cp, hH, rfl⟩ := hD
  exact hH.ml
theorem HD.lt (hD : HD S w h lim ss) : ∀ k, S k → k < w.heap.size := by
  obtain ⟨b, p, L, cb, PL, cp, hH, rfl⟩ := hD
  exact hH.tb.lt
theorem HD.chg {T : Nat → Prop} (hD : HD S w h lim ss) (hc : Chg T w w') (hT : ∀ k, S k → ¬ T k) : HD S w' h lim ss := by
  obtain ⟨b, p, L, cb, PL, cp, hH, rfl⟩ := hD
  exact ⟨b, p, L, cb, PL, cp, hH.chg hc hT, rfl⟩
theorem HD.grew (hD : HD S w h lim ss) (hc : Grew w w') : HD S w' h lim ss := hD.chg hc fun _ _ e => e
theorem HD.tot (hD : HD S w h lim ss) : tot ss ≤ 2251799813686272 := by
  obtain ⟨b, p, L, cb, PL, cp, hH, rfl⟩ := hD
  have h1 := totH_tot hH.tb.ok
  have h2 := totH_le (B := 2199023255553) fun e he => (hH.tb.ok e he).pn
  have h3 := hH.len
  have h4 := hH.ml
  have h5 : 2199023255553 * L.length ≤ 2199023255553 * 1024 := Nat.mul_le_mul_left _ (by omega)
  omega
end
theorem new_hd (lim : Int) (w : World) (h63 : -9223372036854775808 ≤ lim ∧ lim ≤ 9223372036854775807) : Calls Tryz.prog 4 #[.int .i64 lim] w fun e w' => ∃ h S, e = .returned (.pointer (some ⟨h, 0, none⟩)) ∧ HD S w' h (min (max lim 0) 1024).toNat [] ∧ Grew w w' ∧ ∀ k, S k → w.heap.size ≤ k :=
  (new_any lim w h63).mono fun _ _ ⟨h, b, p, S, he, hH, hg, hs⟩ => ⟨h, S, he, ⟨b, p, [], 0, [], 0, hH, rfl⟩, hg, hs⟩
/-- a head after an Add: more blocks, if any, are new ones -/
def AddD (S : Nat → Prop) (w : World) (h lim : Nat) (ss : List Ser) (w' : World) : Prop := ∃ S' : Nat → Prop, HD S' w' h lim ss ∧ (∀ k, S k → S' k) ∧ (∀ k, S' k → S k ∨ w.heap.size ≤ k) ∧ Chg S w w'
section
variable {S : Nat → Prop} {w : World} {h lim : Nat} {ss : List Ser}
theorem add_hd (la : Option Addr) (ln lc : Nat) (lbs : List Lab) (T : Int) (V : Nat) (hD : HD S w h lim ss) (hl : RE elLb w la ln lbs) (hlc : ln ≤ lc ∧ lc ≤ 9223372036854775807) :
    Calls Tryz.prog 11 #[.pointer (some ⟨h, 0, none⟩), .agg #[.slice la ln lc, .int .i64 T, .int .u64 (V : Int)]] w fun e w' => e = .returned (.int .i64 (fateS lim ss lbs T V)) ∧ AddD S w h lim (addT lim ss lbs T V) w' := by
  obtain ⟨b, p, L, cb, PL, cp, hH, rfl⟩ := hD
  refine (add_any la ln lc lbs T V w hH hl hlc).mono ?_
  rintro e w' ⟨he, S', L', cb', PL', cp', h1, h2, h3, h4, h5⟩
  exact ⟨he, S', ⟨b, p, L', cb', PL', cp', h1, h5⟩, h2, h3, h4⟩
theorem fate_hd (la : Option Addr) (ln lc : Nat) (lbs : List Lab) (T : Int) (V : Nat) (hD : HD S w h lim ss) (hl : RE elLb w la ln lbs) (hlc : ln ≤ lc ∧ lc ≤ 9223372036854775807) :
    Calls Tryz.prog 13 #[.pointer (some ⟨h, 0, none⟩), .agg #[.slice la ln lc, .int .i64 T, .int .u64 (V : Int)]] w fun e w' => e = .returned (.int .i64 (fateS lim ss lbs T V)) ∧ Grew w w' := by
  obtain ⟨b, p, L, cb, PL, cp, hH, rfl⟩ := hD
  refine (fate_any la ln lc lbs T V w hH hl hlc).mono ?_
  rintro e w' ⟨he, h1⟩
  rw [fateL_eq] at he
  exact ⟨he, h1⟩
theorem srt_len {a b : List Ser} (h : a = srtS b) : a.length = b.length := by rw [h, (srtS_perm b).length_eq]
theorem sel_hd (u0 u1 : Int) (hD : HD S w h lim ss) (hx : MaxL w) :
    Calls Tryz.prog 8 #[.pointer (some ⟨h, 0, none⟩), .slice none 0 0, .int .i64 u0, .int .i64 u1] w fun e w' => ∃ B d, e = .returned (.slice B (srtS (selS u0 u1 ss)).length d) ∧ NS w' w.heap.size B (srtS (selS u0 u1 ss)).length d (srtS (selS u0 u1 ss)) ∧ Grew w w' := by
  obtain ⟨b, p, L, cb, PL, cp, hH, rfl⟩ := hD
  refine (select_nil u0 u1 w hH hx).mono ?_
  rintro e w' ⟨B, m, d, he, out, hN, hp, hs, hg⟩
  have hv := hH.hv.sel u0 u1
  have h1 : out = srtS (selS u0 u1 (L.map HEnt.s)) := srt_of hp hv.dis hs (srtS_sort hv.dis) (srtS_perm _)
  have h2 := hN.len
  subst h2
  rw [h1] at he hN
  exact ⟨B, d, he, hN, hg⟩
theorem cut_hd (t : Int) (hD : HD S w h lim ss) (hx : MaxL w) :
    Calls Tryz.prog 20 #[.pointer (some ⟨h, 0, none⟩), .int .i64 t] w fun e w' => ∃ B d, e = .returned (.slice B (srtS (selS (-1099511627776) (t - 1) ss)).length d) ∧ NS w' w.heap.size B (srtS (selS (-1099511627776) (t - 1) ss)).length d (srtS (selS (-1099511627776) (t - 1) ss)) ∧ Chg S w w' ∧ HD S w' h lim (selS t 1099511627776 ss) := by
  obtain ⟨b, p, L, cb, PL, cp, hH, rfl⟩ := hD
  refine (cut_any t w hH hx).mono ?_
  rintro e w' ⟨B, m, d, he, out, hN, hp, hs, hg, L', PL', h3, h4⟩
  rw [hH.hv.cutOff] at hp
  rw [hH.hv.cutLeft] at h4
  have hv := hH.hv.sel (-1099511627776) (t - 1)
  have h1 : out = srtS (selS (-1099511627776) (t - 1) (L.map HEnt.s)) := srt_of hp hv.dis hs (srtS_sort hv.dis) (srtS_perm _)
  have h2 := hN.len
  subst h2
  rw [h1] at he hN
  exact ⟨B, d, he, hN, hg, b, p, L', cb, PL', cp, h3, h4⟩
theorem count_hd (hD : HD S w h lim ss) :
    Calls Tryz.prog 22 #[.pointer (some ⟨h, 0, none⟩)] w fun e w' => e = .returned (.tuple #[.int .i64 (ss.length : Int), .int .i64 (tot ss : Int)]) ∧ Grew w w' := by
  obtain ⟨b, p, L, cb, PL, cp, hH, rfl⟩ := hD
  refine (count_head w hH).mono ?_
  rintro e w' ⟨he, hg⟩
  rw [totH_tot hH.tb.ok] at he
  rw [List.length_map]
  exact ⟨he, hg⟩
def spanS (ss : List Ser) : Int × Int × Bool := ss.foldl (fun a s => spanStep a s.pts) (0, 0, false)
theorem span_hd (hD : HD S w h lim ss) :
    Calls Tryz.prog 24 #[.pointer (some ⟨h, 0, none⟩)] w fun e w' => ∃ tt : List Ser, tt.Perm ss ∧ e = .returned (.tuple #[.int .i64 (spanS tt).1, .int .i64 (spanS tt).2.1, .bool (spanS tt).2.2]) ∧ Grew w w' := by
  obtain ⟨b, p, L, cb, PL, cp, hH, rfl⟩ := hD
  refine (span_any w hH).mono ?_
  rintro e w' ⟨V, hp, he, hg⟩
  have : spanH V = spanS (V.map HEnt.s) := by
    unfold spanH spanS
    rw [List.foldl_map]
  rw [this] at he
  exact ⟨V.map HEnt.s, hp.map _, he, hg⟩
end
theorem srtS_nil : srtS [] = [] := by simp [srtS]
theorem srtS_one (s : Ser) : srtS [s] = [s] := by simp [srtS]
end Go.Proofs.YtailooldnelecaaGreatDoor

namespace Go.Proofs.YtailooldnelecaaGreatDoor
open Go.RowKit

theorem run_next_nilAt {P : Program} {w : World} {r a b : Nat} {s : Array Nat} (h : w.heap[r]? = some (.mapIter none a s b)) (ty : TypeId) : (Instr.next (.pointer (some ⟨r, 0, none⟩)) false ty).run P w = .ok (.tuple #[.bool false]) w := by
  simp only [Instr.next, getObj, Sem.run_bind, Sem.run, h, Result.andThen]
  rfl
theorem kap_uniq {es : List MapEntry} (h : KAp es) {f g : MapEntry} (hf : f ∈ es) (hg : g ∈ es) (e : f.key = g.key) : f = g := by
  obtain ⟨i, hi⟩ := List.getElem?_of_mem hf
  obtain ⟨j, hj⟩ := List.getElem?_of_mem hg
  obtain rfl := h.at_ hi hj e
  rw [hi] at hj
  injection hj
theorem pap_uniq {PL : List PEnt} (h : PL.Pairwise PAp) {a b : PEnt} (ha : a ∈ PL) (hb : b ∈ PL) (e : a.l = b.l) : a = b := by
  obtain ⟨i, hi⟩ := List.getElem?_of_mem ha
  obtain ⟨j, hj⟩ := List.getElem?_of_mem hb
  by_cases hij : i = j
  · subst hij
    rw [hi] at hj
    injection hj
  · exact absurd e (pap_at h hi hj hij).l
def hasL (l : Lab) (e : HEnt) : Bool := e.s.lbs.any fun x => decide (x = l)
theorem hasL_iff {l : Lab} {e : HEnt} : hasL l e = true ↔ l ∈ e.s.lbs := by
  unfold hasL
  rw [List.any_eq_true]
  constructor
  · rintro ⟨x, hx, h⟩
    have h : x = l := by simpa using h
    exact h ▸ hx
  · exact fun h => ⟨l, h, by simp⟩
/-- the entries met so far, and their series -/
structure PartP (q : PEnt) (L : List HEnt) (VE : List MapEntry) (V : List HEnt) : Prop where
  sub : PartM VE q.es
  nd : V.Nodup
  mem : ∀ e ∈ V, e ∈ L ∧ q.l ∈ e.s.lbs
  keys : V.map (fun e => Value.string e.key) = VE.map MapEntry.key
theorem PartP.nil (q : PEnt) (L : List HEnt) : PartP q L [] [] := ⟨PartM.nil _, List.nodup_nil, fun e he => (by cases he), rfl⟩
theorem PartP.len {q : PEnt} {L V : List HEnt} {VE : List MapEntry} (h : PartP q L VE V) : VE.length = V.length := by
  have := congrArg List.length h.keys
  simpa using this.symm
theorem PartP.le {q : PEnt} {L V : List HEnt} {VE : List MapEntry} (h : PartP q L VE V) : V.length ≤ L.length := PartH.len ⟨h.nd, fun e he => (h.mem e he).1⟩
section
variable {S : Nat → Prop} {w : World} {h b p cb cp lim : Nat} {L V : List HEnt} {PL : List PEnt} {r : Nat} {q : PEnt} {VE : List MapEntry}
theorem HS.nextP (hH : HS S w h b p L cb PL cp lim) (hq : q ∈ PL) (hi : ItM w r q.q q.c VE) (hV : PartP q L VE V) :
    (V.Perm (L.filter (hasL q.l)) ∧ ∀ ty, (Instr.next (.pointer (some ⟨r, 0, none⟩)) false ty).run Tryz.prog w = .ok (.tuple #[.bool false]) w) ∨
    ∃ f e, e ∈ L ∧ PartP q L (VE ++ [f]) (V ++ [e]) ∧ ∃ w1 : World, Chg (fun k => k = r) w w1 ∧ w1.heap.size = w.heap.size ∧ (∀ ty, (Instr.next (.pointer (some ⟨r, 0, none⟩)) false ty).run Tryz.prog w = .ok (.tuple #[.bool true, .string e.key, f.val]) w1) ∧
      ItM w1 r q.q q.c (VE ++ [f]) ∧ (Instr.entry (.pointer (some ⟨r, 0, none⟩))).run Tryz.prog w1 = .ok (.tuple #[.string e.key, f.val]) w1 := by
  have hqo := hH.tb.pok q hq
  rcases itm_next (P := Tryz.prog) hqo.mb hqo.bap hi hV.sub with ⟨h1, h2⟩ | ⟨f, hf, hfV, hpm, w1, hc, hs, hn, hi1, _, hen⟩
  · refine .inl ⟨(List.perm_ext_iff_of_nodup hV.nd ((nodupL hH.tb.ap).filter _)).2 fun e => ⟨fun he => ?_, fun he => ?_⟩, h2⟩
    · have := hV.mem e he
      exact List.mem_filter.2 ⟨this.1, hasL_iff.2 this.2⟩
    · obtain ⟨he1, he2⟩ := List.mem_filter.1 he
      obtain ⟨q', hq', hl, y, hy, hk⟩ := (hH.rel q.l e.key).2 ⟨e, he1, rfl, hasL_iff.1 he2⟩
      obtain rfl := pap_uniq hH.tb.pap hq' hq hl
      have h3 : Value.string e.key ∈ V.map (fun e => Value.string e.key) := by
        rw [hV.keys]
        exact List.mem_map.2 ⟨y, h1.mem_iff.2 hy, hk⟩
      obtain ⟨x, hx, e1⟩ := List.mem_map.1 h3
      injection e1 with e1
      by_cases hxe : x = e
      · exact hxe ▸ hx
      · exact absurd e1 (hap_of hH.tb.ap (hV.mem x hx).1 he1 hxe).key
  · obtain ⟨s, hks⟩ := hqo.kst f hf
    obtain ⟨e, he, hes, hel⟩ := (hH.rel q.l s).1 ⟨q, hq, rfl, f, hf, hks⟩
    subst hes
    rw [hks] at hn hen
    refine .inr ⟨f, e, he, ⟨hpm, ?_, fun x hx => ?_, ?_⟩, w1, hc, hs, hn, hi1, hen⟩
    · refine List.nodup_append.2 ⟨hV.nd, by simp, fun a ha z hz e1 => ?_⟩
      obtain rfl := List.mem_singleton.1 hz
      subst e1
      have h3 : Value.string a.key ∈ VE.map MapEntry.key := by
        rw [← hV.keys]
        exact List.mem_map.2 ⟨a, ha, rfl⟩
      obtain ⟨g, hg, e1⟩ := List.mem_map.1 h3
      exact hfV (kap_uniq hqo.kap (hV.sub.sub g hg) hf (e1.trans hks.symm) ▸ hg)
    · rcases List.mem_append.1 hx with hx | hx
      · exact hV.mem x hx
      · obtain rfl := List.mem_singleton.1 hx
        exact ⟨he, hel⟩
    · rw [List.map_append, List.map_append, hV.keys]
      simp [hks]
theorem HS.noneP (hH : HS S w h b p L cb PL cp lim) {l : Lab} (hn : ∀ q ∈ PL, q.l ≠ l) : ∀ e ∈ L, l ∉ e.s.lbs := fun e he hl => by
  obtain ⟨q, hq, h1, _⟩ := (hH.rel l e.key).2 ⟨e, he, rfl, hl⟩
  exact hn q hq h1
end
theorem getB_mem {ls : List Lab} {nm v : ByteArray} (h : getB ls nm = v) (hv : v ≠ ⟨#[]⟩) : (nm, v) ∈ ls := by
  induction ls with
  | nil => exact absurd h.symm hv
  | cons x r ih =>
    unfold getB at h
    split at h
    · rename_i h1
      have : x.1 = nm := data_inj (by simpa [lst] using h1)
      rw [← this, ← h]
      simp
    · exact List.mem_cons_of_mem _ (ih h)
theorem says_label {nm v : ByteArray} {ms : List Mat} {ls : List Lab} (h0 : ms[0]? = some (1, nm, v)) (hv : v ≠ ⟨#[]⟩) (h : saysB ms ls = true) : (nm, v) ∈ ls := by
  have h1 := List.all_eq_true.1 h _ (List.mem_of_getElem? h0)
  unfold oneB at h1
  simp only [if_true] at h1
  exact getB_mem (data_inj (by simpa [lst] using h1)) hv
theorem says_filter {nm v : ByteArray} {ms : List Mat} {V L : List HEnt} (h0 : ms[0]? = some (1, nm, v)) (hv : v ≠ ⟨#[]⟩) (h : V.Perm (L.filter (hasL (nm, v)))) : (V.filter fun e => saysB ms e.s.lbs).Perm (L.filter fun e => saysB ms e.s.lbs) := by
  have h1 := h.filter fun e => saysB ms e.s.lbs
  rw [List.filter_filter] at h1
  refine h1.trans ?_
  rw [List.filter_congr (q := fun e => saysB ms e.s.lbs) fun e _ => ?_]
  by_cases h2 : saysB ms e.s.lbs = true
  · rw [h2, hasL_iff.2 (says_label h0 hv h2)]
    rfl
  · rw [Bool.eq_false_iff.2 h2]
    rfl
/-- what narrow hands back -/
def NarQ (w : World) (L : List HEnt) (ms : List Mat) (e : Ending) (w' : World) : Prop := ∃ (V : List HEnt) (B : Option Addr) (d : Nat), V.Perm (L.filter fun e => saysB ms e.s.lbs) ∧ e = .returned (.slice B V.length d) ∧ OE elTx w' w.heap.size 9 B V.length d (V.map HEnt.key) ∧ Grew w w'

set_option maxRecDepth 100000 in
set_option maxHeartbeats 8000000 in
theorem narrow_all {S : Nat → Prop} {h b p cb cp lim : Nat} {L : List HEnt} {PL : List PEnt} (A : Option Addr) (n c : Nat) (ms : List Mat) (w : World) (hH : HS S w h b p L cb PL cp lim) (hR : RE elMa w A n ms) (hn : n ≤ 9223372036854775807) (hms : ∀ x ∈ ms, x.2.2.size ≤ 16777216) (hx : MaxL w)
    (hno : n = 0 ∨ ∃ x, ms[0]? = some x ∧ (x.1 ≠ 1 ∨ x.2.2 = ⟨#[]⟩)) :
    Calls Tryz.prog 28 #[.pointer (some ⟨h, 0, none⟩), .slice A n c] w (NarQ w L ms) := by
  have hC : Calls Tryz.prog 42 #[.pointer (some ⟨h, 0, none⟩), .slice A n c] w (NarQ w L ms) := (asked_any A n c ms w hH hR hn hms hx).mono fun e w' ⟨V, B, d, hp, he, ho, hg⟩ => by
    refine ⟨V.filter fun e => saysB ms e.s.lbs, B, d, hp.filter _, ?_, ?_, hg⟩
    · rw [he]
      unfold kO
      rw [List.length_map]
    · unfold kO at ho
      rwa [List.length_map] at ho
  clear hH hx hms
  rcases Nat.eq_zero_or_pos n with h0 | h0
  · subst h0
    clear hno hR
    go_enter Tryz.func28, Tryz.ntmps28
    go_wp2_with fail
    refine hC.mono ?_
    rintro e w' ⟨V, B, d, hp, rfl, ho, hg⟩
    go_wp2
    go_ret
    exact ⟨V, B, d, hp, by simp, ho, hg⟩
  · obtain ⟨ad, x, hA, hxx, c0, c1, c2⟩ := hR.ma h0
    have e0 : ad.add (0 * 3) = ad := by
      show ad.add 0 = ad
      unfold Addr.add
      simp
    rw [e0] at c0 c1 c2
    subst hA
    obtain ⟨k, nm, v⟩ := x
    dsimp only at c0 c1 c2
    rcases hno with hno | ⟨y, hy, hno⟩
    · omega
    rw [hxx] at hy
    obtain rfl := Option.some.inj hy
    dsimp only at hno
    have e1 : ((n : Int) == 0) = false := by simp only [beq_eq_false_iff_ne]; omega
    clear hR hxx e0
    by_cases hk : k = 1
    · subst hk
      obtain rfl : v = ⟨#[]⟩ := hno.resolve_left fun h => h rfl
      clear hno
      go_enter Tryz.func28, Tryz.ntmps28
      go_wp2_with fail
      refine hC.mono ?_
      rintro e w' ⟨V, B, d, hp, rfl, ho, hg⟩
      go_wp2
      go_ret
      exact ⟨V, B, d, hp, by simp, ho, hg⟩
    · have e2 : (k == 1) = false := by simp [hk]
      clear hno
      go_enter Tryz.func28, Tryz.ntmps28
      go_wp2_with fail
      refine hC.mono ?_
      rintro e w' ⟨V, B, d, hp, rfl, ho, hg⟩
      go_wp2
      go_ret
      exact ⟨V, B, d, hp, by simp, ho, hg⟩

set_option maxRecDepth 100000 in
set_option maxHeartbeats 8000000 in
theorem narrow_lab {S : Nat → Prop} {h b p cb cp lim : Nat} {L : List HEnt} {PL : List PEnt} (A : Option Addr) (n c : Nat) (ms : List Mat) (nm v : ByteArray) (w : World) (hH : HS S w h b p L cb PL cp lim) (hR : RE elMa w A n ms) (hn : n ≤ 9223372036854775807) (hms : ∀ x ∈ ms, x.2.2.size ≤ 16777216) (hx : MaxL w)
    (h0 : ms[0]? = some (1, nm, v)) (hv : v ≠ ⟨#[]⟩) (hz : nm.size ≤ maxLen) :
    Calls Tryz.prog 28 #[.pointer (some ⟨h, 0, none⟩), .slice A n c] w (NarQ w L ms) := by
  have hvz : v.size ≤ maxLen := by
    have := hms _ (List.mem_of_getElem? h0)
    unfold maxLen
    dsimp only at this
    omega
  have hpos : 0 < n := by
    have := (List.getElem?_eq_some_iff.1 h0).1
    have := hR.1
    omega
  obtain ⟨ad, x, hA, hxx, c0, c1, c2⟩ := hR.ma hpos
  have e0 : ad.add (0 * 3) = ad := by
    show ad.add 0 = ad
    unfold Addr.add
    simp
  rw [e0] at c0 c1 c2
  subst hA
  rw [h0] at hxx
  obtain rfl := Option.some.inj hxx
  dsimp only at c0 c1 c2
  have e1 : ((n : Int) == 0) = false := by simp only [beq_eq_false_iff_ne]; omega
  have hh1 := hH.hd.cell 1
  have hcs := cellsIn_cons hH.hd.ex (cellsIn_cons (ex_cell c0) (cellsIn_nil w))
  have hml := hH.ml
  have hlen := hH.len
  have hHw := fun w' (g : Grew w w') => hH.grew g
  have hS := fun w' (g : Grew w w') e (he : e ∈ L) => says_any (some ad) n c ms e.m.la e.m.ln e.m.lc e.s.lbs w' (hR.grew g) (((hH.grew g).tb.ok e he).lb.re (by decide)) hn (by
    have h1 := (((hH.grew g).tb.ok e he).lb.re (by decide)).1
    have h2 := (chkL_sizes ((hH.grew g).tb.ok e he).chk).1
    omega) hms (fun x hx => by have := (chkL_sizes ((hH.grew g).tb.ok e he).chk).2 x hx; omega) (hx.grew g)
  replace hHw := Lib.hid hHw
  replace hS := Lib.hid hS
  have hm0 := Lib.hid h0
  have hvN := Lib.hid hv
  have e2 : v.toList.isEmpty = false := by
    rw [ByteArray.toList_eq]
    cases hl : v.data.toList with
    | nil => exact absurd (data_inj (b := ⟨#[]⟩) hl) hv
    | cons => rfl
  have hsm : Hid (∀ W, Grew w W → SameIn [h, ad.block] w W) := fun W g => sameIn_of g hcs fun _ _ e => e
  clear h0 hR hms hx hxx e0 hv
  rcases has_label PL (nm, v) with hno | ⟨i, q, hi, hql⟩
  · have hnoL := Lib.hid (hH.noneP hno)
    have ha := (hH.tb.grew (Chg.refl _ w).drew).pskN ⟨hz, hvz⟩ hno
    obtain ⟨W, hW⟩ : ∃ W, W = w.drew.alloc (.mapIter none 0 #[] 0) := ⟨_, rfl⟩
    have hrg : (Instr.range 88 (.map none)).run Tryz.prog w.drew = .ok (.pointer (some ⟨w.heap.size, 0, none⟩)) W := by
      rw [hW]
      exact run_range_nilMap w.drew 88 _ _ Tryz.underlying88
    have hnx : ∀ ty, (Instr.next (.pointer (some ⟨w.heap.size, 0, none⟩)) false ty).run Tryz.prog W = .ok (.tuple #[.bool false]) W := fun ty => run_next_nilAt (a := 0) (b := 0) (s := #[]) (by rw [hW]; exact heap_alloc_new w.drew _) ty
    have hgW : Grew w W := by rw [hW]; exact (Chg.refl _ w).drew.alloc _
    unfold lbK at ha
    clear hH hno hW hS hHw
    go_enter Tryz.func28, Tryz.ntmps28
    go_wp2_with fail
    refine wp_region_textS [(3, 1)] [h, ad.block] (by kernel_rfl) (by kernel_rfl) hcs ?_
    simp only [wpU, tagOf, chk, List.nil_append, List.cons_append]
    intro K hK
    go_wp2_with fail
    refine OnlyN.normal (hK _ _ (fun _ => ⟨_, _, _, rfl, rfl, by simp⟩) ?_)
    clear hK K
    intro K hK
    go_wp2_with fail
    refine OnlyN.normal (hK _ _ (fun _ => ⟨_, _, _, rfl, rfl, by simp⟩) ?_)
    clear hK K
    intro K hK
    go_wp2_with fail
    refine OnlyN.normal (hK _ _ (fun _ => ⟨_, _, _, rfl, rfl, by simp⟩) ?_)
    clear hK K
    intro K hK
    go_wp2_with fail
    refine OnlyN.normal (hK _ _ (fun _ _ => rfl) ?_)
    clear hK K
    intro K hK
    go_wp2_with fail
    refine OnlyN.normal (hK _ _ (hsm.out _ hgW) ?_)
    clear hK K
    go_wp2_with fail
    refine OnlyN.normal ?_
    clear hcs hsm hh1 c0 c1 c2 ha hrg
    go_wp2
    go_loopw [5] (fun o wr => o = .slice none 0 0 ∧ wr = W) (fun _ _ => 0)
    case atStart => exact ⟨rfl, rfl⟩
    case round =>
      obtain ⟨rfl, rfl⟩ := hrel
      go_wp2
      go_ret
      refine ⟨[], none, 0, ?_, by simp, OE.nil _ _ _, hgW⟩
      rw [List.filter_eq_nil_iff.2 fun e he h1 => hnoL.out e he (says_label hm0.out hvN.out h1)]
  · have hq := List.mem_of_getElem? hi
    have ha := (hH.tb.grew (Chg.refl _ w).drew).pskS hq
    obtain ⟨W, hW⟩ : ∃ W, W = w.drew.alloc (.mapIter (some q.q) q.c #[] q.c) := ⟨_, rfl⟩
    have hrg : (Instr.range 88 (.map (some q.q))).run Tryz.prog w.drew = .ok (.pointer (some ⟨w.heap.size, 0, none⟩)) W := by
      rw [hW]
      exact run_range_b (P := Tryz.prog) Tryz.underlying88 ((hH.tb.pok q hq).mb.grew (Chg.refl _ w).drew)
    have hgW : Grew w W := by rw [hW]; exact (Chg.refl _ w).drew.alloc _
    have hit0 : Hid (ItM W w.heap.size q.q q.c []) := by
      rw [hW]
      exact itm_start (w := w.drew)
    have hlq := Lib.hid hql
    rw [hql] at ha
    unfold lbK at ha
    clear hH hi hW hql
    go_enter Tryz.func28, Tryz.ntmps28
    go_wp2_with fail
    refine wp_region_textS [(3, 1)] [h, ad.block] (by kernel_rfl) (by kernel_rfl) hcs ?_
    simp only [wpU, tagOf, chk, List.nil_append, List.cons_append]
    intro K hK
    go_wp2_with fail
    refine OnlyN.normal (hK _ _ (fun _ => ⟨_, _, _, rfl, rfl, by simp⟩) ?_)
    clear hK K
    intro K hK
    go_wp2_with fail
    refine OnlyN.normal (hK _ _ (fun _ => ⟨_, _, _, rfl, rfl, by simp⟩) ?_)
    clear hK K
    intro K hK
    go_wp2_with fail
    refine OnlyN.normal (hK _ _ (fun _ => ⟨_, _, _, rfl, rfl, by simp⟩) ?_)
    clear hK K
    intro K hK
    go_wp2_with fail
    refine OnlyN.normal (hK _ _ (fun _ _ => rfl) ?_)
    clear hK K
    intro K hK
    go_wp2_with fail
    refine OnlyN.normal (hK _ _ (hsm.out _ hgW) ?_)
    clear hK K
    go_wp2_with fail
    refine OnlyN.normal ?_
    clear hcs hsm hh1 c0 c1 c2 ha hrg e1 e2
    go_wp2
    go_loopw [5] (fun o wr => ∃ V VE B d, PartP q L VE V ∧ ItM wr w.heap.size q.q q.c VE ∧ Grew w wr ∧ o = .slice B (kO ms V).length d ∧ OE elTx wr w.heap.size 9 B (kO ms V).length d (kO ms V)) (fun _ wr => match wr.heap[w.heap.size]? with | some (.mapIter _ _ seen _) => L.length - seen.size | _ => 0)
    case atStart => exact ⟨[], [], none, 0, PartP.nil q L, hit0.out, hgW, rfl, OE.nil _ _ _⟩
    case round =>
      clear hit0 hgW
      obtain ⟨V, VE, B, d, hV, hit, hg, rfl, hrow⟩ := hrel
      have hVl := hV.len
      have hm0' : (match wr.heap[w.heap.size]? with | some (.mapIter _ _ seen _) => L.length - seen.size | _ => 0) = L.length - V.length := by
        obtain ⟨c0, h1, _⟩ := hit
        unfold IterB at h1
        rw [h1]
        simp [hVl]
      have hk := hHw.out wr hg
      have hbl := Nat.le_trans (kO_le ms V) hV.le
      rcases hk.nextP hq hit hV with ⟨hpm, hnx⟩ | ⟨f, e, he, hV2, w1, hc1, hs1, hnx, hit1, hen⟩
      · have hgr := Lib.hid hg
        have hrow := Lib.hid hrow
        rw [hlq.out] at hpm
        have hpm2 := Lib.hid (says_filter hm0.out hvN.out hpm)
        clear hit hm0' hk hV hg hpm
        go_wp2
        go_ret
        refine ⟨V.filter fun e => saysB ms e.s.lbs, B, d, hpm2.out, ?_, ?_, hgr.out⟩
        · unfold kO
          simp
        · have := hrow.out
          unfold kO at this
          rwa [List.length_map] at this
      · have hV2l := hV2.len
        have hlt : V.length < L.length := by
          have := hV2.le
          simp at this
          omega
        have hgw : Grew w w1 := hg.step hc1 fun k hk e => by
          have e : k = w.heap.size := e
          omega
        have hrow1 : OE elTx w1 w.heap.size 9 B (kO ms V).length d (kO ms V) := hrow.chg hc1 (Own.ne_iterM hrow hit)
        have hst := kO_snoc ms V e
        have hk1 := hHw.out w1 hgw
        have hoe := hk1.tb.ok e he
        have y0 := hoe.blk.cell 0
        have h0 := hk1.hd.cell 0
        have hl1 := hk1.tb.askS he
        have hS1 := hS.out w1 hgw e he
        have hm1 : ∀ w2 : World, ItM w2 w.heap.size q.q q.c (VE ++ [f]) → (match w2.heap[w.heap.size]? with | some (.mapIter _ _ seen _) => L.length - seen.size | _ => 0) < (match wr.heap[w.heap.size]? with | some (.mapIter _ _ seen _) => L.length - seen.size | _ => 0) := by
          rintro w2 ⟨c0, h1, _⟩
          unfold IterB at h1
          rw [h1, hm0']
          simp
          omega
        clear hm0' hc1 hs1 hrow hV hk hoe hk1 hV2l hit hg
        have hit1 := Lib.hid hit1
        have hV2 := Lib.hid hV2
        have hst := Lib.hid hst
        have hm1 := Lib.hid hm1
        go_wp2_with fail
        refine hS1.mono ?_
        rintro e2 w2 ⟨rfl, hg2⟩
        clear hnx hen hS1 hl1 y0 h0
        have hgw2 := hgw.trans hg2
        have hrow2 := hrow1.grew hg2
        have hit2 : ItM w2 w.heap.size q.q q.c (VE ++ [f]) := hit1.out.chg hg2 fun e => e
        by_cases hpre : saysB ms e.s.lbs = true
        · simp only [hpre]
          have hsrc : RE elTx (w2.alloc (.cells #[.string e.key] 9)) (some ⟨w2.heap.size, 0, none⟩) 1 [e.key] := RE.newAt rfl rfl rfl
          have hown : OE elTx (w2.alloc (.cells #[.string e.key] 9)) w.heap.size 9 B (kO ms V).length d (kO ms V) := hrow2.grew ((Chg.refl _ w2).alloc _)
          have hsz := hgw2.size
          go_wp2_with (at_builtin; refine wpList_appE rfl _ _ 63 9 infoTx rfl Tryz.underlying63 rfl w.heap.size B (kO ms V).length d (kO ms V) rfl hown (by simp; omega) _ 1 1 [e.key] rfl hsrc (by unfold maxLen; omega) (by omega) ?_; intro A3 c3 w3 h3)
          have hc3 : Chg (fun k => ∃ ad, B = some ad ∧ k = ad.block) w2 w3 := Chg.step (S := fun k => ∃ ad, B = some ad ∧ k = ad.block) ((Chg.refl _ w2).alloc _) h3.chg fun _ _ e => e
          have hG3 : Grew w w3 := hgw2.step hc3 fun k hk ⟨ad, e, he⟩ => by
            have := (Own.blk_lt hrow2 ad e).1
            omega
          have hit3 : ItM w3 w.heap.size q.q q.c (VE ++ [f]) := hit2.chg hc3 fun ⟨ad, e, he⟩ => Own.ne_iterM hrow2 hit2 ad e he.symm
          have ho3 := h3.oe
          have hm3 := hm1.out w3 hit3
          have hbe : Hid (kO ms (V ++ [e]) = kO ms V ++ [e.key]) := by show _ = _; rw [hst.out, hpre]; rfl
          clear h3 hc3 hsrc hown hm1
          go_roundw
          case rel => exact ⟨V ++ [e], VE ++ [f], A3, c3, hV2.out, hit3, hG3, by rw [hbe.out]; simp, by rw [hbe.out]; simpa using ho3⟩
          case measure => exact hm3
        · have hpre : saysB ms e.s.lbs = false := by simpa using hpre
          simp only [hpre]
          have hm3 := hm1.out w2 hit2
          have hbe : Hid (kO ms (V ++ [e]) = kO ms V) := by show _ = _; rw [hst.out, hpre]; simp
          clear hm1
          go_wp2
          go_roundw
          case rel => exact ⟨V ++ [e], VE ++ [f], B, d, hV2.out, hit2, hgw2, by rw [hbe.out], by rw [hbe.out]; exact hrow2⟩
          case measure => exact hm3
end Go.Proofs.YtailooldnelecaaGreatDoor
