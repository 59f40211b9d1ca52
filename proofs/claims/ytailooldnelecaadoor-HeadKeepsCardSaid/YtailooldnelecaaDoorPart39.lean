/-
  Several texts in one:
  Samples in memory. Conditions: none.
  A head as its list of series: what its calls answer and leave. Conditions: lengths that memory bears.
  The law's awake: a head with one series, call by call. Conditions: the longest text that the library takes is as it is set.
  A number without its sign (the law's Low). Conditions: none.
-/
import Derived.Test.YtailooldnelecaaDoorPart16
import Derived.Test.YtailooldnelecaaDoorPart26
import Derived.Test.YtailooldnelecaaDoorPart38
import Derived.Test.YtailooldnelecaaDoorPart21
import Derived.Test.YtailooldnelecaaDoorPart1
import Derived.Test.YtailooldnelecaaDoorRows
import Derived.OpenShut

namespace Go.Proofs.YtailooldnelecaaDoor
open Go.RowKit

structure Smp where
  lbs : List Lab
  t : Int
  v : Nat
structure SmpM where
  la : Option Addr
  ln : Nat
  lc : Nat
  t : Int
  v : Nat
def elSa : El SmpM := ⟨fun s => [.slice s.la s.ln s.lc, .int .i64 s.t, .int .u64 (s.v : Int)], 3, fun _ => rfl, by
  intro x u hu
  simp only [List.mem_cons, List.not_mem_nil, or_false] at hu
  rcases hu with rfl | rfl | rfl <;> rfl⟩
structure SmIs (w : World) (m : SmpM) (s : Smp) : Prop where
  lb : RE elLb w m.la m.ln s.lbs
  lc : m.ln ≤ m.lc ∧ m.lc ≤ 9223372036854775807
  t : m.t = s.t
  v : m.v = s.v
  bt : -9223372036854775808 ≤ s.t ∧ s.t ≤ 9223372036854775807
  bv : s.v < 18446744073709551616
theorem SmIs.grew {w w' : World} {m : SmpM} {s : Smp} (h : SmIs w m s) (hc : Grew w w') : SmIs w' m s := ⟨h.lb.grew hc, h.lc, h.t, h.v, h.bt, h.bv⟩
/-- a slice's cells are these samples -/
def RSa (w : World) (A : Option Addr) (n : Nat) (ss : List Smp) : Prop := ∃ ms : List SmpM, RE elSa w A n ms ∧ ms.length = ss.length ∧ ∀ (i : Nat) (m : SmpM) (s : Smp), ms[i]? = some m → ss[i]? = some s → SmIs w m s
theorem RSa.grew {w w' : World} {A : Option Addr} {n : Nat} {ss : List Smp} (h : RSa w A n ss) (hc : Grew w w') : RSa w' A n ss := by
  obtain ⟨ms, h1, h2, h3⟩ := h
  exact ⟨ms, h1.grew hc, h2, fun i m s hm hs => (h3 i m s hm hs).grew hc⟩
theorem RSa.len {w : World} {A : Option Addr} {n : Nat} {ss : List Smp} (h : RSa w A n ss) : ss.length = n := by
  obtain ⟨ms, h1, h2, _⟩ := h
  rw [← h2, h1.1]
theorem RSa.at_ {w : World} {A : Option Addr} {n : Nat} {ss : List Smp} (h : RSa w A n ss) {k : Nat} (hk : k < n) :
    ∃ ad la ln lc s, A = some ad ∧ ss[k]? = some s ∧ RE elLb w la ln s.lbs ∧ (ln ≤ lc ∧ lc ≤ 9223372036854775807) ∧ (-9223372036854775808 ≤ s.t ∧ s.t ≤ 9223372036854775807) ∧ s.v < 18446744073709551616 ∧ w.cell? (ad.add (k * 3)) = some (.slice la ln lc) ∧ w.cell? ⟨(ad.add (k * 3)).block, (ad.add (k * 3)).off + 1, none⟩ = some (.int .i64 s.t) ∧ w.cell? ⟨(ad.add (k * 3)).block, (ad.add (k * 3)).off + 2, none⟩ = some (.int .u64 (s.v : Int)) := by
  obtain ⟨ms, h1, h2, h3⟩ := h
  obtain ⟨ad, m, e, hm, hc⟩ := h1.at_ hk (by decide)
  have hs : ss[k]? = some (ss[k]'(by have := h1.1; omega)) := List.getElem?_eq_getElem _
  have h4 := h3 k m _ hm hs
  refine ⟨ad, m.la, m.ln, m.lc, _, e, hs, h4.lb, h4.lc, h4.bt, h4.bv, hc 0 _ rfl, ?_, ?_⟩
  · have := hc 1 _ rfl
    rw [h4.t] at this
    exact cell_off (by decide) this
  · have := hc 2 _ rfl
    rw [h4.v] at this
    exact cell_off (by decide) this

/-! ### What adding keeps, in plain words -/
theorem lastS_put {ss : List Ser} {lbs : List Lab} {q : Ptn} : lastS (putS ss lbs q) lbs = some q := by
  unfold lastS putS
  by_cases h : (ss.any fun s => decide (s.lbs = lbs)) = true
  · rw [if_pos h]
    induction ss with
    | nil => simp at h
    | cons s r ih =>
      rw [List.map_cons, List.find?_cons]
      by_cases hs : s.lbs = lbs
      · rw [if_pos hs, decide_eq_true hs]
        simp
      · rw [if_neg hs, decide_eq_false hs]
        refine ih ?_
        rw [List.any_cons, decide_eq_false hs] at h
        simpa using h
  · rw [if_neg h, List.find?_append]
    have : (ss.find? fun s => decide (s.lbs = lbs)) = none := by
      rw [List.find?_eq_none]
      intro s hs h1
      exact h (List.any_eq_true.2 ⟨s, hs, h1⟩)
    rw [this]
    simp
theorem fateS_form {lim : Nat} {ss : List Ser} {lbs : List Lab} {T : Int} {V : Nat} (h : fateS lim ss lbs T V = 1) : chkL lbs = 0 ∧ okT T := by
  unfold fateS at h
  split at h
  · assumption
  · cases h
/-- a sample's twin -/
theorem fateS_twin {lim : Nat} {ss : List Ser} {lbs : List Lab} {T : Int} {V : Nat} (h : fateS lim ss lbs T V = 1) : fateS lim (addT lim ss lbs T V) lbs T V = 2 := by
  unfold addT
  rw [if_pos h]
  unfold fateS
  rw [if_pos (fateS_form h), lastS_put]
  unfold fateO
  simp
theorem fateS_same {lim : Nat} {ss : List Ser} {lbs : List Lab} {T : Int} {V : Nat} (h : fateS lim ss lbs T V ≠ 1) : addT lim ss lbs T V = ss := by
  unfold addT
  rw [if_neg h]
theorem fateS_full {lim : Nat} {ss : List Ser} {lbs : List Lab} {T : Int} {V : Nat} (h : fateS lim ss lbs T V = 5) : lim ≤ ss.length := by
  unfold fateS at h
  split at h
  · unfold fateO at h
    split at h
    · split at h
      · assumption
      · cases h
    · split at h
      · cases h
      · split at h
        · cases h
        · split at h <;> cases h
  · cases h
theorem tot_cons1 (s : Ser) (r : List Ser) : tot (s :: r) = s.pts.length + tot r := by simp [tot]
theorem tot_put {lbs : List Lab} {q : Ptn} : ∀ {ss : List Ser}, (ss.Pairwise fun a b => a.lbs ≠ b.lbs) → tot (putS ss lbs q) = tot ss + 1 := by
  have key : ∀ {ss : List Ser}, (ss.Pairwise fun a b => a.lbs ≠ b.lbs) → (ss.any fun s => decide (s.lbs = lbs)) = true → tot (ss.map fun s => if s.lbs = lbs then (⟨s.lbs, s.pts ++ [q]⟩ : Ser) else s) = tot ss + 1 := by
    intro ss
    induction ss with
    | nil => intro _ h; simp at h
    | cons s r ih =>
      intro hd h
      rw [List.pairwise_cons] at hd
      rw [List.map_cons, tot_cons1, tot_cons1]
      by_cases hs : s.lbs = lbs
      · have : (r.map fun s => if s.lbs = lbs then (⟨s.lbs, s.pts ++ [q]⟩ : Ser) else s) = r := by
          refine (List.map_congr_left fun x hx => ?_).trans (List.map_id _)
          rw [if_neg fun e => hd.1 x hx (hs.trans e.symm)]
          rfl
        rw [this, if_pos hs]
        simp only [List.length_append, List.length_singleton]
        omega
      · rw [if_neg hs, ih hd.2 (by rw [List.any_cons, decide_eq_false hs] at h; simpa using h)]
        omega
  intro ss hd
  unfold putS
  by_cases h : (ss.any fun s => decide (s.lbs = lbs)) = true
  · rw [if_pos h, key hd h]
  · rw [if_neg h]
    simp [tot]
theorem mem_put {lbs : List Lab} {q : Ptn} {ss : List Ser} {s : Ser} (h : s ∈ putS ss lbs q) {p : Ptn} (hp : p ∈ s.pts) : (∃ s' ∈ ss, s'.lbs = s.lbs ∧ p ∈ s'.pts) ∨ s.lbs = lbs ∧ p = q := by
  unfold putS at h
  split at h
  · obtain ⟨x, hx, e⟩ := List.mem_map.1 h
    by_cases hxl : x.lbs = lbs
    · rw [if_pos hxl] at e
      subst e
      rcases List.mem_append.1 hp with hp | hp
      · exact .inl ⟨x, hx, rfl, hp⟩
      · exact .inr ⟨hxl, List.mem_singleton.1 hp⟩
    · rw [if_neg hxl] at e
      subst e
      exact .inl ⟨x, hx, rfl, hp⟩
  · rcases List.mem_append.1 h with hx | hx
    · exact .inl ⟨s, hx, rfl, hp⟩
    · obtain rfl := List.mem_singleton.1 hx
      exact .inr ⟨rfl, List.mem_singleton.1 hp⟩
theorem tot_add {lim : Nat} {ss : List Ser} {lbs : List Lab} {T : Int} {V : Nat} (hd : ss.Pairwise fun a b => a.lbs ≠ b.lbs) : tot (addT lim ss lbs T V) = tot ss + if fateS lim ss lbs T V = 1 then 1 else 0 := by
  unfold addT
  split
  · exact tot_put hd
  · rfl
theorem mem_add {lim : Nat} {lbs : List Lab} {T : Int} {V : Nat} {ss : List Ser} {s : Ser} (h : s ∈ addT lim ss lbs T V) {p : Ptn} (hp : p ∈ s.pts) : (∃ s' ∈ ss, s'.lbs = s.lbs ∧ p ∈ s'.pts) ∨ s.lbs = lbs ∧ p = (T, V) := by
  unfold addT at h
  split at h
  · exact mem_put h hp
  · exact .inl ⟨s, h, rfl, hp⟩
theorem totH_tot {S : Nat → Prop} {w : World} {cb : Nat} {L : List HEnt} (h : ∀ e ∈ L, e.Ok S w cb) : totH L = tot (L.map HEnt.s) := by
  unfold totH tot
  rw [List.map_map]
  refine congrArg List.sum (List.map_congr_left fun e he => ?_)
  exact ((h e he).pt.len (by decide)).symm
theorem tot_perm1 {a b : List Ser} (h : a.Perm b) : tot a = tot b := (h.map _).sum_nat
end Go.Proofs.YtailooldnelecaaDoor

namespace Go.Proofs.YtailooldnelecaaDoor
open Go.RowKit

/-- a head in blocks of its own, with these series -/
def HD (S : Nat → Prop) (w : World) (h lim : Nat) (ss : List Ser) : Prop := ∃ b p L cb PL cp, HS S w h b p L cb PL cp lim ∧ L.map HEnt.s = ss
section
variable {S : Nat → Prop} {w w' : World} {h lim : Nat} {ss : List Ser}
theorem HD.hv (hD : HD S w h lim ss) : HV lim ss := by
  obtain ⟨b, p, L, cb, PL, cp, hH, rfl⟩ := hD
  exact hH.hv
theorem HD.ml (hD : HD S w h lim ss) : lim ≤ 1024 := by
  obtain ⟨b, p, L, cb, PL, cp, hH, rfl⟩ := hD
  exact hH.ml
theorem HD.lt (hD : HD S w h lim ss) : ∀ k, S k → k < w.heap.size := by
  obtain ⟨b, p, L, cb, PL, cp, hH, rfl⟩ := hD
  exact hH.tb.lt
theorem HD.chg {T : Nat → Prop} (hD : HD S w h lim ss) (hc : Chg T w w') (hT : ∀ k, S k → ¬ T k) : HD S w' h lim ss := by
  obtain ⟨b, p, L, cb, PL, cp, hH, rfl⟩ := hD
  exact ⟨b, p, L, cb, PL, cp, hH.chg hc hT, rfl⟩
theorem HD.grew (hD : HD S w h lim ss) (hc : Grew w w') : HD S w' h lim ss := hD.chg hc fun _ _ e => e
theorem HD.tot (hD : HD S w h lim ss) : tot ss ≤ 2251799813686272 := by
  obtain ⟨b, p, L, cb, PL, cp, hH, rfl⟩ := hD
  have h1 := totH_tot hH.tb.ok
  have h2 := totH_le (B := 2199023255553) fun e he => (hH.tb.ok e he).pn
  have h3 := hH.len
  have h4 := hH.ml
  have h5 : 2199023255553 * L.length ≤ 2199023255553 * 1024 := Nat.mul_le_mul_left _ (by omega)
  omega
end
theorem new_hd (lim : Int) (w : World) (h63 : -9223372036854775808 ≤ lim ∧ lim ≤ 9223372036854775807) : Calls Tryd.prog 7 #[.int .i64 lim] w fun e w' => ∃ h S, e = .returned (.pointer (some ⟨h, 0, none⟩)) ∧ HD S w' h (min (max lim 0) 1024).toNat [] ∧ Grew w w' ∧ ∀ k, S k → w.heap.size ≤ k :=
  (new_any lim w h63).mono fun _ _ ⟨h, b, p, S, he, hH, hg, hs⟩ => ⟨h, S, he, ⟨b, p, [], 0, [], 0, hH, rfl⟩, hg, hs⟩
/-- a head after an Add: more blocks, if any, are new ones -/
def AddD (S : Nat → Prop) (w : World) (h lim : Nat) (ss : List Ser) (w' : World) : Prop := ∃ S' : Nat → Prop, HD S' w' h lim ss ∧ (∀ k, S k → S' k) ∧ (∀ k, S' k → S k ∨ w.heap.size ≤ k) ∧ Chg S w w'
section
variable {S : Nat → Prop} {w : World} {h lim : Nat} {ss : List Ser}
theorem add_hd (la : Option Addr) (ln lc : Nat) (lbs : List Lab) (T : Int) (V : Nat) (hD : HD S w h lim ss) (hl : RE elLb w la ln lbs) (hlc : ln ≤ lc ∧ lc ≤ 9223372036854775807) :
    Calls Tryd.prog 9 #[.pointer (some ⟨h, 0, none⟩), .agg #[.slice la ln lc, .int .i64 T, .int .u64 (V : Int)]] w fun e w' => e = .returned (.int .i64 (fateS lim ss lbs T V)) ∧ AddD S w h lim (addT lim ss lbs T V) w' := by
  obtain ⟨b, p, L, cb, PL, cp, hH, rfl⟩ := hD
  refine (add_any la ln lc lbs T V w hH hl hlc).mono ?_
  rintro e w' ⟨he, S', L', cb', PL', cp', h1, h2, h3, h4, h5⟩
  exact ⟨he, S', ⟨b, p, L', cb', PL', cp', h1, h5⟩, h2, h3, h4⟩
theorem fate_hd (la : Option Addr) (ln lc : Nat) (lbs : List Lab) (T : Int) (V : Nat) (hD : HD S w h lim ss) (hl : RE elLb w la ln lbs) (hlc : ln ≤ lc ∧ lc ≤ 9223372036854775807) :
    Calls Tryd.prog 8 #[.pointer (some ⟨h, 0, none⟩), .agg #[.slice la ln lc, .int .i64 T, .int .u64 (V : Int)]] w fun e w' => e = .returned (.int .i64 (fateS lim ss lbs T V)) ∧ Grew w w' := by
  obtain ⟨b, p, L, cb, PL, cp, hH, rfl⟩ := hD
  refine (fate_any la ln lc lbs T V w hH hl hlc).mono ?_
  rintro e w' ⟨he, h1⟩
  rw [fateL_eq] at he
  exact ⟨he, h1⟩
theorem srt_len {a b : List Ser} (h : a = srtS b) : a.length = b.length := by rw [h, (srtS_perm b).length_eq]
theorem sel_hd (u0 u1 : Int) (hD : HD S w h lim ss) (hx : MaxL w) :
    Calls Tryd.prog 10 #[.pointer (some ⟨h, 0, none⟩), .slice none 0 0, .int .i64 u0, .int .i64 u1] w fun e w' => ∃ B d, e = .returned (.slice B (srtS (selS u0 u1 ss)).length d) ∧ NS w' w.heap.size B (srtS (selS u0 u1 ss)).length d (srtS (selS u0 u1 ss)) ∧ Grew w w' := by
  obtain ⟨b, p, L, cb, PL, cp, hH, rfl⟩ := hD
  refine (select_nil u0 u1 w hH hx).mono ?_
  rintro e w' ⟨B, m, d, he, out, hN, hp, hs, hg⟩
  have hv := hH.hv.sel u0 u1
  have h1 : out = srtS (selS u0 u1 (L.map HEnt.s)) := srt_of hp hv.dis hs (srtS_sort hv.dis) (srtS_perm _)
  have h2 := hN.len
  subst h2
  rw [h1] at he hN
  exact ⟨B, d, he, hN, hg⟩
theorem cut_hd (t : Int) (hD : HD S w h lim ss) (hx : MaxL w) :
    Calls Tryd.prog 14 #[.pointer (some ⟨h, 0, none⟩), .int .i64 t] w fun e w' => ∃ B d, e = .returned (.slice B (srtS (selS (-1099511627776) (t - 1) ss)).length d) ∧ NS w' w.heap.size B (srtS (selS (-1099511627776) (t - 1) ss)).length d (srtS (selS (-1099511627776) (t - 1) ss)) ∧ Chg S w w' ∧ HD S w' h lim (selS t 1099511627776 ss) := by
  obtain ⟨b, p, L, cb, PL, cp, hH, rfl⟩ := hD
  refine (cut_any t w hH hx).mono ?_
  rintro e w' ⟨B, m, d, he, out, hN, hp, hs, hg, L', PL', h3, h4⟩
  rw [hH.hv.cutOff] at hp
  rw [hH.hv.cutLeft] at h4
  have hv := hH.hv.sel (-1099511627776) (t - 1)
  have h1 : out = srtS (selS (-1099511627776) (t - 1) (L.map HEnt.s)) := srt_of hp hv.dis hs (srtS_sort hv.dis) (srtS_perm _)
  have h2 := hN.len
  subst h2
  rw [h1] at he hN
  exact ⟨B, d, he, hN, hg, b, p, L', cb, PL', cp, h3, h4⟩
theorem count_hd (hD : HD S w h lim ss) :
    Calls Tryd.prog 11 #[.pointer (some ⟨h, 0, none⟩)] w fun e w' => e = .returned (.tuple #[.int .i64 (ss.length : Int), .int .i64 (tot ss : Int)]) ∧ Grew w w' := by
  obtain ⟨b, p, L, cb, PL, cp, hH, rfl⟩ := hD
  refine (count_head w hH).mono ?_
  rintro e w' ⟨he, hg⟩
  rw [totH_tot hH.tb.ok] at he
  rw [List.length_map]
  exact ⟨he, hg⟩
def spanS (ss : List Ser) : Int × Int × Bool := ss.foldl (fun a s => spanStep a s.pts) (0, 0, false)
theorem span_hd (hD : HD S w h lim ss) :
    Calls Tryd.prog 19 #[.pointer (some ⟨h, 0, none⟩)] w fun e w' => ∃ tt : List Ser, tt.Perm ss ∧ e = .returned (.tuple #[.int .i64 (spanS tt).1, .int .i64 (spanS tt).2.1, .bool (spanS tt).2.2]) ∧ Grew w w' := by
  obtain ⟨b, p, L, cb, PL, cp, hH, rfl⟩ := hD
  refine (span_any w hH).mono ?_
  rintro e w' ⟨V, hp, he, hg⟩
  have : spanH V = spanS (V.map HEnt.s) := by
    unfold spanH spanS
    rw [List.foldl_map]
  rw [this] at he
  exact ⟨V.map HEnt.s, hp.map _, he, hg⟩
end
theorem srtS_nil : srtS [] = [] := by simp [srtS]
theorem srtS_one (s : Ser) : srtS [s] = [s] := by simp [srtS]
end Go.Proofs.YtailooldnelecaaDoor

namespace Go.Proofs.YtailooldnelecaaDoor
open Go.RowKit

def lbX : List Lab := [(⟨#[97]⟩, ⟨#[120]⟩)]
def lbY : List Lab := [(⟨#[97]⟩, ⟨#[121]⟩)]
def sX : Ser := ⟨lbX, [(5, 1)]⟩
theorem aw_f1 : fateS 1 [] lbX 5 1 = 1 := by kernel_rfl
theorem aw_a1 : addT 1 [] lbX 5 1 = [sX] := by kernel_rfl
theorem aw_f2 : fateS 1 [sX] lbX 5 2 = 4 := by kernel_rfl
theorem aw_f3 : fateS 1 [sX] lbY 9 1 = 5 := by kernel_rfl
theorem aw_a3 : addT 1 [sX] lbY 9 1 = [sX] := by kernel_rfl
theorem aw_sp : spanS [sX] = (5, 5, true) := by kernel_rfl
theorem aw_cut : selS (-1099511627776) (6 - 1) [sX] = [sX] := by kernel_rfl
theorem aw_left : selS 6 1099511627776 [sX] = [] := by kernel_rfl
theorem aw_sel : selS 0 9 ([] : List Ser) = [] := rfl
/-- one series as a literal lays it -/
theorem rs_lit {w : World} {A P : Option Addr} {n c m d : Nat} {s : Ser} (hl : RE elLb w A n s.lbs) (hp : RE elPt w P m s.pts) (hc : n ≤ c ∧ c ≤ 9223372036854775807) (hd : m ≤ d ∧ d ≤ 9223372036854775807) {B : Option Addr} (hr : RE elSr w B 1 [⟨A, n, c, P, m, d⟩]) : RS w B 1 [s] :=
  ⟨[⟨A, n, c, P, m, d⟩], hr, rfl, fun i mm s' hm hs => by
    cases i with
    | zero =>
      obtain rfl := Option.some.inj hm
      obtain rfl := Option.some.inj hs
      exact ⟨hl, hp, hc, hd⟩
    | succ i => simp at hm⟩
theorem Chg.new {S : Nat → Prop} {w0 w w' : World} (h : Grew w0 w) (hc : Chg S w w') (hs : ∀ k, S k → w0.heap.size ≤ k) : Grew w0 w' := Chg.step h hc fun k hk e => by
  have := hs k e
  omega

set_option maxRecDepth 100000 in
set_option maxHeartbeats 8000000 in
theorem awake8_any (w : World) (hm : MaxL w) : Calls Tryd.prog 13 #[] w fun e w' => e = .returned (.bool true) ∧ Grew w w' := by
  have hN := new_hd 1 w (by decide)
  go_enter Tryd.func13, Tryd.ntmps13
  go_wp2_with fail
  refine hN.mono ?_
  rintro e w1 ⟨h, S1, rfl, hD1, g1, hs1⟩
  rw [show (min (max 1 0) 1024 : Int).toNat = 1 from rfl] at hD1
  clear hN
  obtain ⟨W, hW⟩ : ∃ W, W = w1.alloc (.cells #[.string ⟨#[97]⟩, .string ⟨#[120]⟩] 53) := ⟨_, rfl⟩
  have gW : Grew w1 W := by rw [hW]; exact (Chg.refl _ w1).alloc _
  have hl : RE elLb W (some ⟨w1.heap.size, 0, none⟩) 1 lbX := by rw [hW]; exact RE.newAt rfl rfl rfl
  have hsW : W.heap.size = w1.heap.size + 1 := by rw [hW]; simp
  generalize hb : w1.heap.size = lb at *
  go_wp2_with fail
  rw [← hW]
  clear hW
  have hA1 := add_hd (some ⟨lb, 0, none⟩) 1 1 lbX 5 1 (hD1.grew gW) hl (by decide)
  rw [aw_f1, aw_a1] at hA1
  refine hA1.mono ?_
  rintro e w2 ⟨rfl, S2, hD2, hs12, hs21, hc2⟩
  have hs2 : ∀ k, S2 k → w.heap.size ≤ k := fun k hk => by
    have := g1.size
    rcases hs21 k hk with h | h
    · exact hs1 k h
    · omega
  have g2 : Grew w w2 := Chg.new (g1.trans gW) hc2 hs1
  have hlb2 : RE elLb w2 (some ⟨lb, 0, none⟩) 1 lbX := hl.chg hc2 fun ad e1 e2 => by
    injection e1 with e1
    subst e1
    have := hD1.lt _ e2
    dsimp only at this
    omega
  have hlS2 : ¬ S2 lb := fun hk => by
    rcases hs21 lb hk with h | h
    · have := hD1.lt _ h
      omega
    · omega
  have hlt2 : lb < w2.heap.size := by have := hc2.size; omega
  clear hA1 hl gW hc2 hD1 hs12 hs21
  go_wp2_with fail
  have hF := fate_hd (some ⟨lb, 0, none⟩) 1 1 lbX 5 2 hD2 hlb2 (by decide)
  rw [aw_f2] at hF
  refine hF.mono ?_
  rintro e w3 ⟨rfl, g3⟩
  have hD3 := hD2.grew g3
  have hlb3 := hlb2.grew g3
  have g03 := g2.trans g3
  clear hF hD2 hlb2
  obtain ⟨W, hW⟩ : ∃ W, W = w3.alloc (.cells #[.string ⟨#[97]⟩, .string ⟨#[121]⟩] 53) := ⟨_, rfl⟩
  have gW : Grew w3 W := by rw [hW]; exact (Chg.refl _ w3).alloc _
  have hl : RE elLb W (some ⟨w3.heap.size, 0, none⟩) 1 lbY := by rw [hW]; exact RE.newAt rfl rfl rfl
  go_wp2_with fail
  rw [← hW]
  clear hW
  have hA2 := add_hd (some ⟨w3.heap.size, 0, none⟩) 1 1 lbY 9 1 (hD3.grew gW) hl (by decide)
  rw [aw_f3, aw_a3] at hA2
  refine hA2.mono ?_
  rintro e w4 ⟨rfl, S4, hD4, hs24, hs42, hc4⟩
  have hlS4 : ¬ S4 lb := fun hk => by
    have := g3.size
    have := gW.size
    rcases hs42 lb hk with h | h
    · exact hlS2 h
    · omega
  have hs4 : ∀ k, S4 k → w.heap.size ≤ k := fun k hk => by
    have := g03.size
    have := gW.size
    rcases hs42 k hk with h | h
    · exact hs2 k h
    · omega
  have g4 : Grew w w4 := Chg.new (g03.trans gW) hc4 hs2
  have hlb4 : RE elLb w4 (some ⟨lb, 0, none⟩) 1 lbX := (hlb3.grew gW).chg hc4 fun ad e1 e2 => by
    injection e1 with e1
    subst e1
    exact hlS2 e2
  clear hA2 hl gW hc4 hD3 hs24 hlb3
  go_wp2_with fail
  refine (span_hd hD4).mono ?_
  rintro e w5 ⟨tt, hp, rfl, g5⟩
  obtain rfl : tt = [sX] := List.perm_singleton.1 hp
  rw [aw_sp]
  have hD5 := hD4.grew g5
  have hlb5 := hlb4.grew g5
  have g05 := g4.trans g5
  clear hD4 hlb4 hp
  go_wp2_with fail
  refine (count_hd hD5).mono ?_
  rintro e w6 ⟨rfl, g6⟩
  rw [show tot [sX] = 1 from rfl, show ([sX] : List Ser).length = 1 from rfl]
  have hD6 := hD5.grew g6
  have hlb6 := hlb5.grew g6
  have g06 := g05.trans g6
  clear hD5 hlb5
  go_wp2_with fail
  have hC := cut_hd 6 hD6 (hm.grew g06)
  rw [aw_cut, aw_left, srtS_one] at hC
  refine hC.mono ?_
  rintro e w7 ⟨B, d, rfl, hNS, hc7, hD7⟩
  have g7 : Grew w w7 := Chg.new g06 hc7 hs4
  have hlb7 : RE elLb w7 (some ⟨lb, 0, none⟩) 1 lbX := hlb6.chg hc7 fun ad e1 e2 => by
    injection e1 with e1
    subst e1
    exact hlS4 e2
  have hcB := hNS.cap
  clear hC hc7 hD6 hlb6
  rw [show ([sX] : List Ser).length = 1 from rfl] at *
  obtain ⟨x1, hx1, gx1, z1, r1⟩ : ∃ W, W = w7.alloc (.cells #[.int .i64 5, .int .u64 1] 39) ∧ Grew w7 W ∧ W.heap.size = w7.heap.size + 1 ∧ RE elPt W (some ⟨w7.heap.size, 0, none⟩) 1 [(5, 1)] := ⟨_, rfl, (Chg.refl _ w7).alloc _, by simp, RE.newAt rfl rfl rfl⟩
  obtain ⟨x2, hx2, gx2, z2, r2⟩ : ∃ W, W = x1.alloc (.cells #[.slice (some ⟨lb, 0, none⟩) 1 1, .slice (some ⟨w7.heap.size, 0, none⟩) 1 1] 37) ∧ Grew x1 W ∧ W.heap.size = x1.heap.size + 1 ∧ RE elSr W (some ⟨w7.heap.size + 1, 0, none⟩) 1 [⟨some ⟨lb, 0, none⟩, 1, 1, some ⟨w7.heap.size, 0, none⟩, 1, 1⟩] := ⟨_, rfl, (Chg.refl _ x1).alloc _, by simp, RE.newAt (by rw [z1]) rfl rfl⟩
  have hRx : RS x2 (some ⟨w7.heap.size + 1, 0, none⟩) 1 [sX] := rs_lit (hlb7.grew (gx1.trans gx2)) (r1.grew gx2) (by decide) (by decide) r2
  have hRB := (hNS.grew (gx1.trans gx2)).rs
  have hDx := hD7.grew (gx1.trans gx2)
  have g72 := gx1.trans gx2
  have hE := sameS_any B (some ⟨w7.heap.size + 1, 0, none⟩) 1 1 d 1 [sX] [sX] x2 hRB hRx (by decide) (by decide)
  rw [eqB_true rfl] at hE
  rw [hx1] at hx2
  clear hx1 gx1 gx2 r1 r2 z1 z2 hNS hlb7 hD7
  go_wp2_with fail
  rw [← hx2]
  clear hx2
  refine hE.mono ?_
  rintro e w8 ⟨rfl, g8⟩
  have hD8 := hDx.grew g8
  have g78 := g7.trans (g72.trans g8)
  clear hE hDx hRx hRB
  have hS := sel_hd 0 9 hD8 (hm.grew g78)
  rw [aw_sel, srtS_nil] at hS
  go_wp2_with fail
  refine hS.mono ?_
  rintro e w9 ⟨B2, d2, rfl, _, g9⟩
  go_wp2
  go_ret
  exact ⟨by simp, g78.trans g9⟩
end Go.Proofs.YtailooldnelecaaDoor

namespace Go.Proofs.YtailooldnelecaaDoor
open Go.RowKit

theorem low_form (x : Int) : ∃ r : Nat, r < 9223372036854775808 ∧ bits .and .i64 x 9223372036854775807 = (r : Int) := by
  refine ⟨(BitVec.ofInt 64 x &&& BitVec.ofInt 64 9223372036854775807).toNat, ?_, ?_⟩
  · rw [BitVec.toNat_and]
    exact Nat.and_lt_two_pow (n := 63) _ (by decide)
  · show IntKind.i64.wrap ((BitVec.ofInt 64 x &&& BitVec.ofInt 64 9223372036854775807).toNat : Int) = _
    have : (BitVec.ofInt 64 x &&& BitVec.ofInt 64 9223372036854775807).toNat < 2 ^ 63 := by
      rw [BitVec.toNat_and]
      exact Nat.and_lt_two_pow (n := 63) _ (by decide)
    rw [IntKind.wrap_i64]
    omega
/-- a number that is not negative; the world as it was -/
def LowPost (w : World) (e : Ending) (w' : World) : Prop := ∃ r : Nat, r ≤ 9223372036854775807 ∧ e = .returned (.int .i64 (r : Int)) ∧ w = w'
set_option maxHeartbeats 400000 in
theorem low_any (x : Int) (w : World) : Calls Tryd.prog 18 #[.int .i64 x] w (LowPost w) := by
  obtain ⟨r, hr, he⟩ := low_form x
  have He := Lib.hid he
  clear he
  go_enter Tryd.func18, Tryd.ntmps18
  go_wp2
  go_ret
  refine ⟨r, by omega, ?_, rfl⟩
  rw [← He.out]
  simp
end Go.Proofs.YtailooldnelecaaDoor
