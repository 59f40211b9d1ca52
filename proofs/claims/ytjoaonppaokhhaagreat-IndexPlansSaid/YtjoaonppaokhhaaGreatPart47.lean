/-
  Several texts in one:
  (slices.stableCmpFunc), (slices.SortStableFunc) of metas by Plan's comparison: the same metas, in some order. Conditions: lengths that a slice has.
  Blocks that are gathered, in plain words; ((*list).add) at a meta of a row; (index.upright)'s closure over any metas. Conditions: at most 300 metas, of at most 64 sources each.
  (index.upright)'s closure over any metas: what is gathered. Conditions: at most 300 metas, of at most 64 sources each.
-/
import Derived.Test.YtjoaonppaokhhaaGreatPart46
import Derived.Test.YtjoaonppaokhhaaGreatPart42
import Derived.Test.YtjoaonppaokhhaaGreatPart43

namespace Go.Proofs.YtjoaonppaokhhaaGreat
open Go.RowKit

set_option maxRecDepth 100000 in
set_option maxHeartbeats 8000000 in
theorem mstable_any (base g o n c : Nat) (d : Array MtM) (w : World) (ho : o = 0) (h : MA w base g n c d) (hn : n < 100000) :
    Calls Tryz.prog 103 #[.slice (some ⟨g, o, none⟩) n c, .int .i64 (n : Int), .func (.func 75) #[] #[]] w fun e w' => e = .returned (.tuple #[]) ∧ MpTo base g n c d w w' := by
  have hI : Hid (∀ (a b : Nat) (e : Array MtM) (W : World), MA W base g n c e → a ≤ b → b ≤ n → Calls Tryz.prog 123 #[.slice (some ⟨g, o, none⟩) n c, .int .i64 (a : Int), .int .i64 (b : Int), .func (.func 75) #[] #[]] W fun x w' => x = .returned (.tuple #[]) ∧ MpTo base g n c e W w') := fun a b e W h1 h2 h3 => mins_any base g o n c a b e W ho h1 h2 h3 hn
  have hS : Hid (∀ (a m b : Nat) (e : Array MtM) (W : World), MA W base g n c e → a < m → m < b → b ≤ n → Calls Tryz.prog 124 #[.slice (some ⟨g, o, none⟩) n c, .int .i64 (a : Int), .int .i64 (m : Int), .int .i64 (b : Int), .func (.func 75) #[] #[]] W fun x w' => x = .returned (.tuple #[]) ∧ MpTo base g n c e W w') := fun a m b e W h1 h2 h3 h4 => msym_any base g o n c ho hn (b - a) a m b e W (Nat.le_refl _) h1 h2 h3 h4
  replace ho := Lib.hid ho
  replace h := Lib.hid h
  go_enter Tryz.func103, Tryz.ntmps103
  go_wp2
  go_loopw [7, 8] (fun va vb wr => ∃ (a b : Nat) (e : Array MtM), va = .int .i64 (a : Int) ∧ vb = .int .i64 (b : Int) ∧ a ≤ n ∧ b = a + 20 ∧ Go.Sort.PermIn 0 n d e ∧ MsTo base g n c w e wr) (fun _ vb _ => n + 1 - (intOf vb).toNat)
  case atStart => exact ⟨0, 20, d, rfl, rfl, by omega, rfl, Go.Sort.permIn_refl _ _ _, h.out, Chg.refl _ _⟩
  case round =>
    clear h
    obtain ⟨a, b, e, rfl, rfl, ha, hab, hp, hu⟩ := hrel
    by_cases hbn : b ≤ n
    · have hbz : (b : Int) ≤ (n : Int) := by omega
      have hQ := hI.out a b e wr hu.1 (by omega) hbn
      replace hab := Lib.hid hab
      replace hp := Lib.hid hp
      replace hu := Lib.hid hu
      go_wp2_with fail
      refine hQ.mono ?_
      rintro x w1 ⟨rfl, f, hp1, hu1⟩
      have P1 := Lib.hid (Go.Sort.permIn_trans _ _ _ 0 n hp.out hp1)
      have R1 := Lib.hid (hu.out.trans hu1)
      clear hQ hp1 hu1
      go_wp2
      go_roundw
      case rel => exact ⟨b, b + 20, f, rfl, by go_num, hbn, rfl, P1.out, R1.out⟩
      case measure => simp [intOf]; omega
    · have hbz : ¬ ((b : Int) ≤ (n : Int)) := by omega
      have hQ := hI.out a n e wr hu.1 ha (Nat.le_refl _)
      clear hab
      replace hp := Lib.hid hp
      replace hu := Lib.hid hu
      go_wp2_with fail
      refine hQ.mono ?_
      rintro x w1 ⟨rfl, f, hp1, hu1⟩
      have P1 := Lib.hid (Go.Sort.permIn_trans _ _ _ 0 n hp.out hp1)
      have R1 := Lib.hid (hu.out.trans hu1)
      clear hQ hp1 hu1 hp hu
      go_wp2
      go_loopw [6, 7, 8, 9] (fun vs va vb vm wr => ∃ (s : Nat) (e : Array MtM), vs = .int .i64 (s : Int) ∧ 0 < s ∧ s < 200020 ∧ Go.Sort.PermIn 0 n d e ∧ MsTo base g n c w e wr) (fun vs _ _ _ _ => n - (intOf vs).toNat)
      case atStart => exact ⟨20, f, rfl, by omega, by omega, P1.out, R1.out⟩
      case round =>
        obtain ⟨s, e, rfl, hs0, hs1, hp, hu⟩ := hrel
        clear P1 R1
        by_cases hsn : s < n
        · have hsz : (s : Int) < (n : Int) := by omega
          replace hp := Lib.hid hp
          replace hu := Lib.hid hu
          go_wp2
          go_loopw [7, 8] (fun va vb wq => ∃ (a b : Nat) (e : Array MtM), va = .int .i64 (a : Int) ∧ vb = .int .i64 (b : Int) ∧ a ≤ n ∧ b = a + 2 * s ∧ Go.Sort.PermIn 0 n d e ∧ MsTo base g n c w e wq) (fun _ vb _ => n + 1 - (intOf vb).toNat)
          case atStart => exact ⟨0, 2 * s, e, rfl, by go_num, by omega, by omega, hp.out, hu.out⟩
          case round =>
            clear hp hu
            obtain ⟨a, b, e, rfl, rfl, ha, hab, hp, hu⟩ := hrel
            obtain ⟨m, hm0⟩ : ∃ m, m = a + s := ⟨_, rfl⟩
            have hmz : (a : Int) + (s : Int) = (m : Int) := by omega
            have hm1 : a < m := by omega
            have hm2 : m < b := by omega
            have hm3 : m ≤ a + s := by omega
            clear hm0
            by_cases hbn2 : b ≤ n
            · have hbz2 : (b : Int) ≤ (n : Int) := by omega
              have hQ := hS.out a m b e wr hu.1 hm1 hm2 hbn2
              replace hab := Lib.hid hab
              replace hp := Lib.hid hp
              replace hu := Lib.hid hu
              go_wp2_with fail
              refine hQ.mono ?_
              rintro x w1 ⟨rfl, f, hp1, hu1⟩
              have P1 := Lib.hid (Go.Sort.permIn_trans _ _ _ 0 n hp.out hp1)
              have R1 := Lib.hid (hu.out.trans hu1)
              clear hQ hp1 hu1
              go_wp2
              go_roundw
              case rel => exact ⟨b, b + 2 * s, f, rfl, by go_num, hbn2, rfl, P1.out, R1.out⟩
              case measure => simp [intOf]; omega
            · have hbz2 : ¬ ((b : Int) ≤ (n : Int)) := by omega
              clear hab
              by_cases hmn : m < n
              · have hmnz : (m : Int) < (n : Int) := by omega
                have hQ := hS.out a m n e wr hu.1 hm1 hmn (Nat.le_refl _)
                replace hp := Lib.hid hp
                replace hu := Lib.hid hu
                go_wp2_with fail
                refine hQ.mono ?_
                rintro x w1 ⟨rfl, f, hp1, hu1⟩
                have P1 := Lib.hid (Go.Sort.permIn_trans _ _ _ 0 n hp.out hp1)
                have R1 := Lib.hid (hu.out.trans hu1)
                clear hQ hp1 hu1
                go_wp2
                go_roundw
                case rel => exact ⟨s * 2, f, by go_num, by omega, by omega, P1.out, R1.out⟩
                case measure => simp [intOf]; omega
              · have hmnz : ¬ ((m : Int) < (n : Int)) := by omega
                replace hp := Lib.hid hp
                replace hu := Lib.hid hu
                go_wp2
                go_roundw
                case rel => exact ⟨s * 2, e, by go_num, by omega, by omega, hp.out, hu.out⟩
                case measure => simp [intOf]; omega
        · have hsz : ¬ ((s : Int) < (n : Int)) := by omega
          replace hp := Lib.hid hp
          replace hu := Lib.hid hu
          go_wp2
          first
            | go_end0
            | refine bodyPost_ret (results_none rfl _ _ _) rfl ?_
          exact ⟨rfl, e, hp.out, hu.out⟩

set_option maxRecDepth 100000 in
set_option maxHeartbeats 8000000 in
theorem mssort_any (base g o n c : Nat) (d : Array MtM) (w : World) (ho : o = 0) (h : MA w base g n c d) (hn : n < 100000) :
    Calls Tryz.prog 74 #[.slice (some ⟨g, o, none⟩) n c, .func (.func 75) #[] #[]] w fun e w' => e = .returned (.tuple #[]) ∧ MpTo base g n c d w w' := by
  have hQ := mstable_any base g o n c d w ho h hn
  replace ho := Lib.hid ho
  replace h := Lib.hid h
  go_enter Tryz.func74, Tryz.ntmps74
  go_wp2_with fail
  refine hQ.mono ?_
  rintro e w1 ⟨rfl, h1⟩
  go_wp2
  first
    | go_end0
    | refine bodyPost_ret (results_none rfl _ _ _) rfl ?_
  exact ⟨rfl, h1⟩
end Go.Proofs.YtjoaonppaokhhaaGreat

namespace Go.Proofs.YtjoaonppaokhhaaGreat
open Go.RowKit

/-- blocks' IDs and their sources, each once -/
def allOf (G : List Met) : List Nat := G.foldl (fun a m => uniN (addsTo a m)) []
theorem allOf_snoc (G : List Met) (m : Met) : allOf (G ++ [m]) = uniN (addsTo (allOf G) m) := by unfold allOf; rw [List.foldl_append]; rfl
theorem allOf_facts (G : List Met) : Ris (allOf G) ∧ ∀ x, x ∈ allOf G ↔ ∃ m ∈ G, x = m.id ∨ x ∈ m.src := by
  have key : ∀ L : List Met, Ris (allOf L.reverse) ∧ ∀ x, x ∈ allOf L.reverse ↔ ∃ m ∈ L.reverse, x = m.id ∨ x ∈ m.src := by
    intro L
    induction L with
    | nil => exact ⟨List.Pairwise.nil, fun x => by simp [allOf]⟩
    | cons m L ih =>
      rw [List.reverse_cons]
      generalize L.reverse = G at ih
      obtain ⟨h1, h2⟩ := ih
      rw [allOf_snoc]
      obtain ⟨u1, u2, _⟩ := uniN_facts (addsTo (allOf G) m)
      refine ⟨u1, fun x => ?_⟩
      rw [u2]
      unfold addsTo
      rw [List.mem_append, List.mem_append, h2, List.mem_singleton]
      constructor
      · rintro ((⟨m', hm, h⟩ | h) | h)
        · exact ⟨m', List.mem_append_left _ hm, h⟩
        · exact ⟨m, List.mem_append_right _ (List.mem_singleton.2 rfl), .inl h⟩
        · exact ⟨m, List.mem_append_right _ (List.mem_singleton.2 rfl), .inr h⟩
      · rintro ⟨m', hm, h⟩
        rcases List.mem_append.1 hm with hm | hm
        · exact .inl (.inl ⟨m', hm, h⟩)
        · rw [List.mem_singleton] at hm
          subst hm
          rcases h with h | h
          · exact .inl (.inr h)
          · exact .inr h
  have := key G.reverse
  rwa [List.reverse_reverse] at this
theorem allOf_len (G : List Met) (m : Met) : (allOf (G ++ [m])).length ≤ (allOf G).length + 1 + m.src.length := by
  rw [allOf_snoc]
  have := (uniN_facts (addsTo (allOf G) m)).2.2
  unfold addsTo at this
  simp only [List.length_append, List.length_singleton] at this
  exact this

theorem ladd_m (g : Nat) (G : List Met) (x : MtM) (w : World) (h : Lst w g (G.map Met.id) (allOf G)) (hx : RE elU w x.A x.n x.m.src) (hG : G.length ≤ 1000) (ha : (allOf G).length ≤ 64) (hs : x.m.src.length ≤ 64) :
    Calls Tryz.prog 106 #[.pointer (some ⟨g, 0, none⟩), .agg #[.int .u64 (x.m.id : Int), .int .i64 x.m.lo, .int .i64 x.m.hi, .int .i64 x.m.lv, .slice x.A x.n x.c, .int .i64 x.m.sr, .int .i64 x.m.pt]] w fun e w' =>
      (64 < (allOf (G ++ [x.m])).length ∧ e = .returned (.bool false) ∧ Lst w' g (G.map Met.id) (allOf G) ∧ Grew w w') ∨ ((allOf (G ++ [x.m])).length ≤ 64 ∧ e = .returned (.bool true) ∧ Lst w' g ((G ++ [x.m]).map Met.id) (allOf (G ++ [x.m])) ∧ Chg (fun k => g ≤ k) w w') := by
  have hl := hx.1
  have hll := allOf_len G x.m
  have hal : (addsTo (allOf G) x.m).length ≤ 200 := by
    unfold addsTo
    simp only [List.length_append, List.length_singleton]
    omega
  rw [List.map_append, allOf_snoc]
  exact ladd_any g (G.map Met.id) (allOf G) (srtN (addsTo (allOf G) x.m)) (uniN (addsTo (allOf G) x.m)) x.m x.A x.n x.c w h hx (by rw [List.length_map]; omega) (by omega) (by omega)
    (sorts_all _ (by omega)) (compacts_all _ (by rw [srtN_len]; omega)) (by rw [← allOf_snoc]; omega)

/-- places in a row that are gathered -/
structure Gat (n : Nat) (P : List Nat) : Prop where
  nd : P.Nodup
  lt : ∀ p ∈ P, p < n
theorem nodup_len : ∀ (n : Nat) (P : List Nat), P.Nodup → (∀ p ∈ P, p < n) → P.length ≤ n
  | 0, P, _, h2 => by
    cases P with
    | nil => exact Nat.le_refl _
    | cons p P => exact absurd (h2 p (List.mem_cons_self ..)) (by omega)
  | n + 1, P, h1, h2 => by
    have h3 := nodup_len n (P.erase n) (h1.erase n) (fun p hp => by
      obtain ⟨h4, h5⟩ := (h1.mem_erase_iff).1 hp
      have := h2 p h5
      omega)
    have h4 := List.length_erase (a := n) (l := P)
    split at h4 <;> omega
theorem Gat.len {n : Nat} {P : List Nat} (h : Gat n P) : P.length ≤ n := nodup_len n P h.nd h.lt
/-- a row of metas that Plan looks at, at a world w0 -/
structure PlR (w0 : World) (gb n C : Nat) (d : Array MtM) : Prop where
  row : ∃ base, MA w0 base gb n C d
  el : ∀ x ∈ d.toList, RE elU w0 x.A x.n x.m.src
  sz : n ≤ 300
  src : ∀ x ∈ d.toList, x.m.src.length ≤ 64
theorem PlR.size {w0 : World} {gb n C : Nat} {d : Array MtM} (h : PlR w0 gb n C d) : d.size = n := by
  obtain ⟨base, hr⟩ := h.row
  exact hr.size
theorem PlR.grew {w0 w : World} {gb n C : Nat} {d : Array MtM} (h : PlR w0 gb n C d) (hg : Grew w0 w) : PlR w gb n C d := by
  obtain ⟨base, hr⟩ := h.row
  exact ⟨⟨base, OE.grew hr hg⟩, fun x hx => (h.el x hx).grew hg, h.sz, h.src⟩
theorem mem_getU {d : Array MtM} {k : Nat} (h : k < d.size) : d[k]! ∈ d.toList := by
  rw [getElem!_pos d k h]
  exact Array.mem_toList_iff.2 (Array.getElem_mem h)
/-- the metas at places -/
def metP (d : Array MtM) (P : List Nat) : List Met := P.map fun p => (d[p]!).m
theorem metP_snoc (d : Array MtM) (P : List Nat) (k : Nat) : metP d (P ++ [k]) = metP d P ++ [(d[k]!).m] := by unfold metP; rw [List.map_append]; rfl
end Go.Proofs.YtjoaonppaokhhaaGreat

namespace Go.Proofs.YtjoaonppaokhhaaGreat
open Go.RowKit

/-- does a block still fit? -/
def fitB (G : List Met) (m : Met) : Bool := decide ((allOf (G ++ [m])).length ≤ 64)
def addG (G : List Met) (m : Met) : List Met := bif fitB G m then G ++ [m] else G
def addP (d : Array MtM) (P : List Nat) (k : Nat) : List Nat := bif fitB (metP d P) (d[k]!).m then P ++ [k] else P
theorem metP_addP (d : Array MtM) (P : List Nat) (k : Nat) : metP d (addP d P k) = addG (metP d P) (d[k]!).m := by
  unfold addP addG
  cases fitB (metP d P) (d[k]!).m
  · rfl
  · exact metP_snoc d P k
theorem addG_len {G : List Met} {m : Met} (h : (allOf G).length ≤ 64) : (allOf (addG G m)).length ≤ 64 := by
  unfold addG
  cases hf : fitB G m
  · exact h
  · exact of_decide_eq_true hf
theorem ladd_u (g : Nat) (G : List Met) (x : MtM) (w : World) (h : Lst w g (G.map Met.id) (allOf G)) (hx : RE elU w x.A x.n x.m.src) (hG : G.length ≤ 1000) (ha : (allOf G).length ≤ 64) (hs : x.m.src.length ≤ 64) :
    Calls Tryz.prog 106 #[.pointer (some ⟨g, 0, none⟩), .agg #[.int .u64 (x.m.id : Int), .int .i64 x.m.lo, .int .i64 x.m.hi, .int .i64 x.m.lv, .slice x.A x.n x.c, .int .i64 x.m.sr, .int .i64 x.m.pt]] w fun e w' =>
      e = .returned (.bool (fitB G x.m)) ∧ Lst w' g ((addG G x.m).map Met.id) (allOf (addG G x.m)) ∧ Chg (fun k => g ≤ k) w w' := by
  refine (ladd_m g G x w h hx hG ha hs).mono ?_
  rintro e w' (⟨h1, rfl, h2, h3⟩ | ⟨h1, rfl, h2, h3⟩)
  · have hf : fitB G x.m = false := decide_eq_false (by omega)
    unfold addG
    rw [hf]
    exact ⟨rfl, h2, Chg.of_grew h3⟩
  · have hf : fitB G x.m = true := decide_eq_true h1
    unfold addG
    rw [hf]
    exact ⟨rfl, h2, h3⟩
theorem PlR.fam {w0 : World} {gb n C o : Nat} {d : Array MtM} (h : PlR w0 gb n C d) (ho : o = 0) (hn : 0 < n) (G : Nat → MtM) (hG : ∀ k, G k = d[k]!) : MFam w0 gb o n G := by
  obtain ⟨base, hr⟩ := h.row
  exact hr.fam ho hn G hG
theorem PlR.lt {w0 : World} {gb n C : Nat} {d : Array MtM} (h : PlR w0 gb n C d) : gb < w0.heap.size := by
  obtain ⟨base, hr⟩ := h.row
  exact (Own.blk_lt hr _ rfl).2
/-- what is gathered up to place k, the first block being f -/
structure Gth (d : Array MtM) (n f k : Nat) (P : List Nat) : Prop where
  gat : Gat n P
  lt : ∀ p ∈ P, p = f ∨ p < k
  len : (allOf (metP d P)).length ≤ 64
  two : P = [f] ∨ 2 ≤ P.length
  all : ∀ j, j < k → j ≠ f → ovB (d[f]!).m (d[j]!).m = true → (allOf (metP d [f, j])).length ≤ 64 → 2 ≤ P.length
theorem Gth.skip {d : Array MtM} {n f k : Nat} {P : List Nat} (h : Gth d n f k P) (hk : k = f ∨ ovB (d[f]!).m (d[k]!).m = false) : Gth d n f (k + 1) P :=
  ⟨h.gat, fun p hp => (h.lt p hp).imp id fun e => by omega, h.len, h.two, fun j hj hjf hov hfit => by
    rcases Nat.lt_or_ge j k with e | e
    · exact h.all j e hjf hov hfit
    · have : j = k := by omega
      subst this
      rcases hk with e2 | e2
      · exact absurd e2 hjf
      · rw [e2] at hov
        cases hov⟩
theorem Gth.add {d : Array MtM} {n f k : Nat} {P : List Nat} (h : Gth d n f k P) (hk : k < n) (hkf : k ≠ f) : Gth d n f (k + 1) (addP d P k) := by
  have hm := metP_addP d P k
  cases hf : fitB (metP d P) (d[k]!).m
  · have e : addP d P k = P := by unfold addP; rw [hf]; rfl
    rw [e]
    refine ⟨h.gat, fun p hp => (h.lt p hp).imp id fun e => by omega, h.len, h.two, fun j hj hjf hov hfit => ?_⟩
    rcases Nat.lt_or_ge j k with e | e
    · exact h.all j e hjf hov hfit
    · have : j = k := by omega
      subst this
      rcases h.two with e2 | e2
      · subst e2
        have : fitB (metP d [f]) (d[j]!).m = true := decide_eq_true hfit
        rw [hf] at this
        cases this
      · exact e2
  · have e : addP d P k = P ++ [k] := by unfold addP; rw [hf]; rfl
    have h2 : 2 ≤ (P ++ [k]).length := by
      rw [List.length_append, List.length_singleton]
      rcases h.two with e2 | e2
      · rw [e2]; simp
      · omega
    rw [e]
    refine ⟨⟨?_, fun p hp => ?_⟩, fun p hp => ?_, ?_, .inr h2, fun j _ _ _ _ => h2⟩
    · rw [List.nodup_append]
      refine ⟨h.gat.nd, by simp, fun x hx y hy exy => ?_⟩
      rw [List.mem_singleton] at hy
      rw [hy] at exy
      rw [exy] at hx
      rcases h.lt k hx with h1 | h1
      · exact hkf h1
      · omega
    · rcases List.mem_append.1 hp with h1 | h1
      · exact h.gat.lt p h1
      · rw [List.mem_singleton.1 h1]; exact hk
    · rcases List.mem_append.1 hp with h1 | h1
      · exact (h.lt p h1).imp id fun e => by omega
      · rw [List.mem_singleton.1 h1]; exact .inr (by omega)
    · rw [metP_snoc]
      exact of_decide_eq_true hf

set_option maxRecDepth 100000 in
set_option maxHeartbeats 8000000 in
theorem up1_any (w0 : World) (gm gf gb o C n f : Nat) (d : Array MtM) (ho : o = 0) (hr : PlR w0 gb n C d) (bm : Blk w0 gm 54 #[.slice (some ⟨gb, o, none⟩) n C]) (bf : Blk w0 gf 3 #[.int .i64 (f : Int)]) (hf : f < n) (hfit : (allOf (metP d [f])).length ≤ 64) (W : World) (g : Nat) (hW : Grew w0 W) (hg : w0.heap.size ≤ g) (hL : Lst W g [] []) :
    Calls Tryz.prog 108 #[.func (.func 106) #[.pointer (some ⟨g, 0, none⟩)] #[], .pointer (some ⟨gm, 0, none⟩), .pointer (some ⟨gf, 0, none⟩)] W fun e w' =>
      e = .returned (.tuple #[]) ∧ (∃ P, Gth d n f n P ∧ Lst w' g ((metP d P).map Met.id) (allOf (metP d P))) ∧ Chg (fun k => g ≤ k) W w' := by
  obtain ⟨G, hG⟩ : ∃ G : Nat → MtM, ∀ k, G k = d[k]! := ⟨fun k => d[k]!, fun _ => rfl⟩
  have hsz := hr.size
  have hn3 := hr.sz
  have hA1 := ladd_u g [] (G f) W hL (by rw [hG]; exact (hr.grew hW).el _ (mem_getU (by omega))) (Nat.zero_le _) (Nat.zero_le _) (by rw [hG]; exact hr.src _ (mem_getU (by omega)))
  have hP0 : Hid (Gth d n f 0 [f]) := ⟨⟨by simp, fun p hp => by rw [List.mem_singleton.1 hp]; exact hf⟩, fun p hp => .inl (List.mem_singleton.1 hp), hfit, .inl rfl, fun j hj => by omega⟩
  have hG0 : addG [] (G f).m = metP d [f] := by
    have : fitB [] (G f).m = true := decide_eq_true (by rw [hG]; exact hfit)
    unfold addG
    rw [this, hG]
    rfl
  rw [hG0] at hA1
  clear hG0
  replace hG := Lib.hid hG
  replace ho := Lib.hid ho
  replace hfit := Lib.hid hfit
  replace hsz := Lib.hid hsz
  have b0 : W.cell? ⟨gm, 0, none⟩ = some (.slice (some ⟨gb, o, none⟩) n C) := (bm.grew hW).cell 0
  have f0 : W.cell? ⟨gf, 0, none⟩ = some (.int .i64 (f : Int)) := (bf.grew hW).cell 0
  obtain ⟨c0, c1, c2, c3, c4, c5, c6, _⟩ := (hr.grew hW).fam ho.out (by omega) G hG.out
  have x0 := c0 f (by omega)
  have x1 := c1 f (by omega)
  have x2 := c2 f (by omega)
  have x3 := c3 f (by omega)
  have x4 := c4 f (by omega)
  have x5 := c5 f (by omega)
  have x6 := c6 f (by omega)
  clear c0 c1 c2 c3 c4 c5 c6
  go_enter Tryz.func108, Tryz.ntmps108
  go_wp2_with fail
  refine hA1.mono ?_
  rintro e w1 ⟨rfl, hL1, ch1⟩
  have h1 : Grew w0 w1 := hW.step ch1 fun k hk e => by omega
  clear b0 f0 x0 x1 x2 x3 x4 x5 x6 hA1 hL
  have b0 : w1.cell? ⟨gm, 0, none⟩ = some (.slice (some ⟨gb, o, none⟩) n C) := (bm.grew h1).cell 0
  replace hL1 := Lib.hid hL1
  go_wp2
  clear b0
  go_loopw [14] (fun i wr => ∃ (k : Nat) (P : List Nat), k ≤ n ∧ i = .int .i64 (k : Int) ∧ Gth d n f k P ∧ Lst wr g ((metP d P).map Met.id) (allOf (metP d P)) ∧ Chg (fun k => g ≤ k) W wr) (fun i _ => n - (intOf i).toNat)
  case atStart => exact ⟨0, [f], Nat.zero_le _, rfl, hP0.out, hL1.out, ch1⟩
  case round =>
    clear hL1 ch1 h1
    obtain ⟨k, P, hk, rfl, hP, hLk, hc⟩ := hrel
    by_cases hlt : k < n
    · have hltz : (k : Int) < (n : Int) := by omega
      have h1 : Grew w0 wr := hW.step hc fun k hk e => by omega
      have b0 : wr.cell? ⟨gm, 0, none⟩ = some (.slice (some ⟨gb, o, none⟩) n C) := (bm.grew h1).cell 0
      have f0 : wr.cell? ⟨gf, 0, none⟩ = some (.int .i64 (f : Int)) := (bf.grew h1).cell 0
      have lm := (bm.grew h1).lt
      have lf := (bf.grew h1).lt
      have lb := (hr.grew h1).lt
      obtain ⟨c0, c1, c2, c3, c4, c5, c6, _⟩ := (hr.grew h1).fam ho.out (by omega) G hG.out
      have x0 := c0 f (by omega)
      have x1 := c1 f (by omega)
      have x2 := c2 f (by omega)
      have x3 := c3 f (by omega)
      have x4 := c4 f (by omega)
      have x5 := c5 f (by omega)
      have x6 := c6 f (by omega)
      have y0 := c0 k (by omega)
      have y1 := c1 k (by omega)
      have y2 := c2 k (by omega)
      have y3 := c3 k (by omega)
      have y4 := c4 k (by omega)
      have y5 := c5 k (by omega)
      have y6 := c6 k (by omega)
      clear c0 c1 c2 c3 c4 c5 c6
      replace hP := Lib.hid hP
      by_cases hkf : k = f
      · have hkz : ((k : Int) != (f : Int)) = false := by simp [hkf]
        have hN := Lib.hid (hP.out.skip (.inl hkf))
        have hLn : Hid (∀ X, Grew wr X → Lst X g ((metP d P).map Met.id) (allOf (metP d P)) ∧ Chg (fun k => g ≤ k) W X) := fun X hX => ⟨hLk.grew hX, hc.grow hX⟩
        replace hkf := Lib.hid hkf
        clear hLk hc
        go_wp2_with fail
        refine wp_region_text [(3, 1)] (by kernel_rfl) (by kernel_rfl) ?_
        simp only [instr, chk, look, Nat.reduceBEq, if_true, if_false, Nat.reduceEqDiff, List.cons_append, List.nil_append]
        go_wp2
        refine OnlyN.normal ?_
        go_wp2
        go_roundw
        case rel =>
          have hX := hLn.out _ (((Chg.refl _ wr).alloc (.cells #[.int .u64 ((G k).m.id : Int), .int .i64 (G k).m.lo, .int .i64 (G k).m.hi, .int .i64 (G k).m.lv, .slice (G k).A (G k).n (G k).c, .int .i64 (G k).m.sr, .int .i64 (G k).m.pt] 28)).drew)
          exact ⟨k + 1, P, by omega, by go_num, hN.out, hX.1, hX.2⟩
        case measure => simp [intOf]; omega
      · have hkz : ((k : Int) != (f : Int)) = true := by simp; omega
        have hkzz : ¬ ((k : Int) = (f : Int)) := by omega
        have hO := fun w => overlap_any (G f).m (G k).m (G f).A (G k).A (G f).n (G f).c (G k).n (G k).c w
        by_cases hov : ovB (G f).m (G k).m = true
        · simp only [hov] at hO
          replace hov := Lib.hid hov
          have hN := Lib.hid (hP.out.add hlt hkf)
          go_wp2_with fail
          refine wp_region_text [(3, 1)] (by kernel_rfl) (by kernel_rfl) ?_
          simp only [instr, chk, look, Nat.reduceBEq, if_true, if_false, Nat.reduceEqDiff, List.cons_append, List.nil_append]
          go_wp2_with fail
          refine (hO _).mono ?_
          rintro e w2 ⟨rfl, hg2⟩
          go_wp2_with fail
          refine OnlyN.normal ?_
          have gA : Grew wr w2 := Chg.trans (by repeat (first | exact Chg.refl _ _ | apply Chg.alloc | apply Chg.drew)) hg2
          have bc : Blk w2 wr.heap.size 28 #[.int .u64 ((G k).m.id : Int), .int .i64 (G k).m.lo, .int .i64 (G k).m.hi, .int .i64 (G k).m.lv, .slice (G k).A (G k).n (G k).c, .int .i64 (G k).m.sr, .int .i64 (G k).m.pt] := by
            have h9 := Blk.new wr 28 #[.int .u64 ((G k).m.id : Int), .int .i64 (G k).m.lo, .int .i64 (G k).m.hi, .int .i64 (G k).m.lv, .slice (G k).A (G k).n (G k).c, .int .i64 (G k).m.sr, .int .i64 (G k).m.pt]
            refine Blk.grew ?_ hg2
            exact h9
          have k0 := bc.cell 0
          have k1 := bc.cell 1
          have k2 := bc.cell 2
          have k3 := bc.cell 3
          have k4 := bc.cell 4
          have k5 := bc.cell 5
          have k6 := bc.cell 6
          simp only [List.getElem?_toArray, List.getElem?_cons_succ, List.getElem?_cons_zero] at k0 k1 k2 k3 k4 k5 k6
          have h2 := h1.trans gA
          have hA2 := ladd_u g (metP d P) (G k) w2 (hLk.grew gA) (by rw [hG.out]; exact (hr.grew h2).el _ (mem_getU (by rw [hsz.out]; exact hlt))) (by unfold metP; rw [List.length_map]; have := hP.out.gat.len; omega) hP.out.len (by rw [hG.out]; exact hr.src _ (mem_getU (by rw [hsz.out]; exact hlt)))
          rw [hG.out k, ← metP_addP, ← hG.out k] at hA2
          have hc2 := hc.grow gA
          clear b0 f0 x0 x1 x2 x3 x4 x5 x6 y0 y1 y2 y3 y4 y5 y6 hO hg2 bc hLk lm lf lb
          go_wp2_with fail
          refine hA2.mono ?_
          rintro e w3 ⟨rfl, hL3, ch3⟩
          replace hL3 := Lib.hid hL3
          have hc3 := hc2.trans ch3
          clear hA2 k0 k1 k2 k3 k4 k5 k6 ch3 hc2 hc gA
          go_wp2
          go_roundw
          case rel => exact ⟨k + 1, addP d P k, by omega, by go_num, hN.out, hL3.out, hc3⟩
          case measure => simp [intOf]; omega
        · have hov2 : ovB (G f).m (G k).m = false := by simpa using hov
          have hN := Lib.hid (hP.out.skip (.inr (by rw [← hG.out, ← hG.out]; exact hov2)))
          simp only [hov2] at hO
          replace hov2 := Lib.hid hov2
          replace hov := Lib.hid hov
          go_wp2_with fail
          refine wp_region_text [(3, 1)] (by kernel_rfl) (by kernel_rfl) ?_
          simp only [instr, chk, look, Nat.reduceBEq, if_true, if_false, Nat.reduceEqDiff, List.cons_append, List.nil_append]
          go_wp2_with fail
          refine (hO _).mono ?_
          rintro e w2 ⟨rfl, hg2⟩
          have gA : Grew wr w2 := Chg.trans (by repeat (first | exact Chg.refl _ _ | apply Chg.alloc | apply Chg.drew)) hg2
          have hLn := Lib.hid (hLk.grew gA)
          have hc2 := hc.grow gA
          clear b0 f0 x0 x1 x2 x3 x4 x5 x6 y0 y1 y2 y3 y4 y5 y6 hO hg2 hLk lm lf lb hc gA
          go_wp2_with fail
          refine OnlyN.normal ?_
          go_wp2
          go_roundw
          case rel => exact ⟨k + 1, P, by omega, by go_num, hN.out, hLn.out, hc2⟩
          case measure => simp [intOf]; omega
    · have hltz : ¬ ((k : Int) < (n : Int)) := by omega
      have hkn : k = n := by omega
      have hPn : Hid (Gth d n f n P) := by rw [hkn] at hP; exact hP
      clear hkn hP
      replace hLk := Lib.hid hLk
      go_wp2
      first
        | go_end0
        | refine bodyPost_ret (results_none rfl _ _ _) rfl ?_
      exact ⟨rfl, ⟨P, hPn.out, hLk.out⟩, hc⟩
end Go.Proofs.YtjoaonppaokhhaaGreat
