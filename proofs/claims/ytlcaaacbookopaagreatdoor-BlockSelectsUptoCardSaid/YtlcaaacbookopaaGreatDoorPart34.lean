/-
  Several texts in one:
  Package match: compile, like, Like: a text is like a pattern just if likeB says so. Conditions: texts that memory bears.
-/
import Derived.Test.YtlcaaacbookopaaGreatDoorPart33
import Derived.Test.YtlcaaacbookopaaGreatDoorPart7

namespace Go.Proofs.YtlcaaacbookopaaGreatDoor
open Go.RowKit

/-- a piece in a cell: where its texts lie, and how many -/
def elPc : El (Nat × Nat) := ⟨fun x => [.slice (some ⟨x.1, 0, none⟩) x.2 x.2], 1, fun _ => rfl, by
  intro x u hu
  simp only [List.mem_cons, List.not_mem_nil, or_false] at hu
  subst hu
  rfl⟩
theorem infoPc : (Tryz.prog.info? 168).map (fun i => (i.zero, i.size, i.bytes)) = some (some (.agg #[.slice none 0 0]), 1, 24) := by kernel_rfl
theorem RE.pc {w : World} {A : Option Addr} {n : Nat} {l : List (Nat × Nat)} (h : RE elPc w A n l) {k : Nat} (hk : k < n) :
    ∃ ad x, A = some ad ∧ l[k]? = some x ∧ w.cell? (ad.add k) = some (.slice (some ⟨x.1, 0, none⟩) x.2 x.2) := by
  obtain ⟨ad, s, e, hs, hc⟩ := h.at_ hk (by decide)
  exact ⟨ad, s, e, hs, by have := hc 0 _ rfl; rwa [show k * elPc.sz + 0 = k from by simp [elPc]] at this⟩
/-- the pieces' texts -/
def PcsOk (w : World) (l : List (Nat × Nat)) (alts : List (List ByteArray)) : Prop :=
  ∀ (i : Nat) (x : Nat × Nat), l[i]? = some x → ∃ ts, alts[i]? = some ts ∧ x.2 = ts.length ∧ Txs w x.1 ts
theorem PcsOk.chg {S : Nat → Prop} {w w' : World} {l : List (Nat × Nat)} {alts : List (List ByteArray)} (h : PcsOk w l alts) (hc : Chg S w w') (hn : ∀ g cs, Blk w g 9 cs → ¬ S g) : PcsOk w' l alts := fun i x hx => by
  obtain ⟨ts, h1, h2, h3⟩ := h i x hx
  exact ⟨ts, h1, h2, Blk.chg h3 hc (hn _ _ h3)⟩
theorem Blk.ty_ne {w : World} {g h : Nat} {t t' : TypeId} {cs cs' : Array Value} (hg : Blk w g t cs) (hh : Blk w h t' cs') (ht : t ≠ t') : g ≠ h := by
  rintro rfl
  have h1 : some (Obj.cells cs t (0, 0)) = some (Obj.cells cs' t' (0, 0)) := Eq.trans (Eq.symm hg) hh
  injection h1 with h1
  injection h1 with _ h1
  exact ht h1
theorem PcsOk.snoc {w : World} {l : List (Nat × Nat)} {alts : List (List ByteArray)} (h : PcsOk w l alts) {g : Nat} {ts : List ByteArray} (ha : alts[l.length]? = some ts) (ht : Txs w g ts) : PcsOk w (l ++ [(g, ts.length)]) alts := fun i x hx => by
  rcases Nat.lt_trichotomy i l.length with hi | hi | hi
  · rw [List.getElem?_append_left hi] at hx
    exact h i x hx
  · subst hi
    rw [List.getElem?_append_right (Nat.le_refl _), Nat.sub_self] at hx
    obtain rfl := Option.some.inj hx
    exact ⟨ts, ha, rfl, ht⟩
  · rw [List.getElem?_append_right (by omega)] at hx
    rw [List.getElem?_eq_none (by simp; omega)] at hx
    cases hx
def altsOf (s : ByteArray) : List (List ByteArray) := (splitS 124 s).map (splitS 42)
/-- a pattern that was cut -/
def PatIs (w : World) (B : Option Addr) (k C : Nat) (alts : List (List ByteArray)) : Prop := ∃ l, RE elPc w B k l ∧ k = alts.length ∧ PcsOk w l alts ∧ k ≤ C ∧ C ≤ 9223372036854775807
def CmpP (w : World) (s : ByteArray) (e : Ending) (w' : World) : Prop := ∃ B k C, e = .returned (.agg #[.slice B k C]) ∧ PatIs w' B k C (altsOf s) ∧ Grew w w'

set_option maxRecDepth 100000 in
set_option maxHeartbeats 2000000 in
theorem compile_any (s : ByteArray) (w : World) (hs : s.size ≤ 16777216) (hm : MaxL w) :
    Calls Tryz.prog 95 #[.string s] w (CmpP w s) := by
  obtain ⟨xs, hxs⟩ : ∃ xs, xs = splitS 124 s := ⟨_, rfl⟩
  have hS : ∀ w, MaxL w → Calls Tryz.prog 114 #[.string s, .string ⟨#[124]⟩] w (SplP w xs) := fun w hm => by rw [hxs]; exact split_any 124 s w (by omega) hm
  have hT : ∀ t ∈ xs, ∀ w, MaxL w → Calls Tryz.prog 114 #[.string t, .string ⟨#[42]⟩] w (SplP w (splitS 42 t)) := fun t ht w hm => split_any 42 t w (by rw [hxs] at ht; have := splitS_part ht; omega) hm
  have hlen : xs.length ≤ 16777217 := by rw [hxs]; have := splitS_le 124 s; omega
  have Ha : Hid (altsOf s = xs.map (splitS 42)) := by show _ = _; rw [hxs]; rfl
  have HS := Lib.hid hS
  have HT := Lib.hid hT
  have hg0 : Grew w ((w.alloc (.cells #[.slice none 0 0] 143)).alloc (.cells #[.slice none 0 0] 143)) := ((Chg.refl _ w).alloc _).alloc _
  have hr0 : Blk ((w.alloc (.cells #[.slice none 0 0] 143)).alloc (.cells #[.slice none 0 0] 143)) w.heap.size 143 #[.slice none 0 0] := (Blk.new w _ _).alloc _
  have hp0 : Blk ((w.alloc (.cells #[.slice none 0 0] 143)).alloc (.cells #[.slice none 0 0] 143)) (w.heap.size + 1) 143 #[.slice none 0 0] := by
    have := Blk.new (w.alloc (.cells #[.slice none 0 0] 143)) 143 #[.slice none 0 0]
    simpa using this
  have hm0 := hm.grew hg0
  have HMw := Lib.hid hm
  clear hS hT hxs hm
  go_enter Tryz.func95, Tryz.ntmps95
  go_wp2_with fail
  refine (HS.out _ (by exact hm0)).mono ?_
  rintro e w1 ⟨rfl, htx, hg1, hlt⟩
  have htx1 : Txs w1 (w.heap.size + 1 + 1) xs := by simpa using htx
  have hg01 := hg0.trans hg1
  have hr1 := hr0.grew hg1
  have hp1 := hp0.grew hg1
  have hm1 := hm0.grew hg1
  clear hg0 hr0 hp0 hm0 hg1 hlt htx
  obtain ⟨k0, hk0⟩ : ∃ k0, k0 = xs.length := ⟨_, rfl⟩
  rw [← hk0] at hlen ⊢
  have Hk0 := Lib.hid hk0
  clear hk0
  go_wp2
  go_loopw [9] (fun i wr => ∃ (j : Nat) (B : Option Addr) (C : Nat) (l : List (Nat × Nat)), i = .int .i64 (j : Int) ∧ j ≤ k0 ∧ Hid (l.length = j) ∧ Blk wr (w.heap.size + 1) 143 #[.slice B j C] ∧ Blk wr w.heap.size 143 #[.slice none 0 0] ∧
    OE elPc wr w.heap.size 168 B j C l ∧ PcsOk wr l (xs.map (splitS 42)) ∧ Txs wr (w.heap.size + 1 + 1) xs ∧ MaxL wr ∧ Grew w wr) (fun i _ => k0 - (intOf i).toNat)
  case atStart => exact ⟨0, none, 0, [], rfl, by omega, rfl, hp1, hr1, OE.nil _ _ _, (fun i x hx => by simp at hx), htx1, hm1, hg01⟩
  case round =>
    clear hg01 hr1 hp1 hm1 htx1 w1
    obtain ⟨j, B, C, l, rfl, hj, Hl, hp, hr, ho, hpc, htx, hm, hg⟩ := hrel
    have hsz := hg.size
    have hpl := hp.lt
    have hoc := ho.cap
    by_cases hlt : j < k0
    · have hjx : j < xs.length := by rw [← Hk0.out]; exact hlt
      have hx : xs[j]? = some xs[j] := List.getElem?_eq_getElem hjx
      have hmem : xs[j] ∈ xs := List.getElem_mem hjx
      have HTx := Lib.hid (HT.out _ hmem)
      have hct : wr.cell? ⟨w.heap.size + 1 + 1, j, none⟩ = some (.string xs[j]) := by rw [Blk.cell htx]; simp [hjx]
      have ha : (xs.map (splitS 42))[l.length]? = some (splitS 42 xs[j]) := by rw [Hl.out, List.getElem?_map, hx]; rfl
      have Ha2 := Lib.hid ha
      generalize xs[j] = x at *
      generalize splitS 42 x = ts at *
      clear ha hx hmem hjx HT
      have hcp : wr.cell? ⟨w.heap.size + 1, 0, none⟩ = some (.slice B j C) := by rw [hp.cell]; rfl
      have hfp := hp.frozen 0
      have hBp : ∀ ad, B = some ad → ad.block ≠ w.heap.size + 1 := fun ad e => Own.ne_blk ho hp (by decide) ad e
      have hBr : ∀ ad, B = some ad → ad.block ≠ w.heap.size := fun ad e => Own.ne_blk ho hr (by decide) ad e
      go_wp2_with fail
      refine wp_region_textL [(3, 1)] [w.heap.size + 1] (by kernel_rfl) (by kernel_rfl) (cellsIn_one hp) ?_
      simp only [wpUL, tagOf, chk, List.cons_append, List.nil_append]
      intro K hK
      go_wp2_with fail
      refine OnlyN.normal (hK _ _ (fun _ => ⟨_, _, _, rfl, rfl, by simp⟩) ?_)
      clear hK K
      intro K hK
      go_wp2_with fail
      refine (HTx.out _ (by exact hm)).mono ?_
      rintro e w2 ⟨rfl, htx2, hg2, hlt2⟩
      have hg2' : Grew wr w2 := (Chg.refl _ wr).drew.trans hg2
      have hp2 := hp.grew hg2'
      have hr2 := hr.grew hg2'
      have ho2 := ho.grew hg2'
      have hpc2 := hpc.chg hg2' (fun _ _ _ e => e)
      have htxx2 : Txs w2 (w.heap.size + 1 + 1) xs := Blk.grew htx hg2'
      have hm2 := hm.grew hg2'
      have hg02 := hg.trans hg2'
      have hsz2 := hg02.size
      have hszd : wr.heap.size < w2.heap.size := hlt2
      go_wp2_with fail
      refine OnlyN.normal (hK _ _ (sameIn_chg (S := fun _ => False) hg2' hpl (fun e => e)) ?_)
      clear hK K
      intro K hK
      go_wp2_with fail
      refine OnlyN.normal (hK _ _ (sameIn_chg (S := fun _ => False) (hg2'.alloc _) hpl (fun e => e)) ?_)
      clear hK K
      have ho3 := ho2.grew ((Chg.refl _ w2).alloc (.cells #[.slice (some ⟨wr.heap.size, 0, none⟩) ts.length ts.length] 168))
      have hsrc : RE elPc (w2.alloc (.cells #[.slice (some ⟨wr.heap.size, 0, none⟩) ts.length ts.length] 168)) (some ⟨w2.heap.size, 0, none⟩) 1 [(wr.heap.size, ts.length)] := RE.newAt rfl rfl rfl
      intro K hK
      go_wp2_with (at_builtin; refine wpList_appE rfl _ _ 141 168 infoPc rfl Tryz.underlying141 rfl w.heap.size B j C l rfl ho3 (by simp; omega) _ 1 1 [(wr.heap.size, ts.length)] rfl hsrc (by unfold maxLen; omega) (by omega) ?_; intro B2 C2 w4 h4)
      have hga : Grew w2 (w2.alloc (.cells #[.slice (some ⟨wr.heap.size, 0, none⟩) ts.length ts.length] 168)) := (Chg.refl _ w2).alloc _
      have hp4 := (hp2.grew hga).chg h4.chg (fun ⟨ad, e1, e2⟩ => hBp ad e1 e2.symm)
      have hr4 := (hr2.grew hga).chg h4.chg (fun ⟨ad, e1, e2⟩ => hBr ad e1 e2.symm)
      have htx4 : Txs w4 (w.heap.size + 1 + 1) xs := Blk.chg (Blk.grew htxx2 hga) h4.chg (fun ⟨ad, e1, e2⟩ => Own.ne_blk ho3 (Blk.grew htxx2 hga) (by decide) ad e1 e2.symm)
      have htt4 : Txs w4 wr.heap.size ts := Blk.chg (Blk.grew htx2 hga) h4.chg (fun ⟨ad, e1, e2⟩ => Own.ne_blk ho3 (Blk.grew htx2 hga) (by decide) ad e1 e2.symm)
      have hpc4 : PcsOk w4 l (xs.map (splitS 42)) := (hpc2.chg hga (fun _ _ _ e => e)).chg h4.chg (fun g cs hb ⟨ad, e1, e2⟩ => Own.ne_blk ho3 (Blk.grew (Blk.chg (S := fun _ => False) hb (Chg.refl _ _) (fun e => e)) (Chg.refl _ _)) (by decide) ad e1 e2.symm)
      have hg4 : Grew w w4 := h4.grew (hg02.trans hga) (fun ad e => (Own.blk_lt ho ad e).1)
      refine OnlyN.normal (hK _ _ (sameIn_one hp hp4) ?_)
      clear hK K
      have hf4 := hp4.frozen 0
      have hc4 : w4.cell? ⟨w.heap.size + 1, 0, none⟩ = some (.slice B j C) := by rw [hp4.cell]; rfl
      go_wp2_with fail
      refine OnlyN.normal ?_
      have hch : Chg (fun x => x = w.heap.size + 1) w4 (w4.setCell ⟨w.heap.size + 1, 0, none⟩ (.slice B2 (j + 1) C2)) := Chg.one _ _ _ _
      have hp5 : Blk (w4.setCell ⟨w.heap.size + 1, 0, none⟩ (.slice B2 (j + 1) C2)) (w.heap.size + 1) 143 #[.slice B2 (j + 1) C2] := by simpa using hp4.set 0 (.slice B2 (j + 1) C2)
      have hr5 := hr4.far (p := ⟨w.heap.size + 1, 0, none⟩) (by simp) (.slice B2 (j + 1) C2)
      have ho5 : OE elPc (w4.setCell ⟨w.heap.size + 1, 0, none⟩ (.slice B2 (j + 1) C2)) w.heap.size 168 B2 (j + 1) C2 (l ++ [(wr.heap.size, ts.length)]) := OE.chg h4.oe hch (fun ad e => Own.ne_blk h4.oe hp4 (by decide) ad e)
      have hpc5 := (hpc4.snoc Ha2.out htt4).chg hch (fun g cs hb e => Blk.ty_ne hb hp4 (by decide) e)
      have htx5 : Txs (w4.setCell ⟨w.heap.size + 1, 0, none⟩ (.slice B2 (j + 1) C2)) (w.heap.size + 1 + 1) xs := Blk.chg htx4 hch (fun e => Blk.ty_ne htx4 hp4 (by decide) e)
      have hg5 : Grew w (w4.setCell ⟨w.heap.size + 1, 0, none⟩ (.slice B2 (j + 1) C2)) := hg4.setCell (p := ⟨w.heap.size + 1, 0, none⟩) (.inl (by simp)) _
      have hl5 := Hl.out
      have Hl5 : Hid ((l ++ [(wr.heap.size, ts.length)]).length = j + 1) := by show _ = _; simp [hl5]
      clear hp hr ho hpc htx hm hg hp2 hr2 ho2 hpc2 htxx2 hm2 hg02 ho3 hsrc hga hp4 hr4 htx4 htt4 hpc4 hg4 hf4 hc4 hch h4 hl5 hcp hfp hct htx2 hg2 hg2'
      generalize w4.setCell ⟨w.heap.size + 1, 0, none⟩ (.slice B2 (j + 1) C2) = w5 at *
      go_wp2
      go_roundw
      case rel => exact ⟨j + 1, B2, C2, _, by go_num, by omega, Hl5, hp5, hr5, ho5, hpc5, htx5, HMw.out.grew hg5, hg5⟩
      case measure => simp [intOf]; omega
    · obtain rfl : j = k0 := by omega
      have hcp : wr.cell? ⟨w.heap.size + 1, 0, none⟩ = some (.slice B j C) := by rw [hp.cell]; rfl
      have hcr : wr.cell? ⟨w.heap.size, 0, none⟩ = some (.slice none 0 0) := by rw [hr.cell]; rfl
      have hfp := hp.frozen 0
      have hfr := hr.frozen 0
      have hch : Chg (fun x => x = w.heap.size) wr (wr.setCell ⟨w.heap.size, 0, none⟩ (.slice B j C)) := Chg.one _ _ _ _
      have hres : PatIs (wr.setCell ⟨w.heap.size, 0, none⟩ (.slice B j C)) B j C (altsOf s) := by
        rw [Ha.out]
        refine ⟨l, RE.chg (ho.re (by decide)) hch (fun ad e e2 => Own.ne_blk ho hr (by decide) ad e e2), by rw [List.length_map]; exact Hk0.out, hpc.chg hch (fun g cs hb e => Blk.ty_ne hb hr (by decide) e), hoc.1, hoc.2⟩
      have hgr : Grew w (wr.setCell ⟨w.heap.size, 0, none⟩ (.slice B j C)) := hg.setCell (p := ⟨w.heap.size, 0, none⟩) (.inl (Nat.le_refl _)) _
      have hcv : (wr.setCell ⟨w.heap.size, 0, none⟩ (.slice B j C)).cell? ⟨w.heap.size, 0, none⟩ = some (.slice B j C) := by
        have := hr.set 0 (.slice B j C)
        rw [Blk.cell this]
        rfl
      have Hres := Lib.hid hres
      have Hgr := Lib.hid hgr
      clear hres hgr hch hpc htx hm hg ho hp hr
      go_wp2
      exact bodyPost_ret (v := .agg #[.slice B j C]) (by simp [results, Tryz.results95, go_sem, hcv]) rfl ⟨B, j, C, rfl, Hres.out, Hgr.out⟩

def allB (alts : List (List ByteArray)) (v : ByteArray) : Bool := alts.any fun ts => isB (ts.map glst) (glst v)
theorem any_take {α : Type} {l : List α} {f : α → Bool} {j : Nat} {x : α} (h : (l.take j).any f = false) (hx : l[j]? = some x) (hf : f x = false) : (l.take (j + 1)).any f = false := by
  rw [List.take_add_one, hx, List.any_append, h]
  simp [hf]
theorem any_hit {α : Type} {l : List α} {f : α → Bool} {j : Nat} {x : α} (hx : l[j]? = some x) (hf : f x = true) : l.any f = true :=
  List.any_eq_true.2 ⟨x, List.mem_of_getElem? hx, hf⟩

set_option maxRecDepth 100000 in
set_option maxHeartbeats 2000000 in
theorem like_any (B : Option Addr) (k C : Nat) (alts : List (List ByteArray)) (v : ByteArray) (w : World) (h : PatIs w B k C alts) (hal : ∀ ts ∈ alts, 0 < ts.length ∧ ts.length ≤ 9223372036854775807 ∧ ∀ t ∈ ts, t.size < 4294967281) (hv : v.size < 4294967281) (hm : MaxL w) :
    Calls Tryz.prog 131 #[.agg #[.slice B k C], .string v] w fun e w' => e = .returned (.bool (allB alts v)) ∧ Grew w w' := by
  obtain ⟨l, hre, hk, hpc, hkC, hC⟩ := h
  have Hal := Lib.hid hal
  have Hk := Lib.hid hk
  have hg0 : Grew w (w.alloc (.cells #[.slice B k C] 143)) := (Chg.refl _ w).alloc _
  have hb0 : Blk (w.alloc (.cells #[.slice B k C] 143)) w.heap.size 143 #[.slice B k C] := Blk.new w _ _
  have hre0 := hre.grew hg0
  have hpc0 := hpc.chg hg0 (fun _ _ _ e => e)
  have hm0 := hm.grew hg0
  clear hal hk hre hpc hm
  go_enter Tryz.func131, Tryz.ntmps131
  go_wp2_with fail
  generalize w.alloc (.cells #[.slice B k C] 143) = W at *
  generalize w.heap.size = b0 at *
  have p0 : W.cell? ⟨b0, 0, none⟩ = some (.slice B k C) := by rw [hb0.cell]; rfl
  clear hb0
  go_wp2
  go_loopw [10] (fun i wr => ∃ (j : Nat), i = .int .i64 (j : Int) ∧ j ≤ k ∧ Hid ((alts.take j).any (fun ts => isB (ts.map glst) (glst v)) = false) ∧ RE elPc wr B k l ∧ PcsOk wr l alts ∧ MaxL wr ∧ Grew w wr) (fun i _ => k - (intOf i).toNat)
  case atStart => exact ⟨0, rfl, by omega, rfl, hre0, hpc0, hm0, hg0⟩
  case round =>
    clear hre0 hpc0 hm0 hg0
    obtain ⟨j, rfl, hj, Hj, hre, hpc, hm, hg⟩ := hrel
    by_cases hlt : j < k
    · obtain ⟨ad, x, rfl, hx, hcx⟩ := hre.pc hlt
      obtain ⟨ts, hts, hn, htx⟩ := hpc j x hx
      obtain ⟨h1, h2, h3⟩ := Hal.out ts (List.mem_of_getElem? hts)
      obtain ⟨g, n⟩ := x
      dsimp only at hn htx hcx
      subst hn
      have hga : Grew wr (wr.alloc (.cells #[.slice (some ⟨g, 0, none⟩) ts.length ts.length] 168)) := (Chg.refl _ wr).alloc _
      have hI : ∀ w, Grew wr w → Calls Tryz.prog 141 #[.agg #[.slice (some ⟨g, 0, none⟩) ts.length ts.length], .string v] w fun e w' => e = .returned (.bool (isB (ts.map glst) (glst v))) ∧ Grew w w' :=
        fun w hg => is_any _ _ _ ts v w (RE.grew htx.re hg) h1 (Nat.le_refl _) h2 hv h3 (hm.grew hg)
      have Hts := Lib.hid hts
      cases hb : isB (ts.map glst) (glst v)
      · rw [hb] at hI
        have Hb := Lib.hid hb
        have HI := Lib.hid hI
        clear hI hb hts hx
        go_wp2_with fail
        refine (HI.out _ (by exact hga)).mono ?_
        rintro e w2 ⟨rfl, hg2⟩
        have hgr := hga.trans hg2
        go_wp2
        go_roundw
        case rel => exact ⟨j + 1, by go_num, by omega, any_take Hj.out Hts.out Hb.out, hre.grew hgr, hpc.chg hgr (fun _ _ _ e => e), hm.grew hgr, hg.trans hgr⟩
        case measure => simp [intOf]; omega
      · rw [hb] at hI
        have Hb := Lib.hid (show allB alts v = true from any_hit hts hb)
        have HI := Lib.hid hI
        clear hI hb hts hx
        go_wp2_with fail
        refine (HI.out _ (by exact hga)).mono ?_
        rintro e w2 ⟨rfl, hg2⟩
        go_wp2
        go_ret
        exact ⟨by rw [Hb.out]; simp, (hg.trans hga).trans hg2⟩
    · obtain rfl : j = k := by omega
      have Hf : Hid (allB alts v = false) := by
        show _ = _
        have := Hj.out
        rw [Hk.out, List.take_length] at this
        exact this
      clear hre hpc
      go_wp2
      go_ret
      exact ⟨by rw [Hf.out]; simp, hg⟩

theorem allB_like (p s : ByteArray) : allB (altsOf p) s = likeB (glst p) (glst s) := by
  rw [likeB_pieces, ← splitS_lst, allB, altsOf, List.any_map, List.any_map]
  congr 1
  funext x
  simp only [Function.comp]
  rw [splitS_lst]
theorem altsOf_ok {p : ByteArray} (hp : p.size ≤ 16777216) : ∀ ts ∈ altsOf p, 0 < ts.length ∧ ts.length ≤ 9223372036854775807 ∧ ∀ t ∈ ts, t.size < 4294967281 := fun ts h => by
  obtain ⟨x, hx, rfl⟩ := List.mem_map.1 h
  have h1 := splitS_part hx
  have h2 := splitS_le 42 x
  have h3 := splitS_len 42 x
  exact ⟨by omega, by omega, fun t ht => by have := splitS_part ht; omega⟩

end Go.Proofs.YtlcaaacbookopaaGreatDoor
