/-
  Several texts in one:
  Package chunk: Decode of any bytes: the points whose bytes they are, or refused. Conditions: lengths that memory bears.
  Package chunk: Decode walked: the points whose bytes they are, or refused. Conditions: lengths that memory bears.
  The law ChunkStrict, walked; what every program answers, call by call (awake). Conditions: lengths within the form's reach.
-/
import Derived.Test.YtlcaaacbookopaaGreatDoorPart18
import Derived.Test.YtlcaaacbookopaaGreatDoorPart19
import Derived.Test.YtlcaaacbookopaaGreatDoorPart11
import Derived.Test.YtlcaaacbookopaaGreatDoorPart6

namespace Go.Proofs.YtlcaaacbookopaaGreatDoor
open Go.RowKit

theorem bitsOf_add (l : List UInt8) (a b : Nat) : bitsOf l (a + b) = bitsOf l a ++ (List.range b).map fun i => bit l (a + i) := by
  unfold bitsOf
  rw [List.range_add, List.map_append, List.map_map]
  rfl
theorem bitsOf_packed (bs : List Bool) : ∃ pad, bitsOf (pack bs) (8 * (pack bs).length) = bs ++ pad := by
  have hl : (pack bs).length = (bs.length + 7) / 8 := length_pack bs
  obtain ⟨k, hk⟩ : ∃ k, 8 * (pack bs).length = bs.length + k := ⟨8 * (pack bs).length - bs.length, by omega⟩
  rw [hk, bitsOf_add, bitsOf_pack]
  exact ⟨_, rfl⟩

/-- whose points' bytes some bytes are -/
def DecIs (b : List UInt8) (ps : List Pnt) (er : Nat) : Prop :=
  (er = 0 ∧ ps.length ≤ 8191 ∧ Okp ps ∧ Okv ps ∧ pack (encB ps) = b) ∨ (er = 52 ∧ ps = [] ∧ ∀ qs : List Pnt, qs.length ≤ 8191 → Okp qs → Okv qs → pack (encB qs) ≠ b)
theorem pack_enc_inj {ps qs : List Pnt} (h1 : ps.length ≤ 8191) (h2 : Okp ps) (h3 : Okv ps) (g1 : qs.length ≤ 8191) (g2 : Okp qs) (g3 : Okv qs) (h : pack (encB ps) = pack (encB qs)) : ps = qs := by
  obtain ⟨x, hx⟩ := bitsOf_packed (encB ps)
  obtain ⟨y, hy⟩ := bitsOf_packed (encB qs)
  rw [h, hy] at hx
  exact (encB_inj g2 g3 g1 h2 h3 h1 hx).symm
theorem DecIs.uniq {b : List UInt8} {ps qs : List Pnt} {x y : Nat} (h : DecIs b ps x) (h' : DecIs b qs y) : ps = qs ∧ x = y := by
  rcases h with ⟨h0, h1, h2, h3, h4⟩ | ⟨h0, h1, h2⟩ <;> rcases h' with ⟨g0, g1, g2, g3, g4⟩ | ⟨g0, g1, g2'⟩
  · exact ⟨pack_enc_inj h1 h2 h3 g1 g2 g3 (by rw [h4, g4]), by omega⟩
  · exact (g2' ps h1 h2 h3 h4).elim
  · exact (h2 qs g1 g2 g3 g4).elim
  · exact ⟨by rw [h1, g1], by omega⟩
def DecP (w : World) (b : List UInt8) (e : Ending) (w' : World) : Prop :=
  ∃ A n c ps er, DecIs b ps er ∧ e = .returned (.tuple #[.slice A n c, .int .i64 (er : Int)]) ∧ OE elPt w' w.heap.size 82 A n c ps ∧ Grew w w'

/-- what a reader's parse comes to, checked by writing it again -/
theorem dec_of {b : List UInt8} {out : List Pnt} {bad : Bool} {l : List UInt8} {er : Nat} (parse : List Bool → List Pnt × Bool) (hp : ∀ ps rest, Okp ps → Okv ps → ps.length ≤ 8191 → parse (encB ps ++ rest) = (ps, false))
    (h : (bad = true ∧ (parse (bitsOf b (8 * b.length))).2 = true) ∨ (bad = false ∧ parse (bitsOf b (8 * b.length)) = (out, false) ∧ Okv out ∧ EncIs out l er)) :
    DecIs b (if bad = false ∧ er = 0 ∧ l = b then out else []) (if bad = false ∧ er = 0 ∧ l = b then 0 else 52) := by
  have key : ∀ qs : List Pnt, qs.length ≤ 8191 → Okp qs → Okv qs → pack (encB qs) = b → parse (bitsOf b (8 * b.length)) = (qs, false) := fun qs h1 h2 h3 h4 => by
    subst h4
    obtain ⟨pad, hpad⟩ := bitsOf_packed (encB qs)
    rw [hpad, hp qs pad h2 h3 h1]
  rcases h with ⟨rfl, h⟩ | ⟨rfl, h, hv, he⟩
  · right
    refine ⟨by simp, by simp, fun qs h1 h2 h3 h4 => ?_⟩
    rw [key qs h1 h2 h3 h4] at h
    cases h
  · by_cases hc : er = 0 ∧ l = b
    · obtain ⟨rfl, rfl⟩ := hc
      obtain ⟨h1, h2, h3⟩ := he.ok
      left
      simp only [and_self, if_true]
      exact ⟨trivial, h1, h2, hv, h3.symm⟩
    · right
      refine ⟨by simp only [true_and]; rw [if_neg hc], by simp only [true_and]; rw [if_neg hc], fun qs h1 h2 h3 h4 => ?_⟩
      rw [key qs h1 h2 h3 h4] at h
      injection h with h _
      subst h
      have := EncIs.uniq he (.inr (.inr ⟨h1, h2, rfl, rfl⟩))
      exact hc ⟨this.2, by rw [this.1, h4]⟩
end Go.Proofs.YtlcaaacbookopaaGreatDoor

namespace Go.Proofs.YtlcaaacbookopaaGreatDoor
open Go.RowKit

theorem wrap64_eq (x : Int) : wrap64 x = wr64 x := by
  unfold wrap64 wr64
  rw [IntKind.wrap_i64]
theorem wr64_rng (x : Int) : -9223372036854775808 ≤ wr64 x ∧ wr64 x ≤ 9223372036854775807 := by
  unfold wr64
  rw [IntKind.wrap_i64]
  omega
theorem sx64_rng (bs : List Bool) (s : St) : -9223372036854775808 ≤ sx (tk bs 64 s).1 64 ∧ sx (tk bs 64 s).1 64 ≤ 9223372036854775807 := by
  have := tk_lt bs 64 s
  unfold sx
  split <;> omega
theorem okv_snoc {l : List Pnt} {p : Pnt} (h : Okv l) (hp : p.2 < 18446744073709551616) : Okv (l ++ [p]) := fun x hx => by
  rcases List.mem_append.1 hx with hx | hx
  · exact h x hx
  · simp only [List.mem_cons, List.not_mem_nil, or_false] at hx
    subst hx
    exact hp
theorem pValue_win {bs : List Bool} {w : Win} {s : St} (hw : WinOk w) : WinOk (pValue bs w s).2.1 ∧ (pValue bs w s).1 < 18446744073709551616 := by
  unfold pValue
  split
  · exact ⟨hw, by simp⟩
  · split
    · split
      · exact ⟨hw, by simp⟩
      · rename_i h
        have h5 := tk_5 bs (tk bs 1 (tk bs 1 s).2).2
        have hw2 : WinOk ((tk bs 5 (tk bs 1 (tk bs 1 s).2).2).1, 64 - (tk bs 5 (tk bs 1 (tk bs 1 s).2).2).1 - ((tk bs 6 (tk bs 5 (tk bs 1 (tk bs 1 s).2).2).2).1 + 1), true) := fun _ => ⟨by simp only; omega, by simp only; omega⟩
        refine ⟨?_, pVal_lt hw2⟩
        unfold pVal
        rw [if_pos rfl]
        exact hw2
    · refine ⟨?_, pVal_lt hw⟩
      unfold pVal
      split <;> exact hw

/-- blocks of two types are two -/
theorem Blk.ne {w : World} {g h : Nat} {t t' : TypeId} {cs cs' : Array Value} (hg : Blk w g t cs) (hh : Blk w h t' cs') (ht : t ≠ t') : g ≠ h := by
  rintro rfl
  have h1 : some (Obj.cells cs t (0, 0)) = some (Obj.cells cs' t' (0, 0)) := Eq.trans (Eq.symm hg) hh
  injection h1 with h1
  injection h1 with _ h1
  exact ht h1

set_option maxRecDepth 100000 in
set_option maxHeartbeats 4000000 in
theorem decode_any (A : Option Addr) (m c : Nat) (b : List UInt8) (w : World) (h : RB w A m b) (hm : m ≤ 140737488355328) :
    Calls Tryz.prog 86 #[.slice A m c] w (DecP w b) := by
  have hl := h.1
  obtain ⟨bs, hbs⟩ : ∃ bs, bs = bitsOf b (8 * m) := ⟨_, rfl⟩
  have hT : ∀ (g : Nat) (w : World) (s : St) (k : Nat) (kz : Int), RdrIs w g A m c b s → kz = (k : Int) → k ≤ 64 → Calls Tryz.prog 106 #[.pointer (some ⟨g, 0, none⟩), .int .i64 kz] w (RtkPost w g A m c b (tk bs k s)) := fun g w s k kz h hk hk2 => by rw [hbs]; exact rtake_any g A m c b s k kz w h hk hk2
  have hM : ∀ (g : Nat) (w : World) (s : St), RdrIs w g A m c b s → Calls Tryz.prog 107 #[.pointer (some ⟨g, 0, none⟩)] w (RtmPost w g A m c b (pTime bs s)) := fun g w s h => by rw [hbs]; exact rtime_any g A m c b s w h
  have hV : ∀ (g : Nat) (w : World) (s : St) (wa wb : Nat) (wh : Bool), RdrIs w g A m c b s → WinOk (wa, wb, wh) → Calls Tryz.prog 108 #[.pointer (some ⟨g, 0, none⟩), .agg #[.int .i64 (wa : Int), .int .i64 (wb : Int), .bool wh]] w (RvlPost w g A m c b (pValue bs (wa, wb, wh) s)) := fun g w s wa wb wh h hw => by rw [hbs]; exact rvalue_any g A m c b s wa wb wh w h hw
  have hfin : ∀ (out : List Pnt) (bad : Bool) (l : List UInt8) (er : Nat), ((bad = true ∧ (pParse bs).2 = true) ∨ (bad = false ∧ pParse bs = (out, false) ∧ Okv out ∧ EncIs out l er)) →
      DecIs b (if bad = false ∧ er = 0 ∧ l = b then out else []) (if bad = false ∧ er = 0 ∧ l = b then 0 else 52) := fun out bad l er h => dec_of pParse pParse_at (by rw [hl, ← hbs]; exact h)
  have n13 := tk_lt bs 13 (0, false)
  have HT := Lib.hid hT
  have HM := Lib.hid hM
  have HVl := Lib.hid hV
  have HF := Lib.hid hfin
  have Hl := Lib.hid hl
  clear hT hM hV hfin hbs hl
  have T13 := Lib.hid (fun g w h => HT.out g w (0, false) 13 13 h rfl (by omega))
  have hP : ∀ x, tk bs 13 (0, false) = x → pParse bs = (if x.1 = 0 then ([], x.2.2) else pGo bs x.1 0 (sx (tk bs 64 x.2).1 64, (tk bs 64 (tk bs 64 x.2).2).1) (0, 0, false) (tk bs 64 (tk bs 64 x.2).2).2) := fun x hx => by subst hx; rfl
  have hP1 := hP _ rfl
  clear hP
  unfold RtkPost at T13
  generalize tk bs 13 (0, false) = r at *
  obtain ⟨n, s1⟩ := r
  dsimp only at hP1 n13
  have HP := Lib.hid hP1
  clear hP1
  have hA : ∀ B : Nat, w.heap.size ≤ B → ∀ ad, A = some ad → 0 < m → ad.block ≠ B := fun B hB ad e h0 => by have := h.lt ad e h0; omega
  have HA := Lib.hid hA
  clear hA
  go_enter Tryz.func86, Tryz.ntmps86
  go_wp2
  refine wp_scope_two 1 0 (fun a' wr => ∃ (k : Nat) (out : List Pnt) (d pt : Int) (pv wa wb : Nat) (wh : Bool) (s : St) (B : Option Addr) (C g h8 h9 : Nat), k < n ∧ out.length = k ∧
      Hid ((out ++ (pGo bs (n - k) d (pt, pv) (wa, wb, wh) s).1, (pGo bs (n - k) d (pt, pv) (wa, wb, wh) s).2) = pParse bs) ∧ (-9223372036854775808 ≤ d ∧ d ≤ 9223372036854775807) ∧ (-9223372036854775808 ≤ pt ∧ pt ≤ 9223372036854775807) ∧ pv < 18446744073709551616 ∧ WinOk (wa, wb, wh) ∧ Okv out ∧
      RdrIs wr g A m c b s ∧ OE elPt wr w.heap.size 82 B k C out ∧ Blk wr h8 124 #[.int .i64 (wa : Int), .int .i64 (wb : Int), .bool wh] ∧ Blk wr h9 82 #[.int .i64 pt, .int .u64 (pv : Int)] ∧
      (∀ ad, B = some ad → ad.block ≠ h9) ∧ (w.heap.size ≤ g ∧ w.heap.size ≤ h8 ∧ w.heap.size ≤ h9) ∧ Grew w wr ∧
      a'.tmps.size = 83 ∧ a'.defers = [] ∧ a'.tmps.getD 0 undef = .slice A m c ∧ a'.tmps.getD 4 undef = .pointer (some ⟨g, 0, none⟩) ∧ a'.tmps.getD 5 undef = .int .i64 (n : Int) ∧ a'.tmps.getD 6 undef = .slice B k C ∧ a'.tmps.getD 7 undef = .int .i64 d ∧ a'.tmps.getD 8 undef = .pointer (some ⟨h8, 0, none⟩) ∧ a'.tmps.getD 9 undef = .pointer (some ⟨h9, 0, none⟩))
    (fun a' wr => ∃ (out : List Pnt) (s : St) (B : Option Addr) (k C g : Nat), ((s.2 = true ∧ Hid ((pParse bs).2 = true)) ∨ (s.2 = false ∧ Hid (pParse bs = (out, false)))) ∧ k ≤ 8191 ∧ Okv out ∧
      RdrIs wr g A m c b s ∧ OE elPt wr w.heap.size 82 B k C out ∧ w.heap.size ≤ g ∧ Grew w wr ∧ a'.tmps.size = 83 ∧ a'.defers = [] ∧ a'.tmps.getD 0 undef = .slice A m c ∧ a'.tmps.getD 4 undef = .pointer (some ⟨g, 0, none⟩) ∧ a'.tmps.getD 6 undef = .slice B k C)
    (fun a' _ => n + 1 - (match a'.tmps.getD 6 undef with | .slice _ k _ => k | _ => 0)) ?b0 ?b1 ?h0 ?h1 (by decide) ?_ ?_ ?_
  case h0 => exact rfl
  case h1 => exact rfl
  · rintro a' wr ⟨k, out, d, pt, pv, wa, wb, wh, sK, B, C, g, h8, h9, hk, hol, hgo, hd, hpt, hpv, hwo, hov, hr, ho, b8, b9, hB9, ⟨hbg, hb8, hb9⟩, hgr, hfr⟩
    obtain ⟨fs, fd, f0, f4, f5, f6, f7, f8, f9⟩ := hfr
    obtain ⟨u, hu⟩ : ∃ u : Nat → Value, a' = { tmps := #[.slice A m c, u 1, u 2, u 3, .pointer (some ⟨g, 0, none⟩), .int .i64 (n : Int), .slice B k C, .int .i64 d, .pointer (some ⟨h8, 0, none⟩), .pointer (some ⟨h9, 0, none⟩), u 10, u 11, u 12, u 13, u 14, u 15, u 16, u 17, u 18, u 19, u 20, u 21, u 22, u 23, u 24, u 25, u 26, u 27, u 28, u 29, u 30, u 31, u 32, u 33, u 34, u 35, u 36, u 37, u 38, u 39, u 40, u 41, u 42, u 43, u 44, u 45, u 46, u 47, u 48, u 49, u 50, u 51, u 52, u 53, u 54, u 55, u 56, u 57, u 58, u 59, u 60, u 61, u 62, u 63, u 64, u 65, u 66, u 67, u 68, u 69, u 70, u 71, u 72, u 73, u 74, u 75, u 76, u 77, u 78, u 79, u 80, u 81, u 82], defers := [] } := ⟨fun i => a'.tmps.getD i undef, (frame_lit a' 83 fs fd).trans (by show ({ tmps := #[a'.tmps.getD 0 undef, a'.tmps.getD 1 undef, a'.tmps.getD 2 undef, a'.tmps.getD 3 undef, a'.tmps.getD 4 undef, a'.tmps.getD 5 undef, a'.tmps.getD 6 undef, a'.tmps.getD 7 undef, a'.tmps.getD 8 undef, a'.tmps.getD 9 undef, a'.tmps.getD 10 undef, a'.tmps.getD 11 undef, a'.tmps.getD 12 undef, a'.tmps.getD 13 undef, a'.tmps.getD 14 undef, a'.tmps.getD 15 undef, a'.tmps.getD 16 undef, a'.tmps.getD 17 undef, a'.tmps.getD 18 undef, a'.tmps.getD 19 undef, a'.tmps.getD 20 undef, a'.tmps.getD 21 undef, a'.tmps.getD 22 undef, a'.tmps.getD 23 undef, a'.tmps.getD 24 undef, a'.tmps.getD 25 undef, a'.tmps.getD 26 undef, a'.tmps.getD 27 undef, a'.tmps.getD 28 undef, a'.tmps.getD 29 undef, a'.tmps.getD 30 undef, a'.tmps.getD 31 undef, a'.tmps.getD 32 undef, a'.tmps.getD 33 undef, a'.tmps.getD 34 undef, a'.tmps.getD 35 undef, a'.tmps.getD 36 undef, a'.tmps.getD 37 undef, a'.tmps.getD 38 undef, a'.tmps.getD 39 undef, a'.tmps.getD 40 undef, a'.tmps.getD 41 undef, a'.tmps.getD 42 undef, a'.tmps.getD 43 undef, a'.tmps.getD 44 undef, a'.tmps.getD 45 undef, a'.tmps.getD 46 undef, a'.tmps.getD 47 undef, a'.tmps.getD 48 undef, a'.tmps.getD 49 undef, a'.tmps.getD 50 undef, a'.tmps.getD 51 undef, a'.tmps.getD 52 undef, a'.tmps.getD 53 undef, a'.tmps.getD 54 undef, a'.tmps.getD 55 undef, a'.tmps.getD 56 undef, a'.tmps.getD 57 undef, a'.tmps.getD 58 undef, a'.tmps.getD 59 undef, a'.tmps.getD 60 undef, a'.tmps.getD 61 undef, a'.tmps.getD 62 undef, a'.tmps.getD 63 undef, a'.tmps.getD 64 undef, a'.tmps.getD 65 undef, a'.tmps.getD 66 undef, a'.tmps.getD 67 undef, a'.tmps.getD 68 undef, a'.tmps.getD 69 undef, a'.tmps.getD 70 undef, a'.tmps.getD 71 undef, a'.tmps.getD 72 undef, a'.tmps.getD 73 undef, a'.tmps.getD 74 undef, a'.tmps.getD 75 undef, a'.tmps.getD 76 undef, a'.tmps.getD 77 undef, a'.tmps.getD 78 undef, a'.tmps.getD 79 undef, a'.tmps.getD 80 undef, a'.tmps.getD 81 undef, a'.tmps.getD 82 undef], defers := [] } : Act) = _; rw [f0, f4, f5, f6, f7, f8, f9])⟩
    clear fs fd f0 f4 f5 f6 f7 f8 f9
    subst hu
    obtain ⟨f1, f2⟩ := hr.bad
    obtain ⟨sa, bad⟩ := sK
    dsimp only at f1
    have hgo1 := hgo.out
    rw [show n - k = (n - k - 1) + 1 by omega] at hgo1
    cases bad
    · unfold pGo at hgo1
      simp only [Bool.false_eq_true, if_false] at hgo1
      have HHgo := Lib.hid hgo1
      clear hgo hgo1
      obtain ⟨p1, p2, _⟩ : wr.cell? ⟨h9, 0, none⟩ = some (.int .i64 pt) ∧ wr.cell? ⟨h9, 1, none⟩ = some (.int .u64 (pv : Int)) ∧ True := ⟨by rw [b9.cell]; rfl, by rw [b9.cell]; rfl, trivial⟩
      have ho1 := ho.grew ((Chg.refl _ wr).alloc (.cells #[.int .i64 pt, .int .u64 (pv : Int)] 82))
      have hsrc : RE elPt (wr.alloc (.cells #[.int .i64 pt, .int .u64 (pv : Int)] 82)) (some ⟨wr.heap.size, 0, none⟩) 1 [(pt, pv)] := RE.newAt rfl rfl rfl
      have hbl := Own.blk_lt ho
      have hszr := hgr.size
      have hgne : ∀ ad, B = some ad → ad.block ≠ g := fun ad e => Own.ne_blk ho hr.1 (by decide) ad e
      have h8ne : ∀ ad, B = some ad → ad.block ≠ h8 := fun ad e => Own.ne_blk ho b8 (by decide) ad e
      have hglt := hr.1.lt
      have h8lt := b8.lt
      have h9lt := b9.lt
      have hg8 : g ≠ h8 := Blk.ne hr.1 b8 (by decide)
      have hg9 : g ≠ h9 := Blk.ne hr.1 b9 (by decide)
      have h89 : h8 ≠ h9 := Blk.ne b8 b9 (by decide)
      have hal : Grew wr (wr.alloc (.cells #[.int .i64 pt, .int .u64 (pv : Int)] 82)) := (Chg.refl _ wr).alloc _
      have hra := hr.grew hal
      have b8a := b8.grew hal
      have b9a := b9.grew hal
      have hga := hgr.trans hal
      have hov2 := okv_snoc (p := (pt, pv)) hov hpv
      have hAB : ∀ ad, A = some ad → 0 < m → ¬ ∃ bd, B = some bd ∧ ad.block = bd.block := fun ad e h0 ⟨bd, e1, e2⟩ => by have := h.lt ad e h0; have := (hbl bd e1).1; omega
      have hend : ∀ w2 Bk2 C2, ApE elPt (wr.alloc (.cells #[.int .i64 pt, .int .u64 (pv : Int)] 82)) w.heap.size 82 B (k + 1) C (out ++ [(pt, pv)]) Bk2 C2 w2 →
          RdrIs w2 g A m c b (sa, false) ∧ OE elPt w2 w.heap.size 82 Bk2 (k + 1) C2 (out ++ [(pt, pv)]) ∧ Blk w2 h8 124 #[.int .i64 (wa : Int), .int .i64 (wb : Int), .bool wh] ∧ Blk w2 h9 82 #[.int .i64 pt, .int .u64 (pv : Int)] ∧ (∀ ad, Bk2 = some ad → ad.block ≠ h9) ∧ Grew w w2 := fun w2 Bk2 C2 h2 => by
        refine ⟨hra.far h2.chg (fun ⟨ad, e1, e2⟩ => hgne ad e1 e2.symm) hAB, h2.oe, b8a.chg h2.chg (fun ⟨ad, e1, e2⟩ => h8ne ad e1 e2.symm), b9a.chg h2.chg (fun ⟨ad, e1, e2⟩ => hB9 ad e1 e2.symm), fun ad e => ?_, hga.step h2.chg fun x hx ⟨ad, e1, e2⟩ => by have := (hbl ad e1).1; omega⟩
        rcases h2.2.2 with ⟨e1, _⟩ | ⟨e1, _⟩
        · exact hB9 ad (by rw [← e1]; exact e)
        · rw [e1] at e
          injection e with e
          subst e
          simp
          omega
      have Hend := Lib.hid hend
      have HB9 := Lib.hid hB9
      have hcol : out.length + 1 = k + 1 := by omega
      have Hcol := Lib.hid hcol
      clear hal hra b8a b9a hga hAB hend hcol hB9 hgne h8ne hbl
      by_cases hlast : k + 1 = n
      · have hi1 : ((k : Int) + 1 == (n : Int)) = true := by simp; omega
        have hpp : Hid (pParse bs = (out ++ [(pt, pv)], false)) := by
          show _ = _
          rw [← HHgo.out, if_pos (by omega)]
        clear hlast HHgo b8 b9 hr ho hol
        go_wp2_with (at_builtin; refine wpList_appE rfl _ _ 83 82 infoPt rfl Tryz.underlying83 rfl w.heap.size B k C out rfl ho1 (by simp; omega) _ 1 1 [(pt, pv)] rfl hsrc (by unfold maxLen; omega) (by omega) ?_; intro Bk2 C2 w2 h2)
        obtain ⟨hr2, ho2, b82, b92, hB92, hg2⟩ := Hend.out w2 Bk2 C2 h2
        go_step3
        exact .inr ⟨rfl, out ++ [(pt, pv)], (sa, false), Bk2, k + 1, C2, g, .inr ⟨rfl, hpp⟩, by omega, hov2, hr2, ho2, hbg, hg2, rfl, rfl, rfl, rfl, rfl⟩
      · have hi1 : ((k : Int) + 1 == (n : Int)) = false := by simp; omega
        have hgo2 := HHgo.out
        rw [if_neg (by omega)] at hgo2
        have TM := Lib.hid (fun g w h => HM.out g w (sa, false) h)
        generalize pTime bs (sa, false) = t at *
        obtain ⟨z, s2⟩ := t
        dsimp only at hgo2
        have hwv := pValue_win (bs := bs) (s := s2) hwo
        have TV := Lib.hid (fun g w h => HVl.out g w s2 wa wb wh h hwo)
        generalize pValue bs (wa, wb, wh) s2 = t at *
        obtain ⟨x, ⟨wa', wb', wh'⟩, s3⟩ := t
        dsimp only at hgo2 hwv
        have hd2 := wr64_rng (d + z)
        have he1 := wrap64_eq (d + z)
        have he2 := wrap64_eq (pt + wr64 (d + z))
        have hp2 := wr64_rng (pt + wr64 (d + z))
        have hxr := u64_xor_nat pv x hpv hwv.2
        have hxl := xor_lt hpv hwv.2
        generalize wr64 (d + z) = d' at *
        generalize wr64 (pt + d') = pt' at *
        have HGo := Lib.hid hgo2
        have HE1 := Lib.hid he1
        have HE2 := Lib.hid he2
        have HX := Lib.hid hxr
        unfold RtmPost at TM
        unfold RvlPost winV at TV
        have hk1 : k + 1 < n := by omega
        clear hlast HHgo b8 b9 hr ho hol hgo2 he1 he2 hxr
        go_wp2_with (at_builtin; refine wpList_appE rfl _ _ 83 82 infoPt rfl Tryz.underlying83 rfl w.heap.size B k C out rfl ho1 (by simp; omega) _ 1 1 [(pt, pv)] rfl hsrc (by unfold maxLen; omega) (by omega) ?_; intro Bk2 C2 w2 h2)
        obtain ⟨hr2, ho2, b82, b92, hB92, hg2⟩ := Hend.out w2 Bk2 C2 h2
        refine (TM.out _ _ hr2).mono ?_
        rintro e w3 ⟨rfl, hr3, hc3⟩
        have b83 := b82.chg hc3 (Ne.symm hg8)
        have b93 := b92.chg hc3 (Ne.symm hg9)
        have hg3 : Grew w w3 := hg2.step hc3 fun x hx e => by omega
        have ho3 := Own.chg ho2 hc3 (fun ad e => Own.ne_blk ho2 hr2.1 (by decide) ad e)
        obtain ⟨q1, q2, _⟩ : w3.cell? ⟨h9, 0, none⟩ = some (.int .i64 pt) ∧ w3.cell? ⟨h9, 1, none⟩ = some (.int .u64 (pv : Int)) ∧ True := ⟨by rw [b93.cell]; rfl, by rw [b93.cell]; rfl, trivial⟩
        have z0 := b93.frozen 0
        have z1 := b93.frozen 1
        obtain ⟨m1, m2, m3⟩ := b83.three
        have y0 := b83.frozen 0
        have y1 := b83.frozen 1
        have y2 := b83.frozen 2
        clear b82 b92 hr2 ho2 hg2 h2 hc3 p1 p2 f1 f2 ho1 hsrc Hend
        go_wp2_with fail
        rw [HE1.out, HE2.out]
        have hA9 := HA.out h9 hb9
        have hA8 := HA.out h8 hb8
        have hrW := hr3.own hg9 hA9 0 (.int .i64 pt')
        have b8W := b83.far (p := ⟨h9, 0, none⟩) h89 (.int .i64 pt')
        have b9W : Blk (w3.setCell ⟨h9, 0, none⟩ (.int .i64 pt')) h9 82 #[.int .i64 pt', .int .u64 (pv : Int)] := by simpa using b93.set 0 (.int .i64 pt')
        have hoW := Own.setFar ho3 (p := ⟨h9, 0, none⟩) hB92 (.int .i64 pt')
        have hgW : Grew w (w3.setCell ⟨h9, 0, none⟩ (.int .i64 pt')) := hg3.setCell (p := ⟨h9, 0, none⟩) (.inl hb9) _
        clear q1 q2 z0 z1 m1 m2 m3 y0 y1 y2 hr3 b83 b93 ho3 hg3
        generalize w3.setCell ⟨h9, 0, none⟩ (.int .i64 pt') = W at *
        refine (TV.out _ _ hrW).mono ?_
        rintro e w5 ⟨rfl, hr5, hc5⟩
        have b85 := b8W.chg hc5 (Ne.symm hg8)
        have b95 := b9W.chg hc5 (Ne.symm hg9)
        have ho5 := Own.chg hoW hc5 (fun ad e => Own.ne_blk hoW hrW.1 (by decide) ad e)
        have hg5 : Grew w w5 := hgW.step hc5 fun x hx e => by omega
        clear b8W b9W hoW hgW hrW hc5
        obtain ⟨q1, q2, _⟩ : w5.cell? ⟨h9, 0, none⟩ = some (.int .i64 pt') ∧ w5.cell? ⟨h9, 1, none⟩ = some (.int .u64 (pv : Int)) ∧ True := ⟨by rw [b95.cell]; rfl, by rw [b95.cell]; rfl, trivial⟩
        have z0 := b95.frozen 0
        have z1 := b95.frozen 1
        obtain ⟨m1, m2, m3⟩ := b85.three
        have y0 := b85.frozen 0
        have y1 := b85.frozen 1
        have y2 := b85.frozen 2
        go_wp2
        rw [HX.out]
        go_step3
        have hB8 : ∀ ad, Bk2 = some ad → ad.block ≠ h8 := fun ad e => Own.ne_blk ho5 b85 (by decide) ad e
        have b86 := Blk.kat3 (a' := .int .i64 (wa' : Int)) (b' := .int .i64 (wb' : Int)) (c' := .bool wh') b85
        have b96 := b95.at3far (Ne.symm h89) (.int .i64 (wa' : Int)) (.int .i64 (wb' : Int)) (.bool wh')
        have hr6 := hr5.kat3 hg8 hA8 (.int .i64 (wa' : Int)) (.int .i64 (wb' : Int)) (.bool wh')
        have ho6 := Own.setFar (Own.setFar (Own.setFar ho5 (p := ⟨h8, 0, none⟩) hB8 (.int .i64 (wa' : Int))) (p := ⟨h8, 1, none⟩) hB8 (.int .i64 (wb' : Int))) (p := ⟨h8, 2, none⟩) hB8 (.bool wh')
        have hg6 := hg5.kat3 hb8 (.int .i64 (wa' : Int)) (.int .i64 (wb' : Int)) (.bool wh')
        refine .inl ⟨rfl, ⟨k + 1, out ++ [(pt, pv)], d', pt', pv ^^^ x, wa', wb', wh', s3, Bk2, C2, g, h8, h9, hk1, by have := Hcol.out; simpa using this, ?_, hd2, hp2, by simpa using hxl, hwv.1, hov2,
          hr6.own hg9 hA9 1 _, Own.setFar ho6 (p := ⟨h9, 1, none⟩) hB92 _, b86.far (p := ⟨h9, 1, none⟩) h89 _, by simpa using b96.set 1 _, hB92, ⟨hbg, hb8, hb9⟩, hg6.setCell (p := ⟨h9, 1, none⟩) (.inl hb9) _, rfl, rfl, rfl, rfl, rfl, rfl, rfl, rfl, rfl⟩, ?_⟩
        · show _ = _
          rw [← HGo.out, show n - (k + 1) = n - k - 1 by omega]
          simp
        · simp
          omega
    · unfold pGo at hgo1
      simp only [if_true] at hgo1
      have hpp : Hid ((pParse bs).2 = true) := by
        show _ = _
        rw [← hgo1]
      clear hgo hgo1
      go_wp2
      go_step3
      exact .inr ⟨rfl, out, (sa, true), B, k, C, g, .inl ⟨rfl, hpp⟩, by omega, hov, hr, ho, hbg, hgr, rfl, rfl, rfl, rfl, rfl⟩
  · rintro a' wr ⟨out, s, B, k, C, g, hend, hk, hov, hr, ho, hg, hgr, hfr⟩
    obtain ⟨fs, fd, f0, f4, f6⟩ := hfr
    obtain ⟨u, hu⟩ : ∃ u : Nat → Value, a' = { tmps := #[.slice A m c, u 1, u 2, u 3, .pointer (some ⟨g, 0, none⟩), u 5, .slice B k C, u 7, u 8, u 9, u 10, u 11, u 12, u 13, u 14, u 15, u 16, u 17, u 18, u 19, u 20, u 21, u 22, u 23, u 24, u 25, u 26, u 27, u 28, u 29, u 30, u 31, u 32, u 33, u 34, u 35, u 36, u 37, u 38, u 39, u 40, u 41, u 42, u 43, u 44, u 45, u 46, u 47, u 48, u 49, u 50, u 51, u 52, u 53, u 54, u 55, u 56, u 57, u 58, u 59, u 60, u 61, u 62, u 63, u 64, u 65, u 66, u 67, u 68, u 69, u 70, u 71, u 72, u 73, u 74, u 75, u 76, u 77, u 78, u 79, u 80, u 81, u 82], defers := [] } := ⟨fun i => a'.tmps.getD i undef, (frame_lit a' 83 fs fd).trans (by show ({ tmps := #[a'.tmps.getD 0 undef, a'.tmps.getD 1 undef, a'.tmps.getD 2 undef, a'.tmps.getD 3 undef, a'.tmps.getD 4 undef, a'.tmps.getD 5 undef, a'.tmps.getD 6 undef, a'.tmps.getD 7 undef, a'.tmps.getD 8 undef, a'.tmps.getD 9 undef, a'.tmps.getD 10 undef, a'.tmps.getD 11 undef, a'.tmps.getD 12 undef, a'.tmps.getD 13 undef, a'.tmps.getD 14 undef, a'.tmps.getD 15 undef, a'.tmps.getD 16 undef, a'.tmps.getD 17 undef, a'.tmps.getD 18 undef, a'.tmps.getD 19 undef, a'.tmps.getD 20 undef, a'.tmps.getD 21 undef, a'.tmps.getD 22 undef, a'.tmps.getD 23 undef, a'.tmps.getD 24 undef, a'.tmps.getD 25 undef, a'.tmps.getD 26 undef, a'.tmps.getD 27 undef, a'.tmps.getD 28 undef, a'.tmps.getD 29 undef, a'.tmps.getD 30 undef, a'.tmps.getD 31 undef, a'.tmps.getD 32 undef, a'.tmps.getD 33 undef, a'.tmps.getD 34 undef, a'.tmps.getD 35 undef, a'.tmps.getD 36 undef, a'.tmps.getD 37 undef, a'.tmps.getD 38 undef, a'.tmps.getD 39 undef, a'.tmps.getD 40 undef, a'.tmps.getD 41 undef, a'.tmps.getD 42 undef, a'.tmps.getD 43 undef, a'.tmps.getD 44 undef, a'.tmps.getD 45 undef, a'.tmps.getD 46 undef, a'.tmps.getD 47 undef, a'.tmps.getD 48 undef, a'.tmps.getD 49 undef, a'.tmps.getD 50 undef, a'.tmps.getD 51 undef, a'.tmps.getD 52 undef, a'.tmps.getD 53 undef, a'.tmps.getD 54 undef, a'.tmps.getD 55 undef, a'.tmps.getD 56 undef, a'.tmps.getD 57 undef, a'.tmps.getD 58 undef, a'.tmps.getD 59 undef, a'.tmps.getD 60 undef, a'.tmps.getD 61 undef, a'.tmps.getD 62 undef, a'.tmps.getD 63 undef, a'.tmps.getD 64 undef, a'.tmps.getD 65 undef, a'.tmps.getD 66 undef, a'.tmps.getD 67 undef, a'.tmps.getD 68 undef, a'.tmps.getD 69 undef, a'.tmps.getD 70 undef, a'.tmps.getD 71 undef, a'.tmps.getD 72 undef, a'.tmps.getD 73 undef, a'.tmps.getD 74 undef, a'.tmps.getD 75 undef, a'.tmps.getD 76 undef, a'.tmps.getD 77 undef, a'.tmps.getD 78 undef, a'.tmps.getD 79 undef, a'.tmps.getD 80 undef, a'.tmps.getD 81 undef, a'.tmps.getD 82 undef], defers := [] } : Act) = _; rw [f0, f4, f6])⟩
    clear fs fd f0 f4 f6
    subst hu
    obtain ⟨f1, f2⟩ := hr.bad
    obtain ⟨sa, bad⟩ := s
    dsimp only at f1 hend
    cases bad
    · obtain ⟨e, _⟩ | ⟨_, hpp⟩ := hend
      · cases e
      · go_wp2_with fail
        refine (encode_any B k C out _ (ho.re (by decide)) (by omega) hov).mono ?_
        rintro e w1 ⟨B1, m1, c1, l1, er, hei, rfl, ho1, hg1⟩
        have hdi := Lib.hid (HF.out out false l1 er (.inr ⟨rfl, hpp.out, hov, hei⟩))
        have hb1 := (h.grew hgr).grew hg1
        have hok := (h.grew hgr).1
        by_cases her : er = 0
        · subst her
          have e0 : (((0 : Nat) : Int) != 0) = false := rfl
          go_wp2_with fail
          refine (bytesEqual_any B1 A m1 m c1 c l1 b _ ho1.rb hb1).mono ?_
          rintro e w2 ⟨rfl, rfl⟩
          by_cases heq : l1 = b
          · have hbq : (l1 == b) = true := by simpa using heq
            rw [hbq]
            have hdi2 : DecIs b out 0 := by have := hdi.out; simpa [heq] using this
            go_wp2
            rw [ExJ.ret]
            go_ret2
            exact ⟨B, k, C, out, 0, hdi2, by simp, ho.grew hg1, hgr.trans hg1⟩
          · have hbq : (l1 == b) = false := by simpa using heq
            rw [hbq]
            have hdi2 : DecIs b [] 52 := by have := hdi.out; simpa [heq] using this
            go_wp2
            rw [ExJ.ret]
            go_ret2
            exact ⟨none, 0, 0, [], 52, hdi2, by simp, OE.nil _ _ _, hgr.trans hg1⟩
        · have e0 : ((er : Int) != 0) = true := by simp; omega
          have hdi2 : DecIs b [] 52 := by have := hdi.out; simpa [her] using this
          go_wp2
          rw [ExJ.ret]
          go_ret2
          exact ⟨none, 0, 0, [], 52, hdi2, by simp, OE.nil _ _ _, hgr.trans hg1⟩
    · obtain ⟨_, hpp⟩ | ⟨e, _⟩ := hend
      · have hdi := HF.out out true [] 0 (.inl ⟨rfl, hpp.out⟩)
        have hdi2 : DecIs b [] 52 := by simpa using hdi
        clear hdi
        go_wp2
        rw [ExJ.ret]
        go_ret2
        exact ⟨none, 0, 0, [], 52, hdi2, by simp, OE.nil _ _ _, hgr⟩
      · cases e
  · intro hp
    have hg0 := (Chg.refl (fun _ => False) w).alloc (.cells #[.slice A m c, .int .i64 (8 * (m : Int)), .int .i64 0, .bool false] 162)
    have hr0 : RdrIs (w.alloc (.cells #[.slice A m c, .int .i64 (8 * (m : Int)), .int .i64 0, .bool false] 162)) w.heap.size A m c b (0, false) := by
      refine ⟨?_, by simp only; omega, h.grew hg0, HA.out _ (Nat.le_refl _), by omega⟩
      have := Blk.new w 162 #[.slice A m c, .int .i64 (8 * (m : Int)), .int .i64 0, .bool false]
      simpa using this
    go_wp2_with fail
    refine (T13.out _ _ hr0).mono ?_
    rintro e w1 ⟨rfl, hr1, hc1⟩
    have hg1 : Grew w w1 := hg0.step hc1 fun k hk e => by omega
    have hs1 := hc1.size
    simp only [World.alloc, Array.size_push] at hs1
    have ha8 := (Chg.refl (fun _ => False) w1).alloc (.cells #[.int .i64 0, .int .i64 0, .bool false] 124)
    have ha9 := ha8.alloc (.cells #[.int .i64 0, .int .u64 0] 82)
    have hr2 := hr1.grew ha9
    have b8 := (Blk.new w1 124 #[.int .i64 0, .int .i64 0, .bool false]).grew ((Chg.refl (fun _ => False) _).alloc (.cells #[.int .i64 0, .int .u64 0] 82))
    have b9 : Blk ((w1.alloc (.cells #[.int .i64 0, .int .i64 0, .bool false] 124)).alloc (.cells #[.int .i64 0, .int .u64 0] 82)) (w1.heap.size + 1) 82 #[.int .i64 0, .int .u64 0] := by
      have := Blk.new (w1.alloc (.cells #[.int .i64 0, .int .i64 0, .bool false] 124)) 82 #[.int .i64 0, .int .u64 0]
      simpa using this
    have hg2 := hg1.trans ha9
    clear ha8 ha9 hr1 hc1
    by_cases hn0 : n = 0
    · subst hn0
      have HP2 := HP.out
      rw [if_pos rfl] at HP2
      have HP3 := Lib.hid HP2
      clear HP2
      go_wp2
      go_step3
      obtain ⟨sa, bad⟩ := s1
      refine .inr ⟨rfl, [], (sa, bad), none, 0, 0, w.heap.size, ?_, by omega, (fun x hx => by cases hx), hr2, OE.nil _ _ _, Nat.le_refl _, hg2, rfl, rfl, rfl, rfl, rfl⟩
      cases bad
      · exact .inr ⟨rfl, HP3⟩
      · exact .inl ⟨rfl, by show _ = _; rw [HP3.out]⟩
    · have HP2 := HP.out
      rw [if_neg hn0] at HP2
      have hn1 : ((n : Int) == 0) = false := by simp; omega
      have T64 := Lib.hid (fun g w h => HT.out g w s1 64 64 h rfl (by omega))
      have hlt1 := tk_lt bs 64 s1
      have hrg := sx64_rng bs s1
      generalize tk bs 64 s1 = r at *
      obtain ⟨v1, s2⟩ := r
      dsimp only at HP2 hlt1 hrg
      unfold RtkPost at T64
      have T65 := Lib.hid (fun g w h => HT.out g w s2 64 64 h rfl (by omega))
      have hlt2 := tk_lt bs 64 s2
      generalize tk bs 64 s2 = r at *
      obtain ⟨v2, s3⟩ := r
      dsimp only at HP2 hlt2
      unfold RtkPost at T65
      have HP3 := Lib.hid HP2
      have hx64 := sx_64 v1 hlt1
      have HX := Lib.hid hx64
      clear HP2 hx64 HP
      go_wp2_with fail
      refine (T64.out _ _ hr2).mono ?_
      rintro e w3 ⟨rfl, hr3, hc3⟩
      go_wp2_with fail
      refine (T65.out _ _ hr3).mono ?_
      rintro e w4 ⟨rfl, hr4, hc4⟩
      have d8 : ¬ w1.heap.size = w.heap.size := by omega
      have d9 : ¬ w1.heap.size + 1 = w.heap.size := by omega
      have b84 := (b8.chg hc3 d8).chg hc4 d8
      have b94 := (b9.chg hc3 d9).chg hc4 d9
      have hg4 : Grew w w4 := (hg2.step hc3 fun k hk e => by omega).step hc4 fun k hk e => by omega
      clear b8 b9 hc3 hc4 hr2 hr3 hg2
      have f0 : w4.cell? ⟨w1.heap.size + 1, 0, none⟩ = some (.int .i64 0) := by rw [b94.cell]; rfl
      have f1 : w4.cell? ⟨w1.heap.size + 1, 1, none⟩ = some (.int .u64 0) := by rw [b94.cell]; rfl
      have z0 := b94.frozen 0
      have z1 := b94.frozen 1
      go_wp2
      go_step3
      go_step
      go_step
      rw [HX.out]
      have hA9 := HA.out (w1.heap.size + 1) (by omega)
      refine hp _ _ ⟨0, [], 0, sx v1 64, v2, 0, 0, false, s3, none, 0, w.heap.size, w1.heap.size, w1.heap.size + 1, by omega, rfl, by show _ = _; rw [HP3.out, Nat.sub_zero]; rfl, by omega, hrg, hlt2, (fun h => by cases h), (fun x hx => by cases hx),
        (hr4.own (by omega) hA9 0 _).own (by omega) hA9 1 _, OE.nil _ _ _, (b84.far (p := ⟨w1.heap.size + 1, 0, none⟩) (by simp) _).far (p := ⟨w1.heap.size + 1, 1, none⟩) (by simp) _, by simpa using (b94.set 0 _).set 1 _, (fun ad e => by cases e), ⟨Nat.le_refl _, by omega, by omega⟩,
        Chg.setCell (Chg.setCell hg4 (p := ⟨w1.heap.size + 1, 0, none⟩) (.inl (by simp only; omega)) _) (p := ⟨w1.heap.size + 1, 1, none⟩) (.inl (by simp only; omega)) _, rfl, rfl, rfl, rfl, rfl, rfl, rfl, rfl, rfl⟩
end Go.Proofs.YtlcaaacbookopaaGreatDoor

namespace Go.Proofs.YtlcaaacbookopaaGreatDoor
open Go.RowKit

theorem zB_long (z : Int) : (zB z).length ≤ 68 := by
  unfold zB cls
  split
  · simp
  · split
    · simp
    · split
      · simp
      · split <;> simp
theorem valB_long (w : Win) (x : Nat) : (valB w x).1.length ≤ 77 := by
  unfold valB
  split
  · simp
  · split
    · simp; omega
    · simp; omega
theorem encGo_long : ∀ (r : List Pnt) (p : Pnt) (d : Int) (w : Win), (encGo p d w r).length ≤ 145 * r.length
  | [], p, d, w => by simp [encGo]
  | q :: r, p, d, w => by
    unfold encGo
    have h1 := zB_long (q.1 - p.1 - d)
    have h2 := valB_long w (q.2 ^^^ p.2)
    have h3 := encGo_long r q (q.1 - p.1) (valB w (q.2 ^^^ p.2)).2
    simp only [List.length_append, List.length_cons]
    omega
theorem encB_long (ps : List Pnt) : 13 ≤ (encB ps).length ∧ (encB ps).length ≤ 141 + 145 * ps.length := by
  unfold encB
  cases ps with
  | nil => simp
  | cons p r =>
    have h := encGo_long r p 0 (0, 0, false)
    simp only [List.length_append, List.length_cons, headB, length_toBits]
    omega
theorem EncIs.len {ps : List Pnt} {l : List UInt8} {er : Nat} (h : EncIs ps l er) : l.length ≤ 200000 := by
  rcases h with ⟨_, h, _⟩ | ⟨_, _, h, _⟩ | ⟨h1, _, h, _⟩
  · simp [h]
  · simp [h]
  · have := encB_long ps
    rw [h, length_pack]
    omega
theorem EncIs.dec {ps : List Pnt} {l : List UInt8} (h : EncIs ps l 0) (hv : Okv ps) : DecIs l ps 0 := by
  obtain ⟨h1, h2, h3⟩ := h.ok
  exact .inl ⟨rfl, h1, h2, hv, h3.symm⟩
theorem DecIs.enc {b : List UInt8} {ps : List Pnt} (h : DecIs b ps 0) : ps.length ≤ 8191 ∧ Okp ps ∧ Okv ps ∧ EncIs ps b 0 := by
  rcases h with ⟨_, h1, h2, h3, h4⟩ | ⟨h, _⟩
  · exact ⟨h1, h2, h3, .inr (.inr ⟨h1, h2, h4.symm, rfl⟩)⟩
  · cases h
theorem DecIs.no {b : List UInt8} {ps : List Pnt} {er : Nat} (h : DecIs b ps er) (he : er ≠ 0) : er = 52 ∧ ps = [] := by
  rcases h with ⟨h, _⟩ | ⟨h, h2, _⟩
  · exact (he h).elim
  · exact ⟨h, h2⟩
theorem DecIs.none : DecIs [] [] 52 := .inr ⟨rfl, rfl, fun qs _ _ _ h => by
  have h1 := encB_long qs
  have h2 := congrArg List.length h
  rw [length_pack] at h2
  simp only [List.length_nil] at h2
  omega⟩

def three : List Pnt := [(1, 5), (61, 5), (121, 7)]
end Go.Proofs.YtlcaaacbookopaaGreatDoor
