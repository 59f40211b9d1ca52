/-
  Several texts in one:
  Package chunk: Encode of points that may be: their bits. Conditions: as many as may be.
  Package chunk: Encode of any points: their bytes, or why there are none. Conditions: lengths that memory bears.
  Package bits: Left and Take of a cursor that stands at the head of any block: what each call does, told by lists of bits. Conditions: lengths that memory bears.
-/
import Derived.Test.YtlcaaacbookopaaGreatDoorPart17
import Derived.Test.YtlcaaacbookopaaGreatDoorPart14
import Derived.Test.YtlcaaacbookopaaGreatDoorPart8
import Derived.Test.YtlcaaacbookopaaGreatDoorPart6

namespace Go.Proofs.YtlcaaacbookopaaGreatDoor
open Go.RowKit

theorem cls_le (z : Int) : (cls z).1 ≤ 15 ∧ (cls z).2.1 ≤ 4 ∧ (cls z).2.2 ≤ 64 := by
  unfold cls
  repeat' split
  all_goals simp
theorem wrap_u64 (z : Int) : IntKind.u64.wrap z = ((u64 z : Nat) : Int) := by
  rw [IntKind.wrap_u64]
  unfold u64
  omega
theorem RChg.up {base g : Nat} {w a b : World} (h : Grew w a) (hb : w.heap.size ≤ base) (hc : RChg base g a b) : Grew w b := h.step hc fun k hk ⟨h1, _⟩ => by omega
theorem encB_cons (p : Pnt) (r : List Pnt) : encB (p :: r) = toBits (r.length + 1) 13 ++ toBits (u64 p.1) 64 ++ toBits p.2 64 ++ encGo p 0 (0, 0, false) r := by
  unfold encB headB
  simp only [List.append_assoc, List.length_cons]

/-- what is left to write behind point k -/
def Left (ps : List Pnt) (k : Nat) (d : Int) (w : Win) (bs : List Bool) : Prop := ∃ p, ps[k]? = some p ∧ bs ++ encGo p d w (ps.drop (k + 1)) = encB ps
theorem Left.step {ps : List Pnt} {k : Nat} {d : Int} {w : Win} {bs : List Bool} (h : Left ps k d w bs) {p q : Pnt} (hp : ps[k]? = some p) (hq : ps[k + 1]? = some q) :
    Left ps (k + 1) (q.1 - p.1) (valB w (q.2 ^^^ p.2)).2 (bs ++ zB (q.1 - p.1 - d) ++ (valB w (q.2 ^^^ p.2)).1) := by
  obtain ⟨p', hp', he⟩ := h
  rw [hp] at hp'
  injection hp' with hp'
  subst hp'
  have hlt := (List.getElem?_eq_some_iff.1 hq).1
  have hqe := (List.getElem?_eq_some_iff.1 hq).2
  refine ⟨q, hq, ?_⟩
  rw [← he, List.drop_eq_getElem_cons hlt, hqe]
  simp only [encGo, List.append_assoc]
theorem Left.last {ps : List Pnt} {k : Nat} {d : Int} {w : Win} {bs : List Bool} (h : Left ps k d w bs) (hk : ps.length ≤ k + 1) : bs = encB ps := by
  obtain ⟨p, hp, he⟩ := h
  rw [List.drop_of_length_le hk] at he
  simpa [encGo] using he

set_option maxRecDepth 100000 in
set_option maxHeartbeats 4000000 in
theorem kencode_ok (A : Option Addr) (n c : Nat) (ps : List Pnt) (w : World) (h : RE elPt w A n ps) (hn : n ≤ 8191) (ho : Okp ps) (hv : Okv ps) (hn0 : 0 < n) :
    Calls Tryz.prog 51 #[.slice A n c] w fun e w' => ∃ B m d, e = .returned (.tuple #[.slice B m d, .int .i64 0]) ∧ OB w' w.heap.size 5 B m d (pack (encB ps)) ∧ Grew w w' := by
  have M1 : ∀ w, RE elPt w A n ps → Calls Tryz.prog 78 #[.slice A n c] w fun e w' => e = .returned (.bool true) ∧ Grew w w' := fun w h => (kmay_any A n c ps w h (by omega)).mono fun e w' ⟨b, h1, h2, h3⟩ => ⟨by rw [h1, h2.2 ho], h3⟩
  have M := Lib.hid M1
  have hl := h.1
  have hstep : ∀ k p q, ps[k]? = some p → ps[k + 1]? = some q → (-1099511627776 ≤ p.1 ∧ p.1 ≤ 1099511627776) ∧ (-1099511627776 ≤ q.1 ∧ q.1 ≤ 1099511627776) ∧ p.1 < q.1 ∧ p.2 < 18446744073709551616 ∧ q.2 < 18446744073709551616 := fun k p q hp hq =>
    ⟨(ho k p hp).1, (ho (k + 1) q hq).1, (ho k p hp).2 q hq, hv p (List.mem_of_getElem? hp), hv q (List.mem_of_getElem? hq)⟩
  have hfirst : ∃ p r, Hid (ps = p :: r) ∧ Hid (ps[0]? = some p) ∧ (-1099511627776 ≤ p.1 ∧ p.1 ≤ 1099511627776) ∧ p.2 < 18446744073709551616 := by
    cases ps with
    | nil => simp at hl; omega
    | cons p r => exact ⟨p, r, rfl, rfl, (ho 0 p rfl).1, hv p (by simp)⟩
  have Hstep := Lib.hid hstep
  have Hl := Lib.hid hl
  clear M1 hl hstep ho hv
  obtain ⟨p0, r0, hp0, hp00, hb0, hv0⟩ := hfirst
  go_enter Tryz.func51, Tryz.ntmps51
  go_wp2
  refine wp_scope_two 1 0 (fun a' wr => ∃ (k : Nat) (d : Int) (wa wb : Nat) (wh : Bool) (bs : List Bool) (g h : Nat), k < n ∧ Left ps k d (wa, wb, wh) bs ∧ bs.length ≤ 141 + 145 * k ∧ (-2199023255552 ≤ d ∧ d ≤ 2199023255552) ∧ WinOk (wa, wb, wh) ∧ RowIs wr w.heap.size g bs ∧
      Blk wr h 124 #[.int .i64 (wa : Int), .int .i64 (wb : Int), .bool wh] ∧ h ≠ g ∧ w.heap.size ≤ h ∧ Grew w wr ∧
      a'.tmps.size = 99 ∧ a'.defers = [] ∧ a'.tmps.getD 0 undef = .slice A n c ∧ a'.tmps.getD 4 undef = .pointer (some ⟨g, 0, none⟩) ∧ a'.tmps.getD 5 undef = .int .i64 (k : Int) ∧ a'.tmps.getD 6 undef = .int .i64 d ∧ a'.tmps.getD 7 undef = .pointer (some ⟨h, 0, none⟩))
    (fun a' wr => ∃ (g : Nat), RowIs wr w.heap.size g (encB ps) ∧ Grew w wr ∧ a'.tmps.size = 99 ∧ a'.defers = [] ∧ a'.tmps.getD 4 undef = .pointer (some ⟨g, 0, none⟩))
    (fun a' _ => n + 1 - (intOf (a'.tmps.getD 5 undef)).toNat) ?b0 ?b1 ?h0 ?h1 (by decide) ?_ ?_ ?_
  case h0 => exact rfl
  case h1 => exact rfl
  · rintro a' wr ⟨k, d, wa, wb, wh, bs, g, hh, hk, hleft, hbl, hd, hwo, hrow, hwin, hne, hhb, hgr, hfr⟩
    obtain ⟨fs, fd, f0, f4, f5, f6, f7⟩ := hfr
    obtain ⟨u, hu⟩ : ∃ u : Nat → Value, a' = { tmps := #[.slice A n c, u 1, u 2, u 3, .pointer (some ⟨g, 0, none⟩), .int .i64 (k : Int), .int .i64 d, .pointer (some ⟨hh, 0, none⟩), u 8, u 9, u 10, u 11, u 12, u 13, u 14, u 15, u 16, u 17, u 18, u 19, u 20, u 21, u 22, u 23, u 24, u 25, u 26, u 27, u 28, u 29, u 30, u 31, u 32, u 33, u 34, u 35, u 36, u 37, u 38, u 39, u 40, u 41, u 42, u 43, u 44, u 45, u 46, u 47, u 48, u 49, u 50, u 51, u 52, u 53, u 54, u 55, u 56, u 57, u 58, u 59, u 60, u 61, u 62, u 63, u 64, u 65, u 66, u 67, u 68, u 69, u 70, u 71, u 72, u 73, u 74, u 75, u 76, u 77, u 78, u 79, u 80, u 81, u 82, u 83, u 84, u 85, u 86, u 87, u 88, u 89, u 90, u 91, u 92, u 93, u 94, u 95, u 96, u 97, u 98], defers := [] } := ⟨fun i => a'.tmps.getD i undef, (frame_lit a' 99 fs fd).trans (by show ({ tmps := #[a'.tmps.getD 0 undef, a'.tmps.getD 1 undef, a'.tmps.getD 2 undef, a'.tmps.getD 3 undef, a'.tmps.getD 4 undef, a'.tmps.getD 5 undef, a'.tmps.getD 6 undef, a'.tmps.getD 7 undef, a'.tmps.getD 8 undef, a'.tmps.getD 9 undef, a'.tmps.getD 10 undef, a'.tmps.getD 11 undef, a'.tmps.getD 12 undef, a'.tmps.getD 13 undef, a'.tmps.getD 14 undef, a'.tmps.getD 15 undef, a'.tmps.getD 16 undef, a'.tmps.getD 17 undef, a'.tmps.getD 18 undef, a'.tmps.getD 19 undef, a'.tmps.getD 20 undef, a'.tmps.getD 21 undef, a'.tmps.getD 22 undef, a'.tmps.getD 23 undef, a'.tmps.getD 24 undef, a'.tmps.getD 25 undef, a'.tmps.getD 26 undef, a'.tmps.getD 27 undef, a'.tmps.getD 28 undef, a'.tmps.getD 29 undef, a'.tmps.getD 30 undef, a'.tmps.getD 31 undef, a'.tmps.getD 32 undef, a'.tmps.getD 33 undef, a'.tmps.getD 34 undef, a'.tmps.getD 35 undef, a'.tmps.getD 36 undef, a'.tmps.getD 37 undef, a'.tmps.getD 38 undef, a'.tmps.getD 39 undef, a'.tmps.getD 40 undef, a'.tmps.getD 41 undef, a'.tmps.getD 42 undef, a'.tmps.getD 43 undef, a'.tmps.getD 44 undef, a'.tmps.getD 45 undef, a'.tmps.getD 46 undef, a'.tmps.getD 47 undef, a'.tmps.getD 48 undef, a'.tmps.getD 49 undef, a'.tmps.getD 50 undef, a'.tmps.getD 51 undef, a'.tmps.getD 52 undef, a'.tmps.getD 53 undef, a'.tmps.getD 54 undef, a'.tmps.getD 55 undef, a'.tmps.getD 56 undef, a'.tmps.getD 57 undef, a'.tmps.getD 58 undef, a'.tmps.getD 59 undef, a'.tmps.getD 60 undef, a'.tmps.getD 61 undef, a'.tmps.getD 62 undef, a'.tmps.getD 63 undef, a'.tmps.getD 64 undef, a'.tmps.getD 65 undef, a'.tmps.getD 66 undef, a'.tmps.getD 67 undef, a'.tmps.getD 68 undef, a'.tmps.getD 69 undef, a'.tmps.getD 70 undef, a'.tmps.getD 71 undef, a'.tmps.getD 72 undef, a'.tmps.getD 73 undef, a'.tmps.getD 74 undef, a'.tmps.getD 75 undef, a'.tmps.getD 76 undef, a'.tmps.getD 77 undef, a'.tmps.getD 78 undef, a'.tmps.getD 79 undef, a'.tmps.getD 80 undef, a'.tmps.getD 81 undef, a'.tmps.getD 82 undef, a'.tmps.getD 83 undef, a'.tmps.getD 84 undef, a'.tmps.getD 85 undef, a'.tmps.getD 86 undef, a'.tmps.getD 87 undef, a'.tmps.getD 88 undef, a'.tmps.getD 89 undef, a'.tmps.getD 90 undef, a'.tmps.getD 91 undef, a'.tmps.getD 92 undef, a'.tmps.getD 93 undef, a'.tmps.getD 94 undef, a'.tmps.getD 95 undef, a'.tmps.getD 96 undef, a'.tmps.getD 97 undef, a'.tmps.getD 98 undef], defers := [] } : Act) = _; rw [f0, f4, f5, f6, f7])⟩
    clear fs fd f0 f4 f5 f6 f7
    subst hu
    by_cases hlast : k + 1 = n
    · have hbe := Lib.hid (hleft.last (by have := Hl.out; omega))
      have hi1 : ((k : Int) + 1 == (n : Int)) = true := by simp; omega
      clear hlast
      go_wp2
      go_step3
      exact .inr ⟨rfl, g, by rw [← hbe.out]; exact hrow, hgr, rfl, rfl, rfl⟩
    · have hi1 : ((k : Int) + 1 == (n : Int)) = false := by simp; omega
      have hr := h.grew hgr
      obtain ⟨ad, p, rfl, hp, hcp1, hcp2⟩ := hr.pt (k := k) hk
      obtain ⟨ad', q, e, hq, hcq1, hcq2⟩ := hr.pt (k := k + 1) (by omega)
      injection e with e
      subst e
      obtain ⟨b1, b2, b3, b4, b5⟩ := Hstep.out k p q hp hq
      have Hleft := Lib.hid (hleft.step hp hq)
      have hcl := cls_le (q.1 - p.1 - d)
      have hzl := zB_len (q.1 - p.1 - d)
      have hvl := valB_len (wa, wb, wh) (q.2 ^^^ p.2)
      have hwo2 := valB_ok hwo (xor_lt b5 b4)
      have hgl := hrow.lt
      have hhl := hwin.lt
      have hxl := xor_lt b5 b4
      have hxz := u64_xor_nat q.2 p.2 b5 b4
      have Hxz := Lib.hid hxz
      have hul := u64_lt (q.1 - p.1 - d)
      have h0lt : ad.block < w.heap.size := RE.lt h (by decide) ad rfl (by omega)
      clear hleft hp hq hxz h
      have hhead : (k + 1 : Nat) < n := by omega
      clear hlast
      go_wp2_with fail
      refine wp_region_text [(3, 1), (2, 1)] (by kernel_rfl) (by kernel_rfl) ?_
      simp only [instr, chk, look, Nat.reduceBEq, Bool.false_eq_true, if_true, if_false, Nat.reduceEqDiff, List.cons_append, List.nil_append]
      go_wp2_with fail
      refine OnlyN.normal ?_
      go_wp2_with fail
      refine (class_any _ _ (by omega)).mono ?_
      rintro e w3 ⟨rfl, rfl⟩
      have hr0 : RowIs wr.drew w.heap.size g bs := hrow
      have hw0 : Blk wr.drew hh 124 #[.int .i64 (wa : Int), .int .i64 (wb : Int), .bool wh] := hwin
      have hg0 : Grew w wr.drew := hgr.drew
      have c11 := cell?_grew hcp2 ((Chg.refl (fun _ => False) wr).drew)
      have c12 := cell?_grew hcq2 ((Chg.refl (fun _ => False) wr).drew)
      have pb := World.block_lt_of_cell? _ _ hcp1
      have pf : ∀ b, RChg w.heap.size g wr.drew b → ∀ ad u, wr.drew.cell? ad = some u → ad.block < w.heap.size → b.cell? ad = some u := fun b hc ad u hu hl => hc.cell hu (by rintro ⟨h1, _⟩; omega)
      have hadl := h0lt
      clear hrow hwin hgr hcp1 hcq1 hcp2 hcq2 pb
      generalize wr.drew = W0 at *
      go_wp2_with fail
      refine (put_row g bs (cls (q.1 - p.1 - d)).1 (cls (q.1 - p.1 - d)).2.1 _ _ w.heap.size _ hr0 rfl rfl (by omega) (by omega) (by omega)).mono ?_
      rintro e w4 ⟨rfl, hr4, hc4⟩
      have hw4 := hc4.blk hw0 hne (by decide)
      go_wp2_with fail
      refine (put_row g _ (u64 (q.1 - p.1 - d)) (cls (q.1 - p.1 - d)).2.2 _ _ w.heap.size _ hr4 (wrap_u64 _) rfl hul (by omega) (by simp only [List.length_append, length_toBits]; omega)).mono ?_
      rintro e w5 ⟨rfl, hr5, hc5⟩
      have hw5 := hc5.blk hw4 hne (by decide)
      have hc05 := hc4.trans hc5
      have hg5 := RChg.up hg0 (Nat.le_refl _) hc05
      have d1 := pf w5 hc05 _ _ c11 (show (ad.add (k * 2)).block < _ by rw [block_add]; exact hadl)
      have d2 := pf w5 hc05 _ _ c12 (show (ad.add ((k + 1) * 2)).block < _ by rw [block_add]; exact hadl)
      obtain ⟨f1, f2, f3⟩ := hw5.three
      have z0 := hw5.frozen 0
      have z1 := hw5.frozen 1
      have z2 := hw5.frozen 2
      have hr5' : RowIs w5 w.heap.size g (bs ++ zB (q.1 - p.1 - d)) := by unfold zB; rw [← List.append_assoc]; exact hr5
      clear hr5 hr4 hr0 hc4 hc5 hw4 hw0 hc05 pf c11 c12 hg0
      go_wp2_with fail
      refine wp_region_text [(3, 1), (2, 1), (22, 1)] (by kernel_rfl) (by kernel_rfl) ?_
      simp only [instr, chk, look, Nat.reduceBEq, Bool.false_eq_true, if_true, if_false, Nat.reduceEqDiff, List.cons_append, List.nil_append]
      go_wp2_with fail
      refine (value_any g _ wa wb wh (q.2 ^^^ p.2) _ w.heap.size _ (by exact hr5') Hxz.out (by omega) hwo (by simp only [List.length_append]; omega)).mono ?_
      rintro e w6 ⟨rfl, hr6, hc6⟩
      have hw6 := RChg.blk (h := hh) (t := 124) hc6 (by exact hw5) hne (by decide)
      have hg6 := RChg.up hg5.drew (Nat.le_refl _) hc6
      obtain ⟨f1', f2', f3'⟩ := hw6.three
      have z0' := hw6.frozen 0
      have z1' := hw6.frozen 1
      have z2' := hw6.frozen 2
      unfold winV
      go_wp2_with fail
      refine OnlyN.normal ?_
      go_wp2_with fail
      go_step3
      have j1 := hw6.set 0 (.int .i64 ((valB (wa, wb, wh) (q.2 ^^^ p.2)).2.1 : Int))
      have j2 := j1.set 1 (.int .i64 ((valB (wa, wb, wh) (q.2 ^^^ p.2)).2.2.1 : Int))
      have j3 := j2.set 2 (.bool (valB (wa, wb, wh) (q.2 ^^^ p.2)).2.2.2)
      refine .inl ⟨rfl, ⟨k + 1, q.1 - p.1, (valB (wa, wb, wh) (q.2 ^^^ p.2)).2.1, (valB (wa, wb, wh) (q.2 ^^^ p.2)).2.2.1, (valB (wa, wb, wh) (q.2 ^^^ p.2)).2.2.2, _, g, hh, hhead, Hleft.out, by simp only [List.length_append]; omega, by omega, hwo2,
        ((hr6.far hw6 hne (by decide) 0 _).far j1 hne (by decide) 1 _).far j2 hne (by decide) 2 _, by simpa using j3, hne, hhb,
        Chg.setCell (Chg.setCell (Chg.setCell hg6 (p := ⟨hh, 0, none⟩) (.inl hhb) _) (p := ⟨hh, 1, none⟩) (.inl hhb) _) (p := ⟨hh, 2, none⟩) (.inl hhb) _, rfl, rfl, rfl, rfl, ?_, rfl, rfl⟩, ?_⟩
      · show Value.int .i64 ((k : Int) + 1) = _
        go_num
      · simp [intOf]
        omega
  · rintro a' wr ⟨g, hrow, hgr, hfr⟩
    obtain ⟨fs, fd, f4⟩ := hfr
    obtain ⟨u, hu⟩ : ∃ u : Nat → Value, a' = { tmps := #[u 0, u 1, u 2, u 3, .pointer (some ⟨g, 0, none⟩), u 5, u 6, u 7, u 8, u 9, u 10, u 11, u 12, u 13, u 14, u 15, u 16, u 17, u 18, u 19, u 20, u 21, u 22, u 23, u 24, u 25, u 26, u 27, u 28, u 29, u 30, u 31, u 32, u 33, u 34, u 35, u 36, u 37, u 38, u 39, u 40, u 41, u 42, u 43, u 44, u 45, u 46, u 47, u 48, u 49, u 50, u 51, u 52, u 53, u 54, u 55, u 56, u 57, u 58, u 59, u 60, u 61, u 62, u 63, u 64, u 65, u 66, u 67, u 68, u 69, u 70, u 71, u 72, u 73, u 74, u 75, u 76, u 77, u 78, u 79, u 80, u 81, u 82, u 83, u 84, u 85, u 86, u 87, u 88, u 89, u 90, u 91, u 92, u 93, u 94, u 95, u 96, u 97, u 98], defers := [] } := ⟨fun i => a'.tmps.getD i undef, (frame_lit a' 99 fs fd).trans (by show ({ tmps := #[a'.tmps.getD 0 undef, a'.tmps.getD 1 undef, a'.tmps.getD 2 undef, a'.tmps.getD 3 undef, a'.tmps.getD 4 undef, a'.tmps.getD 5 undef, a'.tmps.getD 6 undef, a'.tmps.getD 7 undef, a'.tmps.getD 8 undef, a'.tmps.getD 9 undef, a'.tmps.getD 10 undef, a'.tmps.getD 11 undef, a'.tmps.getD 12 undef, a'.tmps.getD 13 undef, a'.tmps.getD 14 undef, a'.tmps.getD 15 undef, a'.tmps.getD 16 undef, a'.tmps.getD 17 undef, a'.tmps.getD 18 undef, a'.tmps.getD 19 undef, a'.tmps.getD 20 undef, a'.tmps.getD 21 undef, a'.tmps.getD 22 undef, a'.tmps.getD 23 undef, a'.tmps.getD 24 undef, a'.tmps.getD 25 undef, a'.tmps.getD 26 undef, a'.tmps.getD 27 undef, a'.tmps.getD 28 undef, a'.tmps.getD 29 undef, a'.tmps.getD 30 undef, a'.tmps.getD 31 undef, a'.tmps.getD 32 undef, a'.tmps.getD 33 undef, a'.tmps.getD 34 undef, a'.tmps.getD 35 undef, a'.tmps.getD 36 undef, a'.tmps.getD 37 undef, a'.tmps.getD 38 undef, a'.tmps.getD 39 undef, a'.tmps.getD 40 undef, a'.tmps.getD 41 undef, a'.tmps.getD 42 undef, a'.tmps.getD 43 undef, a'.tmps.getD 44 undef, a'.tmps.getD 45 undef, a'.tmps.getD 46 undef, a'.tmps.getD 47 undef, a'.tmps.getD 48 undef, a'.tmps.getD 49 undef, a'.tmps.getD 50 undef, a'.tmps.getD 51 undef, a'.tmps.getD 52 undef, a'.tmps.getD 53 undef, a'.tmps.getD 54 undef, a'.tmps.getD 55 undef, a'.tmps.getD 56 undef, a'.tmps.getD 57 undef, a'.tmps.getD 58 undef, a'.tmps.getD 59 undef, a'.tmps.getD 60 undef, a'.tmps.getD 61 undef, a'.tmps.getD 62 undef, a'.tmps.getD 63 undef, a'.tmps.getD 64 undef, a'.tmps.getD 65 undef, a'.tmps.getD 66 undef, a'.tmps.getD 67 undef, a'.tmps.getD 68 undef, a'.tmps.getD 69 undef, a'.tmps.getD 70 undef, a'.tmps.getD 71 undef, a'.tmps.getD 72 undef, a'.tmps.getD 73 undef, a'.tmps.getD 74 undef, a'.tmps.getD 75 undef, a'.tmps.getD 76 undef, a'.tmps.getD 77 undef, a'.tmps.getD 78 undef, a'.tmps.getD 79 undef, a'.tmps.getD 80 undef, a'.tmps.getD 81 undef, a'.tmps.getD 82 undef, a'.tmps.getD 83 undef, a'.tmps.getD 84 undef, a'.tmps.getD 85 undef, a'.tmps.getD 86 undef, a'.tmps.getD 87 undef, a'.tmps.getD 88 undef, a'.tmps.getD 89 undef, a'.tmps.getD 90 undef, a'.tmps.getD 91 undef, a'.tmps.getD 92 undef, a'.tmps.getD 93 undef, a'.tmps.getD 94 undef, a'.tmps.getD 95 undef, a'.tmps.getD 96 undef, a'.tmps.getD 97 undef, a'.tmps.getD 98 undef], defers := [] } : Act) = _; rw [f4])⟩
    clear fs fd f4
    subst hu
    obtain ⟨hb0', B, m, d, hbk, hob⟩ := hrow
    have hc0 : wr.cell? ⟨g, 0, none⟩ = some (.slice B m d) := by rw [hbk.cell]; rfl
    go_wp2
    rw [ExJ.ret]
    go_ret2
    exact ⟨B, m, d, by simp, hob, hgr⟩
  · intro hp
    go_wp2_with fail
    refine (M.out _ h).mono ?_
    rintro e w1 ⟨rfl, hg1⟩
    have hs1 := hg1.size
    have hr1 := (RowIs.new w1 w.heap.size hs1)
    go_wp2_with fail
    refine (put_row w1.heap.size [] n 13 _ _ w.heap.size _ hr1 rfl rfl (by omega) (by omega) (by simp)).mono ?_
    rintro e w2 ⟨rfl, hr2, hc2⟩
    have hg2 := RChg.up (hg1.alloc (.cells #[.slice none 0 0, .int .i64 0] 121)) (Nat.le_refl _) hc2
    have hn1 : ((n : Int) == 0) = false := by simp; omega
    have hwin := Blk.new w2 124 #[.int .i64 0, .int .i64 0, .bool false]
    obtain ⟨ad, p, rfl, hp1, hcp1, hcp2⟩ := (h.grew (hg2.alloc (.cells #[.int .i64 0, .int .i64 0, .bool false] 124))).pt0 hn0
    rw [hp00.out] at hp1
    injection hp1 with hp1
    subst hp1
    have hg2' := hg2.alloc (.cells #[.int .i64 0, .int .i64 0, .bool false] 124)
    have hr2' := hr2.grew ((Chg.refl _ w2).alloc (.cells #[.int .i64 0, .int .i64 0, .bool false] 124))
    have hs2 := hc2.size
    simp only [World.alloc, Array.size_push] at hs2
    have h0lt : ad.block < w.heap.size := RE.lt h (by decide) ad rfl (by omega)
    go_wp2_with fail
    refine (put_row w1.heap.size _ (u64 p0.1) 64 _ _ w.heap.size _ hr2' (wrap_u64 _) rfl (u64_lt _) (by omega) (by simp)).mono ?_
    rintro e w3 ⟨rfl, hr3, hc3⟩
    have hw3 := hc3.blk hwin (by omega) (by decide)
    have hg3 := RChg.up hg2' (Nat.le_refl _) hc3
    have d2 : w3.cell? ⟨ad.block, ad.off + 1, none⟩ = some (.int .u64 (p0.2 : Int)) := hc3.cell hcp2 (by rintro ⟨h1, _⟩; simp only at h1; omega)
    clear hcp1 hcp2
    go_wp2_with fail
    refine (put_row w1.heap.size _ p0.2 64 _ _ w.heap.size _ hr3 rfl rfl hv0 (by omega) (by simp)).mono ?_
    rintro e w4 ⟨rfl, hr4, hc4⟩
    have hw4 := hc4.blk hw3 (by omega) (by decide)
    have hg4 := RChg.up hg3 (Nat.le_refl _) hc4
    clear d2
    go_wp2
    go_step3
    go_step
    go_step
    refine hp _ _ ⟨0, 0, 0, 0, false, _, w1.heap.size, w2.heap.size, hn0, ⟨p0, hp00.out, ?_⟩, by simp, by omega, (fun h => by cases h), hr4, by simpa using hw4, by omega, by omega, hg4, rfl, rfl, rfl, rfl, rfl, rfl, rfl⟩
    have e1 := hp0.out
    have e2 := Hl.out
    rw [e1] at e2 ⊢
    rw [encB_cons, List.length_cons] at *
    rw [e2]
    simp
end Go.Proofs.YtlcaaacbookopaaGreatDoor

namespace Go.Proofs.YtlcaaacbookopaaGreatDoor
open Go.RowKit

/-- points' bytes, and the error -/
def EncIs (ps : List Pnt) (l : List UInt8) (er : Nat) : Prop :=
  (8191 < ps.length ∧ l = [] ∧ er = 51) ∨ (ps.length ≤ 8191 ∧ ¬ Okp ps ∧ l = [] ∧ er = 50) ∨ (ps.length ≤ 8191 ∧ Okp ps ∧ l = pack (encB ps) ∧ er = 0)
theorem EncIs.uniq {ps : List Pnt} {l r : List UInt8} {a b : Nat} (h : EncIs ps l a) (h' : EncIs ps r b) : l = r ∧ a = b := by
  rcases h with ⟨h1, h2, h3⟩ | ⟨h1, h2, h3, h4⟩ | ⟨h1, h2, h3, h4⟩ <;> rcases h' with ⟨g1, g2, g3⟩ | ⟨g1, g2, g3, g4⟩ | ⟨g1, g2, g3, g4⟩
  all_goals first | omega | exact (h2 g2).elim | exact (g2 h2).elim | exact ⟨by rw [h2, g2], by rw [h3, g3]⟩ | exact ⟨by rw [h3, g3], by rw [h4, g4]⟩
theorem EncIs.some (ps : List Pnt) : ∃ l er, EncIs ps l er := by
  by_cases h : 8191 < ps.length
  · exact ⟨_, _, .inl ⟨h, rfl, rfl⟩⟩
  · by_cases h2 : Okp ps
    · exact ⟨_, _, .inr (.inr ⟨by omega, h2, rfl, rfl⟩)⟩
    · exact ⟨_, _, .inr (.inl ⟨by omega, h2, rfl, rfl⟩)⟩
theorem EncIs.ok {ps : List Pnt} {l : List UInt8} (h : EncIs ps l 0) : ps.length ≤ 8191 ∧ Okp ps ∧ l = pack (encB ps) := by
  rcases h with ⟨_, _, h⟩ | ⟨_, _, _, h⟩ | ⟨h1, h2, h3, _⟩
  · cases h
  · cases h
  · exact ⟨h1, h2, h3⟩
theorem EncIs.no {ps : List Pnt} {l : List UInt8} {er : Nat} (h : EncIs ps l er) (he : er ≠ 0) : l = [] ∧ ¬ (ps.length ≤ 8191 ∧ Okp ps) := by
  rcases h with ⟨h1, h2, h⟩ | ⟨h1, h2, h3, h⟩ | ⟨h1, h2, h3, h⟩
  · exact ⟨h2, fun h => by omega⟩
  · exact ⟨h3, fun h => h2 h.2⟩
  · exact (he h).elim
def KEncP (w : World) (ps : List Pnt) (e : Ending) (w' : World) : Prop :=
  ∃ B m d l er, EncIs ps l er ∧ e = .returned (.tuple #[.slice B m d, .int .i64 (er : Int)]) ∧ OB w' w.heap.size 5 B m d l ∧ Grew w w'

set_option maxRecDepth 100000 in
set_option maxHeartbeats 4000000 in
theorem encode_any (A : Option Addr) (n c : Nat) (ps : List Pnt) (w : World) (h : RE elPt w A n ps) (hn : n ≤ 8796093022208) (hv : Okv ps) :
    Calls Tryz.prog 51 #[.slice A n c] w (KEncP w ps) := by
  have hl := h.1
  by_cases h1 : 8191 < n
  · have Hl := Lib.hid hl
    clear hl
    go_enter Tryz.func51, Tryz.ntmps51
    go_wp2
    go_step3
    go_wp2
    rw [Exit.noGoto_ret]
    go_ret2
    exact ⟨none, 0, 0, [], 51, .inl ⟨by rw [Hl.out]; exact h1, rfl, rfl⟩, by simp, Own.nil _ _ _ _, Chg.refl _ _⟩
  · by_cases h2 : Okp ps
    · by_cases h0 : 0 < n
      · exact (kencode_ok A n c ps w h (by omega) h2 hv h0).mono fun e w' ⟨B, m, d, g1, g2, g3⟩ => ⟨B, m, d, _, 0, .inr (.inr ⟨by omega, h2, rfl, rfl⟩), g1, g2, g3⟩
      · obtain rfl : n = 0 := by omega
        have hps : ps = [] := List.eq_nil_of_length_eq_zero hl
        have Hps := Lib.hid hps
        have M : Hid (∀ w, RE elPt w A 0 ps → Calls Tryz.prog 78 #[.slice A 0 c] w fun e w' => e = .returned (.bool true) ∧ Grew w w') := fun w h => (kmay_any A 0 c ps w h (by omega)).mono fun e w' ⟨b, h1, h2', h3⟩ => ⟨by rw [h1, h2'.2 h2], h3⟩
        clear hl hps hv h2
        go_enter Tryz.func51, Tryz.ntmps51
        go_wp2
        refine wp_scope_two 1 0 (fun _ _ => False) (fun a' wr => ∃ (g : Nat), RowIs wr w.heap.size g (encB ps) ∧ Grew w wr ∧ a'.tmps.size = 99 ∧ a'.defers = [] ∧ a'.tmps.getD 4 undef = .pointer (some ⟨g, 0, none⟩)) (fun _ _ => 0) ?b0 ?b1 ?h0 ?h1 (by decide) ?_ ?_ ?_
        case h0 => exact rfl
        case h1 => exact rfl
        · intro _ _ h
          exact h.elim
        · rintro a' wr ⟨g, hrow, hgr, hfr⟩
          obtain ⟨fs, fd, f4⟩ := hfr
          obtain ⟨u, hu⟩ : ∃ u : Nat → Value, a' = { tmps := #[u 0, u 1, u 2, u 3, .pointer (some ⟨g, 0, none⟩), u 5, u 6, u 7, u 8, u 9, u 10, u 11, u 12, u 13, u 14, u 15, u 16, u 17, u 18, u 19, u 20, u 21, u 22, u 23, u 24, u 25, u 26, u 27, u 28, u 29, u 30, u 31, u 32, u 33, u 34, u 35, u 36, u 37, u 38, u 39, u 40, u 41, u 42, u 43, u 44, u 45, u 46, u 47, u 48, u 49, u 50, u 51, u 52, u 53, u 54, u 55, u 56, u 57, u 58, u 59, u 60, u 61, u 62, u 63, u 64, u 65, u 66, u 67, u 68, u 69, u 70, u 71, u 72, u 73, u 74, u 75, u 76, u 77, u 78, u 79, u 80, u 81, u 82, u 83, u 84, u 85, u 86, u 87, u 88, u 89, u 90, u 91, u 92, u 93, u 94, u 95, u 96, u 97, u 98], defers := [] } := ⟨fun i => a'.tmps.getD i undef, (frame_lit a' 99 fs fd).trans (by show ({ tmps := #[a'.tmps.getD 0 undef, a'.tmps.getD 1 undef, a'.tmps.getD 2 undef, a'.tmps.getD 3 undef, a'.tmps.getD 4 undef, a'.tmps.getD 5 undef, a'.tmps.getD 6 undef, a'.tmps.getD 7 undef, a'.tmps.getD 8 undef, a'.tmps.getD 9 undef, a'.tmps.getD 10 undef, a'.tmps.getD 11 undef, a'.tmps.getD 12 undef, a'.tmps.getD 13 undef, a'.tmps.getD 14 undef, a'.tmps.getD 15 undef, a'.tmps.getD 16 undef, a'.tmps.getD 17 undef, a'.tmps.getD 18 undef, a'.tmps.getD 19 undef, a'.tmps.getD 20 undef, a'.tmps.getD 21 undef, a'.tmps.getD 22 undef, a'.tmps.getD 23 undef, a'.tmps.getD 24 undef, a'.tmps.getD 25 undef, a'.tmps.getD 26 undef, a'.tmps.getD 27 undef, a'.tmps.getD 28 undef, a'.tmps.getD 29 undef, a'.tmps.getD 30 undef, a'.tmps.getD 31 undef, a'.tmps.getD 32 undef, a'.tmps.getD 33 undef, a'.tmps.getD 34 undef, a'.tmps.getD 35 undef, a'.tmps.getD 36 undef, a'.tmps.getD 37 undef, a'.tmps.getD 38 undef, a'.tmps.getD 39 undef, a'.tmps.getD 40 undef, a'.tmps.getD 41 undef, a'.tmps.getD 42 undef, a'.tmps.getD 43 undef, a'.tmps.getD 44 undef, a'.tmps.getD 45 undef, a'.tmps.getD 46 undef, a'.tmps.getD 47 undef, a'.tmps.getD 48 undef, a'.tmps.getD 49 undef, a'.tmps.getD 50 undef, a'.tmps.getD 51 undef, a'.tmps.getD 52 undef, a'.tmps.getD 53 undef, a'.tmps.getD 54 undef, a'.tmps.getD 55 undef, a'.tmps.getD 56 undef, a'.tmps.getD 57 undef, a'.tmps.getD 58 undef, a'.tmps.getD 59 undef, a'.tmps.getD 60 undef, a'.tmps.getD 61 undef, a'.tmps.getD 62 undef, a'.tmps.getD 63 undef, a'.tmps.getD 64 undef, a'.tmps.getD 65 undef, a'.tmps.getD 66 undef, a'.tmps.getD 67 undef, a'.tmps.getD 68 undef, a'.tmps.getD 69 undef, a'.tmps.getD 70 undef, a'.tmps.getD 71 undef, a'.tmps.getD 72 undef, a'.tmps.getD 73 undef, a'.tmps.getD 74 undef, a'.tmps.getD 75 undef, a'.tmps.getD 76 undef, a'.tmps.getD 77 undef, a'.tmps.getD 78 undef, a'.tmps.getD 79 undef, a'.tmps.getD 80 undef, a'.tmps.getD 81 undef, a'.tmps.getD 82 undef, a'.tmps.getD 83 undef, a'.tmps.getD 84 undef, a'.tmps.getD 85 undef, a'.tmps.getD 86 undef, a'.tmps.getD 87 undef, a'.tmps.getD 88 undef, a'.tmps.getD 89 undef, a'.tmps.getD 90 undef, a'.tmps.getD 91 undef, a'.tmps.getD 92 undef, a'.tmps.getD 93 undef, a'.tmps.getD 94 undef, a'.tmps.getD 95 undef, a'.tmps.getD 96 undef, a'.tmps.getD 97 undef, a'.tmps.getD 98 undef], defers := [] } : Act) = _; rw [f4])⟩
          clear fs fd f4
          subst hu
          obtain ⟨hb0', B, m, d, hbk, hob⟩ := hrow
          have hc0 : wr.cell? ⟨g, 0, none⟩ = some (.slice B m d) := by rw [hbk.cell]; rfl
          go_wp2
          rw [ExJ.ret]
          go_ret2
          refine ⟨B, m, d, _, 0, .inr (.inr ⟨by rw [Hps.out]; simp, by rw [Hps.out]; exact fun i p h => by simp at h, rfl, rfl⟩), by simp, hob, hgr⟩
        · intro _
          go_wp2_with fail
          refine (M.out _ h).mono ?_
          rintro e w1 ⟨rfl, hg1⟩
          have hs1 := hg1.size
          have hr1 := (RowIs.new w1 w.heap.size hs1)
          go_wp2_with fail
          refine (put_row w1.heap.size [] 0 13 _ _ w.heap.size _ hr1 rfl rfl (by omega) (by omega) (by simp)).mono ?_
          rintro e w2 ⟨rfl, hr2, hc2⟩
          have hg2 := RChg.up (hg1.alloc (.cells #[.slice none 0 0, .int .i64 0] 121)) (Nat.le_refl _) hc2
          go_wp2
          go_step3
          refine .inr ⟨rfl, w1.heap.size, ?_, hg2.alloc _, rfl, rfl, rfl⟩
          rw [Hps.out]
          have := hr2.grew ((Chg.refl _ w2).alloc (.cells #[.int .i64 0, .int .i64 0, .bool false] 124))
          simpa [encB] using this
    · have M : Hid (∀ w, RE elPt w A n ps → Calls Tryz.prog 78 #[.slice A n c] w fun e w' => e = .returned (.bool false) ∧ Grew w w') := fun w h => (kmay_any A n c ps w h hn).mono fun e w' ⟨b, h1, h2', h3⟩ => ⟨by
        cases b
        · exact h1
        · exact (h2 (h2'.1 rfl)).elim, h3⟩
      have Hl := Lib.hid hl
      have H2 := Lib.hid h2
      clear hl h2
      go_enter Tryz.func51, Tryz.ntmps51
      go_wp2
      go_step3
      go_wp2_with fail
      refine (M.out _ h).mono ?_
      rintro e w1 ⟨rfl, hg1⟩
      go_wp2
      rw [Exit.noGoto_ret]
      go_ret2
      exact ⟨none, 0, 0, [], 50, .inr (.inl ⟨by rw [Hl.out]; omega, H2.out, rfl, rfl⟩), by simp, Own.nil _ _ _ _, hg1⟩
end Go.Proofs.YtlcaaacbookopaaGreatDoor

namespace Go.Proofs.YtlcaaacbookopaaGreatDoor
open Go.RowKit

set_option maxHeartbeats 400000 in
theorem left_at (g : Nat) (t : TypeId) (cs : Array Value) (N a : Nat) (w : World) (hb : Blk w g t cs) (h1 : cs[1]? = some (.int .i64 (N : Int))) (h2 : cs[2]? = some (.int .i64 (a : Int))) (hN : N ≤ 9223372036854775807) (ha : a ≤ 9223372036854775807) :
    Calls Tryz.prog 140 #[.pointer (some ⟨g, 0, none⟩)] w fun e w' => e = .returned (.int .i64 ((N : Int) - a)) ∧ ∃ j, w' = w.drewN j := by
  have hc1 : w.cell? ⟨g, 1, none⟩ = some (.int .i64 (N : Int)) := by rw [hb.cell]; exact h1
  have hc2 : w.cell? ⟨g, 2, none⟩ = some (.int .i64 (a : Int)) := by rw [hb.cell]; exact h2
  have hz : IntKind.i64.wrap ((N : Int) - a) = (N : Int) - a := IntWalk.i64_in _ (by omega)
  clear h1 h2
  go_enter Tryz.func140, Tryz.ntmps140
  go_wp2
  go_quiet (fail)
  go_wp2
  go_ret
  exact ⟨by simp, nq, rfl⟩

theorem take_walk (v x s : Nat) (hv : v < 9223372036854775808) (hx : x < 256) :
    bits .or .u64 (IntKind.u64.wrap ((v : Int) * 2)) (IntKind.u64.wrap (bits .and .u8 ((x : Int) / 2 ^ s) 1)) = ((2 * v + x / 2 ^ s % 2 : Nat) : Int) := by
  have h0 : ((x : Int) / 2 ^ s) = ((x / 2 ^ s : Nat) : Int) := by simp
  have hle : x / 2 ^ s ≤ x := Nat.div_le_self _ _
  have h1 := u8_and_nat (x / 2 ^ s) 1 (by omega) (by omega)
  rw [show ((1 : Nat) : Int) = 1 from rfl] at h1
  rw [h0, h1, nat_mask1]
  generalize x / 2 ^ s = q
  have h2 : IntKind.u64.wrap ((v : Int) * 2) = ((2 * v : Nat) : Int) := by simp only [IntKind.wrap_u64]; omega
  have h3 : IntKind.u64.wrap (((q % 2 : Nat)) : Int) = ((q % 2 : Nat) : Int) := by simp only [IntKind.wrap_u64]; omega
  rw [h2, h3, u64_or_nat _ _ (by omega) (by omega), nat_join 1 (2 * v) (q % 2) (by simp) (by omega)]

/-- what a Take of k bits at place a of the bits bs leaves: the number and whether there are so many; the place in the block -/
def TkPost (w : World) (g : Nat) (t : TypeId) (cs : Array Value) (bs : List Bool) (a k : Nat) (e : Ending) (w' : World) : Prop :=
  e = .returned (.tuple #[.int .u64 ((tk bs k (a, false)).1 : Int), .bool (!(tk bs k (a, false)).2.2)]) ∧ Blk w' g t (cs.setIfInBounds 2 (.int .i64 ((tk bs k (a, false)).2.1 : Int))) ∧ Chg (fun x => x = g) w w'

theorem set_self {cs : Array Value} {i : Nat} {v : Value} (h : cs[i]? = some v) : cs.setIfInBounds i v = cs := by
  refine Array.ext_getElem? fun j => ?_
  rw [Array.getElem?_setIfInBounds]
  split
  · rename_i e
    subst e
    obtain ⟨hlt, _⟩ := Array.getElem?_eq_some_iff.1 h
    rw [if_pos hlt, h]
  · rfl

set_option maxRecDepth 100000 in
set_option maxHeartbeats 2000000 in
theorem take_at (g : Nat) (t : TypeId) (cs : Array Value) (A : Option Addr) (m c : Nat) (l : List UInt8) (a k : Nat) (w : World) (hb : Blk w g t cs) (h0 : cs[0]? = some (.slice A m c)) (h1 : cs[1]? = some (.int .i64 ((8 * m : Nat) : Int))) (h2 : cs[2]? = some (.int .i64 (a : Int)))
    (hr : RB w A m l) (hA : ∀ ad, A = some ad → 0 < m → ad.block ≠ g) (hk : k ≤ 64) (hm : m ≤ 140737488355328) (ha : a ≤ 8 * m) :
    Calls Tryz.prog 129 #[.pointer (some ⟨g, 0, none⟩), .int .i64 (k : Int)] w (TkPost w g t cs (bitsOf l (8 * m)) a k) := by
  have hlen : (bitsOf l (8 * m)).length = 8 * m := by simp [bitsOf]
  by_cases hle : a + k ≤ 8 * m
  · have htk : tk (bitsOf l (8 * m)) k (a, false) = (val (((bitsOf l (8 * m)).drop a).take k), a + k, false) := by unfold tk; rw [if_pos (by rw [hlen]; exact hle)]
    unfold TkPost
    rw [htk]
    obtain ⟨N, hN⟩ : ∃ N, N = 8 * m := ⟨_, rfl⟩
    have hN2 : N ≤ 8 * m := by omega
    rw [← hN] at h1 hle ⊢
    clear htk hlen hN ha
    have H0 := Lib.hid h0
    have H1 := Lib.hid h1
    have H2 := Lib.hid h2
    clear h0 h1 h2
    have hd : decide ((N : Int) - a < k) = false := by simp; omega
    go_enter Tryz.func129, Tryz.ntmps129
    go_wp2
    refine wp_scope_label 0 (fun a' wr => ∃ (j : Nat), j ≤ k ∧ Blk wr g t (cs.setIfInBounds 2 (.int .i64 ((a + j : Nat) : Int))) ∧ RB wr A m l ∧ Chg (fun x => x = g) w wr ∧ ∃ v, Hid (v = val (((bitsOf l N).drop a).take j)) ∧ v < 2 ^ j ∧
       ∃ u2 u3 u4 u5 u7 u8 u9 u10 u11 u12 u13 u14 u15 u16 u17 u18 u19 u20 u21 u22 u23 u24 u25 u26 u27 u28 u29 u30 u31 u32 u33 u34 u35 u36 u37 u38 u39 u40 u41 u42 u43 u44 u45 : Value, a' = { tmps := #[.pointer (some ⟨g, 0, none⟩), .int .i64 ((k : Int) - j), u2, u3, u4, u5, .int .u64 (v : Int), u7, u8, u9, u10, u11, u12, u13, u14, u15, u16, u17, u18, u19, u20, u21, u22, u23, u24, u25, u26, u27, u28, u29, u30, u31, u32, u33, u34, u35, u36, u37, u38, u39, u40, u41, u42, u43, u44, u45], defers := [] }) (fun a' _ => (intOf (a'.tmps.getD 1 undef)).toNat) rfl ?_ ?_
    · clear hb hr
      rintro a' wr ⟨j, hj, hb, hr, hchg, v, Hv, hv, u2, u3, u4, u5, u7, u8, u9, u10, u11, u12, u13, u14, u15, u16, u17, u18, u19, u20, u21, u22, u23, u24, u25, u26, u27, u28, u29, u30, u31, u32, u33, u34, u35, u36, u37, u38, u39, u40, u41, u42, u43, u44, u45, rfl⟩
      by_cases hjk : j = k
      · subst hjk
        go_wp2
        simp only [Exit.jump]
        go_ret2
        refine ⟨?_, hb, hchg⟩
        rw [← Hv.out]
        simp
      · have hj1 : ((k : Int) - j == 0) = false := by simp; omega
        have hc0 : wr.cell? ⟨g, 0, none⟩ = some (.slice A m c) := by rw [hb.cell, Array.getElem?_setIfInBounds_ne (by decide)]; exact H0.out
        have hc2 : wr.cell? ⟨g, 2, none⟩ = some (.int .i64 ((a + j : Nat) : Int)) := by
          rw [hb.cell, Array.getElem?_setIfInBounds]
          simp [(Array.getElem?_eq_some_iff.1 H2.out).1]
        have hf2 := hb.frozen 2
        obtain ⟨ad, x, rfl, hx, hc⟩ := hr.at_ (k := (a + j) / 8) (by omega)
        go_wp2
        go_region
        go_wp2
        go_step3
        have hv2 : v < 9223372036854775808 := by
          have : 2 ^ j ≤ 2 ^ 63 := Nat.pow_le_pow_right (by omega) (by omega)
          omega
        have hbv : x.toNat / 2 ^ (7 - (a + j) % 8) % 2 = (bit l (a + j)).toNat := by
          rw [getD_or, List.getD_eq_getElem?_getD, hx]
          rfl
        rw [take_walk v x.toNat (7 - (a + j) % 8) hv2 x.toNat_lt, hbv, show (k : Int) - j - 1 = (k : Int) - ((j + 1 : Nat) : Int) from by omega]
        refine ⟨rfl, ⟨j + 1, by omega, ?_, RB.setFar hr (p := ⟨g, 2, none⟩) hA _, ?_, 2 * v + (bit l (a + j)).toNat, ?_, ?_, _, _, _, _, _, _, _, _, _, _, _, _, _, _, _, _, _, _, _, _, _, _, _, _, _, _, _, _, _, _, _, _, _, _, _, _, _, _, _, _, _, _, _, rfl⟩, ?_⟩
        · have := hb.set 2 (.int .i64 ((a : Int) + j + 1))
          rw [Array.setIfInBounds_setIfInBounds] at this
          rw [show ((a + (j + 1) : Nat) : Int) = (a : Int) + j + 1 from by simp; omega]
          exact this
        · exact Chg.drew (hchg.setCell (p := ⟨g, 2, none⟩) (.inr rfl) _)
        · show _ = _
          rw [take_bitsOf_succ _ _ _ _ (by omega), ← Hv.out]
        · rw [Nat.pow_succ]
          cases bit l (a + j) <;> simp <;> omega
        · simp [intOf]; omega
    · intro hp
      go_wp2_with (go_at_call 140; refine (left_at g t cs N a _ hb H1.out H2.out (by omega) (by omega)).mono ?_; rintro e w' ⟨rfl, j, rfl⟩)
      go_step3
      go_step
      go_step
      refine hp _ _ ⟨0, by omega, ?_, hr.drewN j, (Chg.refl _ w).drewN j, 0, rfl, by simp, _, _, _, _, _, _, _, _, _, _, _, _, _, _, _, _, _, _, _, _, _, _, _, _, _, _, _, _, _, _, _, _, _, _, _, _, _, _, _, _, _, _, _, rfl⟩
      have : cs.setIfInBounds 2 (.int .i64 ((a + 0 : Nat) : Int)) = cs := set_self H2.out
      rw [this]
      exact hb.drewN j
  · have htk : tk (bitsOf l (8 * m)) k (a, false) = (0, a, true) := by unfold tk; rw [if_neg (by rw [hlen]; exact hle)]
    unfold TkPost
    rw [htk]
    dsimp only
    rw [set_self h2]
    obtain ⟨N, hN⟩ : ∃ N, N = 8 * m := ⟨_, rfl⟩
    have hN2 : N ≤ 8 * m := by omega
    rw [← hN] at h1 hle ha
    clear htk hlen hN
    have H1 := Lib.hid h1
    have H2 := Lib.hid h2
    clear h0 h1 h2
    have hd : decide ((N : Int) - a < k) = true := by simp; omega
    go_enter Tryz.func129, Tryz.ntmps129
    go_wp2
    go_step3
    go_wp2_with (go_at_call 140; refine (left_at g t cs N a _ (by first | exact hb | exact hb.drewN _) H1.out H2.out (by omega) (by omega)).mono ?_; rintro e w' ⟨rfl, j, rfl⟩)
    rw [Exit.noGoto_ret]
    go_ret2
    exact ⟨by simp, hb.drewN j, (Chg.refl _ w).drewN j⟩
end Go.Proofs.YtlcaaacbookopaaGreatDoor
