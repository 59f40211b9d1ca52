/-
  Several texts in one:
  Package codec and its reference: frames read. Conditions: lengths that memory bears.
-/
import Derived.Test.YtepncgeaehjhiaaGreatPart29
import Derived.Deep.CutRange

namespace Go.Proofs.YtepncgeaehjhiaaGreat
open Go.RowKit

/-- the reader in memory -/
abbrev Reader (w : World) (g : Nat) (A : Option Addr) (m c : Nat) (a : Int) : Prop := Blk w g 112 #[.slice A m c, .int .i64 a]

/-- a record's length that is read -/
def lenE (r : Nat × Nat × Nat) : Nat := if r.2.2 ≠ 0 then r.2.2 else if 65536 < r.1 then 23 else 0
def LenPost (w : World) (g : Nat) (A : Option Addr) (m c : Nat) (r : Nat × Nat × Nat) (e : Ending) (w' : World) : Prop :=
  e = .returned (.tuple #[.int .i64 ((if lenE r = 0 then r.1 else 0 : Nat) : Int), .int .i64 (lenE r : Int)]) ∧ Reader w' g A m c r.2.1 ∧ Chg (fun k => k = g) w w'

set_option maxRecDepth 100000 in
set_option maxHeartbeats 1000000 in
theorem length_any (g : Nat) (A : Option Addr) (m c : Nat) (l : List UInt8) (at_ : Int) (w : World) (hb : Reader w g A m c at_) (h : RB w A m l) (hm : m ≤ 140737488355328) :
    Calls Tryz.prog 96 #[.pointer (some ⟨g, 0, none⟩)] w (LenPost w g A m c (uintR l at_)) := by
  have hc0 : w.cell? ⟨g, 0, none⟩ = some (.slice A m c) := by rw [hb.cell]; rfl
  have hc1 : w.cell? ⟨g, 1, none⟩ = some (.int .i64 at_) := by rw [hb.cell]; rfl
  have hf1 := hb.frozen 1
  have hU : ∀ n, Calls Tryz.prog 72 #[.slice A m c, .int .i64 at_] (w.drewN n) fun e w' => e = uintEnd (uintR l at_) ∧ w' = w.drewN n := fun n => uint_any A m c l at_ (w.drewN n) (h.drewN n) hm
  have hto := uintR_to l at_
  have hlt := uintR_lt l at_
  have herr := uintR_err l at_
  have hbad := uintR_bad l at_
  generalize uintR l at_ = r at hU hto hlt herr hbad ⊢
  obtain ⟨v, nx, er⟩ := r
  have HU := Lib.hid hU
  clear hU
  unfold uintEnd at HU
  simp only at hto hlt herr hbad
  by_cases he : er = 0
  · subst he
    clear herr hbad
    by_cases hv : 65536 < v
    · have hr : Hid (lenE (v, nx, 0) = 23) := by show _ = _; unfold lenE; rw [if_neg (by simp), if_pos hv]
      have hr2 : Hid ((if lenE (v, nx, 0) = 0 then v else 0) = 0) := by show _ = _; rw [hr.out]; rfl
      go_enter Tryz.func96, Tryz.ntmps96
      go_wp2
      go_quiet ((go_at_call 72; exact Calls.quiet_of_same (HU.out _)))
      go_wp2
      go_ret2
      refine ⟨?_, ?_, ?_⟩
      · rw [hr.out]
        simp
      · exact (hb.drewN nq).set 1 (.int .i64 (nx : Int))
      · exact Chg.setCell (S := fun k => k = g) ((Chg.refl _ w).drewN nq) (p := ⟨g, 1, none⟩) (.inr rfl) _
    · have hv2 : v ≤ 65536 := by omega
      have hr : Hid (lenE (v, nx, 0) = 0) := by show _ = _; unfold lenE; rw [if_neg (by simp), if_neg hv]
      have hr2 : Hid ((if lenE (v, nx, 0) = 0 then v else 0) = v) := by show _ = _; rw [hr.out]; rfl
      clear hv
      go_enter Tryz.func96, Tryz.ntmps96
      go_wp2
      go_quiet ((go_at_call 72; exact Calls.quiet_of_same (HU.out _)))
      go_wp2
      go_ret2
      refine ⟨?_, ?_, ?_⟩
      · rw [hr.out]
        simp
      · exact (hb.drewN nq).set 1 (.int .i64 (nx : Int))
      · exact Chg.setCell (S := fun k => k = g) ((Chg.refl _ w).drewN nq) (p := ⟨g, 1, none⟩) (.inr rfl) _
  · have hee : ((er : Int) != 0) = true := by simp; omega
    have hr : Hid (lenE (v, nx, er) = er) := by show _ = _; unfold lenE; rw [if_pos he]
    have hr2 : Hid ((if lenE (v, nx, er) = 0 then v else 0) = 0) := by show _ = _; rw [hr.out, if_neg he]
    have He := Lib.hid he
    clear hbad herr he
    go_enter Tryz.func96, Tryz.ntmps96
    go_wp2
    go_quiet ((go_at_call 72; exact Calls.quiet_of_same (HU.out _)))
    go_wp2
    go_ret2
    refine ⟨?_, ?_, ?_⟩
    · have he := He.out
      rw [hr.out]
      simp [he]
    · exact (hb.drewN nq).set 1 (.int .i64 (nx : Int))
    · exact Chg.setCell (S := fun k => k = g) ((Chg.refl _ w).drewN nq) (p := ⟨g, 1, none⟩) (.inr rfl) _

/-- four bytes as a number, and n of them -/
def beN (l : List UInt8) : Nat := l.foldl (fun s c => s * 256 + c.toNat) 0
theorem beN_snoc (l : List UInt8) (c : UInt8) : beN (l ++ [c]) = beN l * 256 + c.toNat := by unfold beN; rw [List.foldl_append]; rfl
theorem beN_lt (n : Nat) : ∀ l : List UInt8, l.length = n → beN l < 256 ^ n := by
  induction n with
  | zero => intro l h; have : l = [] := List.eq_nil_of_length_eq_zero h; subst this; simp [beN]
  | succ n ih =>
    intro l h
    obtain ⟨a, c, rfl⟩ : ∃ a c, l = a ++ [c] := ⟨l.dropLast, l.getLast (by intro e; subst e; simp at h), (List.dropLast_concat_getLast _).symm⟩
    have h1 := ih a (by simpa using h)
    rw [beN_snoc, Nat.pow_succ]
    have := c.toNat_lt
    omega
theorem beN_four (s : Nat) (h : s < 4294967296) : beN (four s) = s := by
  show (((0 * 256 + (UInt8.ofNat (s / 16777216)).toNat) * 256 + (UInt8.ofNat (s / 65536)).toNat) * 256 + (UInt8.ofNat (s / 256)).toNat) * 256 + (UInt8.ofNat s).toNat = s
  simp only [UInt8.toNat_ofNat']
  omega
theorem four_beN (l : List UInt8) (h : l.length = 4) : four (beN l) = l := by
  match l, h with
  | [a, b, c, d], _ =>
    have ha := a.toNat_lt
    have hb := b.toNat_lt
    have hc := c.toNat_lt
    have hd := d.toNat_lt
    have e : beN [a, b, c, d] = ((a.toNat * 256 + b.toNat) * 256 + c.toNat) * 256 + d.toNat := by simp [beN]
    unfold four
    rw [e]
    have e1 : UInt8.ofNat ((((a.toNat * 256 + b.toNat) * 256 + c.toNat) * 256 + d.toNat) / 16777216) = a := UInt8.toNat_inj.1 (by rw [UInt8.toNat_ofNat']; omega)
    have e2 : UInt8.ofNat ((((a.toNat * 256 + b.toNat) * 256 + c.toNat) * 256 + d.toNat) / 65536) = b := UInt8.toNat_inj.1 (by rw [UInt8.toNat_ofNat']; omega)
    have e3 : UInt8.ofNat ((((a.toNat * 256 + b.toNat) * 256 + c.toNat) * 256 + d.toNat) / 256) = c := UInt8.toNat_inj.1 (by rw [UInt8.toNat_ofNat']; omega)
    have e4 : UInt8.ofNat ((((a.toNat * 256 + b.toNat) * 256 + c.toNat) * 256 + d.toNat)) = d := UInt8.toNat_inj.1 (by rw [UInt8.toNat_ofNat']; omega)
    rw [e1, e2, e3, e4]
theorem or_be (s c : Nat) (hs : s < 16777216) (hc : c < 256) : bits .or .u32 (IntKind.u32.wrap ((s : Int) * 256)) (c : Int) = ((s * 256 + c : Nat) : Int) := by
  have e : IntKind.u32.wrap ((s : Int) * 256) = ((s * 256 : Nat) : Int) := by simp only [IntKind.wrap_u32']; omega
  rw [e, u32_or_nat _ _ (by omega) (by omega), nat_join 8 _ _ (by omega) (by omega)]

theorem or_be' (s c : Nat) (hs : s < 16777216) (hc : c < 256) : bits .or .u32 ((s : Int) * 256) (c : Int) = ((s * 256 + c : Nat) : Int) := by
  have := or_be s c hs hc
  rwa [show IntKind.u32.wrap ((s : Int) * 256) = (s : Int) * 256 from by simp only [IntKind.wrap_u32']; omega] at this

/-- the record behind a length: its bytes, the place behind it, the error -/
def recOf (l : List UInt8) (nx n : Nat) : List UInt8 × Nat × Nat :=
  if l.length - nx < 4 + n then ([], nx, 20) else if crc ((l.drop (nx + 4)).take n) ≠ beN ((l.drop nx).take 4) then ([], nx + 4 + n, 22) else ((l.drop (nx + 4)).take n, nx + 4 + n, 0)
def RecPost (w : World) (g : Nat) (A : Option Addr) (m c : Nat) (r : List UInt8 × Nat × Nat) (e : Ending) (w' : World) : Prop :=
  ∃ B n C, e = .returned (.tuple #[.slice B n C, .int .i64 (r.2.2 : Int)]) ∧ OB w' w.heap.size 5 B n C r.1 ∧ Reader w' g A m c r.2.1 ∧ Chg (fun k => k = g) w w'

set_option maxRecDepth 100000 in
set_option maxHeartbeats 2000000 in
theorem record_short (g : Nat) (A : Option Addr) (m c nx n : Nat) (w : World) (hb : Reader w g A m c nx) (hm : m ≤ 140737488355328) (hn : n ≤ 65536) (hnx : nx ≤ m) (hs : m - nx < 4 + n) :
    Calls Tryz.prog 97 #[.pointer (some ⟨g, 0, none⟩), .int .i64 (n : Int)] w (RecPost w g A m c ([], nx, 20)) := by
  have hc0 : w.cell? ⟨g, 0, none⟩ = some (.slice A m c) := by rw [hb.cell]; rfl
  have hc1 : w.cell? ⟨g, 1, none⟩ = some (.int .i64 (nx : Int)) := by rw [hb.cell]; rfl
  have e1 : IntKind.i64.wrap ((m : Int) - nx) = (m : Int) - nx := IntWalk.i64_in _ (by omega)
  have e2 : IntKind.i64.wrap (4 + (n : Int)) = 4 + (n : Int) := IntWalk.i64_in _ (by omega)
  have e3 : decide ((m : Int) - nx < 4 + (n : Int)) = true := by simp; omega
  go_enter Tryz.func97, Tryz.ntmps97
  go_wp2
  go_quiet (fail)
  go_wp2
  go_ret2
  exact ⟨none, 0, 0, by simp, Own.nil _ _ _ _, hb.drewN _, (Chg.refl _ w).drewN _⟩

set_option maxRecDepth 100000 in
set_option maxHeartbeats 2000000 in
theorem record_any (g : Nat) (ad : Addr) (m c nx n : Nat) (l : List UInt8) (w : World) (hb : Reader w g (some ad) m c nx) (h : RB w (some ad) m l) (hg : ad.block ≠ g) (hm : m ≤ 140737488355328) (hc : m ≤ c ∧ c ≤ 9223372036854775807) (hn : n ≤ 65536) (hnx : nx ≤ m) (hs : 4 + n ≤ m - nx) :
    Calls Tryz.prog 97 #[.pointer (some ⟨g, 0, none⟩), .int .i64 (n : Int)] w (RecPost w g (some ad) m c (recOf l nx n)) := by
  have hr : recOf l nx n = (if crc ((l.drop (nx + 4)).take n) ≠ beN ((l.drop nx).take 4) then ([], nx + 4 + n, 22) else ((l.drop (nx + 4)).take n, nx + 4 + n, 0)) := by
    unfold recOf
    rw [if_neg (by rw [h.1]; omega)]
  have Hr := Lib.hid hr
  clear hr
  have hc0 : w.cell? ⟨g, 0, none⟩ = some (.slice (some ad) m c) := by rw [hb.cell]; rfl
  have hc1 : w.cell? ⟨g, 1, none⟩ = some (.int .i64 (nx : Int)) := by rw [hb.cell]; rfl
  have e1 : IntKind.i64.wrap ((m : Int) - nx) = (m : Int) - nx := IntWalk.i64_in _ (by omega)
  have e2 : IntKind.i64.wrap (4 + (n : Int)) = 4 + (n : Int) := IntWalk.i64_in _ (by omega)
  have e3 : decide ((m : Int) - nx < 4 + (n : Int)) = false := by simp; omega
  have e4 : IntKind.i64.wrap ((nx : Int) + 4) = (nx : Int) + 4 := IntWalk.i64_in _ (by omega)
  have hcn : ¬ c = nx := by omega
  go_enter Tryz.func97, Tryz.ntmps97
  go_wp2
  go_quiet (fail)
  go_wp2
  go_quiet (fail)
  go_wp2
  simp only [Nat.add_sub_cancel_left]
  generalize hw0 : (w.drewN _).drewN nq = w0
  have hb0 : Reader w0 g (some ad) m c nx := by rw [← hw0]; exact hb
  have h0 : RB w0 (some ad) m l := by rw [← hw0]; exact h
  have hch0 : Chg (fun k => k = g) w w0 := by rw [← hw0]; exact ((Chg.refl _ w).drewN _).drewN _
  have h4 : RB w0 (some (ad.add nx)) 4 ((l.drop nx).take 4) := (h0.drop nx).take (by omega)
  clear hw0 hb h hc0 hc1 e3
  have hsz0 := hch0.size
  go_loop [6, 38] (fun sc si => ∃ (j s : Nat), si = .int .i64 (j : Int) ∧ sc = .int .u32 (s : Int) ∧ j ≤ 4 ∧ Hid (s = beN (((l.drop nx).take 4).take j)) ∧ s < 256 ^ j) (fun _ si => 4 - (intOf si).toNat)
  case atStart => exact ⟨0, 0, rfl, rfl, by omega, rfl, by simp⟩
  case round =>
    obtain ⟨j, s, rfl, rfl, hj, Hs, hs8⟩ := hrel
    by_cases hlt : j < 4
    · have hs24 : s < 16777216 := by
        have : 256 ^ j ≤ 256 ^ 3 := Nat.pow_le_pow_right (by omega) (by omega)
        omega
      obtain ⟨ad', y, e, hy, hcy⟩ := h4.at_ hlt
      injection e with e
      subst e
      have hy8 := y.toNat_lt
      have hor := or_be' s y.toNat hs24 hy8
      have Hs2 : Hid (s * 256 + y.toNat = beN (((l.drop nx).take 4).take (j + 1))) := by
        show _ = _
        rw [List.take_add_one, hy, Hs.out]
        exact (beN_snoc _ _).symm
      have hs82 : s * 256 + y.toNat < 256 ^ (j + 1) := by rw [Nat.pow_succ]; omega
      have Hs82 := Lib.hid hs82
      clear hs82 hs8 Hs hy h4
      go_wp2
      go_round
      case rel => exact ⟨j + 1, s * 256 + y.toNat, by go_num, by simp, by omega, Hs2, Hs82.out⟩
      case measure => simp [intOf]; omega
    · obtain rfl : j = 4 := by omega
      have h48 : ((l.drop nx).take 4).take 4 = (l.drop nx).take 4 := by rw [List.take_take]; rfl
      rw [h48] at Hs
      have hs32 : s < 4294967296 := by omega
      have hc0 : w0.cell? ⟨g, 0, none⟩ = some (.slice (some ad) m c) := by rw [hb0.cell]; rfl
      have hc1 : w0.cell? ⟨g, 1, none⟩ = some (.int .i64 (nx : Int)) := by rw [hb0.cell]; rfl
      have hf1 := hb0.frozen 1
      have e5 : IntKind.i64.wrap ((nx : Int) + 4 + (n : Int)) = (nx : Int) + 4 + (n : Int) := IntWalk.i64_in _ (by omega)
      have hrec : RB w0 (some (ad.add (nx + 4))) n ((l.drop (nx + 4)).take n) := (h0.drop (nx + 4)).take (by omega)
      clear h48 h4 hs8 hj
      go_upto_region 9 with (fail)
      go_cut [9] from 10 to 80 (fun sr wx => ∃ B C, sr = .slice B n C ∧ Reader wx g (some ad) m c nx ∧ RB wx B n ((l.drop (nx + 4)).take n) ∧ (∀ bd, B = some bd → 0 < n → bd.block ≠ g) ∧ Chg (fun k => k = g) w wx ∧ C ≤ 9223372036854775807)
      case first =>
        by_cases hcn2 : c = nx + 4
        · have hn0 : n = 0 := by omega
          subst hn0
          subst hcn2
          go_wp2
          go_quiet (fail)
          go_wp2
          go_meet
          exact ⟨_, _, rfl, hb0.drewN _, ⟨rfl, Rd.nil _ _⟩, fun _ _ h => by omega, hch0.drewN _, by omega⟩
        · go_wp2
          go_quiet (fail)
          go_wp2
          go_meet
          refine ⟨_, c - (nx + 4), by rw [show nx + 4 + n - (nx + 4) = n from by omega], hb0.drewN _, hrec.drewN _, ?_, hch0.drewN _, ?_⟩
          · intro bd e _
            injection e with e
            subst e
            rw [block_add]
            exact hg
          · omega
      case rest =>
        clear hc0 hc1 hf1 hb0 hrec hch0 h0
        obtain ⟨B, C, rfl, hb0, hrec, hB, hch0, hC⟩ := hcut
        have hc0 : wc.cell? ⟨g, 0, none⟩ = some (.slice (some ad) m c) := by rw [hb0.cell]; rfl
        have hc1 : wc.cell? ⟨g, 1, none⟩ = some (.int .i64 (nx : Int)) := by rw [hb0.cell]; rfl
        have hf1 := hb0.frozen 1
        go_wp2_with fail
        have hb1 : Reader (wc.setCell ⟨g, 1, none⟩ (.int .i64 ((nx : Int) + (4 + (n : Int))))) g (some ad) m c ((nx : Int) + (4 + (n : Int))) := hb0.set 1 _
        have hr1 : RB (wc.setCell ⟨g, 1, none⟩ (.int .i64 ((nx : Int) + (4 + (n : Int))))) B n ((l.drop (nx + 4)).take n) := RB.setFar hrec hB _
        have hch1 : Chg (fun k => k = g) w (wc.setCell ⟨g, 1, none⟩ (.int .i64 ((nx : Int) + (4 + (n : Int))))) := hch0.setCell (p := ⟨g, 1, none⟩) (.inr rfl) _
        refine (sum_any B n C _ _ hr1 (by omega)).mono ?_
        rintro e w5 ⟨rfl, hg5⟩
        have hb5 := hb1.grew hg5
        have hr5 := hr1.grew hg5
        have hch5 := hch1.grow hg5
        have hs5 := hch5.size
        have hcl := crc_lt ((l.drop (nx + 4)).take n)
        have hnx4 : ((nx + 4 + n : Nat) : Int) = (nx : Int) + (4 + (n : Int)) := by omega
        rw [← hnx4] at hb5
        clear hb1 hr1 hch1 hg5 hb0 hrec hch0 hc0 hc1 hf1 hnx4
        obtain ⟨rec, hrec⟩ : ∃ rec, rec = (l.drop (nx + 4)).take n := ⟨_, rfl⟩
        rw [← hrec] at hr5 hcl ⊢
        have Hrec := Lib.hid hrec
        obtain ⟨q, hq⟩ : ∃ q, q = crc rec := ⟨_, rfl⟩
        rw [← hq] at hcl ⊢
        have Hq := Lib.hid hq
        clear hrec hq
        by_cases hqs : q = s
        · have hres : Hid (recOf l nx n = (rec, nx + 4 + n, 0)) := by
            show _ = _
            rw [Hr.out, ← Hrec.out, ← Hq.out, ← Hs.out, if_neg (by simp [hqs])]
          have ht : ((q : Int) != (s : Int)) = false := by simp; omega
          have hown : OB (w5.alloc (.cells #[] 5)) w.heap.size 5 (some ⟨w5.heap.size, 0, none⟩) 0 0 [] := Own.made w5 w.heap.size 5 1 hs5
          have hr6 := hr5.grew ((Chg.refl _ w5).alloc (.cells #[] 5))
          have hb6 := hb5.alloc (.cells #[] 5)
          have hch6 := hch5.alloc (.cells #[] 5)
          have hgl := hb5.lt
          clear hqs
          go_wp2_with (at_builtin; refine wpList_appB rfl _ _ rfl w.heap.size _ 0 0 [] rfl hown (by simp; omega) B n C rec rfl hr6 (by omega) ?_; intro A7 c7 w7 h7)
          go_ret2
          simp only [Nat.zero_add, List.nil_append] at h7
          rw [hres.out]
          refine ⟨A7, n, c7, by simp, h7.ob, ?_, ?_⟩
          · refine hb6.chg h7.chg ?_
            rintro ⟨ad', e, e2⟩
            injection e with e
            subst e
            simp at e2
            omega
          · refine hch6.step h7.chg ?_
            rintro k hk ⟨ad', e, e2⟩
            injection e with e
            subst e
            simp at e2
            omega
        · have hres : Hid (recOf l nx n = ([], nx + 4 + n, 22)) := by
            show _ = _
            rw [Hr.out, ← Hrec.out, ← Hq.out, ← Hs.out, if_pos hqs]
          have ht : ((q : Int) != (s : Int)) = true := by simp; omega
          clear hqs
          go_wp2
          go_ret2
          rw [hres.out]
          exact ⟨none, 0, 0, by simp, Own.nil _ _ _ _, hb5, hch5⟩

/-- the frame at a place of some bytes: the record, the place behind it, the error -/
def unfOf (l : List UInt8) (r : Nat × Nat × Nat) : List UInt8 × Nat × Nat :=
  if lenE r ≠ 0 then ([], 0, lenE r) else if (recOf l r.2.1 r.1).2.2 ≠ 0 then ([], 0, (recOf l r.2.1 r.1).2.2) else recOf l r.2.1 r.1
def unfR (l : List UInt8) (at_ : Int) : List UInt8 × Nat × Nat := unfOf l (uintR l at_)
def UnfPost (w : World) (r : List UInt8 × Nat × Nat) (e : Ending) (w' : World) : Prop :=
  ∃ B n C, e = .returned (.tuple #[.slice B n C, .int .i64 (r.2.1 : Int), .int .i64 (r.2.2 : Int)]) ∧ OB w' w.heap.size 5 B n C r.1 ∧ Grew w w'

set_option maxRecDepth 100000 in
set_option maxHeartbeats 2000000 in
theorem unframe_any (A : Option Addr) (m c : Nat) (l : List UInt8) (at_ : Int) (w : World) (h : RB w A m l) (hm : m ≤ 140737488355328) (hc : m ≤ c ∧ c ≤ 9223372036854775807) :
    Calls Tryz.prog 71 #[.slice A m c, .int .i64 at_] w (UnfPost w (unfR l at_)) := by
  have hb := Blk.new w 112 #[.slice A m c, .int .i64 at_]
  have hr := h.grew ((Chg.refl _ w).alloc (.cells #[.slice A m c, .int .i64 at_] 112))
  have hL := length_any w.heap.size A m c l at_ _ hb hr hm
  have hto := uintR_to l at_
  rw [h.1] at hto
  show Calls _ _ _ _ (UnfPost w (unfOf l (uintR l at_)))
  generalize uintR l at_ = r at hL hto ⊢
  obtain ⟨v, nx, er⟩ := r
  simp only at hto
  have HL := Lib.hid hL
  clear hL
  unfold LenPost at HL
  simp only at HL
  by_cases he : lenE (v, nx, er) = 0
  · have hv : v ≤ 65536 := by
      unfold lenE at he
      simp only at he
      split at he
      · omega
      · split at he
        · cases he
        · omega
    have h1 : Hid (unfOf l (v, nx, er) = if (recOf l nx v).2.2 ≠ 0 then ([], 0, (recOf l nx v).2.2) else recOf l nx v) := by
      show _ = _
      unfold unfOf
      rw [if_neg (by simpa using he)]
    rw [he] at HL
    simp only [if_true] at HL
    clear he
    by_cases hs : m - nx < 4 + v
    · have h2 : Hid (unfOf l (v, nx, er) = ([], 0, 20)) := by
        show _ = _
        rw [h1.out]
        have : recOf l nx v = ([], nx, 20) := by unfold recOf; rw [if_pos (by rw [h.1]; exact hs)]
        rw [this]
        rfl
      clear h1
      go_enter Tryz.func71, Tryz.ntmps71
      go_wp2_with fail
      go_in
      go_wp2_with fail
      refine HL.out.mono ?_
      rintro e w2 ⟨rfl, hb2, hc2⟩
      have hg2 : Grew w w2 := ((Chg.refl _ w).alloc _).step hc2 (by rintro k hk rfl; omega)
      go_wp2_with fail
      refine (record_short w.heap.size A m c nx v w2 hb2 hm hv hto hs).mono ?_
      rintro e w3 ⟨B, n, C, rfl, ho3, hb3, hc3⟩
      have hn := ho3.len
      simp at hn
      subst hn
      have hg3 : Grew w w3 := hg2.step hc3 (by rintro k hk rfl; omega)
      go_wp2
      go_ret3
      rw [h2.out]
      exact ⟨none, 0, 0, by simp, Own.nil _ _ _ _, hg3⟩
    · have hmp : 0 < m := by omega
      obtain ⟨ad, x, rfl, _, _⟩ := h.at_ (k := 0) hmp
      have hne : ad.block ≠ w.heap.size := by have := h.lt ad rfl hmp; omega
      have hto2 : (recOf l nx v).2.2 = 0 ∨ (recOf l nx v).2.2 = 22 := by
        unfold recOf
        rw [if_neg (by rw [h.1]; exact hs)]
        split
        · exact .inr rfl
        · exact .inl rfl
      have hrec := fun w2 hb2 h2 => record_any w.heap.size ad m c nx v l w2 hb2 h2 hne hm hc hv hto (by omega)
      generalize recOf l nx v = q at h1 hto2 hrec ⊢
      obtain ⟨ql, qa, qe⟩ := q
      simp only at h1 hto2
      have Hrec := Lib.hid hrec
      clear hrec hs
      have hx : Grew w (w.alloc (.cells #[.slice (some ad) m c, .int .i64 at_] 112)) := (Chg.refl _ w).alloc _
      go_enter Tryz.func71, Tryz.ntmps71
      go_wp2_with fail
      go_in
      go_wp2_with fail
      refine HL.out.mono ?_
      rintro e w2 ⟨rfl, hb2, hc2⟩
      have hg2 : Grew w w2 := hx.step hc2 (by rintro k hk rfl; omega)
      have hr2 := h.grew hg2
      have hs2 := hg2.size
      go_wp2_with fail
      refine (Hrec.out _ hb2 hr2).mono ?_
      rintro e w3 ⟨B, n, C, rfl, ho3, hb3, hc3⟩
      have hg3 : Grew w w3 := hg2.step hc3 (by rintro k hk rfl; omega)
      have hcc0 : w3.cell? ⟨w.heap.size, 0, none⟩ = some (.slice (some ad) m c) := by rw [hb3.cell]; rfl
      have hcc1 : w3.cell? ⟨w.heap.size, 1, none⟩ = some (.int .i64 (qa : Int)) := by rw [hb3.cell]; rfl
      rcases hto2 with rfl | rfl
      · go_wp2
        go_quiet (fail)
        go_wp2
        go_ret3
        have := h1.out
        rw [this]
        exact ⟨B, n, C, by simp, (ho3.mono hs2).drewN _, hg3.drewN _⟩
      · go_wp2
        go_ret3
        have := h1.out
        rw [this]
        exact ⟨none, 0, 0, by simp, Own.nil _ _ _ _, hg3⟩
  · have h1 : Hid (unfOf l (v, nx, er) = ([], 0, lenE (v, nx, er))) := by
      show _ = _
      unfold unfOf
      rw [if_pos he]
    rw [if_neg he] at HL
    generalize lenE (v, nx, er) = q at h1 HL he
    have hq : ((q : Int) != 0) = true := by simp; omega
    clear he
    go_enter Tryz.func71, Tryz.ntmps71
    go_wp2_with fail
    go_in
    go_wp2_with fail
    refine HL.out.mono ?_
    rintro e w2 ⟨rfl, hb2, hc2⟩
    have hg2 : Grew w w2 := ((Chg.refl _ w).alloc _).step hc2 (by rintro k hk rfl; omega)
    go_wp2
    go_ret3
    rw [h1.out]
    exact ⟨none, 0, 0, by simp, Own.nil _ _ _ _, hg2⟩
end Go.Proofs.YtepncgeaehjhiaaGreat
