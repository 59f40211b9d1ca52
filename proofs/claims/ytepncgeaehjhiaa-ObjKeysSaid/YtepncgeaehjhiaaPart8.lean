/-
  Several texts in one:
  Package codec and its reference: frames read. Conditions: lengths that memory bears.
  A store over a disk of any number of files: what lies in it; an object read. Conditions: the power stays.
  An object that is not there read; the step lay of a put; Put. Conditions: the power stays.
  Put. Conditions: the power stays; counts that have not come to their ends.
-/
import Derived.Test.YtepncgeaehjhiaaPart7
import Derived.Deep.CutRange
import Derived.Test.YtepncgeaehjhiaaPart6

namespace Go.Proofs.Ytepncgeaehjhiaa
open Go.RowKit

/-- the reader in memory -/
abbrev Reader (w : World) (g : Nat) (A : Option Addr) (m c : Nat) (a : Int) : Prop := Blk w g 85 #[.slice A m c, .int .i64 a]

/-- a record's length that is read -/
def lenE (r : Nat × Nat × Nat) : Nat := if r.2.2 ≠ 0 then r.2.2 else if 65536 < r.1 then 23 else 0
def LenPost (w : World) (g : Nat) (A : Option Addr) (m c : Nat) (r : Nat × Nat × Nat) (e : Ending) (w' : World) : Prop :=
  e = .returned (.tuple #[.int .i64 ((if lenE r = 0 then r.1 else 0 : Nat) : Int), .int .i64 (lenE r : Int)]) ∧ Reader w' g A m c r.2.1 ∧ Chg (fun k => k = g) w w'

set_option maxRecDepth 100000 in
set_option maxHeartbeats 1000000 in
theorem length_any (g : Nat) (A : Option Addr) (m c : Nat) (l : List UInt8) (at_ : Int) (w : World) (hb : Reader w g A m c at_) (h : RB w A m l) (hm : m ≤ 140737488355328) :
    Calls Try.prog 57 #[.pointer (some ⟨g, 0, none⟩)] w (LenPost w g A m c (uintR l at_)) := by
  have hc0 : w.cell? ⟨g, 0, none⟩ = some (.slice A m c) := by rw [hb.cell]; rfl
  have hc1 : w.cell? ⟨g, 1, none⟩ = some (.int .i64 at_) := by rw [hb.cell]; rfl
  have hf1 := hb.frozen 1
  have hU : ∀ n, Calls Try.prog 46 #[.slice A m c, .int .i64 at_] (w.drewN n) fun e w' => e = uintEnd (uintR l at_) ∧ w' = w.drewN n := fun n => uint_any A m c l at_ (w.drewN n) (h.drewN n) hm
  have hto := uintR_to l at_
  have hlt := uintR_lt l at_
  have herr := uintR_err l at_
  have hbad := uintR_bad l at_
  generalize uintR l at_ = r at hU hto hlt herr hbad ⊢
  obtain ⟨v, nx, er⟩ := r
  have HU := Lib.hid hU
  clear hU
  unfold uintEnd at HU
  simp only at hto hlt herr hbad
  by_cases he : er = 0
  · subst he
    clear herr hbad
    by_cases hv : 65536 < v
    · have hr : Hid (lenE (v, nx, 0) = 23) := by show _ = _; unfold lenE; rw [if_neg (by simp), if_pos hv]
      have hr2 : Hid ((if lenE (v, nx, 0) = 0 then v else 0) = 0) := by show _ = _; rw [hr.out]; rfl
      go_enter Try.func57, Try.ntmps57
      go_wp2
      go_quiet ((go_at_call 46; exact Calls.quiet_of_same (HU.out _)))
      go_wp2
      go_ret2
      refine ⟨?_, ?_, ?_⟩
      · rw [hr.out]
        simp
      · exact (hb.drewN nq).set 1 (.int .i64 (nx : Int))
      · exact Chg.setCell (S := fun k => k = g) ((Chg.refl _ w).drewN nq) (p := ⟨g, 1, none⟩) (.inr rfl) _
    · have hv2 : v ≤ 65536 := by omega
      have hr : Hid (lenE (v, nx, 0) = 0) := by show _ = _; unfold lenE; rw [if_neg (by simp), if_neg hv]
      have hr2 : Hid ((if lenE (v, nx, 0) = 0 then v else 0) = v) := by show _ = _; rw [hr.out]; rfl
      clear hv
      go_enter Try.func57, Try.ntmps57
      go_wp2
      go_quiet ((go_at_call 46; exact Calls.quiet_of_same (HU.out _)))
      go_wp2
      go_ret2
      refine ⟨?_, ?_, ?_⟩
      · rw [hr.out]
        simp
      · exact (hb.drewN nq).set 1 (.int .i64 (nx : Int))
      · exact Chg.setCell (S := fun k => k = g) ((Chg.refl _ w).drewN nq) (p := ⟨g, 1, none⟩) (.inr rfl) _
  · have hee : ((er : Int) != 0) = true := by simp; omega
    have hr : Hid (lenE (v, nx, er) = er) := by show _ = _; unfold lenE; rw [if_pos he]
    have hr2 : Hid ((if lenE (v, nx, er) = 0 then v else 0) = 0) := by show _ = _; rw [hr.out, if_neg he]
    have He := Lib.hid he
    clear hbad herr he
    go_enter Try.func57, Try.ntmps57
    go_wp2
    go_quiet ((go_at_call 46; exact Calls.quiet_of_same (HU.out _)))
    go_wp2
    go_ret2
    refine ⟨?_, ?_, ?_⟩
    · have he := He.out
      rw [hr.out]
      simp [he]
    · exact (hb.drewN nq).set 1 (.int .i64 (nx : Int))
    · exact Chg.setCell (S := fun k => k = g) ((Chg.refl _ w).drewN nq) (p := ⟨g, 1, none⟩) (.inr rfl) _

/-- four bytes as a number, and n of them -/
def beN (l : List UInt8) : Nat := l.foldl (fun s c => s * 256 + c.toNat) 0
theorem beN_snoc (l : List UInt8) (c : UInt8) : beN (l ++ [c]) = beN l * 256 + c.toNat := by unfold beN; rw [List.foldl_append]; rfl
theorem beN_lt (n : Nat) : ∀ l : List UInt8, l.length = n → beN l < 256 ^ n := by
  induction n with
  | zero => intro l h; have : l = [] := List.eq_nil_of_length_eq_zero h; subst this; simp [beN]
  | succ n ih =>
    intro l h
    obtain ⟨a, c, rfl⟩ : ∃ a c, l = a ++ [c] := ⟨l.dropLast, l.getLast (by intro e; subst e; simp at h), (List.dropLast_concat_getLast _).symm⟩
    have h1 := ih a (by simpa using h)
    rw [beN_snoc, Nat.pow_succ]
    have := c.toNat_lt
    omega
theorem beN_four (s : Nat) (h : s < 4294967296) : beN (four s) = s := by
  show (((0 * 256 + (UInt8.ofNat (s / 16777216)).toNat) * 256 + (UInt8.ofNat (s / 65536)).toNat) * 256 + (UInt8.ofNat (s / 256)).toNat) * 256 + (UInt8.ofNat s).toNat = s
  simp only [UInt8.toNat_ofNat']
  omega
theorem four_beN (l : List UInt8) (h : l.length = 4) : four (beN l) = l := by
  match l, h with
  | [a, b, c, d], _ =>
    have ha := a.toNat_lt
    have hb := b.toNat_lt
    have hc := c.toNat_lt
    have hd := d.toNat_lt
    have e : beN [a, b, c, d] = ((a.toNat * 256 + b.toNat) * 256 + c.toNat) * 256 + d.toNat := by simp [beN]
    unfold four
    rw [e]
    have e1 : UInt8.ofNat ((((a.toNat * 256 + b.toNat) * 256 + c.toNat) * 256 + d.toNat) / 16777216) = a := UInt8.toNat_inj.1 (by rw [UInt8.toNat_ofNat']; omega)
    have e2 : UInt8.ofNat ((((a.toNat * 256 + b.toNat) * 256 + c.toNat) * 256 + d.toNat) / 65536) = b := UInt8.toNat_inj.1 (by rw [UInt8.toNat_ofNat']; omega)
    have e3 : UInt8.ofNat ((((a.toNat * 256 + b.toNat) * 256 + c.toNat) * 256 + d.toNat) / 256) = c := UInt8.toNat_inj.1 (by rw [UInt8.toNat_ofNat']; omega)
    have e4 : UInt8.ofNat ((((a.toNat * 256 + b.toNat) * 256 + c.toNat) * 256 + d.toNat)) = d := UInt8.toNat_inj.1 (by rw [UInt8.toNat_ofNat']; omega)
    rw [e1, e2, e3, e4]
theorem or_be (s c : Nat) (hs : s < 16777216) (hc : c < 256) : bits .or .u32 (IntKind.u32.wrap ((s : Int) * 256)) (c : Int) = ((s * 256 + c : Nat) : Int) := by
  have e : IntKind.u32.wrap ((s : Int) * 256) = ((s * 256 : Nat) : Int) := by simp only [IntKind.wrap_u32']; omega
  rw [e, u32_or_nat _ _ (by omega) (by omega), nat_join 8 _ _ (by omega) (by omega)]

theorem or_be' (s c : Nat) (hs : s < 16777216) (hc : c < 256) : bits .or .u32 ((s : Int) * 256) (c : Int) = ((s * 256 + c : Nat) : Int) := by
  have := or_be s c hs hc
  rwa [show IntKind.u32.wrap ((s : Int) * 256) = (s : Int) * 256 from by simp only [IntKind.wrap_u32']; omega] at this

/-- the record behind a length: its bytes, the place behind it, the error -/
def recOf (l : List UInt8) (nx n : Nat) : List UInt8 × Nat × Nat :=
  if l.length - nx < 4 + n then ([], nx, 20) else if crc ((l.drop (nx + 4)).take n) ≠ beN ((l.drop nx).take 4) then ([], nx + 4 + n, 22) else ((l.drop (nx + 4)).take n, nx + 4 + n, 0)
def RecPost (w : World) (g : Nat) (A : Option Addr) (m c : Nat) (r : List UInt8 × Nat × Nat) (e : Ending) (w' : World) : Prop :=
  ∃ B n C, e = .returned (.tuple #[.slice B n C, .int .i64 (r.2.2 : Int)]) ∧ OB w' w.heap.size 5 B n C r.1 ∧ Reader w' g A m c r.2.1 ∧ Chg (fun k => k = g) w w'

set_option maxRecDepth 100000 in
set_option maxHeartbeats 2000000 in
theorem record_short (g : Nat) (A : Option Addr) (m c nx n : Nat) (w : World) (hb : Reader w g A m c nx) (hm : m ≤ 140737488355328) (hn : n ≤ 65536) (hnx : nx ≤ m) (hs : m - nx < 4 + n) :
    Calls Try.prog 58 #[.pointer (some ⟨g, 0, none⟩), .int .i64 (n : Int)] w (RecPost w g A m c ([], nx, 20)) := by
  have hc0 : w.cell? ⟨g, 0, none⟩ = some (.slice A m c) := by rw [hb.cell]; rfl
  have hc1 : w.cell? ⟨g, 1, none⟩ = some (.int .i64 (nx : Int)) := by rw [hb.cell]; rfl
  have e1 : IntKind.i64.wrap ((m : Int) - nx) = (m : Int) - nx := IntWalk.i64_in _ (by omega)
  have e2 : IntKind.i64.wrap (4 + (n : Int)) = 4 + (n : Int) := IntWalk.i64_in _ (by omega)
  have e3 : decide ((m : Int) - nx < 4 + (n : Int)) = true := by simp; omega
  go_enter Try.func58, Try.ntmps58
  go_wp2
  go_quiet (fail)
  go_wp2
  go_ret2
  exact ⟨none, 0, 0, by simp, Own.nil _ _ _ _, hb.drewN _, (Chg.refl _ w).drewN _⟩

set_option maxRecDepth 100000 in
set_option maxHeartbeats 2000000 in
theorem record_any (g : Nat) (ad : Addr) (m c nx n : Nat) (l : List UInt8) (w : World) (hb : Reader w g (some ad) m c nx) (h : RB w (some ad) m l) (hg : ad.block ≠ g) (hm : m ≤ 140737488355328) (hc : m ≤ c ∧ c ≤ 9223372036854775807) (hn : n ≤ 65536) (hnx : nx ≤ m) (hs : 4 + n ≤ m - nx) :
    Calls Try.prog 58 #[.pointer (some ⟨g, 0, none⟩), .int .i64 (n : Int)] w (RecPost w g (some ad) m c (recOf l nx n)) := by
  have hr : recOf l nx n = (if crc ((l.drop (nx + 4)).take n) ≠ beN ((l.drop nx).take 4) then ([], nx + 4 + n, 22) else ((l.drop (nx + 4)).take n, nx + 4 + n, 0)) := by
    unfold recOf
    rw [if_neg (by rw [h.1]; omega)]
  have Hr := Lib.hid hr
  clear hr
  have hc0 : w.cell? ⟨g, 0, none⟩ = some (.slice (some ad) m c) := by rw [hb.cell]; rfl
  have hc1 : w.cell? ⟨g, 1, none⟩ = some (.int .i64 (nx : Int)) := by rw [hb.cell]; rfl
  have e1 : IntKind.i64.wrap ((m : Int) - nx) = (m : Int) - nx := IntWalk.i64_in _ (by omega)
  have e2 : IntKind.i64.wrap (4 + (n : Int)) = 4 + (n : Int) := IntWalk.i64_in _ (by omega)
  have e3 : decide ((m : Int) - nx < 4 + (n : Int)) = false := by simp; omega
  have e4 : IntKind.i64.wrap ((nx : Int) + 4) = (nx : Int) + 4 := IntWalk.i64_in _ (by omega)
  have hcn : ¬ c = nx := by omega
  go_enter Try.func58, Try.ntmps58
  go_wp2
  go_quiet (fail)
  go_wp2
  go_quiet (fail)
  go_wp2
  simp only [Nat.add_sub_cancel_left]
  generalize hw0 : (w.drewN _).drewN nq = w0
  have hb0 : Reader w0 g (some ad) m c nx := by rw [← hw0]; exact hb
  have h0 : RB w0 (some ad) m l := by rw [← hw0]; exact h
  have hch0 : Chg (fun k => k = g) w w0 := by rw [← hw0]; exact ((Chg.refl _ w).drewN _).drewN _
  have h4 : RB w0 (some (ad.add nx)) 4 ((l.drop nx).take 4) := (h0.drop nx).take (by omega)
  clear hw0 hb h hc0 hc1 e3
  have hsz0 := hch0.size
  go_loop [6, 38] (fun sc si => ∃ (j s : Nat), si = .int .i64 (j : Int) ∧ sc = .int .u32 (s : Int) ∧ j ≤ 4 ∧ Hid (s = beN (((l.drop nx).take 4).take j)) ∧ s < 256 ^ j) (fun _ si => 4 - (intOf si).toNat)
  case atStart => exact ⟨0, 0, rfl, rfl, by omega, rfl, by simp⟩
  case round =>
    obtain ⟨j, s, rfl, rfl, hj, Hs, hs8⟩ := hrel
    by_cases hlt : j < 4
    · have hs24 : s < 16777216 := by
        have : 256 ^ j ≤ 256 ^ 3 := Nat.pow_le_pow_right (by omega) (by omega)
        omega
      obtain ⟨ad', y, e, hy, hcy⟩ := h4.at_ hlt
      injection e with e
      subst e
      have hy8 := y.toNat_lt
      have hor := or_be' s y.toNat hs24 hy8
      have Hs2 : Hid (s * 256 + y.toNat = beN (((l.drop nx).take 4).take (j + 1))) := by
        show _ = _
        rw [List.take_add_one, hy, Hs.out]
        exact (beN_snoc _ _).symm
      have hs82 : s * 256 + y.toNat < 256 ^ (j + 1) := by rw [Nat.pow_succ]; omega
      have Hs82 := Lib.hid hs82
      clear hs82 hs8 Hs hy h4
      go_wp2
      go_round
      case rel => exact ⟨j + 1, s * 256 + y.toNat, by go_num, by simp, by omega, Hs2, Hs82.out⟩
      case measure => simp [intOf]; omega
    · obtain rfl : j = 4 := by omega
      have h48 : ((l.drop nx).take 4).take 4 = (l.drop nx).take 4 := by rw [List.take_take]; rfl
      rw [h48] at Hs
      have hs32 : s < 4294967296 := by omega
      have hc0 : w0.cell? ⟨g, 0, none⟩ = some (.slice (some ad) m c) := by rw [hb0.cell]; rfl
      have hc1 : w0.cell? ⟨g, 1, none⟩ = some (.int .i64 (nx : Int)) := by rw [hb0.cell]; rfl
      have hf1 := hb0.frozen 1
      have e5 : IntKind.i64.wrap ((nx : Int) + 4 + (n : Int)) = (nx : Int) + 4 + (n : Int) := IntWalk.i64_in _ (by omega)
      have hrec : RB w0 (some (ad.add (nx + 4))) n ((l.drop (nx + 4)).take n) := (h0.drop (nx + 4)).take (by omega)
      clear h48 h4 hs8 hj
      go_upto_region 9 with (fail)
      go_cut [9] from 10 to 80 (fun sr wx => ∃ B C, sr = .slice B n C ∧ Reader wx g (some ad) m c nx ∧ RB wx B n ((l.drop (nx + 4)).take n) ∧ (∀ bd, B = some bd → 0 < n → bd.block ≠ g) ∧ Chg (fun k => k = g) w wx ∧ C ≤ 9223372036854775807)
      case first =>
        by_cases hcn2 : c = nx + 4
        · have hn0 : n = 0 := by omega
          subst hn0
          subst hcn2
          go_wp2
          go_quiet (fail)
          go_wp2
          go_meet
          exact ⟨_, _, rfl, hb0.drewN _, ⟨rfl, Rd.nil _ _⟩, fun _ _ h => by omega, hch0.drewN _, by omega⟩
        · go_wp2
          go_quiet (fail)
          go_wp2
          go_meet
          refine ⟨_, c - (nx + 4), by rw [show nx + 4 + n - (nx + 4) = n from by omega], hb0.drewN _, hrec.drewN _, ?_, hch0.drewN _, ?_⟩
          · intro bd e _
            injection e with e
            subst e
            rw [block_add]
            exact hg
          · omega
      case rest =>
        clear hc0 hc1 hf1 hb0 hrec hch0 h0
        obtain ⟨B, C, rfl, hb0, hrec, hB, hch0, hC⟩ := hcut
        have hc0 : wc.cell? ⟨g, 0, none⟩ = some (.slice (some ad) m c) := by rw [hb0.cell]; rfl
        have hc1 : wc.cell? ⟨g, 1, none⟩ = some (.int .i64 (nx : Int)) := by rw [hb0.cell]; rfl
        have hf1 := hb0.frozen 1
        go_wp2_with fail
        have hb1 : Reader (wc.setCell ⟨g, 1, none⟩ (.int .i64 ((nx : Int) + (4 + (n : Int))))) g (some ad) m c ((nx : Int) + (4 + (n : Int))) := hb0.set 1 _
        have hr1 : RB (wc.setCell ⟨g, 1, none⟩ (.int .i64 ((nx : Int) + (4 + (n : Int))))) B n ((l.drop (nx + 4)).take n) := RB.setFar hrec hB _
        have hch1 : Chg (fun k => k = g) w (wc.setCell ⟨g, 1, none⟩ (.int .i64 ((nx : Int) + (4 + (n : Int))))) := hch0.setCell (p := ⟨g, 1, none⟩) (.inr rfl) _
        refine (sum_any B n C _ _ hr1 (by omega)).mono ?_
        rintro e w5 ⟨rfl, hg5⟩
        have hb5 := hb1.grew hg5
        have hr5 := hr1.grew hg5
        have hch5 := hch1.grow hg5
        have hs5 := hch5.size
        have hcl := crc_lt ((l.drop (nx + 4)).take n)
        have hnx4 : ((nx + 4 + n : Nat) : Int) = (nx : Int) + (4 + (n : Int)) := by omega
        rw [← hnx4] at hb5
        clear hb1 hr1 hch1 hg5 hb0 hrec hch0 hc0 hc1 hf1 hnx4
        obtain ⟨rec, hrec⟩ : ∃ rec, rec = (l.drop (nx + 4)).take n := ⟨_, rfl⟩
        rw [← hrec] at hr5 hcl ⊢
        have Hrec := Lib.hid hrec
        obtain ⟨q, hq⟩ : ∃ q, q = crc rec := ⟨_, rfl⟩
        rw [← hq] at hcl ⊢
        have Hq := Lib.hid hq
        clear hrec hq
        by_cases hqs : q = s
        · have hres : Hid (recOf l nx n = (rec, nx + 4 + n, 0)) := by
            show _ = _
            rw [Hr.out, ← Hrec.out, ← Hq.out, ← Hs.out, if_neg (by simp [hqs])]
          have ht : ((q : Int) != (s : Int)) = false := by simp; omega
          have hown : OB (w5.alloc (.cells #[] 5)) w.heap.size 5 (some ⟨w5.heap.size, 0, none⟩) 0 0 [] := Own.made w5 w.heap.size 5 1 hs5
          have hr6 := hr5.grew ((Chg.refl _ w5).alloc (.cells #[] 5))
          have hb6 := hb5.alloc (.cells #[] 5)
          have hch6 := hch5.alloc (.cells #[] 5)
          have hgl := hb5.lt
          clear hqs
          go_wp2_with (at_builtin; refine wpList_appB rfl _ _ rfl w.heap.size _ 0 0 [] rfl hown (by simp; omega) B n C rec rfl hr6 (by omega) ?_; intro A7 c7 w7 h7)
          go_ret2
          simp only [Nat.zero_add, List.nil_append] at h7
          rw [hres.out]
          refine ⟨A7, n, c7, by simp, h7.ob, ?_, ?_⟩
          · refine hb6.chg h7.chg ?_
            rintro ⟨ad', e, e2⟩
            injection e with e
            subst e
            simp at e2
            omega
          · refine hch6.step h7.chg ?_
            rintro k hk ⟨ad', e, e2⟩
            injection e with e
            subst e
            simp at e2
            omega
        · have hres : Hid (recOf l nx n = ([], nx + 4 + n, 22)) := by
            show _ = _
            rw [Hr.out, ← Hrec.out, ← Hq.out, ← Hs.out, if_pos hqs]
          have ht : ((q : Int) != (s : Int)) = true := by simp; omega
          clear hqs
          go_wp2
          go_ret2
          rw [hres.out]
          exact ⟨none, 0, 0, by simp, Own.nil _ _ _ _, hb5, hch5⟩

/-- the frame at a place of some bytes: the record, the place behind it, the error -/
def unfOf (l : List UInt8) (r : Nat × Nat × Nat) : List UInt8 × Nat × Nat :=
  if lenE r ≠ 0 then ([], 0, lenE r) else if (recOf l r.2.1 r.1).2.2 ≠ 0 then ([], 0, (recOf l r.2.1 r.1).2.2) else recOf l r.2.1 r.1
def unfR (l : List UInt8) (at_ : Int) : List UInt8 × Nat × Nat := unfOf l (uintR l at_)
def UnfPost (w : World) (r : List UInt8 × Nat × Nat) (e : Ending) (w' : World) : Prop :=
  ∃ B n C, e = .returned (.tuple #[.slice B n C, .int .i64 (r.2.1 : Int), .int .i64 (r.2.2 : Int)]) ∧ OB w' w.heap.size 5 B n C r.1 ∧ Grew w w'

set_option maxRecDepth 100000 in
set_option maxHeartbeats 2000000 in
theorem unframe_any (A : Option Addr) (m c : Nat) (l : List UInt8) (at_ : Int) (w : World) (h : RB w A m l) (hm : m ≤ 140737488355328) (hc : m ≤ c ∧ c ≤ 9223372036854775807) :
    Calls Try.prog 45 #[.slice A m c, .int .i64 at_] w (UnfPost w (unfR l at_)) := by
  have hb := Blk.new w 85 #[.slice A m c, .int .i64 at_]
  have hr := h.grew ((Chg.refl _ w).alloc (.cells #[.slice A m c, .int .i64 at_] 85))
  have hL := length_any w.heap.size A m c l at_ _ hb hr hm
  have hto := uintR_to l at_
  rw [h.1] at hto
  show Calls _ _ _ _ (UnfPost w (unfOf l (uintR l at_)))
  generalize uintR l at_ = r at hL hto ⊢
  obtain ⟨v, nx, er⟩ := r
  simp only at hto
  have HL := Lib.hid hL
  clear hL
  unfold LenPost at HL
  simp only at HL
  by_cases he : lenE (v, nx, er) = 0
  · have hv : v ≤ 65536 := by
      unfold lenE at he
      simp only at he
      split at he
      · omega
      · split at he
        · cases he
        · omega
    have h1 : Hid (unfOf l (v, nx, er) = if (recOf l nx v).2.2 ≠ 0 then ([], 0, (recOf l nx v).2.2) else recOf l nx v) := by
      show _ = _
      unfold unfOf
      rw [if_neg (by simpa using he)]
    rw [he] at HL
    simp only [if_true] at HL
    clear he
    by_cases hs : m - nx < 4 + v
    · have h2 : Hid (unfOf l (v, nx, er) = ([], 0, 20)) := by
        show _ = _
        rw [h1.out]
        have : recOf l nx v = ([], nx, 20) := by unfold recOf; rw [if_pos (by rw [h.1]; exact hs)]
        rw [this]
        rfl
      clear h1
      go_enter Try.func45, Try.ntmps45
      go_wp2_with fail
      go_in
      go_wp2_with fail
      refine HL.out.mono ?_
      rintro e w2 ⟨rfl, hb2, hc2⟩
      have hg2 : Grew w w2 := ((Chg.refl _ w).alloc _).step hc2 (by rintro k hk rfl; omega)
      go_wp2_with fail
      refine (record_short w.heap.size A m c nx v w2 hb2 hm hv hto hs).mono ?_
      rintro e w3 ⟨B, n, C, rfl, ho3, hb3, hc3⟩
      have hn := ho3.len
      simp at hn
      subst hn
      have hg3 : Grew w w3 := hg2.step hc3 (by rintro k hk rfl; omega)
      go_wp2
      go_ret3
      rw [h2.out]
      exact ⟨none, 0, 0, by simp, Own.nil _ _ _ _, hg3⟩
    · have hmp : 0 < m := by omega
      obtain ⟨ad, x, rfl, _, _⟩ := h.at_ (k := 0) hmp
      have hne : ad.block ≠ w.heap.size := by have := h.lt ad rfl hmp; omega
      have hto2 : (recOf l nx v).2.2 = 0 ∨ (recOf l nx v).2.2 = 22 := by
        unfold recOf
        rw [if_neg (by rw [h.1]; exact hs)]
        split
        · exact .inr rfl
        · exact .inl rfl
      have hrec := fun w2 hb2 h2 => record_any w.heap.size ad m c nx v l w2 hb2 h2 hne hm hc hv hto (by omega)
      generalize recOf l nx v = q at h1 hto2 hrec ⊢
      obtain ⟨ql, qa, qe⟩ := q
      simp only at h1 hto2
      have Hrec := Lib.hid hrec
      clear hrec hs
      have hx : Grew w (w.alloc (.cells #[.slice (some ad) m c, .int .i64 at_] 85)) := (Chg.refl _ w).alloc _
      go_enter Try.func45, Try.ntmps45
      go_wp2_with fail
      go_in
      go_wp2_with fail
      refine HL.out.mono ?_
      rintro e w2 ⟨rfl, hb2, hc2⟩
      have hg2 : Grew w w2 := hx.step hc2 (by rintro k hk rfl; omega)
      have hr2 := h.grew hg2
      have hs2 := hg2.size
      go_wp2_with fail
      refine (Hrec.out _ hb2 hr2).mono ?_
      rintro e w3 ⟨B, n, C, rfl, ho3, hb3, hc3⟩
      have hg3 : Grew w w3 := hg2.step hc3 (by rintro k hk rfl; omega)
      have hcc0 : w3.cell? ⟨w.heap.size, 0, none⟩ = some (.slice (some ad) m c) := by rw [hb3.cell]; rfl
      have hcc1 : w3.cell? ⟨w.heap.size, 1, none⟩ = some (.int .i64 (qa : Int)) := by rw [hb3.cell]; rfl
      rcases hto2 with rfl | rfl
      · go_wp2
        go_quiet (fail)
        go_wp2
        go_ret3
        have := h1.out
        rw [this]
        exact ⟨B, n, C, by simp, (ho3.mono hs2).drewN _, hg3.drewN _⟩
      · go_wp2
        go_ret3
        have := h1.out
        rw [this]
        exact ⟨none, 0, 0, by simp, Own.nil _ _ _ _, hg3⟩
  · have h1 : Hid (unfOf l (v, nx, er) = ([], 0, lenE (v, nx, er))) := by
      show _ = _
      unfold unfOf
      rw [if_pos he]
    rw [if_neg he] at HL
    generalize lenE (v, nx, er) = q at h1 HL he
    have hq : ((q : Int) != 0) = true := by simp; omega
    clear he
    go_enter Try.func45, Try.ntmps45
    go_wp2_with fail
    go_in
    go_wp2_with fail
    refine HL.out.mono ?_
    rintro e w2 ⟨rfl, hb2, hc2⟩
    have hg2 : Grew w w2 := ((Chg.refl _ w).alloc _).step hc2 (by rintro k hk rfl; omega)
    go_wp2
    go_ret3
    rw [h1.out]
    exact ⟨none, 0, 0, by simp, Own.nil _ _ _ _, hg2⟩
end Go.Proofs.Ytepncgeaehjhiaa

namespace Go.Proofs.Ytepncgeaehjhiaa
open Go.RowKit

theorem uintR_at (p r : List UInt8) (v : Nat) (hv : v < 18446744073709551616) : uintR (p ++ (uv v ++ r)) (p.length : Int) = (v, p.length + (uv v).length, 0) := by
  have h := ur_uv r v 0 0 (Or.inl rfl) (by omega) (by omega)
  unfold uintR
  rw [if_pos ⟨by omega, by simp only [List.length_append]; omega⟩, Int.toNat_natCast, List.drop_left, h]
  simp
theorem unfR_at (p q r : List UInt8) (hq : q.length ≤ 65536) : unfR (p ++ (frameB q ++ r)) (p.length : Int) = (q, p.length + ((uv q.length).length + 4 + q.length), 0) := by
  unfold unfR frameB
  rw [show p ++ (uv q.length ++ four (crc q) ++ q ++ r) = p ++ (uv q.length ++ (four (crc q) ++ (q ++ r))) by simp only [List.append_assoc], uintR_at p _ q.length (by omega)]
  have h4 : (four (crc q)).length = 4 := rfl
  have e : (p ++ (uv q.length ++ (four (crc q) ++ (q ++ r)))).drop (p.length + (uv q.length).length) = four (crc q) ++ (q ++ r) := by
    rw [← List.append_assoc, ← List.length_append, List.drop_left]
  have e2 : (p ++ (uv q.length ++ (four (crc q) ++ (q ++ r)))).drop (p.length + (uv q.length).length + 4) = q ++ r := by
    rw [← List.drop_drop, e, List.drop_left' h4]
  have hrec : recOf (p ++ (uv q.length ++ (four (crc q) ++ (q ++ r)))) (p.length + (uv q.length).length) q.length = (q, p.length + (uv q.length).length + 4 + q.length, 0) := by
    unfold recOf
    rw [if_neg (by simp only [List.length_append, h4]; omega), e, e2, List.take_left' h4, List.take_left, beN_four _ (crc_lt q)]
    simp
  unfold unfOf
  have hle : lenE (q.length, p.length + (uv q.length).length, 0) = 0 := by
    unfold lenE
    rw [if_neg (by simp), if_neg (by simp only; omega)]
  rw [hle]
  simp only [hrec]
  simp
  omega

/-! ### What lies in a store -/
structure OEnt where
  key : ByteArray
  data : List UInt8
  gen : Nat
def hdr (g : Nat) : List UInt8 := frameB (uv g)
theorem frameB_length (l : List UInt8) : (frameB l).length = (uv l.length).length + 4 + l.length := by
  unfold frameB
  rw [List.length_append, List.length_append]
  rfl
theorem hdr_length {g : Nat} (hg : g < 18446744073709551616) : (hdr g).length ≤ 24 := by
  have h1 := uv_len10 hg
  have h2 := uv_len10 (v := (uv g).length) (by omega)
  unfold hdr
  rw [frameB_length]
  omega
def FEnt.view (e : FEnt) : ByteArray × List UInt8 × Nat := (e.nm, e.l, e.sy)
def OEnt.view (o : OEnt) : ByteArray × List UInt8 × Nat := (oN ++ o.key, hdr o.gen ++ o.data, (hdr o.gen ++ o.data).length)
structure OEnt.Ok (o : OEnt) : Prop where
  key : keyB o.key = true
  gen : o.gen < 18446744073709551616
  data : o.data.length ≤ 1048576
/-- the store s over the disk d -/
structure Stor (S : Nat → Prop) (w : World) (s d m : Nat) (Ob : List OEnt) (E : List FEnt) (clock : Nat) (armed : Bool) (left kp : Int) (n : Nat) : Prop where
  st : Blk w s 56 #[.pointer (some ⟨d, 0, none⟩)]
  sn : ¬ S s
  fs : FS S w d m E clock true armed left kp n
  vw : E.map FEnt.view = Ob.map OEnt.view
  ok : ∀ o ∈ Ob, o.Ok

theorem keyB_size {x : ByteArray} (h : keyB x = true) : x.size ≤ 56 := by
  unfold keyB at h
  simp only [Bool.and_eq_true, decide_eq_true_eq] at h
  exact h.1.1.1
theorem keyB_nm {x : ByteArray} (h : keyB x = true) : NmOk x := by
  unfold keyB at h
  simp only [Bool.and_eq_true] at h
  exact (nameB_iff x).1 h.1.1.2
theorem lst_append (a b : ByteArray) : lst (a ++ b) = lst a ++ lst b := by simp [lst]
theorem nm_pre (p x : ByteArray) (hp : lst p = [111, 47] ∨ lst p = [116, 47]) (hx : keyB x = true) : NmOk (p ++ x) := by
  have h1 := keyB_size hx
  have h2 := (nameB_iff x).2 (keyB_nm hx)
  refine (nameB_iff _).1 ?_
  unfold nameB at h2 ⊢
  have hs : (p ++ x).size = 2 + x.size := by
    rw [← lst_length, ← lst_length x, lst_append, List.length_append]
    rcases hp with hp | hp <;> rw [hp] <;> rfl
  rw [hs, lst_append]
  simp only [Bool.and_eq_true, decide_eq_true_eq] at h2 ⊢
  refine ⟨⟨by omega, by omega⟩, ?_⟩
  rw [List.all_append, h2.2]
  rcases hp with hp | hp <;> rw [hp] <;> rfl
theorem nm_o {x : ByteArray} (hx : keyB x = true) : NmOk (oN ++ x) := nm_pre oN x (.inl rfl) hx
theorem nm_t {x : ByteArray} (hx : keyB x = true) : NmOk (tN ++ x) := nm_pre tN x (.inr rfl) hx
theorem oN_inj {x y : ByteArray} (h : oN ++ x = oN ++ y) : x = y := by
  have := congrArg lst h
  rw [lst_append, lst_append] at this
  exact lst_inj.1 (List.append_cancel_left this)
theorem oN_tN (x y : ByteArray) : oN ++ x ≠ tN ++ y := fun h => by
  have := congrArg lst h
  rw [lst_append, lst_append] at this
  injection this with h1 _
  cases h1

section
variable {S : Nat → Prop} {w w' : World} {s d m : Nat} {Ob : List OEnt} {E : List FEnt} {clock : Nat} {armed : Bool} {left kp : Int} {n : Nat}
theorem Stor.ent (h : Stor S w s d m Ob E clock armed left kp n) {i : Nat} {o : OEnt} (hi : Ob[i]? = some o) : ∃ f, E[i]? = some f ∧ f.nm = oN ++ o.key ∧ f.l = hdr o.gen ++ o.data ∧ f.sy = f.l.length := by
  have h1 : (E.map FEnt.view)[i]? = some o.view := by rw [h.vw]; simp [hi]
  rw [List.getElem?_map] at h1
  cases hE : E[i]? with
  | none => rw [hE] at h1; cases h1
  | some f =>
    rw [hE] at h1
    injection h1 with h1
    injection h1 with h2 h3
    injection h3 with h3 h4
    exact ⟨f, rfl, h2, h3, by rw [h4, h3]⟩
theorem Stor.mem (h : Stor S w s d m Ob E clock armed left kp n) {f : FEnt} (hf : f ∈ E) : ∃ o ∈ Ob, f.nm = oN ++ o.key := by
  have : f.view ∈ E.map FEnt.view := List.mem_map_of_mem hf
  rw [h.vw] at this
  obtain ⟨o, ho, he⟩ := List.mem_map.1 this
  injection he with h1 _
  exact ⟨o, ho, h1.symm⟩
theorem Stor.no (h : Stor S w s d m Ob E clock armed left kp n) {x : ByteArray} (hx : ∀ o ∈ Ob, o.key ≠ x) : ∀ f ∈ E, f.nm ≠ oN ++ x := fun f hf e => by
  obtain ⟨o, ho, h1⟩ := h.mem hf
  exact hx o ho (oN_inj (h1.symm.trans e))
theorem Stor.noT (h : Stor S w s d m Ob E clock armed left kp n) (x : ByteArray) : ∀ f ∈ E, f.nm ≠ tN ++ x := fun f hf e => by
  obtain ⟨o, ho, h1⟩ := h.mem hf
  exact oN_tN o.key x (h1.symm.trans e)
theorem Stor.len (h : Stor S w s d m Ob E clock armed left kp n) : E.length = Ob.length := by
  have := congrArg List.length h.vw
  simpa using this
theorem Stor.grew (h : Stor S w s d m Ob E clock armed left kp n) (hc : Grew w w') : Stor S w' s d m Ob E clock armed left kp n := ⟨h.st.grew hc, h.sn, h.fs.grew hc, h.vw, h.ok⟩
theorem Stor.chg {T : Nat → Prop} (h : Stor S w s d m Ob E clock armed left kp n) (hc : Chg T w w') (hs : ¬ T s) (hT : ∀ k, S k → ¬ T k) : Stor S w' s d m Ob E clock armed left kp n := ⟨h.st.chg hc hs, h.sn, h.fs.chg hc hT, h.vw, h.ok⟩

/-- what a read of an object that is there gives -/
def GotO (w : World) (o : OEnt) (e : Ending) (w' : World) : Prop :=
  ∃ A c, e = .returned (.tuple #[.slice A o.data.length c, .int .u64 (o.gen : Int), .int .i64 0]) ∧ RB w' A o.data.length o.data ∧ (o.data.length ≤ c ∧ c ≤ 9223372036854775807) ∧ (∀ ad, A = some ad → w.heap.size ≤ ad.block) ∧ Grew w w'

set_option maxHeartbeats 2000000 in
theorem oread_ok (h : Stor S w s d m Ob E clock armed left kp n) {i : Nat} {o : OEnt} (hi : Ob[i]? = some o) :
    Calls Try.prog 29 #[.pointer (some ⟨s, 0, none⟩), .string o.key] w (GotO w o) := by
  have ho := h.ok o (List.mem_of_getElem? hi)
  obtain ⟨f, hf, hnm, hl, hsy⟩ := h.ent hi
  have hR := fs_read h.fs hf (hnm ▸ nm_o ho.key)
  have hll : f.l.length ≤ 4194304 := (h.fs.ok f (List.mem_of_getElem? hf)).len
  have s0 : w.cell? ⟨s, 0, none⟩ = some (.pointer (some ⟨d, 0, none⟩)) := h.st.cell 0
  have hsz := keyB_size ho.key
  have hhl := hdr_length ho.gen
  rw [hnm] at hR
  unfold oN at hR
  have hU := unfR_at [] (uv o.gen) o.data (by have := uv_len10 ho.gen; omega)
  have hV := uintR_at [] [] o.gen ho.gen
  have hul := uv_len10 ho.gen
  simp only [List.nil_append, List.append_nil, List.length_nil, Nat.zero_add] at hU hV
  have hh : (uv (uv o.gen).length).length + 4 + (uv o.gen).length = (hdr o.gen).length := by unfold hdr; rw [frameB_length]
  rw [hh] at hU
  rw [show frameB (uv o.gen) = hdr o.gen from rfl, ← hl] at hU
  have hlen : f.l.length = (hdr o.gen).length + o.data.length := by rw [hl, List.length_append]
  have hdrop : f.l.drop (hdr o.gen).length = o.data := by rw [hl, List.drop_left]
  generalize f.l = l at *
  generalize (hdr o.gen).length = hn at *
  generalize hun : (uv o.gen).length = un at *
  generalize uv o.gen = ul at *
  generalize hdn : o.data.length = dn at *
  generalize hln : l.length = ln at *
  subst hlen
  have hU' : unfR l 0 = (ul, hn, 0) := hU
  have hV' : uintR ul 0 = (o.gen, un, 0) := hV
  clear hU hV
  have hUn := fun A c w h1 h2 h3 => hU' ▸ unframe_any A (hn + dn) c l 0 w h1 h2 h3
  have hVn := fun B k c w h1 h2 => hV' ▸ uint_any B k c ul 0 w h1 h2
  clear hU' hV'
  clear hf hnm hl hsy ho
  have h := Lib.hid h
  go_enter Try.func29, Try.ntmps29
  go_wp2_with fail
  refine hR.mono ?_
  rintro e w1 ⟨A1, c1, rfl, hO1, hG1⟩
  have hcap1 := hO1.cap
  go_wp2_with fail
  refine (hUn A1 c1 w1 hO1.rb (by omega) hcap1).mono ?_
  rintro e w2 ⟨B, k, C, rfl, hO2, hG2⟩
  obtain rfl : un = k := hun.symm.trans hO2.len
  clear hUn
  go_wp2_with fail
  refine (hVn B _ C w2 hO2.rb (by omega)).mono ?_
  unfold UintPost uintEnd
  rintro e w3 ⟨rfl, rfl⟩
  clear hVn
  have hdrop := Lib.hid hdrop
  have hdn := Lib.hid hdn
  have hln := Lib.hid hln
  clear hR
  have hrd := hO1.rb.dropO hn
  rw [Nat.add_sub_cancel_left, hdrop.out] at hrd
  have hrd := Lib.hid (hrd.grew hG2)
  have hG := Lib.hid (hG1.trans hG2)
  have hbk := Lib.hid (Own.blk_lt hO1)
  clear hO1 hdrop
  go_wp2
  · go_ret3
    obtain rfl : dn = 0 := by omega
    unfold GotO
    rw [hdn.out]
    refine ⟨A1, 0, rfl, ⟨hdn.out, by rw [List.eq_nil_of_length_eq_zero hdn.out]; exact Rd.nil _ _⟩, by omega, fun ad e => (hbk.out ad e).1, hG.out⟩
  · go_ret3
    unfold GotO
    rw [hdn.out]
    refine ⟨_, c1 - hn, rfl, hrd.out, by omega, ?_, hG.out⟩
    intro ad e
    cases A1 with
    | none => cases e
    | some a =>
      injection e with e
      subst e
      rw [block_add]
      exact (hbk.out a rfl).1
end
end Go.Proofs.Ytepncgeaehjhiaa

namespace Go.Proofs.Ytepncgeaehjhiaa
open Go.RowKit

set_option maxHeartbeats 2000000 in
theorem oread_none {S : Nat → Prop} {w : World} {s d m : Nat} {Ob : List OEnt} {E : List FEnt} {clock : Nat} {armed : Bool} {left kp : Int} {n : Nat} (h : Stor S w s d m Ob E clock armed left kp n) (x : ByteArray) (hx : keyB x = true) (hno : ∀ o ∈ Ob, o.key ≠ x) :
    Calls Try.prog 29 #[.pointer (some ⟨s, 0, none⟩), .string x] w fun e w' => e = .returned (.tuple #[.slice none 0 0, .int .u64 0, .int .i64 111]) ∧ w = w' := by
  have hR := fs_read_none h.fs (oN ++ x) (nm_o hx) (h.no hno)
  have s0 : w.cell? ⟨s, 0, none⟩ = some (.pointer (some ⟨d, 0, none⟩)) := h.st.cell 0
  have hsz := keyB_size hx
  unfold oN at hR
  clear hx h hno
  go_enter Try.func29, Try.ntmps29
  go_wp2_with fail
  refine hR.mono ?_
  rintro e w1 ⟨rfl, rfl⟩
  go_wp2
  go_ret3
  exact ⟨by simp, rfl⟩

set_option maxRecDepth 100000 in
set_option maxHeartbeats 2000000 in
theorem lay_step {w : World} {d : Nat} (p s : Nat) (x : ByteArray) (A : Option Addr) (k c : Nat) (data : List UInt8) (g : Nat) (hP : Blk w p 63 #[.pointer (some ⟨s, 0, none⟩), .string x, .slice A k c, .int .u64 (g : Int)]) (hS : Blk w s 56 #[.pointer (some ⟨d, 0, none⟩)]) (hxs : x.size ≤ 64)
    (hr : RB w A k data) (hk : k ≤ 1048576) (hg : g < 18446744073709551616) {R : World → Prop} {S : Nat → Prop} (hp : ¬ S p) (hs : ¬ S s)
    (hC : ∀ B cap w1, Grew w w1 → RB w1 B ((hdr g).length + k) (hdr g ++ data) → (∀ ad, B = some ad → w.heap.size ≤ ad.block) → Calls Try.prog 50 #[.pointer (some ⟨d, 0, none⟩), .string ((⟨#[116, 47]⟩ : ByteArray) ++ x), .slice B ((hdr g).length + k) cap] w1 fun e w' => e = .returned (.int .i64 0) ∧ R w' ∧ Chg S w1 w') :
    Calls Try.prog 32 #[.pointer (some ⟨p, 0, none⟩)] w fun e w' => e = .returned (.int .i64 0) ∧ R w' ∧ Chg S w w' := by
  have p0 : w.cell? ⟨p, 0, none⟩ = some (.pointer (some ⟨s, 0, none⟩)) := hP.cell 0
  have p1 : w.cell? ⟨p, 1, none⟩ = some (.string x) := hP.cell 1
  have p2 : w.cell? ⟨p, 2, none⟩ = some (.slice A k c) := hP.cell 2
  have p3 : w.cell? ⟨p, 3, none⟩ = some (.int .u64 (g : Int)) := hP.cell 3
  have s0 : w.cell? ⟨s, 0, none⟩ = some (.pointer (some ⟨d, 0, none⟩)) := hS.cell 0
  have hU := putUint_any none 0 0 [] g (g : Int) w ⟨rfl, Rd.nil _ _⟩ rfl (by omega) hg
  have hul := uv_len10 hg
  have hhl := hdr_length hg
  have hfl : (uv (uv g).length).length + 4 + (uv g).length = (hdr g).length := by unfold hdr; rw [frameB_length]
  have hF := fun B c w h => frame_any B (uv g).length c (uv g) w h (by omega)
  rw [hfl, show frameB (uv g) = hdr g from rfl] at hF
  simp only [Nat.zero_add, List.nil_append] at hU
  generalize hdr g = hd at *
  generalize uv g = ul at *
  obtain ⟨hn, hhn⟩ : ∃ hn, hd.length = hn := ⟨_, rfl⟩
  rw [hhn] at hF hC hhl
  generalize ul.length = un at *
  clear hfl
  go_enter Try.func32, Try.ntmps32
  go_wp2_with fail
  refine hU.mono ?_
  rintro e w1 ⟨B1, c1, rfl, hO1, hG1⟩
  go_wp2_with fail
  refine (hF B1 c1 w1 hO1.rb).mono ?_
  rintro e w2 ⟨B2, c2, rfl, hO2, hG2⟩
  have hG := hG1.trans hG2
  have hw1 := hG1.size
  have q0 := hG.cell p0 (fun e => e)
  have q1 := hG.cell p1 (fun e => e)
  have q2 := hG.cell p2 (fun e => e)
  have t0 := hG.cell s0 (fun e => e)
  have hr2 := hr.grew hG
  clear p0 p1 p2 p3 s0 hU hF hO1
  go_wp2_with fail
  refine wp_region_textS [(9, 2)] [p, s] (by kernel_rfl) (by kernel_rfl) (cellsIn_cons q0 (cellsIn_cons t0 (cellsIn_nil _))) ?_
  simp only [wpU, tagOf, chk, look, Nat.reduceBEq, if_true, if_false, Nat.reduceEqDiff, List.nil_append, List.cons_append]
  intro K hK
  go_wp2_with fail
  refine OnlyN.normal (hK _ _ (fun _ => ⟨_, _, _, rfl, rfl, by simp⟩) ?_)
  clear hK K
  intro K hK
  go_wp2_with fail
  refine OnlyN.normal (hK _ _ (fun _ => ⟨_, _, _, rfl, rfl, by simp⟩) ?_)
  clear hK K
  intro K hK
  go_wp2_with fail
  refine OnlyN.normal (hK _ _ (fun _ => ⟨_, _, _, rfl, rfl, by simp⟩) ?_)
  clear hK K
  intro K hK
  go_wp2_with fail
  refine OnlyN.normal (hK _ _ (fun _ => ⟨_, _, _, rfl, rfl, by simp⟩) ?_)
  clear hK K
  intro K hK
  go_wp2_with (at_builtin; refine wpList_appB rfl _ _ rfl w1.heap.size B2 hn c2 hd rfl (by exact hO2) (by have := hG2.size; simpa using this) A k c data rfl (by exact hr2) (by omega) ?_; intro B3 c3 w3 h3)
  have hc23 : Chg (fun j => ∃ ad, B2 = some ad ∧ j = ad.block) w2 w3 := Chg.step (S := fun j => ∃ ad, B2 = some ad ∧ j = ad.block) (Chg.refl _ w2).drew h3.chg fun _ _ e => e
  have hB2 : ∀ j, j < w.heap.size → ¬ ∃ ad, B2 = some ad ∧ j = ad.block := fun j hj ⟨ad, e, he⟩ => by
    have := (Own.blk_lt hO2 ad e).1
    omega
  have hpl := hP.lt
  have hsl := hS.lt
  have hpl2 : p < w2.heap.size := (hP.grew hG).lt
  have hsl2 : s < w2.heap.size := (hS.grew hG).lt
  have hG3 : Grew w w3 := hG1.trans (hG2.step (Chg.step (S := fun j => ∃ ad, B2 = some ad ∧ j = ad.block) (Chg.refl _ w2).drew h3.chg fun _ _ e => e) fun j hj ⟨ad, e, he⟩ => by
    have := (Own.blk_lt hO2 ad e).1
    omega)
  have ho3 := h3.ob
  have hbk : ∀ ad, B3 = some ad → w.heap.size ≤ ad.block := fun ad e => by
    have := (Own.blk_lt ho3 ad e).1
    omega
  have hP3 := hP.grew hG3
  have hS3 := hS.grew hG3
  refine OnlyN.normal (hK _ _ (sameIn_all hc23 (by
    intro k hk
    simp only [List.mem_cons, List.not_mem_nil, or_false] at hk
    rcases hk with rfl | rfl
    · exact ⟨hpl2, hB2 _ hpl⟩
    · exact ⟨hsl2, hB2 _ hsl⟩)) ?_)
  clear hK K
  intro K hK
  go_wp2_with fail
  refine (hC B3 c3 w3 hG3 ho3.rb hbk).mono ?_
  rintro e w4 ⟨rfl, hR4, hc4⟩
  have hc24 : Chg (fun j => S j ∨ ∃ ad, B2 = some ad ∧ j = ad.block) w2 w4 := (hc23.mono fun _ _ e => .inr e).trans (hc4.mono fun _ _ e => .inl e)
  go_wp2_with fail
  refine OnlyN.normal (hK _ _ (sameIn_all hc24 (by
    intro k hk
    simp only [List.mem_cons, List.not_mem_nil, or_false] at hk
    rcases hk with rfl | rfl
    · exact ⟨hpl2, fun e => e.elim hp (hB2 _ hpl)⟩
    · exact ⟨hsl2, fun e => e.elim hs (hB2 _ hsl)⟩)) ?_)
  clear hK K
  go_wp2_with fail
  refine OnlyN.normal ?_
  go_wp2
  go_ret
  exact ⟨by simp, hR4, (Chg.of_grew hG3).trans hc4⟩
end Go.Proofs.Ytepncgeaehjhiaa

namespace Go.Proofs.Ytepncgeaehjhiaa
open Go.RowKit

def setO : List OEnt → OEnt → List OEnt
  | [], o => [o]
  | p :: r, o => if p.key = o.key then o :: r else p :: setO r o
def lookO (Ob : List OEnt) (x : ByteArray) : Option OEnt := Ob.find? fun o => decide (o.key = x)
def genO (Ob : List OEnt) (x : ByteArray) : Nat := match lookO Ob x with | some o => o.gen | none => 0
theorem setO_none : ∀ {Ob : List OEnt} {o : OEnt}, (∀ p ∈ Ob, p.key ≠ o.key) → setO Ob o = Ob ++ [o]
  | [], o, _ => rfl
  | p :: r, o, h => by
    rw [setO, if_neg (h p (by simp)), setO_none fun q hq => h q (by simp [hq])]
    rfl
theorem setO_some : ∀ {Ob : List OEnt} {o p : OEnt} {i : Nat}, (Ob.map OEnt.key).Nodup → Ob[i]? = some p → p.key = o.key → setO Ob o = Ob.set i o
  | [], o, p, i, _, h, _ => by simp at h
  | q :: r, o, p, 0, _, h, hk => by
    simp at h
    subst h
    rw [setO, if_pos hk]
    rfl
  | q :: r, o, p, i + 1, hn, h, hk => by
    simp at h
    simp only [List.map_cons, List.nodup_cons] at hn
    have hne : q.key ≠ o.key := fun e => hn.1 (by rw [e, ← hk]; exact List.mem_map_of_mem (List.mem_of_getElem? h))
    rw [setO, if_neg hne, setO_some hn.2 h hk]
    rfl
theorem setO_mem : ∀ {Ob : List OEnt} {o p : OEnt}, p ∈ setO Ob o → p = o ∨ p ∈ Ob
  | [], o, p, h => by simp [setO] at h; exact .inl h
  | q :: r, o, p, h => by
    unfold setO at h
    split at h
    · rcases List.mem_cons.1 h with h | h
      · exact .inl h
      · exact .inr (by simp [h])
    · rcases List.mem_cons.1 h with h | h
      · exact .inr (by simp [h])
      · rcases setO_mem h with h | h
        · exact .inl h
        · exact .inr (by simp [h])
theorem look_here {Ob : List OEnt} {x : ByteArray} {o : OEnt} (h : lookO Ob x = some o) : o.key = x ∧ ∃ i : Nat, Ob[i]? = some o := by
  unfold lookO at h
  exact ⟨by simpa using List.find?_some h, List.getElem?_of_mem (List.mem_of_find?_eq_some h)⟩
theorem look_not {Ob : List OEnt} {x : ByteArray} (h : lookO Ob x = none) : ∀ o ∈ Ob, o.key ≠ x := by
  unfold lookO at h
  intro o ho
  simpa using (List.find?_eq_none.1 h) o ho

theorem two_rows (w : World) (c1 c2 : Array Value) (t1 t2 : TypeId) : ∃ W, W = (w.alloc (.cells c1 t1)).alloc (.cells c2 t2) ∧ Grew w W ∧ Blk W w.heap.size t1 c1 ∧ Blk W (w.heap.size + 1) t2 c2 ∧ W.heap.size = w.heap.size + 2 := by
  have h1 := Blk.new w t1 c1
  have h2 := Blk.new (w.alloc (.cells c1 t1)) t2 c2
  have e1 : (w.alloc (.cells c1 t1)).heap.size = w.heap.size + 1 := by simp
  rw [e1] at h2
  exact ⟨_, rfl, ((Chg.refl _ w).alloc _).alloc _, h1.alloc _, h2, by simp⟩

section
variable {S : Nat → Prop} {w w' : World} {s d m : Nat} {Ob : List OEnt} {E : List FEnt} {clock : Nat} {armed : Bool} {left kp : Int} {n : Nat}
theorem FS.tight {up : Bool} (h : FS S w d m E clock up armed left kp n) : FS (fun k => S k ∧ k < w.heap.size) w d m E clock up armed left kp n :=
  ⟨⟨h.dsk.hd, h.dsk.hm, ⟨h.dsk.od, h.dsk.hd.lt⟩, ⟨h.dsk.om, h.dsk.hm.lt⟩⟩, fun e he => ⟨⟨(h.ok e he).fil.hg, (h.ok e he).fil.hA, ⟨(h.ok e he).fil.og, (h.ok e he).fil.hg.lt⟩, fun ad ha => ⟨(h.ok e he).fil.oA ad ha, (Own.blk_lt (h.ok e he).fil.hA ad ha).2⟩⟩, (h.ok e he).sy, (h.ok e he).len, (h.ok e he).born⟩, h.ap⟩
theorem Stor.tight (h : Stor S w s d m Ob E clock armed left kp n) : Stor (fun k => S k ∧ k < w.heap.size) w s d m Ob E clock armed left kp n := ⟨h.st, fun e => h.sn e.1, h.fs.tight, h.vw, h.ok⟩
theorem Stor.nd (h : Stor S w s d m Ob E clock armed left kp n) : (Ob.map OEnt.key).Nodup := by
  have h1 : (E.map FEnt.nm) = Ob.map fun o => oN ++ o.key := by
    have := congrArg (List.map Prod.fst) h.vw
    rw [List.map_map, List.map_map] at this
    exact this
  have h2 : (E.map FEnt.nm).Nodup := List.Pairwise.map _ (fun a b h => h.1) h.fs.ap
  rw [h1] at h2
  have h3 : (Ob.map fun o => oN ++ o.key) = (Ob.map OEnt.key).map fun k => oN ++ k := by rw [List.map_map]; rfl
  rw [h3] at h2
  exact List.Pairwise.of_map _ (fun a b hne e => hne (by rw [e])) h2

/-- what Put leaves -/
def PutTo (S : Nat → Prop) (w : World) (s d m : Nat) (Ob : List OEnt) (armed : Bool) (left kp : Int) (n : Nat) (w' : World) : Prop :=
  (∃ E clock, Stor (Up S w) w' s d m Ob E clock armed left kp n) ∧ Chg S w w'

theorem put_end {left0 : Int} {n0 : Nat} (h : Stor S w s d m Ob E clock armed left0 kp n0) (x : ByteArray) (hx : keyB x = true) (data : List UInt8) (g : Nat) {T : Nat → Prop} {w1 : World} (hc : Cnt armed left n)
    (f : FEnt) (hfn : f.nm = tN ++ x) (hfl : f.l = hdr g ++ data) (hfs : f.sy = f.l.length) {clock1 : Nat} (hF : FS T w1 d m (E ++ [f]) clock1 true armed left kp n) :
    Calls Try.prog 52 #[.pointer (some ⟨d, 0, none⟩), .string (tN ++ x), .string (oN ++ x)] w1 fun e w' => e = .returned (.int .i64 0) ∧ (∃ E' clock', FS T w' d m E' clock' true armed (left - 1) kp (n + 1) ∧ E'.map FEnt.view = (setO Ob ⟨x, data, g⟩).map OEnt.view) ∧ Chg T w1 w' := by
  have hi : (E ++ [f])[E.length]? = some f := by simp
  have he : (E ++ [f]).eraseIdx E.length = E := by
    rw [List.eraseIdx_append_of_length_le (Nat.le_refl _), Nat.sub_self]
    simp
  have hv : ({ f with nm := oN ++ x, born := clock1 } : FEnt).view = OEnt.view ⟨x, data, g⟩ := by simp [FEnt.view, OEnt.view, hfl, hfs]
  cases hl : lookO Ob x with
  | none =>
    have hno := look_not hl
    have := fs_rename_new hF hc hi (hfn ▸ nm_t hx) (oN ++ x) (nm_o hx) (by rw [he]; exact h.no hno)
    rw [hfn, he] at this
    refine this.mono ?_
    rintro e w' ⟨rfl, h1, h2⟩
    refine ⟨rfl, ⟨_, _, h1, ?_⟩, h2⟩
    rw [setO_none (o := ⟨x, data, g⟩) hno, List.map_append, List.map_append, h.vw]
    congr 1
    simpa using hv
  | some o =>
    obtain ⟨hok, i, hoi⟩ := look_here hl
    obtain ⟨t, ht, htn, htl, hts⟩ := h.ent hoi
    have := fs_rename_old hF hc hi (hfn ▸ nm_t hx) (j := i) (t := t) (by rw [he]; exact ht) (by rw [htn, hok]; exact nm_o hx)
    rw [hfn, he, htn, hok] at this
    refine this.mono ?_
    rintro e w' ⟨rfl, h1, h2⟩
    refine ⟨rfl, ⟨_, _, h1, ?_⟩, h2⟩
    rw [setO_some (o := ⟨x, data, g⟩) h.nd hoi hok, List.map_set, List.map_set, h.vw]
    simp [FEnt.view, OEnt.view, hfl, hfs]

set_option maxRecDepth 100000 in
set_option maxHeartbeats 4000000 in
theorem put_ok (h : Stor S w s d m Ob E clock armed left kp n) (hc : ∀ j : Nat, j ≤ 2 → Cnt armed (left - j) (n + j)) (hE : Ob.length < 1048576) (x : ByteArray) (hx : keyB x = true) (hg : genO Ob x + 1 < 18446744073709551616) (A : Option Addr) (k c : Nat) (data : List UInt8) (hr : RB w A k data) (hk : k ≤ 1048576) :
    Calls Try.prog 13 #[.pointer (some ⟨s, 0, none⟩), .string x, .slice A k c] w fun e w' => e = .returned (.tuple #[.int .u64 ((genO Ob x + 1 : Nat) : Int), .int .i64 0]) ∧ PutTo S w s d m (setO Ob ⟨x, data, genO Ob x + 1⟩) armed (left - 3) kp (n + 3) w' := by
  have hmf : ∀ (fn : Fn) (first cp : Array Value) (w : World), (Instr.makeFunc fn first cp).run Try.prog w = .ok (.func fn first cp) w := fun _ _ _ _ => rfl
  have hM : ∀ w, Calls Try.prog 28 #[.string x, .slice A k c] w fun e w' => e = .returned (.int .i64 0) ∧ w = w' := fun w => by
    have := may_any x A k c w
    unfold mayC at this
    rwa [hx, if_neg (by simp), if_neg (by omega)] at this
  have hR : ∃ er : Nat, (er = 0 ∨ er = 111) ∧ Calls Try.prog 29 #[.pointer (some ⟨s, 0, none⟩), .string x] w fun e w' => (∃ v, e = .returned (.tuple #[v, .int .u64 (genO Ob x : Int), .int .i64 (er : Int)])) ∧ Grew w w' := by
    unfold genO
    cases hl : lookO Ob x with
    | none => exact ⟨111, .inr rfl, (oread_none h x hx (look_not hl)).mono fun e w' ⟨h1, h2⟩ => ⟨⟨_, h1⟩, h2 ▸ Chg.refl _ _⟩⟩
    | some o =>
      obtain ⟨hok, i, hoi⟩ := look_here hl
      subst hok
      exact ⟨0, .inl rfl, (oread_ok h hoi).mono fun e w' ⟨A, c, h1, _, _, _, h2⟩ => ⟨⟨_, h1⟩, h2⟩⟩
  obtain ⟨er, her, hR⟩ := hR
  generalize hgo : genO Ob x = g at *
  have hsz := keyB_size hx
  go_enter Try.func13, Try.ntmps13
  go_wp2_with fail
  refine (hM _).mono ?_
  rintro e w1 ⟨rfl, rfl⟩
  go_wp2_with fail
  refine hR.mono ?_
  rintro e w1 ⟨⟨v, rfl⟩, hG1⟩
  clear hR hM
  obtain ⟨T, hT⟩ : ∃ T : Nat → Prop, T = fun k => S k ∧ k < w.heap.size := ⟨_, rfl⟩
  have h1 := h.tight
  rw [← hT] at h1
  have hTS : ∀ k, T k → S k := fun k e => by rw [hT] at e; exact e.1
  have hTl : ∀ k, T k → k < w.heap.size := fun k e => by rw [hT] at e; exact e.2
  clear hT
  have hs1 := hG1.size
  obtain ⟨W, hW, hgW, bp, bf, hzW⟩ := two_rows w1 #[.pointer (some ⟨s, 0, none⟩), .string x, .slice A k c, .int .u64 ((g : Int) + 1)]
    #[.func (.func 31) #[.pointer (some ⟨w1.heap.size, 0, none⟩)] #[], .func (.func 32) #[.pointer (some ⟨w1.heap.size, 0, none⟩)] #[], .func (.func 33) #[.pointer (some ⟨w1.heap.size, 0, none⟩)] #[], .func (.func 34) #[.pointer (some ⟨w1.heap.size, 0, none⟩)] #[]] 63 64
  have hGW := hG1.trans hgW
  have hh := h1.grew hGW
  have hrW := hr.grew hGW
  have f0 := bf.cell 0
  have hst := h.st.lt
  have hsn := h.sn
  have hnd := h1.ok
  have hpT : ¬ T w1.heap.size := fun e => by have := hTl _ e; omega
  have hsT : ¬ T s := fun e => hsn (hTS _ e)
  have hbT : ¬ T (w1.heap.size + 1) := fun e => by have := hTl _ e; omega
  have hClear := clear_none hh.fs.dsk w1.heap.size s x (.slice A k c) (.int .u64 ((g : Int) + 1)) bp hh.st (nm_t hx) (by omega) (find_no E 0 (hh.noT x))
  have hh := Lib.hid hh
  have hLay : Hid (∀ W2, Grew W W2 → Calls Try.prog 32 #[.pointer (some ⟨w1.heap.size, 0, none⟩)] W2 fun e w' => e = .returned (.int .i64 0) ∧ (∃ f : FEnt, f.nm = tN ++ x ∧ f.l = hdr (g + 1) ++ data ∧ FS (Up T W) w' d m (E ++ [f]) (clock + 1) true armed (left - 1) kp (n + 1)) ∧ Chg T W2 w') := by
    intro W2 hg2
    have hz2 := hg2.size
    refine lay_step w1.heap.size s x A k c data (g + 1) (bp.grew hg2) (hh.out.st.grew hg2) (by omega) (hrW.grew hg2) hk hg hpT hsT fun B cap w3 hg3 hr3 hb3 => ?_
    have hz3 := hg3.size
    have hdl : d < w.heap.size := hTl _ hh.out.fs.dsk.od
    have hhl := hdr_length hg
    refine (fs_append_new ((hh.out.fs.grew hg2).grew hg3) (by simpa using hc 0 (by omega)) (tN ++ x) (nm_t hx) (hh.out.noT x) (by rw [hh.out.len]; exact hE) B _ cap _ hr3 (by omega) fun ad e _ => by have := hb3 ad e; omega).mono ?_
    rintro e w4 ⟨rfl, f, e1, e2, _, hF, hc4⟩
    exact ⟨rfl, ⟨f, e1, e2, hF.mono fun j hj => hj.elim .inl fun hj => .inr (by omega)⟩, hc4⟩
  have hUs : ¬ Up T W s := Up.old hh.out.st.lt hsT
  have hUp : ¬ Up T W w1.heap.size := Up.old bp.lt hpT
  have hUb : ¬ Up T W (w1.heap.size + 1) := Up.old bf.lt hbT
  have hSync : Hid (∀ W4 (f : FEnt), Blk W4 w1.heap.size 63 #[.pointer (some ⟨s, 0, none⟩), .string x, .slice A k c, .int .u64 ((g : Int) + 1)] → Blk W4 s 56 #[.pointer (some ⟨d, 0, none⟩)] → f.nm = tN ++ x → FS (Up T W) W4 d m (E ++ [f]) (clock + 1) true armed (left - 1) kp (n + 1) →
      Calls Try.prog 33 #[.pointer (some ⟨w1.heap.size, 0, none⟩)] W4 fun e w' => e = .returned (.int .i64 0) ∧ FS (Up T W) w' d m (E ++ [{ f with sy := f.l.length }]) (clock + 1) true armed (left - 1 - 1) kp (n + 1 + 1) ∧ Chg (Up T W) W4 w') := by
    intro W4 f hb hs hn hF
    have hi : (E ++ [f])[E.length]? = some f := by simp
    have := fs_sync (hF.grew (Chg.refl _ W4).drew) (by simpa using hc 1 (by omega)) hi (hn ▸ nm_t hx)
    rw [List.set_append_right _ _ (Nat.le_refl _), Nat.sub_self] at this
    simp only [List.set_cons_zero] at this
    exact sync_step w1.heap.size s x (.slice A k c) (.int .u64 ((g : Int) + 1)) hb hs (by omega) (R := fun _ w' => FS (Up T W) w' d m (E ++ [{ f with sy := f.l.length }]) (clock + 1) true armed (left - 1 - 1) kp (n + 1 + 1)) hUp hUs (by rw [show ((⟨#[116, 47]⟩ : ByteArray) ++ x) = f.nm from hn.symm]; exact this)
  have hRen : Hid (∀ W5 (f : FEnt), Blk W5 w1.heap.size 63 #[.pointer (some ⟨s, 0, none⟩), .string x, .slice A k c, .int .u64 ((g : Int) + 1)] → Blk W5 s 56 #[.pointer (some ⟨d, 0, none⟩)] → f.nm = tN ++ x → f.l = hdr (g + 1) ++ data → f.sy = f.l.length → FS (Up T W) W5 d m (E ++ [f]) (clock + 1) true armed (left - 1 - 1) kp (n + 1 + 1) →
      Calls Try.prog 34 #[.pointer (some ⟨w1.heap.size, 0, none⟩)] W5 fun e w' => e = .returned (.int .i64 0) ∧ (∃ E' clock', FS (Up T W) w' d m E' clock' true armed (left - 1 - 1 - 1) kp (n + 1 + 1 + 1) ∧ E'.map FEnt.view = (setO Ob ⟨x, data, g + 1⟩).map OEnt.view) ∧ Chg (Up T W) W5 w') := by
    intro W5 f hb hs hn hl hy hF
    have hc2 := hc 2 (by omega)
    have e1 : left - 1 - 1 = left - ((2 : Nat) : Int) := by omega
    have := put_end h1 x hx data (g + 1) (w1 := W5.drew) (T := Up T W) (by rw [e1]; exact hc2) f hn hl hy (hF.grew (Chg.refl _ W5).drew)
    exact rename_step w1.heap.size s x (.slice A k c) (.int .u64 ((g : Int) + 1)) hb hs (by omega) (R := fun _ w' => ∃ E' clock', FS (Up T W) w' d m E' clock' true armed (left - 1 - 1 - 1) kp (n + 1 + 1 + 1) ∧ E'.map FEnt.view = (setO Ob ⟨x, data, g + 1⟩).map OEnt.view) hUp hUs this
  have hOk : Hid (∀ o ∈ setO Ob ⟨x, data, g + 1⟩, o.Ok) := fun o ho => by
    have hr1 := hr.1
    rcases setO_mem ho with rfl | ho
    · exact ⟨hx, hg, by show data.length ≤ _; omega⟩
    · exact hnd o ho
  have hS0 := Lib.hid hh.out.st
  clear hh h1 h hnd hx
  have hSw : Hid (∀ k, Up T W k → Up S w k) := fun k e => e.elim (fun e => .inl (hTS k e)) fun e => .inr (by have := hGW.size; omega)
  rcases her with rfl | rfl
  all_goals
    go_wp2_with fail
    rw [← hW]
    clear hW
    refine wp_loop_rounds 5 ?_
    rw [rounds_succ]
    go_wp2_with fail
    refine hClear.mono ?_
    rintro e W2 ⟨rfl, hG2⟩
    have f1 := (bf.grew hG2).cell 1
    clear f0
    go_wp2_with fail
    rw [rounds_succ]
    go_wp2_with fail
    refine (hLay.out W2 hG2).mono ?_
    rintro e W4 ⟨rfl, ⟨f, hfn, hfl, hF4⟩, hc4⟩
    have hF4 := Lib.hid hF4
    have b4 := (bf.grew hG2).chg hc4 hbT
    have p4 := (bp.grew hG2).chg hc4 hpT
    have s4 := (hS0.out.grew hG2).chg hc4 hsT
    have f2 := b4.cell 2
    clear f1
    go_wp2_with fail
    rw [rounds_succ]
    go_wp2_with fail
    refine (hSync.out W4 f p4 s4 hfn hF4.out).mono ?_
    rintro e W5 ⟨rfl, hF5, hc5⟩
    have hF5 := Lib.hid hF5
    have b5 := b4.chg hc5 hUb
    have p5 := p4.chg hc5 hUp
    have s5 := s4.chg hc5 hUs
    have f3 := b5.cell 3
    clear f2
    go_wp2_with fail
    rw [rounds_succ]
    go_wp2_with fail
    refine (hRen.out W5 { f with sy := f.l.length } p5 s5 hfn hfl rfl hF5.out).mono ?_
    rintro e W6 ⟨rfl, ⟨E', clock', hF6, hvw⟩, hc6⟩
    have hF6 := Lib.hid hF6
    have p6 := p5.chg hc6 hUp
    have s6 := s5.chg hc6 hUs
    have g3 := p6.cell 3
    clear f3
    go_wp2_with fail
    rw [rounds_succ]
    go_wp2
    go_ret2
    refine ⟨by simp, ⟨E', clock', s6, Up.old hst hsn, ?_, hvw, hOk.out⟩, ?_⟩
    · rw [show left - 3 = left - 1 - 1 - 1 by omega]
      exact hF6.out.mono hSw.out
    · have hGWs := hGW.size
      have hg2s := hG2.size
      exact (Chg.of_grew (hGW.trans hG2)).step ((hc4.mono (S' := Up T W) fun _ _ e => .inl e).trans (hc5.trans hc6)) fun k hk e => e.elim (hTS k) fun e => by omega
end
end Go.Proofs.Ytepncgeaehjhiaa
