/-
  Several texts in one:
  Package codec and its reference: numbers and texts laid into bytes, and read: what each call does. Conditions: lengths that memory bears.
  Bytes made a text: what the conversion yields. Conditions: none; no program in sight.
  A label set's bytes: what label.Encode lays. Conditions: sets of at most 16 labels, texts of at most 256 bytes.
  Points of a stretch; series and points counted. Conditions: lengths that memory bears.
-/
import Derived.Test.YtailooldnelecaaGreatDoorPart12
import Derived.Test.YtailooldnelecaaGreatDoorPart3
import Derived.Test.YtailooldnelecaaGreatDoorPart1
import Derived.Laws.BytesString
import Derived.Test.YtailooldnelecaaGreatDoorPart4
import Derived.Test.YtailooldnelecaaGreatDoorPart9
import Derived.Test.YtailooldnelecaaGreatDoorPart11

namespace Go.Proofs.YtailooldnelecaaGreatDoor
open Go.RowKit

theorem or128 (u : Nat) : bits .or .u8 ((u : Int) % 256) 128 = ((u % 128 + 128 : Nat) : Int) := by
  have e : ((u : Int) % 256) = ((u % 256 : Nat) : Int) := by simp
  have h1 := u8_or_nat (u % 256) 128 (by omega) (by omega)
  rw [show ((128 : Nat) : Int) = 128 from rfl] at h1
  rw [e, h1]
  congr 1
  have h2 : (u % 256) ||| 128 = (u % 128) ||| 128 := by
    apply Nat.eq_of_testBit_eq
    intro i
    rw [Nat.testBit_or, Nat.testBit_or, show (256 : Nat) = 2 ^ 8 from rfl, show (128 : Nat) = 2 ^ 7 from rfl, Nat.testBit_mod_two_pow, Nat.testBit_mod_two_pow, Nat.testBit_two_pow]
    by_cases h7 : i = 7
    · subst h7; simp
    · by_cases h8 : i < 7
      · have : i < 8 := by omega
        simp [h8, this]
      · have : ¬ i < 8 := by omega
        simp [h8, this]
  rw [h2, Nat.or_comm, nat_join 7 128 (u % 128) (by decide) (by omega)]
  omega
theorem or128' (u : Nat) (hu : u < 18446744073709551616) : bits .or .u64 (bits .and .u64 (u : Int) 127) 128 % 256 = ((u % 128 + 128 : Nat) : Int) := by
  have h0 := u64_and_nat u 127 hu (by omega)
  rw [show ((127 : Nat) : Int) = 127 from rfl, nat_mask7] at h0
  have h1 := u64_or_nat (u % 128) 128 (by omega) (by omega)
  rw [show ((128 : Nat) : Int) = 128 from rfl] at h1
  rw [h0, h1, Nat.or_comm, nat_join 7 128 (u % 128) (by decide) (by omega)]
  omega

set_option maxRecDepth 100000 in
set_option maxHeartbeats 1000000 in
theorem putUint_any (A : Option Addr) (m c : Nat) (l : List UInt8) (v : Nat) (vz : Int) (w : World) (h : RB w A m l) (hvz : vz = v) (hm : m ≤ 140737488355300) (hv : v < 18446744073709551616) :
    Calls Tryz.prog 48 #[.slice A m c, .int .u64 vz] w (NewB w (m + (uv v).length) (l ++ uv v)) := by
  subst hvz
  have hown : OB (w.alloc (.cells #[] 5)) w.heap.size 5 (some ⟨w.heap.size, 0, none⟩) 0 0 [] := Own.made w w.heap.size 5 1 (Nat.le_refl _)
  have hr : RB (w.alloc (.cells #[] 5)) A m l := h.grew ((Chg.refl _ w).alloc _)
  have hl10 := uv_len10 hv
  go_enter Tryz.func48, Tryz.ntmps48
  go_wp2_with (at_builtin; refine wpList_appB rfl _ _ rfl w.heap.size _ 0 0 [] rfl hown (by simp) A m c l rfl hr (by omega) ?_; intro A1 c1 w1 h1)
  simp only [Nat.zero_add, List.nil_append] at h1
  have hg1 : Grew w w1 := h1.grew ((Chg.refl _ w).alloc _) (head_ge (Nat.le_refl _))
  have ho1 := h1.ob
  clear h1 hown hr h
  go_loopw [1, 5] (fun sv so wr => ∃ (u M C : Nat) (B : Option Addr) (r : List UInt8), sv = .int .u64 (u : Int) ∧ so = .slice B M C ∧ u < 18446744073709551616 ∧ Hid (r ++ uv u = l ++ uv v) ∧ M + (uv u).length = m + (uv v).length ∧ OB wr w.heap.size 5 B M C r ∧ Grew w wr) (fun sv _ _ => (intOf sv).toNat)
  case atStart => exact ⟨v, m, c1, A1, l, rfl, rfl, hv, rfl, rfl, ho1, hg1⟩
  case round =>
    clear ho1 hg1 w1
    obtain ⟨u, M, C, B, r, rfl, rfl, hu, Hr, hM, ho, hg⟩ := hrel
    have hs := hg.size
    have hu1 := uv_len1 u
    have HM := Lib.hid hM
    have hM2 : M + 1 ≤ 140737488355328 := by omega
    clear hM
    by_cases hlt : u < 128
    · have hn := RB.new wr [UInt8.ofNat u] 1 #[.int .u8 (u : Int)] 5 rfl (by simp [byt, ofNat_toNat (show u < 256 by omega)])
      have ho2 := ho.grew ((Chg.refl _ wr).alloc (.cells #[.int .u8 (u : Int)] 5))
      
      go_wp2_with (at_builtin; refine wpList_appB rfl _ _ rfl w.heap.size B M C r rfl ho2 (by simp; omega) _ 1 1 [UInt8.ofNat u] rfl hn (by omega) ?_; intro A2 c2 w2 h2)
      go_ret
      have hb := h2.ob
      have hr1 := Hr.out
      have hM1 := HM.out
      rw [uv_small hlt] at hr1 hM1
      rw [hr1] at hb
      have hM3 : M + 1 = m + (uv v).length := by simpa using hM1
      rw [hM3] at hb
      refine ⟨A2, c2, ?_, hb.raise ?_, h2.grew (hg.alloc _) fun ad e => (Own.blk_lt ho ad e).1⟩
      · rw [← hM3]; simp
      · exact fun ad e => (Own.blk_lt hb ad e).1
    · have hn := RB.new wr [UInt8.ofNat (u % 128 + 128)] 1 #[.int .u8 ((u % 128 + 128 : Nat) : Int)] 5 rfl (by simp [byt]; omega)
      have ho2 := ho.grew ((Chg.refl _ wr).alloc (.cells #[.int .u8 ((u % 128 + 128 : Nat) : Int)] 5))
      have he := or128 u
      go_wp2_with (at_builtin; refine wpList_appB rfl _ _ rfl w.heap.size B M C r rfl ho2 (by simp; omega) _ 1 1 [UInt8.ofNat (u % 128 + 128)] rfl hn (by omega) ?_; intro A2 c2 w2 h2)
      go_roundw
      case rel =>
        refine ⟨u / 128, M + 1, c2, A2, r ++ [UInt8.ofNat (u % 128 + 128)], by simp, rfl, by omega, ?_, ?_, h2.ob, h2.grew (hg.alloc _) fun ad e => (Own.blk_lt ho ad e).1⟩
        · show _ = _
          have hr1 := Hr.out
          rw [uv_big hlt] at hr1
          rw [List.append_assoc]
          exact hr1
        · have hM1 := HM.out
          rw [uv_big hlt] at hM1
          simp at hM1
          omega
      case measure => simp [intOf]; omega

theorem xor_ones (a : Nat) (h : a < 18446744073709551616) : a ^^^ 18446744073709551615 = 18446744073709551615 - a := by
  have e : 18446744073709551615 - a = 2 ^ 64 - (a + 1) := by omega
  rw [e]
  apply Nat.eq_of_testBit_eq
  intro i
  rw [Nat.testBit_xor, show (18446744073709551615 : Nat) = 2 ^ 64 - 1 from rfl, Nat.testBit_two_pow_sub_one, Nat.testBit_two_pow_sub_succ (by omega)]
  by_cases hi : i < 64
  · simp [hi]
  · have : a.testBit i = false := Nat.testBit_lt_two_pow (Nat.lt_of_lt_of_le h (Nat.pow_le_pow_right (show 2 > 0 by omega) (show 64 ≤ i by omega)))
    simp [hi, this]
theorem zz_walk (x : Int) (h1 : -9223372036854775808 ≤ x) (h2 : x ≤ 9223372036854775807) :
    bits .xor .u64 (IntKind.u64.wrap (IntKind.u64.wrap x * 2)) (IntKind.u64.wrap (x / 9223372036854775808)) = (zz x : Int) := by
  by_cases h0 : 0 ≤ x
  · have e1 : IntKind.u64.wrap (IntKind.u64.wrap x * 2) = ((2 * x.toNat : Nat) : Int) := by simp only [IntKind.wrap_u64]; omega
    have e2 : IntKind.u64.wrap (x / 9223372036854775808) = ((0 : Nat) : Int) := by simp only [IntKind.wrap_u64]; omega
    rw [e1, e2, u64_xor_nat _ _ (by omega) (by omega), Nat.xor_zero]
    unfold zz
    rw [if_pos h0]
  · obtain ⟨n, rfl⟩ : ∃ n : Nat, x = -(n : Int) - 1 := ⟨(-(x + 1)).toNat, by omega⟩
    have hn : n < 9223372036854775808 := by omega
    have e1 : IntKind.u64.wrap (IntKind.u64.wrap (-(n : Int) - 1) * 2) = ((18446744073709551615 - (2 * n + 1) : Nat) : Int) := by simp only [IntKind.wrap_u64]; omega
    have e2 : IntKind.u64.wrap ((-(n : Int) - 1) / 9223372036854775808) = ((18446744073709551615 : Nat) : Int) := by simp only [IntKind.wrap_u64]; omega
    rw [e1, e2, u64_xor_nat _ _ (by omega) (by omega), xor_ones _ (by omega)]
    unfold zz
    rw [if_neg h0]
    omega

set_option maxHeartbeats 400000 in
theorem putText_any (A : Option Addr) (m c : Nat) (l : List UInt8) (s : ByteArray) (w : World) (h : RB w A m l) (hm : m + s.size ≤ 140737488355300) :
    Calls Tryz.prog 49 #[.slice A m c, .string s] w (NewB w (m + (uv s.size).length + s.size) (l ++ uv s.size ++ s.data.toList)) := by
  have hl10 := uv_len10 (v := s.size) (by omega)
  go_enter Tryz.func49, Tryz.ntmps49
  go_wp2_with fail
  refine (putUint_any A m c l s.size _ _ h ?_ (by omega) (by omega)).mono ?_
  · simp
  rintro e w2 ⟨B, C, rfl, ho, hg⟩
  have hs := hg.size
  go_wp2_with (at_builtin; refine wpList_appS rfl _ _ rfl w.heap.size B _ C _ rfl ho hs s rfl (by omega) ?_; intro A2 c2 w3 h2)
  go_ret
  have hb := h2.ob
  exact ⟨A2, c2, by simp, hb, h2.grew hg fun ad e => (Own.blk_lt ho ad e).1⟩

end Go.Proofs.YtailooldnelecaaGreatDoor

namespace Go.Proofs.YtailooldnelecaaGreatDoor
open Go.RowKit

theorem byte_back {v : Nat} (h : v < 256) : (UInt8.ofNat v).toNat = v := by rw [UInt8.toNat_ofNat']; exact Nat.mod_eq_of_lt h
theorem foldl_push (l : List UInt8) : ∀ s : ByteArray, (l.map fun c => (c.toNat : Int)).foldl (fun r n => r.push (UInt8.ofNat n.toNat)) s = ⟨s.data ++ l.toArray⟩ := by
  induction l with
  | nil => intro s; simp
  | cons c l ih =>
    intro s
    rw [List.map_cons, List.foldl_cons, ih]
    congr 1
    have : UInt8.ofNat ((c.toNat : Int)).toNat = c := UInt8.toNat_inj.1 (by rw [Int.toNat_natCast, byte_back c.toNat_lt])
    rw [this]
    simp [ByteArray.push]
theorem run_conv_RB {P : Program} {w : World} {src dst e : TypeId} (hs : P.underlying src = some (.slice e)) (he : P.underlying e = some (.int .u8)) (hd : P.underlying dst = some .string)
    {A : Option Addr} {n c : Nat} {l : List UInt8} (h : RB w A n l) : (convert src dst (.slice A n c)).run P w = .ok (.string ⟨l.toArray⟩) w := by
  rw [run_convert_bytes_string w src dst e A n c hs he hd]
  have hf := firstCells_rd (P := P) w 1 n c A (l.map byt) (by simpa using h.1) h.2
  rcases A with _ | ad
  · have hl : l = [] := by
      rcases l with _ | ⟨x, r⟩
      · rfl
      · obtain ⟨ad, e, _⟩ := h.2 0 (byt x) rfl
        cases e
    subst hl
    rfl
  · simp only [Builtin.firstCells, Nat.mul_one] at hf
    have := run_bytesToString (P := P) w ad n c (l.map fun c => (c.toNat : Int)) (by rw [hf]; simp [byt])
    rw [this, foldl_push]
    simp

end Go.Proofs.YtailooldnelecaaGreatDoor

namespace Go.Proofs.YtailooldnelecaaGreatDoor
open Go.RowKit

theorem tx8_len (s : ByteArray) (h : s.size ≤ 256) : (tx8 s).length ≤ 266 := by
  have := uv_len10 (v := s.size) (by omega)
  unfold tx8
  rw [List.length_append, Array.length_toList]
  show (uv s.size).length + s.size ≤ 266
  omega
theorem take_sn {α : Type} {l : List α} {k : Nat} {x : α} (h : l[k]? = some x) : l.take (k + 1) = l.take k ++ [x] := by rw [List.take_add_one, h]; rfl
theorem OB.mono {w : World} {base base' : Nat} {e : TypeId} {A : Option Addr} {n c : Nat} {l : List UInt8} (h : OB w base e A n c l) (hb : base' ≤ base) : OB w base' e A n c l := Own.mono h hb

set_option maxHeartbeats 2000000 in
theorem encL_any (A : Option Addr) (n c : Nat) (ls : List Lab) (w : World) (h : RE elLb w A n ls) (hn : n ≤ 16) (hs : ∀ l ∈ ls, l.1.size ≤ 256 ∧ l.2.size ≤ 256) :
    Calls Tryz.prog 31 #[.slice A n c] w (NewB w (encL ls).length (encL ls)) := by
  have hln := Lib.hid h.1
  replace hs := Lib.hid hs
  go_enter Tryz.func31, Tryz.ntmps31
  go_wp2_with fail
  refine (putUint_any none 0 0 [] n _ _ ⟨rfl, Rd.nil _ _⟩ ?_ (by omega) (by omega)).mono ?_
  · simp
  rintro e w1 ⟨B, d, rfl, h1, g1⟩
  rw [Nat.zero_add, List.nil_append] at *
  have h10 := uv_len10 (v := n) (by omega)
  go_wp2
  go_loopw [3, 12] (fun o i wr => ∃ (k m d : Nat) (B : Option Addr), k ≤ n ∧ i = .int .i64 (k : Int) ∧ o = .slice B m d ∧ m ≤ 10 + 532 * k ∧ OB wr w.heap.size 5 B m d (uv n ++ encR (ls.take k)) ∧ Grew w wr) (fun _ i _ => n - (intOf i).toNat)
  case atStart => exact ⟨0, _, d, B, by omega, rfl, rfl, by omega, by simpa [encR] using h1, g1⟩
  case round =>
    clear h1 g1
    obtain ⟨k, m, d, B, hk, rfl, rfl, hm, ho, hg⟩ := hrel
    by_cases hlt : k < n
    · obtain ⟨ad, x, rfl, hx, x0, x1⟩ := (h.grew hg).lb hlt
      have hxs := hs.out x (List.mem_of_getElem? hx)
      have hl1 := tx8_len x.1 hxs.1
      have hl2 := tx8_len x.2 hxs.2
      have hsn : Hid (uv n ++ encR (ls.take k) ++ tx8 x.1 ++ tx8 x.2 = uv n ++ encR (ls.take (k + 1))) := by
        show _ = _
        rw [take_sn hx, encR_snoc]
        simp
      have e1 : (uv x.1.size).length + x.1.size = (tx8 x.1).length := by unfold tx8; rw [List.length_append, Array.length_toList]; rfl
      have e2 : (uv x.2.size).length + x.2.size = (tx8 x.2).length := by unfold tx8; rw [List.length_append, Array.length_toList]; rfl
      obtain ⟨W, hW⟩ : ∃ W, W = wr.alloc (.cells #[.string x.1, .string x.2] 72) := ⟨_, rfl⟩
      have hgW : Grew wr W := by rw [hW]; exact (Chg.refl _ wr).alloc _
      have hbx : Blk W wr.heap.size 72 #[.string x.1, .string x.2] := by rw [hW]; exact Blk.new wr _ _
      have b0 := hbx.cell 0
      have b1 := hbx.cell 1
      have hgg := hg.trans hgW
      have hsz := hgg.size
      have hb0 := hbx.lt
      have ho1 := ho.grew hgW
      have hsame : Hid (∀ W1, Grew W W1 → SameIn [wr.heap.size] W W1) := fun W1 h1 i hi => by
        obtain rfl : i = wr.heap.size := by simpa using hi
        exact h1.block _ hb0 (fun e => e)
      clear hx ho hg
      go_wp2_with fail
      rw [← hW]
      clear hW x0 x1
      refine wp_region_textS [(3, 1)] [wr.heap.size] (by kernel_rfl) (by kernel_rfl) (cellsIn_one hbx) ?_
      simp only [wpU, tagOf, chk, List.nil_append, List.cons_append]
      intro K hK
      go_wp2_with fail
      refine OnlyN.normal (hK _ _ (fun _ => ⟨_, _, _, rfl, rfl, by simp⟩) ?_)
      clear hK K
      intro K hK
      go_wp2_with fail
      refine (putText_any B m d _ x.1 _ (by exact (ho1.drewN 1).rb) (by omega)).mono ?_
      rintro e w2 ⟨B2, d2, rfl, h2, g2⟩
      have g02 := hgg.trans ((Chg.refl _ W).drew.trans g2)
      have gW2 : Grew W w2 := (Chg.refl _ W).drew.trans g2
      have c1 := (hbx.grew gW2).cell 1
      go_wp2_with fail
      refine OnlyN.normal (hK _ _ (hsame.out _ gW2) ?_)
      clear hK K
      intro K hK
      go_wp2_with fail
      refine OnlyN.normal (hK _ _ (fun _ => ⟨_, _, _, rfl, rfl, by simp⟩) ?_)
      clear hK K
      intro K hK
      go_wp2_with fail
      refine (putText_any B2 _ d2 _ x.2 _ h2.rb (by omega)).mono ?_
      rintro e w3 ⟨B3, d3, rfl, h3, g3⟩
      have g03 := g02.trans g3
      have h3 := h3.mono g02.size
      have hv3 : OB w3 w.heap.size 5 B3 (m + (tx8 x.1).length + (tx8 x.2).length) d3 (uv n ++ encR (ls.take (k + 1))) := by
        rw [← hsn.out, ← e1, ← e2]
        have := h3
        simpa [tx8, Nat.add_assoc] using this
      have hm3 : m + (uv x.1.size).length + x.1.size + (uv x.2.size).length + x.2.size = m + (tx8 x.1).length + (tx8 x.2).length := by omega
      rw [hm3]
      have gW3 := gW2.trans g3
      clear h3 h2 g2 g3 c1 b0 b1 hsn
      go_wp2_with fail
      refine OnlyN.normal (hK _ _ (hsame.out _ gW3) ?_)
      clear hK K
      go_wp2_with fail
      refine OnlyN.normal ?_
      go_wp2
      go_roundw
      case rel => exact ⟨k + 1, _, d3, B3, by omega, by go_num, rfl, by omega, hv3, g03⟩
      case measure => simp [intOf] <;> omega
    · obtain rfl : k = n := by omega
      have hl := ho.len
      rw [List.take_of_length_le (by have := hln.out; omega)] at ho hl
      have hE : encL ls = uv k ++ encR ls := by unfold encL; rw [hln.out]
      rw [← hE] at ho hl
      subst hl
      go_wp2
      go_ret
      exact ⟨B, d, by simp, ho, hg⟩
end Go.Proofs.YtailooldnelecaaGreatDoor

namespace Go.Proofs.YtailooldnelecaaGreatDoor
open Go.RowKit

/-- what is left of a slice behind its first element, as the machine's address has it -/
theorem RE.tl {α : Type} {E : El α} {w : World} {ad : Addr} {n c : Nat} {l : List α} (h : RE E w (some ad) n l) (hs : 0 < E.sz) (hn : 0 < n) (hc : n ≤ c) :
    RE E w (if c = 1 then some ad else some { block := ad.block, off := ad.off + E.sz }) (n - 1) (l.drop 1) := by
  by_cases h1 : c = 1
  · obtain rfl : n = 1 := by omega
    rw [if_pos h1]
    have : l.drop 1 = [] := List.drop_of_length_le (by rw [h.1]; omega)
    rw [this]
    exact RE.nil _ _
  · rw [if_neg h1]
    have h2 := h.drop 1
    rw [Nat.one_mul] at h2
    have e : ad.add E.sz = { block := ad.block, off := ad.off + E.sz } := by
      unfold Addr.add
      rw [if_neg (by omega)]
    rwa [e] at h2

def lenS : Value → Nat
  | .slice _ n _ => n
  | _ => 0
def okP (f t : Int) (p : Ptn) : Bool := decide (f ≤ p.1) && decide (p.1 ≤ t)
def clipP (f t : Int) (ps : List Ptn) : List Ptn := ps.filter (okP f t)
theorem take_snoc {α : Type} {l : List α} {k : Nat} {x : α} (h : l[k]? = some x) : l.take (k + 1) = l.take k ++ [x] := by
  rw [List.take_add_one, h]
  rfl
theorem clipP_yes {f t : Int} {ps : List Ptn} {k : Nat} {p : Ptn} (h : ps[k]? = some p) (h1 : f ≤ p.1) (h2 : p.1 ≤ t) : clipP f t (ps.take (k + 1)) = clipP f t (ps.take k) ++ [p] := by
  rw [take_snoc h, clipP, List.filter_append]
  simp [clipP, okP, h1, h2]
theorem clipP_no {f t : Int} {ps : List Ptn} {k : Nat} {p : Ptn} (h : ps[k]? = some p) (h1 : ¬ (f ≤ p.1 ∧ p.1 ≤ t)) : clipP f t (ps.take (k + 1)) = clipP f t (ps.take k) := by
  rw [take_snoc h, clipP, List.filter_append]
  have : okP f t p = false := by
    unfold okP
    rw [Bool.and_eq_false_iff, decide_eq_false_iff_not, decide_eq_false_iff_not]
    omega
  simp [clipP, this]
theorem clipP_len (f t : Int) (ps : List Ptn) (k : Nat) : (clipP f t (ps.take k)).length ≤ k := by
  refine Nat.le_trans (List.length_filter_le _ _) ?_
  rw [List.length_take]
  omega

/-- points of all series -/
def tot (ss : List Ser) : Nat := (ss.map (fun s => s.pts.length)).sum
theorem tot_snoc {ss : List Ser} {k : Nat} {s : Ser} (h : ss[k]? = some s) : tot (ss.take (k + 1)) = tot (ss.take k) + s.pts.length := by
  rw [take_snoc h, tot, List.map_append, List.sum_append]
  simp [tot]
theorem tot_take (ss : List Ser) (k : Nat) : tot (ss.take k) ≤ tot ss := by
  conv => rhs; rw [← List.take_append_drop k ss, tot, List.map_append, List.sum_append]
  exact Nat.le_add_right _ _

end Go.Proofs.YtailooldnelecaaGreatDoor
