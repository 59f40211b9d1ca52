/-
  Several texts in one:
  A block's bytes being laid: (writer).number, (writer).numbers, the sum behind. Conditions: lengths that memory bears.
  A sum behind bytes; (block.EncodeMeta) walked. Conditions: lengths that memory bears.
  (block.EncodeMeta) walked. Conditions: lengths that memory bears; numbers of 64 bits.
-/
import Derived.Test.YtlcaaacbookopaaGreatDoorPart8
import Derived.Test.YtlcaaacbookopaaGreatDoorPart11
import Derived.Lib.SmallJoins
import Derived.Lib.AppendZeros
import Derived.Lib.SlBytesConst

namespace Go.Proofs.YtlcaaacbookopaaGreatDoor
open Go.RowKit

def elB8 : El UInt8 := ⟨fun b => [byt b], 1, fun _ => rfl, by
  intro x u hu
  simp at hu
  subst hu
  rfl⟩
theorem elB8_flat (l : List UInt8) : elB8.flat l = l.map byt := by
  induction l with
  | nil => rfl
  | cons x r ih => rw [El.flat_cons, ih]; rfl
theorem OB.asE {w : World} {base : Nat} {t : TypeId} {A : Option Addr} {n c : Nat} {l : List UInt8} (h : OB w base t A n c l) : OE elB8 w base t A n c l := by
  unfold OE
  rw [elB8_flat]
  exact h
/-- bytes that are being laid, in the writer's block -/
structure WrS (w : World) (base g : Nat) (A : Option Addr) (n c : Nat) (l : List UInt8) : Prop where
  bk : Blk w g 66 #[.slice A n c]
  ob : OB w base 5 A n c l
  lo : base ≤ g
abbrev Up (base : Nat) : Nat → Prop := fun k => base ≤ k
theorem WrS.len {w : World} {base g : Nat} {A : Option Addr} {n c : Nat} {l : List UInt8} (h : WrS w base g A n c l) : l.length = n := h.ob.len
/-- what laying some more leaves: of what was there the writer's block and its bytes' block alone turn -/
structure WrT (w w' : World) (base g : Nat) (A A' : Option Addr) (n c : Nat) (l : List UInt8) : Prop where
  ws : WrS w' base g A' n c l
  ch : Chg (fun k => k = g ∨ ∃ ad, A = some ad ∧ k = ad.block) w w'
  nx : ∀ ad, A' = some ad → A = some ad ∨ w.heap.size ≤ ad.block
theorem WrT.refl {w : World} {base g : Nat} {A : Option Addr} {n c : Nat} {l : List UInt8} (h : WrS w base g A n c l) : WrT w w base g A A n c l := ⟨h, Chg.refl _ _, fun _ e => .inl e⟩
theorem WrT.trans {w w1 w2 : World} {base g : Nat} {A A1 A2 : Option Addr} {n c n2 c2 : Nat} {l l2 : List UInt8} (h : WrT w w1 base g A A1 n c l) (h2 : WrT w1 w2 base g A1 A2 n2 c2 l2) : WrT w w2 base g A A2 n2 c2 l2 := by
  have hs := h.ch.size
  refine ⟨h2.ws, h.ch.step h2.ch fun k hk e => ?_, fun ad e => ?_⟩
  · rcases e with e | ⟨ad, e1, e2⟩
    · exact .inl e
    · rcases h.nx ad e1 with e3 | e3
      · exact .inr ⟨ad, e3, e2⟩
      · omega
  · rcases h2.nx ad e with e1 | e1
    · rcases h.nx ad e1 with e3 | e3
      · exact .inl e3
      · exact .inr e3
    · exact .inr (by omega)
theorem WrT.ahead {w0 w w' : World} {base g : Nat} {A A' : Option Addr} {n c : Nat} {l : List UInt8} (h : WrT w w' base g A A' n c l) (hg : Grew w0 w) : WrT w0 w' base g A A' n c l :=
  ⟨h.ws, (Chg.of_grew hg).trans h.ch, fun ad e => by
    have := hg.size
    rcases h.nx ad e with e1 | e1
    · exact .inl e1
    · exact .inr (by omega)⟩
theorem WrT.up {w w' : World} {base g : Nat} {A A' : Option Addr} {n n0 c c0 : Nat} {l l0 : List UInt8} (h : WrT w w' base g A A' n c l) (h0 : WrS w base g A n0 c0 l0) : Chg (Up base) w w' :=
  h.ch.mono fun k _ e => by
    rcases e with e | ⟨ad, e1, e2⟩
    · rw [e]
      exact h0.lo
    · have := (Own.blk_lt h0.ob ad e1).1
      show base ≤ k
      omega
theorem WrS.grew {w w' : World} {base g : Nat} {A : Option Addr} {n c : Nat} {l : List UInt8} (h : WrS w base g A n c l) (hg : Grew w w') : WrS w' base g A n c l := ⟨h.bk.grew hg, h.ob.grew hg, h.lo⟩
/-- .. or bytes of a literal, that have no room -/
structure WrX (w : World) (base g : Nat) (A : Option Addr) (n c : Nat) (l : List UInt8) : Prop where
  bk : Blk w g 66 #[.slice A n c]
  ob : OB w base 5 A n c l ∨ (RB w A n l ∧ c = n)
  lo : base ≤ g
  ne : ∀ ad, A = some ad → base ≤ ad.block ∧ ad.block ≠ g
theorem WrS.x {w : World} {base g : Nat} {A : Option Addr} {n c : Nat} {l : List UInt8} (h : WrS w base g A n c l) : WrX w base g A n c l :=
  ⟨h.bk, .inl h.ob, h.lo, fun ad e => ⟨(Own.blk_lt h.ob ad e).1, Own.ne_blk h.ob h.bk (by decide) ad e⟩⟩
theorem WrX.obg {w W : World} {base g : Nat} {A : Option Addr} {n c : Nat} {l : List UInt8} (h : WrX w base g A n c l) (hg : Grew w W) : OB W base 5 A n c l ∨ (RB W A n l ∧ c = n) := by
  rcases h.ob with h1 | h1
  · exact .inl (h1.grew hg)
  · exact .inr ⟨h1.1.grew hg, h1.2⟩
theorem WrX.grew {w W : World} {base g : Nat} {A : Option Addr} {n c : Nat} {l : List UInt8} (h : WrX w base g A n c l) (hg : Grew w W) : WrX W base g A n c l := ⟨h.bk.grew hg, h.obg hg, h.lo, h.ne⟩
theorem wpList_appX {ops : Array Oper} {rest : List Oper} {o : Oper} {a : Act} {w : World} {Q : Exit → Act → World → Prop} (hgd : o.guard = none) (s x : Operand)
    (ho : o.op = .call { callee := .builtin .append, args := #[s, x], argTypes := #[26, 26] })
    (base : Nat) (A : Option Addr) (n c : Nat) (l : List UInt8) (hs : a.eval s = .slice A n c) (hown : OB w base 5 A n c l ∨ (RB w A n l ∧ c = n)) (hbase : base ≤ w.heap.size)
    (B : Option Addr) (m d : Nat) (r : List UInt8) (hx : a.eval x = .slice B m d) (hr : RB w B m r) (hbytes : n + m ≤ 140737488355328) (hm : 0 < m)
    (h : ∀ A' c' w', ApB w base A (n + m) c (l ++ r) A' c' w' → wpList Tryz.prog ops Q rest (a.put o.dst (.slice A' (n + m) c')) w') : wpList Tryz.prog ops Q (o :: rest) a w := by
  rcases hown with hown | ⟨hrb, rfl⟩
  · exact wpList_appB hgd s x ho base A n c l hs hown hbase B m d r hx hr hbytes h
  · obtain ⟨i0, hi, hz0, hz1, hz2⟩ := info_parts infoU8
    obtain ⟨c', w', hrun, h2, h3, h4⟩ := run_app_new (P := Tryz.prog) w 26 o.type 5 i0 (.int .u8 0) 1 1 Tryz.underlying26 hi hz0 hz1 hz2 rfl A c c (l.map byt) (by simpa using hrb.1) hrb.2 B m d (r.map byt) (by simpa using hr.1) hr.2 (by omega) (by omega) (by unfold maxLen; omega)
    refine Lib.wpList_append_run w hgd s x _ _ ho _ _ hs hx _ _ hrun (h _ _ _ ⟨?_, Chg.of_grew h3, .inr ⟨rfl, h3, h4⟩⟩)
    have := h2.mono hbase
    rw [List.map_append]
    exact this
theorem WrX.app {w W w' : World} {base g : Nat} {A A' : Option Addr} {n m c c' : Nat} {l r : List UInt8} (h : WrX w base g A n c l) (hW : Grew w W) (ha : ApB W base A (n + m) c (l ++ r) A' c' w') :
    Blk w' g 66 #[.slice A n c] ∧ WrT w (w'.setCell ⟨g, 0, none⟩ (.slice A' (n + m) c')) base g A A' (n + m) c' (l ++ r) := by
  have b2 : Blk w' g 66 #[.slice A n c] := (h.bk.grew hW).chg ha.chg fun ⟨ad, e, hk⟩ => (h.ne ad e).2 hk.symm
  have b3 := b2.set 0 (.slice A' (n + m) c')
  simp only [List.setIfInBounds_toArray, List.set_cons_zero] at b3
  have o3 : OB (w'.setCell ⟨g, 0, none⟩ (.slice A' (n + m) c')) base 5 A' (n + m) c' (l ++ r) := Own.chg ha.ob (Chg.cell1 w' g 0 _) fun ad e hk => Own.ne_blk ha.ob b2 (by decide) ad e hk
  refine ⟨b2, ⟨b3, o3, h.lo⟩, ?_, fun ad e => ?_⟩
  · exact ((Chg.of_grew hW).trans (ha.chg.mono fun k _ e => .inr e)).setCell (p := ⟨g, 0, none⟩) (.inr (.inl rfl)) _
  · have := hW.size
    rcases ha.2.2 with ⟨e1, _⟩ | ⟨e1, _⟩
    · exact .inl (e1 ▸ e)
    · rw [e1] at e
      injection e with e
      subst e
      exact .inr this
/-- on the way: as WrT, the literal's bytes too -/
structure WrU (w w' : World) (base g : Nat) (A A' : Option Addr) (n c : Nat) (l : List UInt8) : Prop where
  wx : WrX w' base g A' n c l
  ch : Chg (fun k => k = g ∨ ∃ ad, A = some ad ∧ k = ad.block) w w'
  nx : ∀ ad, A' = some ad → A = some ad ∨ w.heap.size ≤ ad.block
theorem WrT.u {w w' : World} {base g : Nat} {A A' : Option Addr} {n c : Nat} {l : List UInt8} (h : WrT w w' base g A A' n c l) : WrU w w' base g A A' n c l := ⟨h.ws.x, h.ch, h.nx⟩
theorem WrU.refl {w : World} {base g : Nat} {A : Option Addr} {n c : Nat} {l : List UInt8} (h : WrX w base g A n c l) : WrU w w base g A A n c l := ⟨h, Chg.refl _ _, fun _ e => .inl e⟩
theorem WrU.trans {w w1 w2 : World} {base g : Nat} {A A1 A2 : Option Addr} {n c n2 c2 : Nat} {l l2 : List UInt8} (h : WrU w w1 base g A A1 n c l) (h2 : WrT w1 w2 base g A1 A2 n2 c2 l2) : WrT w w2 base g A A2 n2 c2 l2 := by
  have hs := h.ch.size
  refine ⟨h2.ws, h.ch.step h2.ch fun k hk e => ?_, fun ad e => ?_⟩
  · rcases e with e | ⟨ad, e1, e2⟩
    · exact .inl e
    · rcases h.nx ad e1 with e3 | e3
      · exact .inr ⟨ad, e3, e2⟩
      · omega
  · rcases h2.nx ad e with e1 | e1
    · rcases h.nx ad e1 with e3 | e3
      · exact .inl e3
      · exact .inr e3
    · exact .inr (by omega)
theorem WrT.upX {w w' : World} {base g : Nat} {A A' : Option Addr} {n n0 c c0 : Nat} {l l0 : List UInt8} (h : WrT w w' base g A A' n c l) (h0 : WrX w base g A n0 c0 l0) : Chg (Up base) w w' :=
  h.ch.mono fun k _ e => by
    rcases e with e | ⟨ad, e1, e2⟩
    · rw [e]
      exact h0.lo
    · have := (h0.ne ad e1).1
      show base ≤ k
      omega

set_option maxRecDepth 100000 in
set_option maxHeartbeats 4000000 in
theorem wnumber_any (g base : Nat) (A : Option Addr) (n c : Nat) (l : List UInt8) (v : Nat) (w : World) (h : WrX w base g A n c l) (hb : base ≤ w.heap.size) (hn : n ≤ 140737488355000) (hv : v < 18446744073709551616) :
    Calls Tryz.prog 36 #[.pointer (some ⟨g, 0, none⟩), .int .u64 (v : Int)] w fun e w' => e = .returned (.tuple #[]) ∧ ∃ A' c', WrT w w' base g A A' (n + (uv v).length) c' (l ++ uv v) := by
  have hl10 := uv_len10 hv
  go_enter Tryz.func36, Tryz.ntmps36
  go_wp2
  go_loopw [1] (fun sv wr => ∃ (u M C : Nat) (B : Option Addr) (r : List UInt8), sv = .int .u64 (u : Int) ∧ u < 18446744073709551616 ∧ Hid (r ++ uv u = l ++ uv v) ∧ M + (uv u).length = n + (uv v).length ∧ WrU w wr base g A B M C r) (fun sv _ => (intOf sv).toNat)
  case atStart => exact ⟨v, n, c, A, l, rfl, hv, rfl, rfl, WrU.refl h⟩
  case round =>
    obtain ⟨u, M, C, B, r, rfl, hu, Hr, hM, hT⟩ := hrel
    have ho := hT.wx
    have hs := hT.ch.size
    have hu1 := uv_len1 u
    have HM := Lib.hid hM
    have hM2 : M + 1 ≤ 140737488355328 := by omega
    have k0 := ho.bk.cell 0
    have kf := ho.bk.frozen 0
    simp only [List.getElem?_toArray, List.getElem?_cons_zero] at k0
    clear hM
    by_cases hlt : u < 128
    · have hg1 : Grew wr (wr.alloc (.cells #[.int .u8 (u : Int)] 5)) := (Chg.refl _ wr).alloc _
      have hn := RB.new wr [UInt8.ofNat u] 1 #[.int .u8 (u : Int)] 5 rfl (by simp [byt, ofNat_toNat (show u < 256 by omega)])
      have ho2 := ho.obg hg1
      have hst := fun A2 c2 w2 h2 => ho.app (m := 1) (r := [UInt8.ofNat u]) (A' := A2) (c' := c2) (w' := w2) hg1 h2
      go_wp2_with (at_builtin; go_loud (refine wpList_appX rfl _ _ rfl base B M C r rfl ho2 (by simp; omega) _ 1 1 [UInt8.ofNat u] rfl hn (by omega) (by omega) ?_); intro A2 c2 w2 h2; obtain ⟨b2, hw2⟩ := hst A2 c2 w2 h2; have q0 := b2.cell 0; have qf := b2.frozen 0; simp only [List.getElem?_toArray, List.getElem?_cons_zero] at q0)
      have hr1 := Hr.out
      have hM1 := HM.out
      rw [uv_small hlt] at hr1 hM1
      replace hw2 := hT.trans hw2
      rw [hr1] at hw2
      have hM3 : M + 1 = n + (uv v).length := by simpa using hM1
      rw [hM3] at hw2
      first
        | go_end0
        | refine bodyPost_ret (results_none rfl _ _ _) rfl ?_
      rw [hM3]
      exact ⟨rfl, A2, c2, hw2⟩
    · have hg1 : Grew wr (wr.alloc (.cells #[.int .u8 ((u % 128 + 128 : Nat) : Int)] 5)) := (Chg.refl _ wr).alloc _
      have hn := RB.new wr [UInt8.ofNat (u % 128 + 128)] 1 #[.int .u8 ((u % 128 + 128 : Nat) : Int)] 5 rfl (by simp [byt]; omega)
      have ho2 := ho.obg hg1
      have he := or128 u
      have hst := fun A2 c2 w2 h2 => ho.app (m := 1) (r := [UInt8.ofNat (u % 128 + 128)]) (A' := A2) (c' := c2) (w' := w2) hg1 h2
      go_wp2_with (at_builtin; go_loud (refine wpList_appX rfl _ _ rfl base B M C r rfl ho2 (by simp; omega) _ 1 1 [UInt8.ofNat (u % 128 + 128)] rfl hn (by omega) (by omega) ?_); intro A2 c2 w2 h2; obtain ⟨b2, hw2⟩ := hst A2 c2 w2 h2; have q0 := b2.cell 0; have qf := b2.frozen 0; simp only [List.getElem?_toArray, List.getElem?_cons_zero] at q0)
      go_roundw
      case rel =>
        refine ⟨u / 128, M + 1, c2, A2, r ++ [UInt8.ofNat (u % 128 + 128)], by simp, by omega, ?_, ?_, (hT.trans hw2).u⟩
        · show _ = _
          have hr1 := Hr.out
          rw [uv_big hlt] at hr1
          rw [List.append_assoc]
          exact hr1
        · have hM1 := HM.out
          rw [uv_big hlt] at hM1
          simp at hM1
          omega
      case measure => simp [intOf]; omega

/-- numbers' bytes, one behind the other -/
def uvs (vs : List Int) : List UInt8 := vs.flatMap fun v => uv v.toNat
theorem uvs_cons (v : Int) (vs : List Int) : uvs (v :: vs) = uv v.toNat ++ uvs vs := rfl
theorem uvs_len : ∀ (vs : List Int), (∀ v ∈ vs, v < 9223372036854775808) → (uvs vs).length ≤ 10 * vs.length
  | [], _ => by simp [uvs]
  | v :: vs, h => by
    have h1 := uvs_len vs (fun x hx => h x (List.mem_cons_of_mem _ hx))
    have h2 := uv_len10 (v := v.toNat) (by have := h v List.mem_cons_self; omega)
    rw [uvs_cons, List.length_append, List.length_cons]
    omega

set_option maxRecDepth 100000 in
set_option maxHeartbeats 4000000 in
theorem wnumbers_any (g base bv : Nat) (A : Option Addr) (n c : Nat) (l : List UInt8) (V : Option Addr) (p d : Nat) (vs : List Int) (w : World) (h : WrS w base g A n c l) (hV : OE elI w bv 3 V p d vs) (hb : base ≤ w.heap.size) (hn : n ≤ 140737488350000) (hp : p ≤ 3) (hvs : ∀ v ∈ vs, 0 ≤ v ∧ v < 9223372036854775808) :
    Calls Tryz.prog 37 #[.pointer (some ⟨g, 0, none⟩), .slice V p d] w fun e w' => e = .returned (.tuple #[]) ∧ ∃ A' c', WrT w w' base g A A' (n + (uvs vs).length) c' (l ++ uvs vs) := by
  have hvl : vs.length = p := OE.len (by decide) hV
  have hul : (uvs vs).length ≤ 30 := by have := uvs_len vs (fun v hv => (hvs v hv).2); omega
  obtain ⟨T, hT⟩ : ∃ T, (uvs vs).length = T := ⟨_, rfl⟩
  rw [hT] at hul ⊢
  replace hT := Lib.hid hT
  replace hvl := Lib.hid hvl
  replace hvs := Lib.hid hvs
  have hz0 : Hid (l ++ uvs vs = l ++ uvs (vs.drop 0) ∧ n + T = n + (uvs (vs.drop 0)).length) := Lib.hid ⟨rfl, by rw [List.drop_zero, hT.out]⟩
  have hne : ∀ W A1, WrT w W base g A A1 n c l → True := fun _ _ _ => trivial
  clear hne
  go_enter Tryz.func37, Tryz.ntmps37
  go_wp2
  go_loopw [8] (fun i wr => ∃ (k M C : Nat) (B : Option Addr) (r : List UInt8), k ≤ p ∧ i = .int .i64 (k : Int) ∧ Hid (l ++ uvs vs = r ++ uvs (vs.drop k) ∧ n + T = M + (uvs (vs.drop k)).length) ∧ WrT w wr base g A B M C r) (fun i _ => p - (intOf i).toNat)
  case atStart => exact ⟨0, n, c, A, l, by omega, rfl, hz0, WrT.refl h⟩
  case round =>
    obtain ⟨k, M, C, B, r, hk, rfl, hz, hW⟩ := hrel
    have hs := hW.ch.size
    by_cases hlt : k < p
    · have hV2 : OE elI wr bv 3 V p d vs := OE.chg hV hW.ch fun ad e hk => by
        rcases hk with e2 | ⟨bd, e1, e2⟩
        · exact Own.ne_blk hV h.bk (by decide) ad e e2
        · exact OE.neT (F := elB8) hV h.ob.asE (by decide) ad bd e e1 e2
      obtain ⟨ad, x, rfl, hx, x0⟩ := (OE.re (by decide) hV2).iat hlt
      have hx0 := hvs.out x (List.mem_of_getElem? hx)
      have hzz := hz.out
      rw [drop_at hx, uvs_cons] at hzz
      have hM1 : M ≤ 140737488355000 := by
        have := hzz.2
        omega
      obtain ⟨v, rfl⟩ : ∃ v : Nat, x = (v : Int) := ⟨x.toNat, by omega⟩
      rw [Int.toNat_natCast] at hzz
      replace hzz := Lib.hid hzz
      have hN := wnumber_any g base B M C r v wr hW.ws.x (by omega) hM1 (by omega)
      clear hz hx
      go_wp2_with fail
      refine hN.mono ?_
      rintro e w1 ⟨rfl, A1, c1, hT1⟩
      clear hN
      go_wp2
      go_roundw
      case rel =>
        refine ⟨k + 1, M + (uv v).length, c1, A1, r ++ uv v, by omega, by go_num, Lib.hid ⟨?_, ?_⟩, hW.trans hT1⟩
        · rw [hzz.out.1, List.append_assoc]
        · rw [hzz.out.2, List.length_append]
          omega
      case measure => simp [intOf]; omega
    · obtain rfl : k = p := by omega
      have hzz := hz.out
      rw [List.drop_of_length_le (by have := hvl.out; omega)] at hzz
      have e1 : M = n + T := by have := hzz.2; simpa [uvs] using this.symm
      have e2 : r = l ++ uvs vs := by have := hzz.1; simpa [uvs] using this.symm
      subst e1
      rw [e2] at hW
      clear hzz hz
      go_wp2
      first
        | go_end0
        | refine bodyPost_ret (results_none rfl _ _ _) rfl ?_
      exact ⟨rfl, B, C, hW⟩
end Go.Proofs.YtlcaaacbookopaaGreatDoor

namespace Go.Proofs.YtlcaaacbookopaaGreatDoor
open Go.RowKit

/-- bytes with their sum behind -/
def sealB (l : List UInt8) : List UInt8 := l ++ four (crc l)
theorem sealB_len (l : List UInt8) : (sealB l).length = l.length + 4 := by unfold sealB; rw [List.length_append]; rfl
/-- a sealing's end: bytes of the call's own, in the old row's block or in a new one -/
def SealP (w : World) (base : Nat) (A : Option Addr) (n : Nat) (l : List UInt8) (e : Ending) (w' : World) : Prop :=
  ∃ A' c', e = .returned (.slice A' (n + 4) c') ∧ OB w' base 5 A' (n + 4) c' (sealB l) ∧ Chg (fun k => ∃ ad, A = some ad ∧ k = ad.block) w w'

set_option maxRecDepth 100000 in
set_option maxHeartbeats 4000000 in
theorem bsealed_any (base : Nat) (A : Option Addr) (n c : Nat) (l : List UInt8) (w : World) (h : OB w base 5 A n c l) (hb : base ≤ w.heap.size) (hn : n ≤ 140737488355000) :
    Calls Tryz.prog 39 #[.slice A n c] w (SealP w base A n l) := by
  have hS := sum_any A n c l w h.rb (by omega)
  have hcl := crc_lt l
  unfold SealP sealB
  obtain ⟨s, hs⟩ : ∃ s, crc l = s := ⟨_, rfl⟩
  rw [hs] at hS hcl ⊢
  clear hs
  go_enter Tryz.func39, Tryz.ntmps39
  go_wp2_with fail
  refine hS.mono ?_
  rintro e w1 ⟨rfl, hg1⟩
  have h4 : RB (w1.alloc (.cells (fourC s) 5)) (some ⟨w1.heap.size, 0, none⟩) 4 (four s) := RB.new w1 (four s) 4 (fourC s) 5 rfl (fourC_eq s hcl)
  have ho := (h.grew hg1).grew ((Chg.refl _ w1).alloc (.cells (fourC s) 5))
  have hsz := hg1.size
  unfold fourC at h4 ho
  clear hS
  go_wp2_with (at_builtin; go_loud (refine wpList_appB rfl _ _ rfl base A n c l rfl ho (by simp; omega) _ 4 4 (four s) rfl h4 (by omega) ?_); intro A2 c2 w2 h2)
  go_ret
  exact ⟨A2, c2, rfl, h2.ob, ((Chg.of_grew hg1).alloc _).trans h2.chg⟩
/-- how a meta's bytes begin -/
def headM : List UInt8 := [84, 87, 77, 1]
/-- a meta's bytes but for their sum -/
def metB (m : Met) : List UInt8 := headM ++ (uv m.id ++ (uvs [m.lv, m.sr, m.pt] ++ (uv (zz m.lo) ++ (uv (zz m.hi) ++ (uv m.src.length ++ m.src.flatMap uv)))))
def encM (m : Met) : List UInt8 := sealB (metB m)
/-- numbers of 64 bits -/
structure MetW (m : Met) : Prop where
  id : m.id < 18446744073709551616
  lo : -9223372036854775808 ≤ m.lo ∧ m.lo ≤ 9223372036854775807
  hi : -9223372036854775808 ≤ m.hi ∧ m.hi ≤ 9223372036854775807
  src : ∀ x ∈ m.src, x < 18446744073709551616
theorem metOk_iff (m : Met) : metOk m = true ↔ (0 ≤ m.lv ∧ m.lv ≤ 2147483647) ∧ (0 ≤ m.sr ∧ m.sr ≤ 2147483647) ∧ (0 ≤ m.pt ∧ m.pt ≤ 2147483647) ∧ riseG none m.src = true ∧ m.lo ≤ m.hi ∧ m.src.length ≤ 64 := by
  unfold metOk numOk
  simp only [List.all_cons, List.all_nil, Bool.and_true, Bool.and_eq_true, decide_eq_true_eq]
  constructor
  · rintro ⟨⟨h1, h2, h3⟩, h4, h5, h6⟩
    exact ⟨h1, h2, h3, h4, h5, h6⟩
  · rintro ⟨h1, h2, h3, h4, h5, h6⟩
    exact ⟨⟨h1, h2, h3⟩, h4, h5, h6⟩
end Go.Proofs.YtlcaaacbookopaaGreatDoor

namespace Go.Proofs.YtlcaaacbookopaaGreatDoor
open Go.RowKit

theorem RB.newF {w : World} {B : Nat} {l : List UInt8} {n : Nat} {cs : Array Value} {t : TypeId} {fr : Nat × Nat} (hB : B = w.heap.size) (hn : l.length = n) (hc : cs = (l.map byt).toArray) : RB (w.alloc (.cells cs t fr)) (some ⟨B, 0, none⟩) n l := by
  subst hB; subst hc
  refine ⟨hn, fun k u hu => ⟨_, rfl, ?_⟩⟩
  rw [add_head]
  have : (w.alloc (.cells (l.map byt).toArray t fr)).heap[w.heap.size]? = some (.cells (l.map byt).toArray t fr) := heap_alloc_new w _
  rw [cell_of_row _ _ _ _ _ _ this]
  simpa using hu
theorem cellsIn_nil (w : World) : CellsIn [] w := fun k hk => by cases hk
theorem cellsIn_blk {k : Nat} {bs : List Nat} {W : World} {t : TypeId} {cs : Array Value} (h : Blk W k t cs) (h' : CellsIn bs W) : CellsIn (k :: bs) W := fun i hi => by
  rcases List.mem_cons.1 hi with rfl | hi
  · exact ⟨_, _, _, h⟩
  · exact h' i hi
/-- a meta's bytes while they are laid -/
structure EmS (w wr : World) (gw : Nat) (m : Met) (D : Option Addr) (p d : Nat) (A : Option Addr) (n c : Nat) (l : List UInt8) : Prop where
  bm : Blk wr w.heap.size 25 #[.int .u64 (m.id : Int), .int .i64 m.lo, .int .i64 m.hi, .int .i64 m.lv, .slice D p d, .int .i64 m.sr, .int .i64 m.pt]
  ws : WrS wr (w.heap.size + 1) gw A n c l
  src : RE elU wr D p m.src
  dlt : ∀ ad, D = some ad → 0 < p → ad.block < w.heap.size
  ch : Chg (Up (w.heap.size + 1)) w wr
theorem EmS.st0 {w w2 : World} {gw : Nat} {m : Met} {D : Option Addr} {p d : Nat} {A0 A : Option Addr} {n n0 c c0 : Nat} {l l0 : List UInt8} {W : World}
    (bm : Blk w2 w.heap.size 25 #[.int .u64 (m.id : Int), .int .i64 m.lo, .int .i64 m.hi, .int .i64 m.lv, .slice D p d, .int .i64 m.sr, .int .i64 m.pt]) (src : RE elU w2 D p m.src) (dlt : ∀ ad, D = some ad → 0 < p → ad.block < w.heap.size)
    (ch : Chg (Up (w.heap.size + 1)) w w2) (hx : WrX w2 (w.heap.size + 1) gw A0 n0 c0 l0) (ht : WrT w2 W (w.heap.size + 1) gw A0 A n c l) : EmS w W gw m D p d A n c l := by
  have hc := ht.upX hx
  exact ⟨bm.chg hc (by show ¬ w.heap.size + 1 ≤ w.heap.size; omega), ht.ws, src.far hc (fun ad e h0 => by have := dlt ad e h0; show ¬ w.heap.size + 1 ≤ ad.block; omega), dlt, ch.trans hc⟩
theorem EmS.step {w wr W : World} {gw : Nat} {m : Met} {D : Option Addr} {p d : Nat} {A A' : Option Addr} {n n' c c' : Nat} {l l' : List UInt8} (h : EmS w wr gw m D p d A n c l) (hc : Chg (Up (w.heap.size + 1)) wr W) (hw : WrS W (w.heap.size + 1) gw A' n' c' l') : EmS w W gw m D p d A' n' c' l' :=
  ⟨h.bm.chg hc (by show ¬ w.heap.size + 1 ≤ w.heap.size; omega), hw, h.src.far hc (fun ad e h0 => by have := h.dlt ad e h0; show ¬ w.heap.size + 1 ≤ ad.block; omega), h.dlt, h.ch.trans hc⟩
theorem EmS.tr {w wr W W' : World} {gw : Nat} {m : Met} {D : Option Addr} {p d : Nat} {A A' : Option Addr} {n n' c c' : Nat} {l l' : List UInt8} (h : EmS w wr gw m D p d A n c l) (hg : Grew wr W) (ht : WrT W W' (w.heap.size + 1) gw A A' n' c' l') : EmS w W' gw m D p d A' n' c' l' :=
  h.step ((Chg.of_grew hg).trans (ht.up (h.ws.grew hg))) ht.ws
/-- a meta's bytes, new, and an error's number -/
def EncP (w : World) (l : List UInt8) (z : Int) (e : Ending) (w' : World) : Prop := ∃ A c, e = .returned (.tuple #[.slice A l.length c, .int .i64 z]) ∧ OB w' w.heap.size 5 A l.length c l ∧ Grew w w'

set_option maxRecDepth 100000 in
set_option maxHeartbeats 4000000 in
theorem encodeMeta_no (m : Met) (D : Option Addr) (p d : Nat) (w : World) (h : RE elU w D p m.src) (hp : p ≤ 9223372036854775807) (hno : metOk m = false) :
    Calls Tryz.prog 11 #[.agg #[.int .u64 (m.id : Int), .int .i64 m.lo, .int .i64 m.hi, .int .i64 m.lv, .slice D p d, .int .i64 m.sr, .int .i64 m.pt]] w (EncP w [] 92) := by
  have hg0 : Grew w (w.alloc (.cells #[.int .u64 (m.id : Int), .int .i64 m.lo, .int .i64 m.hi, .int .i64 m.lv, .slice D p d, .int .i64 m.sr, .int .i64 m.pt] 25)) := (Chg.refl _ w).alloc _
  have hM := may_any m D p d _ (h.grew hg0) hp
  rw [hno] at hM
  unfold EncP
  go_enter Tryz.func11, Tryz.ntmps11
  go_wp2_with fail
  refine hM.mono ?_
  rintro e w1 ⟨rfl, hg1⟩
  clear hM
  go_wp2
  go_ret2
  exact ⟨none, 0, rfl, Own.nil _ _ _ _, hg0.trans hg1⟩

set_option maxRecDepth 100000 in
set_option maxHeartbeats 8000000 in
theorem encodeMeta_ok (m : Met) (D : Option Addr) (p d : Nat) (w : World) (h : RE elU w D p m.src) (hok : metOk m = true) (hw : MetW m) :
    Calls Tryz.prog 11 #[.agg #[.int .u64 (m.id : Int), .int .i64 m.lo, .int .i64 m.hi, .int .i64 m.lv, .slice D p d, .int .i64 m.sr, .int .i64 m.pt]] w (EncP w (encM m) 0) := by
  obtain ⟨o1, o2, o3, o4, o5, o6⟩ := (metOk_iff m).1 hok
  have hpl : m.src.length = p := h.1
  have hp : p ≤ 64 := by rw [← hpl]; exact o6
  have hg0 : Grew w (w.alloc (.cells #[.int .u64 (m.id : Int), .int .i64 m.lo, .int .i64 m.hi, .int .i64 m.lv, .slice D p d, .int .i64 m.sr, .int .i64 m.pt] 25)) := (Chg.refl _ w).alloc _
  have hb0 := Blk.new w 25 #[.int .u64 (m.id : Int), .int .i64 m.lo, .int .i64 m.hi, .int .i64 m.lv, .slice D p d, .int .i64 m.sr, .int .i64 m.pt]
  have hM := may_any m D p d _ (h.grew hg0) (by omega)
  have hs0 : w.heap.size + 1 = (w.alloc (.cells #[.int .u64 (m.id : Int), .int .i64 m.lo, .int .i64 m.hi, .int .i64 m.lv, .slice D p d, .int .i64 m.sr, .int .i64 m.pt] 25)).heap.size := by simp
  have hdl := h.lt (by decide)
  rw [hok] at hM
  obtain ⟨R, hR⟩ : ∃ R, encM m = R := ⟨_, rfl⟩
  rw [hR]
  replace hR := Lib.hid hR
  replace hpl := Lib.hid hpl
  unfold EncP
  go_enter Tryz.func11, Tryz.ntmps11
  go_wp2_with fail
  refine hM.mono ?_
  rintro e w1 ⟨rfl, hg1⟩
  have hb1 := hb0.grew hg1
  have hsz1 := hg1.size
  rw [← hs0] at hsz1
  have hcv := Lib.run_convert_bytes_const (P := Tryz.prog) w1 26 5 #[.int .u8 84, .int .u8 87, .int .u8 77, .int .u8 1] 4 4 Tryz.underlying26 Tryz.underlying5
  obtain ⟨wa, hwa⟩ : ∃ wa, wa = w1.alloc (.cells #[.int .u8 84, .int .u8 87, .int .u8 77, .int .u8 1] 5 (4, 5)) := ⟨_, rfl⟩
  have hra : RB wa (some ⟨w1.heap.size, 0, none⟩) 4 headM := by rw [hwa]; exact RB.newF rfl rfl rfl
  have ga : Grew w1 wa := by rw [hwa]; exact (Chg.refl _ w1).alloc _
  have hsa : wa.heap.size = w1.heap.size + 1 := by rw [hwa]; simp
  rw [show (#[.int .u8 84, .int .u8 87, .int .u8 77, .int .u8 1] : Array Value).size = 4 from rfl, ← hwa] at hcv
  obtain ⟨w2, hw2⟩ : ∃ w2, w2 = wa.alloc (.cells #[.slice (some ⟨w1.heap.size, 0, none⟩) 4 4] 66) := ⟨_, rfl⟩
  have g2 : Grew wa w2 := by rw [hw2]; exact (Chg.refl _ wa).alloc _
  have bm2 := (hb1.grew ga).grew g2
  have hX : WrX w2 (w.heap.size + 1) wa.heap.size (some ⟨w1.heap.size, 0, none⟩) 4 4 headM :=
    ⟨by rw [hw2]; exact Blk.new wa _ _, .inr ⟨hra.grew g2, rfl⟩, by omega, fun ad e => by injection e with e; subst e; exact ⟨hsz1, by show w1.heap.size ≠ wa.heap.size; omega⟩⟩
  have hsr2 := (((h.grew hg0).grew hg1).grew ga).grew g2
  have hch2 : Chg (Up (w.heap.size + 1)) w w2 := Chg.of_grew (((hg0.trans hg1).trans ga).trans g2)
  have hsz2 : w.heap.size + 1 ≤ w2.heap.size := by have := (ga.trans g2).size; omega
  have m0 := bm2.cell 0
  simp only [List.getElem?_toArray, List.getElem?_cons_zero] at m0
  rw [hw2] at m0
  clear hM hb1 hb0 hwa
  go_wp2_with fail
  rw [← hw2]
  clear hcv m0 hw2
  rw [hsa] at hX
  obtain ⟨gw, hgw⟩ : ∃ gw, w1.heap.size + 1 = gw := ⟨_, rfl⟩
  rw [hgw] at hX ⊢
  refine (wnumber_any gw (w.heap.size + 1) _ 4 4 headM m.id w2 hX hsz2 (by omega) hw.id).mono ?_
  rintro e w3 ⟨rfl, A3, c3, hT3⟩
  have hS := EmS.st0 bm2 hsr2 hdl hch2 hX hT3
  clear hT3 hX hgw hra ga hsa g2 bm2 hsr2 hch2
  have m3 := hS.bm.cell 3
  have m5 := hS.bm.cell 5
  have m6 := hS.bm.cell 6
  simp only [List.getElem?_toArray, List.getElem?_cons_succ, List.getElem?_cons_zero] at m3 m5 m6
  have hsz3 : w.heap.size + 1 ≤ w3.heap.size := by have := hS.ch.size; have := hS.bm.lt; omega
  obtain ⟨w4, hw4⟩ : ∃ w4, w4 = w3.alloc (.cells #[.int .i64 m.lv, .int .i64 m.sr, .int .i64 m.pt] 3) := ⟨_, rfl⟩
  have hg4 : Grew w3 w4 := by rw [hw4]; exact (Chg.refl _ w3).alloc _
  have hV : OE elI w4 w3.heap.size 3 (some ⟨w3.heap.size, 0, none⟩) 3 3 [m.lv, m.sr, m.pt] := by rw [hw4]; exact OE.lit w3 w3.heap.size 3 3 [m.lv, m.sr, m.pt] _ (Nat.le_refl _) (by unfold maxLen; omega) rfl rfl
  have l1 := uv_len10 hw.id
  have hvs : ∀ v ∈ [m.lv, m.sr, m.pt], 0 ≤ v ∧ v < 9223372036854775808 := by
    intro v hv
    simp only [List.mem_cons, List.not_mem_nil, or_false] at hv
    rcases hv with rfl | rfl | rfl <;> omega
  have l2 := uvs_len [m.lv, m.sr, m.pt] (fun v hv => (hvs v hv).2)
  simp only [List.length_cons, List.length_nil] at l2
  go_wp2_with fail
  rw [← hw4]
  refine (wnumbers_any gw (w.heap.size + 1) w3.heap.size A3 _ c3 _ _ 3 3 [m.lv, m.sr, m.pt] w4 (hS.ws.grew hg4) hV (Nat.le_trans hsz3 hg4.size) (by omega) (by omega) hvs).mono ?_
  rintro e w5 ⟨rfl, A5, c5, hT5⟩
  have hS5 := hS.tr hg4 hT5
  have hsz5 : w.heap.size + 1 ≤ w5.heap.size := by have := hS5.bm.lt; omega
  clear hT5 hV hS hw4 hg4 hsz3 m3 m5 m6
  go_wp2_with fail
  have lz1 := uv_len10 (zz_lt hw.lo.1 hw.lo.2)
  have lz2 := uv_len10 (zz_lt hw.hi.1 hw.hi.2)
  obtain ⟨n5, hn5⟩ : ∃ n5, 4 + (uv m.id).length + (uvs [m.lv, m.sr, m.pt]).length = n5 := ⟨_, rfl⟩
  obtain ⟨b5, hb5⟩ : ∃ b5, headM ++ uv m.id ++ uvs [m.lv, m.sr, m.pt] = b5 := ⟨_, rfl⟩
  rw [hn5, hb5] at hS5
  have hn5b : n5 ≤ 44 := by omega
  clear hn5 l1 l2
  have g0 := hS5.ws.bk.cell 0
  have m1 := hS5.bm.cell 1
  have m2 := hS5.bm.cell 2
  simp only [List.getElem?_toArray, List.getElem?_cons_succ, List.getElem?_cons_zero] at g0 m1 m2
  have hcs : CellsIn [w.heap.size, gw] w5 := cellsIn_blk hS5.bm (cellsIn_blk hS5.ws.bk (cellsIn_nil _))
  have hsame : Hid (∀ W1, Grew w5 W1 → SameIn [w.heap.size, gw] w5 W1) := fun W1 h1 => sameIn_of h1 hcs fun _ _ e => e
  refine wp_region_textL [] [w.heap.size, gw] (by kernel_rfl) (by kernel_rfl) hcs ?_
  simp only [wpUL, tagOf, chk, List.cons_append, List.nil_append]
  intro K hK
  go_wp2_with fail
  refine OnlyN.normal (hK _ _ (fun _ => ⟨_, _, _, rfl, rfl, by simp⟩) ?_)
  clear hK K
  intro K hK
  go_wp2_with fail
  refine OnlyN.normal (hK _ _ (fun _ => ⟨_, _, _, rfl, rfl, by simp⟩) ?_)
  clear hK K
  intro K hK
  go_wp2_with fail
  refine (putInt_any A5 n5 c5 b5 m.lo _ (RB.grew hS5.ws.ob.rb (Chg.refl _ w5).drew) (by omega) hw.lo.1 hw.lo.2).mono ?_
  rintro e w6 ⟨A6, c6, rfl, ho6, hg6⟩
  have hg56 : Grew w5 w6 := (Chg.refl _ w5).drew.trans hg6
  have m2' := (hS5.bm.grew hg56).cell 2
  simp only [List.getElem?_toArray, List.getElem?_cons_succ, List.getElem?_cons_zero] at m2'
  go_wp2_with fail
  refine OnlyN.normal (hK _ _ (hsame.out _ hg56) ?_)
  clear hK K
  intro K hK
  go_wp2_with fail
  refine OnlyN.normal (hK _ _ (fun _ => ⟨_, _, _, rfl, rfl, by simp⟩) ?_)
  clear hK K
  intro K hK
  go_wp2_with fail
  refine (putInt_any A6 _ c6 _ m.hi w6 ho6.rb (by omega) hw.hi.1 hw.hi.2).mono ?_
  rintro e w7 ⟨A7, c7, rfl, ho7, hg7⟩
  have hg57 := hg56.trans hg7
  go_wp2_with fail
  refine OnlyN.normal (hK _ _ (hsame.out _ hg57) ?_)
  clear hK K
  have b7 := hS5.ws.bk.grew hg57
  have g7 := b7.cell 0
  have f7 := b7.frozen 0
  simp only [List.getElem?_toArray, List.getElem?_cons_zero] at g7
  obtain ⟨n7, hn7⟩ : ∃ n7, n5 + (uv (zz m.lo)).length + (uv (zz m.hi)).length = n7 := ⟨_, rfl⟩
  obtain ⟨l7, hl7⟩ : ∃ l7, b5 ++ uv (zz m.lo) ++ uv (zz m.hi) = l7 := ⟨_, rfl⟩
  rw [hn7, hl7] at ho7
  rw [hn7]
  have hn7b : n7 ≤ 64 := by omega
  have hsz56 := hg56.size
  have b8 := b7.set 0 (.slice A7 n7 c7)
  simp only [List.setIfInBounds_toArray, List.set_cons_zero] at b8
  have hS8 : EmS w (w7.setCell ⟨gw, 0, none⟩ (.slice A7 n7 c7)) gw m D p d A7 n7 c7 l7 := by
    have o7 : OB w7 (w.heap.size + 1) 5 A7 n7 c7 l7 := Own.mono ho7 (by omega)
    refine hS5.step ((Chg.of_grew hg57).setCell (p := ⟨gw, 0, none⟩) (.inr hS5.ws.lo) _) ⟨b8, ?_, hS5.ws.lo⟩
    exact Own.chg o7 (Chg.cell1 w7 gw 0 _) fun ad e hk => Own.ne_blk o7 b7 (by decide) ad e hk
  have hsz7 := hg57.size
  clear hn7 b8 ho7 ho6 hg7 hg6 hsame hcs g0 m1 m2 m2' lz1 lz2
  go_wp2_with fail
  refine OnlyN.normal ?_
  have m4 := hS8.bm.cell 4
  simp only [List.getElem?_toArray, List.getElem?_cons_succ, List.getElem?_cons_zero] at m4
  obtain ⟨w8, hw8⟩ : ∃ w8, w8 = w7.setCell ⟨gw, 0, none⟩ (.slice A7 n7 c7) := ⟨_, rfl⟩
  rw [← hw8] at hS8 m4 ⊢
  have hsz8 : w.heap.size + 1 ≤ w8.heap.size := by have := hS8.bm.lt; omega
  clear hw8 g7 f7 b7 hg57 hg56 hS5
  obtain ⟨w9, hw9⟩ : ∃ w9, w9 = w8.alloc (.cells #[.int .i64 (p : Int)] 3) := ⟨_, rfl⟩
  have hg9 : Grew w8 w9 := by rw [hw9]; exact (Chg.refl _ w8).alloc _
  have hV : OE elI w9 w8.heap.size 3 (some ⟨w8.heap.size, 0, none⟩) 1 1 [(p : Int)] := by rw [hw9]; exact OE.lit w8 w8.heap.size 3 1 [(p : Int)] _ (Nat.le_refl _) (by unfold maxLen; omega) rfl rfl
  have hvp : ∀ v ∈ [(p : Int)], 0 ≤ v ∧ v < 9223372036854775808 := by
    intro v hv
    rcases List.mem_singleton.1 hv with rfl
    omega
  have l9 := uvs_len [(p : Int)] (fun v hv => (hvp v hv).2)
  simp only [List.length_cons, List.length_nil] at l9
  go_wp2_with fail
  rw [← hw9]
  refine (wnumbers_any gw (w.heap.size + 1) w8.heap.size A7 _ c7 _ _ 1 1 [(p : Int)] w9 (hS8.ws.grew hg9) hV (Nat.le_trans hsz8 hg9.size) (by omega) (by omega) hvp).mono ?_
  rintro e w10 ⟨rfl, A10, c10, hT10⟩
  have hS10 := hS8.tr hg9 hT10
  clear hT10 hV hS8 hw9 hg9 hsz8 m4
  obtain ⟨n10, hn10⟩ : ∃ n10, n7 + (uvs [(p : Int)]).length = n10 := ⟨_, rfl⟩
  obtain ⟨l10, hl10⟩ : ∃ l10, l7 ++ uvs [(p : Int)] = l10 := ⟨_, rfl⟩
  rw [hn10, hl10] at hS10
  have hn10b : n10 ≤ 74 := by omega
  have hRm : Hid (l10 ++ m.src.flatMap uv = metB m) := Lib.hid (by
    rw [← hl10, ← hl7, ← hb5, ← hpl.out]
    unfold metB
    simp [uvs])
  clear hn10 hl10 hl7 hb5 l9
  have m4 := hS10.bm.cell 4
  simp only [List.getElem?_toArray, List.getElem?_cons_succ, List.getElem?_cons_zero] at m4
  have hz0 : Hid (l10 ++ m.src.flatMap uv = l10 ++ (m.src.drop 0).flatMap uv) := Lib.hid rfl
  replace hn7b : True := trivial
  clear hn7b
  go_wp2
  go_loopw [49] (fun i wr => ∃ (k M C : Nat) (B : Option Addr) (r : List UInt8), k ≤ p ∧ i = .int .i64 (k : Int) ∧ M ≤ n10 + 10 * k ∧ Hid (l10 ++ m.src.flatMap uv = r ++ (m.src.drop k).flatMap uv) ∧ EmS w wr gw m D p d B M C r) (fun i _ => p - (intOf i).toNat)
  case atStart => exact ⟨0, n10, c10, A10, l10, by omega, rfl, by omega, hz0, hS10⟩
  case round =>
    obtain ⟨k, M, C, B, r, hk, rfl, hM, hz, hS⟩ := hrel
    have hsr : w.heap.size + 1 ≤ wr.heap.size := by have := hS.bm.lt; omega
    by_cases hlt : k < p
    · obtain ⟨ad, x, rfl, hx, x0⟩ := hS.src.uat hlt
      have hxw := hw.src x (List.mem_of_getElem? hx)
      have hzz := hz.out
      rw [drop_at hx, List.flatMap_cons] at hzz
      replace hzz := Lib.hid hzz
      have hl1 := uv_len10 hxw
      have hN := wnumber_any gw (w.heap.size + 1) B M C r x wr hS.ws.x hsr (by omega) hxw
      clear hz hx
      go_wp2_with fail
      refine hN.mono ?_
      rintro e w11 ⟨rfl, A11, c11, hT11⟩
      have hS11 := hS.tr (Chg.refl _ wr) hT11
      clear hN hT11
      go_wp2
      go_roundw
      case rel =>
        refine ⟨k + 1, M + (uv x).length, c11, A11, r ++ uv x, by omega, by go_num, by omega, Lib.hid ?_, hS11⟩
        rw [hzz.out, List.append_assoc]
      case measure => simp [intOf]; omega
    · obtain rfl : k = p := by omega
      have hzz := hz.out
      rw [List.drop_of_length_le (by have := hpl.out; omega), List.flatMap_nil, List.append_nil, hRm.out] at hzz
      subst hzz
      have g0 := hS.ws.bk.cell 0
      simp only [List.getElem?_toArray, List.getElem?_cons_zero] at g0
      have hB := bsealed_any (w.heap.size + 1) B M C (metB m) wr hS.ws.ob hsr (by omega)
      have hRl : R.length = M + 4 := by
        rw [← hR.out]
        unfold encM
        rw [sealB_len, hS.ws.len]
      replace hRl := Lib.hid hRl
      clear hz m4
      go_wp2_with fail
      refine hB.mono ?_
      rintro e w12 ⟨A12, c12, rfl, ho12, hc12⟩
      clear hB
      go_wp2
      go_ret2
      refine ⟨A12, c12, by rw [hRl.out]; rfl, ?_, ?_⟩
      · rw [hRl.out, ← hR.out]
        exact Own.mono ho12 (by omega)
      · refine ⟨hc12.os.trans hS.ch.os, hc12.tape.trans hS.ch.tape, hc12.output.trans hS.ch.output, Nat.le_trans hS.ch.size hc12.size, fun j hj _ => ?_⟩
        rw [hc12.block j (Nat.lt_of_lt_of_le hj hS.ch.size) (fun ⟨ad, e, hk⟩ => by have := (Own.blk_lt hS.ws.ob ad e).1; omega), hS.ch.block j hj (by show ¬ w.heap.size + 1 ≤ j; omega)]
end Go.Proofs.YtlcaaacbookopaaGreatDoor
