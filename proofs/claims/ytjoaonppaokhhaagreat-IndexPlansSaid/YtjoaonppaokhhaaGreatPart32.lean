/-
  Several texts in one:
  A block's bytes being laid: (writer).number, (writer).numbers, the sum behind. Conditions: lengths that memory bears.
  A sum behind bytes; (block.EncodeMeta) walked. Conditions: lengths that memory bears.
-/
import Derived.Test.YtjoaonppaokhhaaGreatPart27
import Derived.Test.YtjoaonppaokhhaaGreatPart31
import Derived.Lib.SmallJoins
import Derived.Lib.AppendZeros

namespace Go.Proofs.YtjoaonppaokhhaaGreat
open Go.RowKit

def elB8 : El UInt8 := ⟨fun b => [byt b], 1, fun _ => rfl, by
  intro x u hu
  simp at hu
  subst hu
  rfl⟩
theorem elB8_flat (l : List UInt8) : elB8.flat l = l.map byt := by
  induction l with
  | nil => rfl
  | cons x r ih => rw [El.flat_cons, ih]; rfl
theorem OB.asE {w : World} {base : Nat} {t : TypeId} {A : Option Addr} {n c : Nat} {l : List UInt8} (h : OB w base t A n c l) : OE elB8 w base t A n c l := by
  unfold OE
  rw [elB8_flat]
  exact h
/-- bytes that are being laid, in the writer's block -/
structure WrS (w : World) (base g : Nat) (A : Option Addr) (n c : Nat) (l : List UInt8) : Prop where
  bk : Blk w g 115 #[.slice A n c]
  ob : OB w base 5 A n c l
  lo : base ≤ g
abbrev Up (base : Nat) : Nat → Prop := fun k => base ≤ k
theorem WrS.len {w : World} {base g : Nat} {A : Option Addr} {n c : Nat} {l : List UInt8} (h : WrS w base g A n c l) : l.length = n := h.ob.len
/-- what laying some more leaves: of what was there the writer's block and its bytes' block alone turn -/
structure WrT (w w' : World) (base g : Nat) (A A' : Option Addr) (n c : Nat) (l : List UInt8) : Prop where
  ws : WrS w' base g A' n c l
  ch : Chg (fun k => k = g ∨ ∃ ad, A = some ad ∧ k = ad.block) w w'
  nx : ∀ ad, A' = some ad → A = some ad ∨ w.heap.size ≤ ad.block
theorem WrT.refl {w : World} {base g : Nat} {A : Option Addr} {n c : Nat} {l : List UInt8} (h : WrS w base g A n c l) : WrT w w base g A A n c l := ⟨h, Chg.refl _ _, fun _ e => .inl e⟩
theorem WrT.trans {w w1 w2 : World} {base g : Nat} {A A1 A2 : Option Addr} {n c n2 c2 : Nat} {l l2 : List UInt8} (h : WrT w w1 base g A A1 n c l) (h2 : WrT w1 w2 base g A1 A2 n2 c2 l2) : WrT w w2 base g A A2 n2 c2 l2 := by
  have hs := h.ch.size
  refine ⟨h2.ws, h.ch.step h2.ch fun k hk e => ?_, fun ad e => ?_⟩
  · rcases e with e | ⟨ad, e1, e2⟩
    · exact .inl e
    · rcases h.nx ad e1 with e3 | e3
      · exact .inr ⟨ad, e3, e2⟩
      · omega
  · rcases h2.nx ad e with e1 | e1
    · rcases h.nx ad e1 with e3 | e3
      · exact .inl e3
      · exact .inr e3
    · exact .inr (by omega)
theorem WrT.ahead {w0 w w' : World} {base g : Nat} {A A' : Option Addr} {n c : Nat} {l : List UInt8} (h : WrT w w' base g A A' n c l) (hg : Grew w0 w) : WrT w0 w' base g A A' n c l :=
  ⟨h.ws, (Chg.of_grew hg).trans h.ch, fun ad e => by
    have := hg.size
    rcases h.nx ad e with e1 | e1
    · exact .inl e1
    · exact .inr (by omega)⟩
theorem WrT.up {w w' : World} {base g : Nat} {A A' : Option Addr} {n n0 c c0 : Nat} {l l0 : List UInt8} (h : WrT w w' base g A A' n c l) (h0 : WrS w base g A n0 c0 l0) : Chg (Up base) w w' :=
  h.ch.mono fun k _ e => by
    rcases e with e | ⟨ad, e1, e2⟩
    · rw [e]
      exact h0.lo
    · have := (Own.blk_lt h0.ob ad e1).1
      show base ≤ k
      omega
theorem WrS.grew {w w' : World} {base g : Nat} {A : Option Addr} {n c : Nat} {l : List UInt8} (h : WrS w base g A n c l) (hg : Grew w w') : WrS w' base g A n c l := ⟨h.bk.grew hg, h.ob.grew hg, h.lo⟩
/-- .. or bytes of a literal, that have no room -/
structure WrX (w : World) (base g : Nat) (A : Option Addr) (n c : Nat) (l : List UInt8) : Prop where
  bk : Blk w g 115 #[.slice A n c]
  ob : OB w base 5 A n c l ∨ (RB w A n l ∧ c = n)
  lo : base ≤ g
  ne : ∀ ad, A = some ad → base ≤ ad.block ∧ ad.block ≠ g
theorem WrS.x {w : World} {base g : Nat} {A : Option Addr} {n c : Nat} {l : List UInt8} (h : WrS w base g A n c l) : WrX w base g A n c l :=
  ⟨h.bk, .inl h.ob, h.lo, fun ad e => ⟨(Own.blk_lt h.ob ad e).1, Own.ne_blk h.ob h.bk (by decide) ad e⟩⟩
theorem WrX.obg {w W : World} {base g : Nat} {A : Option Addr} {n c : Nat} {l : List UInt8} (h : WrX w base g A n c l) (hg : Grew w W) : OB W base 5 A n c l ∨ (RB W A n l ∧ c = n) := by
  rcases h.ob with h1 | h1
  · exact .inl (h1.grew hg)
  · exact .inr ⟨h1.1.grew hg, h1.2⟩
theorem WrX.grew {w W : World} {base g : Nat} {A : Option Addr} {n c : Nat} {l : List UInt8} (h : WrX w base g A n c l) (hg : Grew w W) : WrX W base g A n c l := ⟨h.bk.grew hg, h.obg hg, h.lo, h.ne⟩
theorem wpList_appX {ops : Array Oper} {rest : List Oper} {o : Oper} {a : Act} {w : World} {Q : Exit → Act → World → Prop} (hgd : o.guard = none) (s x : Operand)
    (ho : o.op = .call { callee := .builtin .append, args := #[s, x], argTypes := #[42, 42] })
    (base : Nat) (A : Option Addr) (n c : Nat) (l : List UInt8) (hs : a.eval s = .slice A n c) (hown : OB w base 5 A n c l ∨ (RB w A n l ∧ c = n)) (hbase : base ≤ w.heap.size)
    (B : Option Addr) (m d : Nat) (r : List UInt8) (hx : a.eval x = .slice B m d) (hr : RB w B m r) (hbytes : n + m ≤ 140737488355328) (hm : 0 < m)
    (h : ∀ A' c' w', ApB w base A (n + m) c (l ++ r) A' c' w' → wpList Tryz.prog ops Q rest (a.put o.dst (.slice A' (n + m) c')) w') : wpList Tryz.prog ops Q (o :: rest) a w := by
  rcases hown with hown | ⟨hrb, rfl⟩
  · exact wpList_appB hgd s x ho base A n c l hs hown hbase B m d r hx hr hbytes h
  · obtain ⟨i0, hi, hz0, hz1, hz2⟩ := info_parts infoU8
    obtain ⟨c', w', hrun, h2, h3, h4⟩ := run_app_new (P := Tryz.prog) w 42 o.type 5 i0 (.int .u8 0) 1 1 Tryz.underlying42 hi hz0 hz1 hz2 rfl A c c (l.map byt) (by simpa using hrb.1) hrb.2 B m d (r.map byt) (by simpa using hr.1) hr.2 (by omega) (by omega) (by unfold maxLen; omega)
    refine Lib.wpList_append_run w hgd s x _ _ ho _ _ hs hx _ _ hrun (h _ _ _ ⟨?_, Chg.of_grew h3, .inr ⟨rfl, h3, h4⟩⟩)
    have := h2.mono hbase
    rw [List.map_append]
    exact this
theorem WrX.app {w W w' : World} {base g : Nat} {A A' : Option Addr} {n m c c' : Nat} {l r : List UInt8} (h : WrX w base g A n c l) (hW : Grew w W) (ha : ApB W base A (n + m) c (l ++ r) A' c' w') :
    Blk w' g 115 #[.slice A n c] ∧ WrT w (w'.setCell ⟨g, 0, none⟩ (.slice A' (n + m) c')) base g A A' (n + m) c' (l ++ r) := by
  have b2 : Blk w' g 115 #[.slice A n c] := (h.bk.grew hW).chg ha.chg fun ⟨ad, e, hk⟩ => (h.ne ad e).2 hk.symm
  have b3 := b2.set 0 (.slice A' (n + m) c')
  simp only [List.setIfInBounds_toArray, List.set_cons_zero] at b3
  have o3 : OB (w'.setCell ⟨g, 0, none⟩ (.slice A' (n + m) c')) base 5 A' (n + m) c' (l ++ r) := Own.chg ha.ob (Chg.cell1 w' g 0 _) fun ad e hk => Own.ne_blk ha.ob b2 (by decide) ad e hk
  refine ⟨b2, ⟨b3, o3, h.lo⟩, ?_, fun ad e => ?_⟩
  · exact ((Chg.of_grew hW).trans (ha.chg.mono fun k _ e => .inr e)).setCell (p := ⟨g, 0, none⟩) (.inr (.inl rfl)) _
  · have := hW.size
    rcases ha.2.2 with ⟨e1, _⟩ | ⟨e1, _⟩
    · exact .inl (e1 ▸ e)
    · rw [e1] at e
      injection e with e
      subst e
      exact .inr this
/-- on the way: as WrT, the literal's bytes too -/
structure WrU (w w' : World) (base g : Nat) (A A' : Option Addr) (n c : Nat) (l : List UInt8) : Prop where
  wx : WrX w' base g A' n c l
  ch : Chg (fun k => k = g ∨ ∃ ad, A = some ad ∧ k = ad.block) w w'
  nx : ∀ ad, A' = some ad → A = some ad ∨ w.heap.size ≤ ad.block
theorem WrT.u {w w' : World} {base g : Nat} {A A' : Option Addr} {n c : Nat} {l : List UInt8} (h : WrT w w' base g A A' n c l) : WrU w w' base g A A' n c l := ⟨h.ws.x, h.ch, h.nx⟩
theorem WrU.refl {w : World} {base g : Nat} {A : Option Addr} {n c : Nat} {l : List UInt8} (h : WrX w base g A n c l) : WrU w w base g A A n c l := ⟨h, Chg.refl _ _, fun _ e => .inl e⟩
theorem WrU.trans {w w1 w2 : World} {base g : Nat} {A A1 A2 : Option Addr} {n c n2 c2 : Nat} {l l2 : List UInt8} (h : WrU w w1 base g A A1 n c l) (h2 : WrT w1 w2 base g A1 A2 n2 c2 l2) : WrT w w2 base g A A2 n2 c2 l2 := by
  have hs := h.ch.size
  refine ⟨h2.ws, h.ch.step h2.ch fun k hk e => ?_, fun ad e => ?_⟩
  · rcases e with e | ⟨ad, e1, e2⟩
    · exact .inl e
    · rcases h.nx ad e1 with e3 | e3
      · exact .inr ⟨ad, e3, e2⟩
      · omega
  · rcases h2.nx ad e with e1 | e1
    · rcases h.nx ad e1 with e3 | e3
      · exact .inl e3
      · exact .inr e3
    · exact .inr (by omega)
theorem WrT.upX {w w' : World} {base g : Nat} {A A' : Option Addr} {n n0 c c0 : Nat} {l l0 : List UInt8} (h : WrT w w' base g A A' n c l) (h0 : WrX w base g A n0 c0 l0) : Chg (Up base) w w' :=
  h.ch.mono fun k _ e => by
    rcases e with e | ⟨ad, e1, e2⟩
    · rw [e]
      exact h0.lo
    · have := (h0.ne ad e1).1
      show base ≤ k
      omega

set_option maxRecDepth 100000 in
set_option maxHeartbeats 4000000 in
theorem wnumber_any (g base : Nat) (A : Option Addr) (n c : Nat) (l : List UInt8) (v : Nat) (w : World) (h : WrX w base g A n c l) (hb : base ≤ w.heap.size) (hn : n ≤ 140737488355000) (hv : v < 18446744073709551616) :
    Calls Tryz.prog 94 #[.pointer (some ⟨g, 0, none⟩), .int .u64 (v : Int)] w fun e w' => e = .returned (.tuple #[]) ∧ ∃ A' c', WrT w w' base g A A' (n + (uv v).length) c' (l ++ uv v) := by
  have hl10 := uv_len10 hv
  go_enter Tryz.func94, Tryz.ntmps94
  go_wp2
  go_loopw [1] (fun sv wr => ∃ (u M C : Nat) (B : Option Addr) (r : List UInt8), sv = .int .u64 (u : Int) ∧ u < 18446744073709551616 ∧ Hid (r ++ uv u = l ++ uv v) ∧ M + (uv u).length = n + (uv v).length ∧ WrU w wr base g A B M C r) (fun sv _ => (intOf sv).toNat)
  case atStart => exact ⟨v, n, c, A, l, rfl, hv, rfl, rfl, WrU.refl h⟩
  case round =>
    obtain ⟨u, M, C, B, r, rfl, hu, Hr, hM, hT⟩ := hrel
    have ho := hT.wx
    have hs := hT.ch.size
    have hu1 := uv_len1 u
    have HM := Lib.hid hM
    have hM2 : M + 1 ≤ 140737488355328 := by omega
    have k0 := ho.bk.cell 0
    have kf := ho.bk.frozen 0
    simp only [List.getElem?_toArray, List.getElem?_cons_zero] at k0
    clear hM
    by_cases hlt : u < 128
    · have hg1 : Grew wr (wr.alloc (.cells #[.int .u8 (u : Int)] 5)) := (Chg.refl _ wr).alloc _
      have hn := RB.new wr [UInt8.ofNat u] 1 #[.int .u8 (u : Int)] 5 rfl (by simp [byt, ofNat_toNat (show u < 256 by omega)])
      have ho2 := ho.obg hg1
      have hst := fun A2 c2 w2 h2 => ho.app (m := 1) (r := [UInt8.ofNat u]) (A' := A2) (c' := c2) (w' := w2) hg1 h2
      go_wp2_with (at_builtin; go_loud (refine wpList_appX rfl _ _ rfl base B M C r rfl ho2 (by simp; omega) _ 1 1 [UInt8.ofNat u] rfl hn (by omega) (by omega) ?_); intro A2 c2 w2 h2; obtain ⟨b2, hw2⟩ := hst A2 c2 w2 h2; have q0 := b2.cell 0; have qf := b2.frozen 0; simp only [List.getElem?_toArray, List.getElem?_cons_zero] at q0)
      have hr1 := Hr.out
      have hM1 := HM.out
      rw [uv_small hlt] at hr1 hM1
      replace hw2 := hT.trans hw2
      rw [hr1] at hw2
      have hM3 : M + 1 = n + (uv v).length := by simpa using hM1
      rw [hM3] at hw2
      first
        | go_end0
        | refine bodyPost_ret (results_none rfl _ _ _) rfl ?_
      rw [hM3]
      exact ⟨rfl, A2, c2, hw2⟩
    · have hg1 : Grew wr (wr.alloc (.cells #[.int .u8 ((u % 128 + 128 : Nat) : Int)] 5)) := (Chg.refl _ wr).alloc _
      have hn := RB.new wr [UInt8.ofNat (u % 128 + 128)] 1 #[.int .u8 ((u % 128 + 128 : Nat) : Int)] 5 rfl (by simp [byt]; omega)
      have ho2 := ho.obg hg1
      have he := or128 u
      have hst := fun A2 c2 w2 h2 => ho.app (m := 1) (r := [UInt8.ofNat (u % 128 + 128)]) (A' := A2) (c' := c2) (w' := w2) hg1 h2
      go_wp2_with (at_builtin; go_loud (refine wpList_appX rfl _ _ rfl base B M C r rfl ho2 (by simp; omega) _ 1 1 [UInt8.ofNat (u % 128 + 128)] rfl hn (by omega) (by omega) ?_); intro A2 c2 w2 h2; obtain ⟨b2, hw2⟩ := hst A2 c2 w2 h2; have q0 := b2.cell 0; have qf := b2.frozen 0; simp only [List.getElem?_toArray, List.getElem?_cons_zero] at q0)
      go_roundw
      case rel =>
        refine ⟨u / 128, M + 1, c2, A2, r ++ [UInt8.ofNat (u % 128 + 128)], by simp, by omega, ?_, ?_, (hT.trans hw2).u⟩
        · show _ = _
          have hr1 := Hr.out
          rw [uv_big hlt] at hr1
          rw [List.append_assoc]
          exact hr1
        · have hM1 := HM.out
          rw [uv_big hlt] at hM1
          simp at hM1
          omega
      case measure => simp [intOf]; omega

/-- numbers' bytes, one behind the other -/
def uvs (vs : List Int) : List UInt8 := vs.flatMap fun v => uv v.toNat
theorem uvs_cons (v : Int) (vs : List Int) : uvs (v :: vs) = uv v.toNat ++ uvs vs := rfl
theorem uvs_len : ∀ (vs : List Int), (∀ v ∈ vs, v < 9223372036854775808) → (uvs vs).length ≤ 10 * vs.length
  | [], _ => by simp [uvs]
  | v :: vs, h => by
    have h1 := uvs_len vs (fun x hx => h x (List.mem_cons_of_mem _ hx))
    have h2 := uv_len10 (v := v.toNat) (by have := h v List.mem_cons_self; omega)
    rw [uvs_cons, List.length_append, List.length_cons]
    omega

set_option maxRecDepth 100000 in
set_option maxHeartbeats 4000000 in
theorem wnumbers_any (g base bv : Nat) (A : Option Addr) (n c : Nat) (l : List UInt8) (V : Option Addr) (p d : Nat) (vs : List Int) (w : World) (h : WrS w base g A n c l) (hV : OE elI w bv 3 V p d vs) (hb : base ≤ w.heap.size) (hn : n ≤ 140737488350000) (hp : p ≤ 3) (hvs : ∀ v ∈ vs, 0 ≤ v ∧ v < 9223372036854775808) :
    Calls Tryz.prog 95 #[.pointer (some ⟨g, 0, none⟩), .slice V p d] w fun e w' => e = .returned (.tuple #[]) ∧ ∃ A' c', WrT w w' base g A A' (n + (uvs vs).length) c' (l ++ uvs vs) := by
  have hvl : vs.length = p := OE.len (by decide) hV
  have hul : (uvs vs).length ≤ 30 := by have := uvs_len vs (fun v hv => (hvs v hv).2); omega
  obtain ⟨T, hT⟩ : ∃ T, (uvs vs).length = T := ⟨_, rfl⟩
  rw [hT] at hul ⊢
  replace hT := Lib.hid hT
  replace hvl := Lib.hid hvl
  replace hvs := Lib.hid hvs
  have hz0 : Hid (l ++ uvs vs = l ++ uvs (vs.drop 0) ∧ n + T = n + (uvs (vs.drop 0)).length) := Lib.hid ⟨rfl, by rw [List.drop_zero, hT.out]⟩
  have hne : ∀ W A1, WrT w W base g A A1 n c l → True := fun _ _ _ => trivial
  clear hne
  go_enter Tryz.func95, Tryz.ntmps95
  go_wp2
  go_loopw [8] (fun i wr => ∃ (k M C : Nat) (B : Option Addr) (r : List UInt8), k ≤ p ∧ i = .int .i64 (k : Int) ∧ Hid (l ++ uvs vs = r ++ uvs (vs.drop k) ∧ n + T = M + (uvs (vs.drop k)).length) ∧ WrT w wr base g A B M C r) (fun i _ => p - (intOf i).toNat)
  case atStart => exact ⟨0, n, c, A, l, by omega, rfl, hz0, WrT.refl h⟩
  case round =>
    obtain ⟨k, M, C, B, r, hk, rfl, hz, hW⟩ := hrel
    have hs := hW.ch.size
    by_cases hlt : k < p
    · have hV2 : OE elI wr bv 3 V p d vs := OE.chg hV hW.ch fun ad e hk => by
        rcases hk with e2 | ⟨bd, e1, e2⟩
        · exact Own.ne_blk hV h.bk (by decide) ad e e2
        · exact OE.neT (F := elB8) hV h.ob.asE (by decide) ad bd e e1 e2
      obtain ⟨ad, x, rfl, hx, x0⟩ := (OE.re (by decide) hV2).iat hlt
      have hx0 := hvs.out x (List.mem_of_getElem? hx)
      have hzz := hz.out
      rw [drop_at hx, uvs_cons] at hzz
      have hM1 : M ≤ 140737488355000 := by
        have := hzz.2
        omega
      obtain ⟨v, rfl⟩ : ∃ v : Nat, x = (v : Int) := ⟨x.toNat, by omega⟩
      rw [Int.toNat_natCast] at hzz
      replace hzz := Lib.hid hzz
      have hN := wnumber_any g base B M C r v wr hW.ws.x (by omega) hM1 (by omega)
      clear hz hx
      go_wp2_with fail
      refine hN.mono ?_
      rintro e w1 ⟨rfl, A1, c1, hT1⟩
      clear hN
      go_wp2
      go_roundw
      case rel =>
        refine ⟨k + 1, M + (uv v).length, c1, A1, r ++ uv v, by omega, by go_num, Lib.hid ⟨?_, ?_⟩, hW.trans hT1⟩
        · rw [hzz.out.1, List.append_assoc]
        · rw [hzz.out.2, List.length_append]
          omega
      case measure => simp [intOf]; omega
    · obtain rfl : k = p := by omega
      have hzz := hz.out
      rw [List.drop_of_length_le (by have := hvl.out; omega)] at hzz
      have e1 : M = n + T := by have := hzz.2; simpa [uvs] using this.symm
      have e2 : r = l ++ uvs vs := by have := hzz.1; simpa [uvs] using this.symm
      subst e1
      rw [e2] at hW
      clear hzz hz
      go_wp2
      first
        | go_end0
        | refine bodyPost_ret (results_none rfl _ _ _) rfl ?_
      exact ⟨rfl, B, C, hW⟩
end Go.Proofs.YtjoaonppaokhhaaGreat

namespace Go.Proofs.YtjoaonppaokhhaaGreat
open Go.RowKit

/-- bytes with their sum behind -/
def sealB (l : List UInt8) : List UInt8 := l ++ four (crc l)
theorem sealB_len (l : List UInt8) : (sealB l).length = l.length + 4 := by unfold sealB; rw [List.length_append]; rfl
/-- a sealing's end: bytes of the call's own, in the old row's block or in a new one -/
def SealP (w : World) (base : Nat) (A : Option Addr) (n : Nat) (l : List UInt8) (e : Ending) (w' : World) : Prop :=
  ∃ A' c', e = .returned (.slice A' (n + 4) c') ∧ OB w' base 5 A' (n + 4) c' (sealB l) ∧ Chg (fun k => ∃ ad, A = some ad ∧ k = ad.block) w w'

set_option maxRecDepth 100000 in
set_option maxHeartbeats 4000000 in
theorem bsealed_any (base : Nat) (A : Option Addr) (n c : Nat) (l : List UInt8) (w : World) (h : OB w base 5 A n c l) (hb : base ≤ w.heap.size) (hn : n ≤ 140737488355000) :
    Calls Tryz.prog 96 #[.slice A n c] w (SealP w base A n l) := by
  have hS := sum_any A n c l w h.rb (by omega)
  have hcl := crc_lt l
  unfold SealP sealB
  obtain ⟨s, hs⟩ : ∃ s, crc l = s := ⟨_, rfl⟩
  rw [hs] at hS hcl ⊢
  clear hs
  go_enter Tryz.func96, Tryz.ntmps96
  go_wp2_with fail
  refine hS.mono ?_
  rintro e w1 ⟨rfl, hg1⟩
  have h4 : RB (w1.alloc (.cells (fourC s) 5)) (some ⟨w1.heap.size, 0, none⟩) 4 (four s) := RB.new w1 (four s) 4 (fourC s) 5 rfl (fourC_eq s hcl)
  have ho := (h.grew hg1).grew ((Chg.refl _ w1).alloc (.cells (fourC s) 5))
  have hsz := hg1.size
  unfold fourC at h4 ho
  clear hS
  go_wp2_with (at_builtin; go_loud (refine wpList_appB rfl _ _ rfl base A n c l rfl ho (by simp; omega) _ 4 4 (four s) rfl h4 (by omega) ?_); intro A2 c2 w2 h2)
  go_ret
  exact ⟨A2, c2, rfl, h2.ob, ((Chg.of_grew hg1).alloc _).trans h2.chg⟩
set_option maxRecDepth 100000 in
set_option maxHeartbeats 4000000 in
theorem isealed_any (base : Nat) (A : Option Addr) (n c : Nat) (l : List UInt8) (w : World) (h : OB w base 5 A n c l) (hb : base ≤ w.heap.size) (hn : n ≤ 140737488355000) :
    Calls Tryz.prog 69 #[.slice A n c] w (SealP w base A n l) := by
  have hS := sum_any A n c l w h.rb (by omega)
  have hcl := crc_lt l
  unfold SealP sealB
  obtain ⟨s, hs⟩ : ∃ s, crc l = s := ⟨_, rfl⟩
  rw [hs] at hS hcl ⊢
  clear hs
  go_enter Tryz.func69, Tryz.ntmps69
  go_wp2_with fail
  refine hS.mono ?_
  rintro e w1 ⟨rfl, hg1⟩
  have h4 : RB (w1.alloc (.cells (fourC s) 5)) (some ⟨w1.heap.size, 0, none⟩) 4 (four s) := RB.new w1 (four s) 4 (fourC s) 5 rfl (fourC_eq s hcl)
  have ho := (h.grew hg1).grew ((Chg.refl _ w1).alloc (.cells (fourC s) 5))
  have hsz := hg1.size
  unfold fourC at h4 ho
  clear hS
  go_wp2_with (at_builtin; go_loud (refine wpList_appB rfl _ _ rfl base A n c l rfl ho (by simp; omega) _ 4 4 (four s) rfl h4 (by omega) ?_); intro A2 c2 w2 h2)
  go_ret
  exact ⟨A2, c2, rfl, h2.ob, ((Chg.of_grew hg1).alloc _).trans h2.chg⟩

/-- how a meta's bytes begin -/
def headM : List UInt8 := [84, 87, 77, 1]
/-- a meta's bytes but for their sum -/
def metB (m : Met) : List UInt8 := headM ++ (uv m.id ++ (uvs [m.lv, m.sr, m.pt] ++ (uv (zz m.lo) ++ (uv (zz m.hi) ++ (uv m.src.length ++ m.src.flatMap uv)))))
def encM (m : Met) : List UInt8 := sealB (metB m)
/-- numbers of 64 bits -/
structure MetW (m : Met) : Prop where
  id : m.id < 18446744073709551616
  lo : -9223372036854775808 ≤ m.lo ∧ m.lo ≤ 9223372036854775807
  hi : -9223372036854775808 ≤ m.hi ∧ m.hi ≤ 9223372036854775807
  src : ∀ x ∈ m.src, x < 18446744073709551616
theorem metOk_iff (m : Met) : metOk m = true ↔ (0 ≤ m.lv ∧ m.lv ≤ 2147483647) ∧ (0 ≤ m.sr ∧ m.sr ≤ 2147483647) ∧ (0 ≤ m.pt ∧ m.pt ≤ 2147483647) ∧ riseG none m.src = true ∧ m.lo ≤ m.hi ∧ m.src.length ≤ 64 := by
  unfold metOk numOk
  simp only [List.all_cons, List.all_nil, Bool.and_true, Bool.and_eq_true, decide_eq_true_eq]
  constructor
  · rintro ⟨⟨h1, h2, h3⟩, h4, h5, h6⟩
    exact ⟨h1, h2, h3, h4, h5, h6⟩
  · rintro ⟨h1, h2, h3, h4, h5, h6⟩
    exact ⟨⟨h1, h2, h3⟩, h4, h5, h6⟩
theorem flat_uv_len : ∀ (l : List Nat), (∀ x ∈ l, x < 18446744073709551616) → (l.flatMap uv).length ≤ 10 * l.length
  | [], _ => by simp
  | x :: l, h => by
    have h1 := flat_uv_len l fun y hy => h y (List.mem_cons_of_mem _ hy)
    have h2 := uv_len10 (h x List.mem_cons_self)
    rw [List.flatMap_cons, List.length_append, List.length_cons]
    omega
end Go.Proofs.YtjoaonppaokhhaaGreat
