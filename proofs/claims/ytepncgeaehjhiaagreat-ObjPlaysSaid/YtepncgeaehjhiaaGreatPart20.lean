/-
  Several texts in one:
  The document's disk in memory: its blocks, its files by rising names; where a file is. Conditions: lengths that memory bears.
-/
import Derived.Test.YtepncgeaehjhiaaGreatPart3
import Derived.Test.YtepncgeaehjhiaaGreatPart19

namespace Go.Proofs.YtepncgeaehjhiaaGreat
open Go.RowKit

structure FiM where
  nm : ByteArray
  da : Option Addr
  dn : Nat
  dc : Nat
  sy : Nat
def elFi : El FiM := ⟨fun m => [.string m.nm, .slice m.da m.dn m.dc, .int .i64 (m.sy : Int)], 3, fun _ => rfl, by
  intro x u hu
  simp only [List.mem_cons, List.not_mem_nil, or_false] at hu
  rcases hu with rfl | rfl | rfl <;> rfl⟩
theorem infoFi : (Tryz.prog.info? 55).map (fun i => (i.zero, i.size, i.bytes)) = some (some (.agg #[.string ⟨#[]⟩, .slice none 0 0, .int .i64 0]), 3, 48) := by kernel_rfl
/-- a file's cells are this file -/
structure FiE (w : World) (m : FiM) (v : Vw) : Prop where
  nm : m.nm = v.1
  sy : m.sy = v.2.2
  da : OB w 0 5 m.da m.dn m.dc v.2.1
theorem FiE.grew {w w' : World} {m : FiM} {v : Vw} (h : FiE w m v) (hc : Grew w w') : FiE w' m v := ⟨h.nm, h.sy, Own.grew h.da hc⟩
/-- the document's disk; R: its blocks -/
structure RF (R : Nat → Prop) (w : World) (wb : Nat) (A : Option Addr) (n c : Nat) (ms : List FiM) (V : List Vw) (down armed : Bool) (left keep : Int) (nu : Nat) : Prop where
  hd : Blk w wb 29 #[.slice A n c, .bool down, .bool armed, .int .i64 left, .int .i64 keep, .int .u64 (nu : Int)]
  row : OE elFi w 0 55 A n c ms
  len : ms.length = V.length
  el : ∀ (i : Nat) (m : FiM) (v : Vw), ms[i]? = some m → V[i]? = some v → FiE w m v
  rh : R wb
  rr : ∀ ad, A = some ad → R ad.block
  rd : ∀ m ∈ ms, ∀ ad, m.da = some ad → R ad.block
  lt : ∀ k, R k → k < w.heap.size
def RFD (R : Nat → Prop) (w : World) (wb : Nat) (V : List Vw) (down armed : Bool) (left keep : Int) (nu : Nat) : Prop := ∃ A n c ms, RF R w wb A n c ms V down armed left keep nu
/-- .. and what is new -/
def MoreR (R : Nat → Prop) (w w' : World) : Nat → Prop := fun k => R k ∨ (w.heap.size ≤ k ∧ k < w'.heap.size)
section
variable {R : Nat → Prop} {w w' : World} {wb : Nat} {A : Option Addr} {n c : Nat} {ms : List FiM} {V : List Vw} {down armed : Bool} {left keep : Int} {nu : Nat}
theorem RF.ln (h : RF R w wb A n c ms V down armed left keep nu) : V.length = n := by
  rw [← h.len]
  exact h.row.len (by decide)
theorem RF.chg {T : Nat → Prop} (h : RF R w wb A n c ms V down armed left keep nu) (hc : Chg T w w') (hT : ∀ k, R k → ¬ T k) : RF R w' wb A n c ms V down armed left keep nu :=
  ⟨h.hd.chg hc (hT _ h.rh), h.row.chg hc fun ad e => hT _ (h.rr ad e), h.len, fun i m s h1 h2 => ⟨(h.el i m s h1 h2).nm, (h.el i m s h1 h2).sy, Own.chg (h.el i m s h1 h2).da hc fun ad e => hT _ (h.rd m (List.mem_of_getElem? h1) ad e)⟩, h.rh, h.rr, h.rd, fun k hk => Nat.lt_of_lt_of_le (h.lt k hk) hc.size⟩
theorem RF.grew (h : RF R w wb A n c ms V down armed left keep nu) (hc : Grew w w') : RF R w' wb A n c ms V down armed left keep nu := h.chg hc fun _ _ e => e
theorem RFD.chg {T : Nat → Prop} (h : RFD R w wb V down armed left keep nu) (hc : Chg T w w') (hT : ∀ k, R k → ¬ T k) : RFD R w' wb V down armed left keep nu := by
  obtain ⟨A, n, c, ms, hR⟩ := h
  exact ⟨A, n, c, ms, hR.chg hc hT⟩
theorem RFD.grew (h : RFD R w wb V down armed left keep nu) (hc : Grew w w') : RFD R w' wb V down armed left keep nu := h.chg hc fun _ _ e => e
theorem RFD.lt (h : RFD R w wb V down armed left keep nu) : ∀ k, R k → k < w.heap.size := by
  obtain ⟨A, n, c, ms, hR⟩ := h
  exact hR.lt
theorem RF.at_ (h : RF R w wb A n c ms V down armed left keep nu) {k : Nat} (hk : k < n) :
    ∃ g m v, A = some ⟨g, 0, none⟩ ∧ ms[k]? = some m ∧ V[k]? = some v ∧ FiE w m v ∧ w.cell? ⟨g, k * 3, none⟩ = some (.string v.1) ∧ w.cell? ⟨g, k * 3 + 1, none⟩ = some (.slice m.da m.dn m.dc) ∧ w.cell? ⟨g, k * 3 + 2, none⟩ = some (.int .i64 (m.sy : Int)) := by
  have hre := h.row.re (by decide)
  obtain ⟨ad, m, e, hm, hc⟩ := hre.at_ hk (by decide)
  have hln := h.ln
  obtain ⟨v, hv⟩ : ∃ v, V[k]? = some v := ⟨_, List.getElem?_eq_getElem (by omega)⟩
  have hE := h.el k m v hm hv
  rcases h.row.2 with ⟨e2, h3⟩ | ⟨g, cap, cur, e2, _⟩
  · omega
  · injection e2 with e3 e4 e5
    subst e3
    injection e with e
    subst e
    have h0 := hc 0 _ rfl
    have h1 := hc 1 _ rfl
    have h2 := hc 2 _ rfl
    rw [add_head] at h0 h1 h2
    rw [hE.nm] at h0
    exact ⟨g, m, v, rfl, hm, hv, hE, h0, h1, h2⟩
end

set_option maxRecDepth 100000 in
set_option maxHeartbeats 4000000 in
theorem rFind_any {R : Nat → Prop} {w : World} {wb : Nat} {V : List Vw} {down armed : Bool} {left keep : Int} {nu : Nat} (hD : RFD R w wb V down armed left keep nu) (x : ByteArray) :
    Calls Tryz.prog 60 #[.pointer (some ⟨wb, 0, none⟩), .string x] w fun e w' => e = .returned (.tuple #[.int .i64 (posV V x : Int), .bool (hasV V x)]) ∧ Grew w w' := by
  obtain ⟨A, n, c, ms, hR⟩ := hD
  have hwl := hR.ln
  have hcap := hR.row.cap
  have hb := Lib.hid fun w' (g : Grew w w') => (hR.hd.grew g).cell 0
  have hat := Lib.hid fun (k : Nat) (hk : k < n) w' (g : Grew w w') => (hR.grew g).at_ hk
  have b0 := hR.hd.cell 0
  have hple := posV_le V x
  have hhas : ∀ v, V[posV V x]? = some v → hasV V x = decide (v.1 = x) := fun v h => by unfold hasV; rw [h]
  have hnone : V[posV V x]? = none → hasV V x = false := fun h => by unfold hasV; rw [h]
  clear hR
  replace hhas := Lib.hid hhas
  replace hnone := Lib.hid hnone
  replace hwl := Lib.hid hwl
  go_enter Tryz.func60, Tryz.ntmps60
  go_wp2
  clear b0
  go_loopw [6] (fun i wr => ∃ (k : Nat), k ≤ posV V x ∧ i = .int .i64 (k : Int) ∧ Grew w wr) (fun i _ => n - (intOf i).toNat)
  case atStart => exact ⟨0, by omega, rfl, Chg.refl _ _⟩
  case round =>
    obtain ⟨k, hk, rfl, hg⟩ := hrel
    have b0 := hb.out _ hg
    have hwn := hwl.out
    by_cases hlt : k < n
    · obtain ⟨g, m, v, rfl, _, hv, _, z0, _, _⟩ := hat.out k hlt wr hg
      have hls := lessN v.1 x
      by_cases hlo : lst v.1 < lst x
      · have e1 : Op.bytesLess v.1.toList x.toList = true := by rw [hls]; exact decide_eq_true hlo
        have hk2 : k + 1 ≤ posV V x := twv_go hk hv (decide_eq_true hlo)
        clear hls hlo hv
        go_wp2
        go_roundw
        case rel => exact ⟨k + 1, hk2, by go_num, hg⟩
        case measure => simp [intOf] <;> omega
      · have e1 : Op.bytesLess v.1.toList x.toList = false := by rw [hls]; exact decide_eq_false hlo
        have hk2 : posV V x = k := twv_at hk fun y hy => by
          rw [hv] at hy
          obtain rfl := Option.some.inj hy
          exact decide_eq_false hlo
        have hfin := Lib.hid (hhas.out v (by rw [hk2]; exact hv))
        replace hk2 := Lib.hid hk2
        clear hls hlo hv
        by_cases hvx : v.1 = x
        · have hff : Hid (hasV V x = true) := by show _ = _; rw [hfin.out, decide_eq_true hvx]
          clear hfin
          subst hvx
          go_wp2_with fail
          refine wp_region_text [(3, 1), (9, 2)] (by kernel_rfl) (by kernel_rfl) ?_
          simp only [instr, chk, look, Nat.reduceBEq, Bool.false_eq_true, if_true, if_false, Nat.reduceEqDiff, List.cons_append, List.nil_append]
          go_wp2
          refine OnlyN.normal ?_
          go_wp2
          refine bodyPost_ret (v := .tuple #[.int .i64 (k : Int), .bool true]) ?_ rfl ⟨by rw [hff.out, hk2.out], hg.drew⟩
          simp [results, Tryz.results60, go_sem]
        · have hff : Hid (hasV V x = false) := by show _ = _; rw [hfin.out, decide_eq_false hvx]
          have hvt : ¬ v.1.toList = x.toList := fun e => hvx (by rw [ByteArray.toList_eq, ByteArray.toList_eq] at e; exact lst_inj.1 e)
          clear hfin hvx
          go_wp2_with fail
          refine wp_region_text [(3, 1), (9, 2)] (by kernel_rfl) (by kernel_rfl) ?_
          simp only [instr, chk, look, Nat.reduceBEq, Bool.false_eq_true, if_true, if_false, Nat.reduceEqDiff, List.cons_append, List.nil_append]
          go_wp2
          refine OnlyN.normal ?_
          go_wp2
          refine bodyPost_ret (v := .tuple #[.int .i64 (k : Int), .bool false]) ?_ rfl ⟨by rw [hff.out, hk2.out], hg.drew⟩
          simp [results, Tryz.results60, go_sem, hvt]
    · have hk2 : posV V x = k := by omega
      have hff := Lib.hid (hnone.out (by rw [hk2]; exact List.getElem?_eq_none (by omega)))
      replace hk2 := Lib.hid hk2
      go_wp2_with fail
      refine wp_region_text [(3, 1), (9, 2)] (by kernel_rfl) (by kernel_rfl) ?_
      simp only [instr, chk, look, Nat.reduceBEq, Bool.false_eq_true, if_true, if_false, Nat.reduceEqDiff, List.cons_append, List.nil_append]
      go_wp2
      refine OnlyN.normal ?_
      go_wp2
      refine bodyPost_ret (v := .tuple #[.int .i64 (k : Int), .bool false]) ?_ rfl ⟨by rw [hff.out, hk2.out], hg.drew⟩
      simp [results, Tryz.results60, go_sem]
end Go.Proofs.YtepncgeaehjhiaaGreat
