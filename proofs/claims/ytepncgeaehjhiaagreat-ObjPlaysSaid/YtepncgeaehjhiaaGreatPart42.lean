/-
  Several texts in one:
  The document's store: PutIf, Slice, Delete, List, Open. Conditions: counts that have not come to their ends.
-/
import Derived.Test.YtepncgeaehjhiaaGreatPart41

namespace Go.Proofs.YtepncgeaehjhiaaGreat
open Go.RowKit

section
variable {R : Nat → Prop} {w w' : World} {sb wb : Nat} {Ob : List OEnt} {armed : Bool} {left keep : Int} {nu : Nat} {V : List Vw}
set_option maxHeartbeats 2000000 in
theorem rPut_bad (x : ByteArray) (A : Option Addr) (k c : Nat) (hm : 0 < mayC x k) (v : Value) (w : World) :
    Calls Tryz.prog 21 #[v, .string x, .slice A k c] w fun e w' => e = .returned (.tuple #[.int .u64 0, .int .i64 (mayC x k : Int)]) ∧ Grew w w' := by
  have hK := rKey_any x w
  unfold mayC at hm ⊢
  by_cases hx : keyB x = false
  · rw [hx] at hK
    rw [if_pos hx]
    clear hm
    go_enter Tryz.func21, Tryz.ntmps21
    go_wp2_with fail
    refine hK.mono ?_
    rintro e w1 ⟨rfl, rfl⟩
    go_wp2
    refine bodyPost_ret (v := .tuple #[.int .u64 0, .int .i64 110]) ?_ rfl ⟨by simp, Chg.refl _ _⟩
    simp [results, Tryz.results21, go_sem]
  · have hx2 : keyB x = true := by simpa using hx
    rw [hx2] at hK
    rw [if_neg hx] at hm ⊢
    by_cases hk : 1048576 < k
    · have e0 : decide ((1048576 : Int) < (k : Int)) = true := decide_eq_true (by omega)
      rw [if_pos hk]
      clear hm hk
      go_enter Tryz.func21, Tryz.ntmps21
      go_wp2_with fail
      refine hK.mono ?_
      rintro e w1 ⟨rfl, rfl⟩
      go_wp2
      refine bodyPost_ret (v := .tuple #[.int .u64 0, .int .i64 113]) ?_ rfl ⟨by simp, Chg.refl _ _⟩
      simp [results, Tryz.results21, go_sem]
    · rw [if_neg hk] at hm
      omega
set_option maxHeartbeats 2000000 in
theorem rPutIf_bad (x : ByteArray) (A : Option Addr) (k c : Nat) (hm : 0 < mayC x k) (v g : Value) (w : World) :
    Calls Tryz.prog 23 #[v, .string x, .slice A k c, g] w fun e w' => e = .returned (.tuple #[.int .u64 0, .int .i64 (mayC x k : Int)]) ∧ Grew w w' := by
  have hK := rKey_any x w
  unfold mayC at hm ⊢
  by_cases hx : keyB x = false
  · rw [hx] at hK
    rw [if_pos hx]
    clear hm
    go_enter Tryz.func23, Tryz.ntmps23
    go_wp2_with fail
    refine hK.mono ?_
    rintro e w1 ⟨rfl, rfl⟩
    go_wp2
    refine bodyPost_ret (v := .tuple #[.int .u64 0, .int .i64 110]) ?_ rfl ⟨by simp, Chg.refl _ _⟩
    simp [results, Tryz.results23, go_sem]
  · have hx2 : keyB x = true := by simpa using hx
    rw [hx2] at hK
    rw [if_neg hx] at hm ⊢
    by_cases hk : 1048576 < k
    · have e0 : decide ((1048576 : Int) < (k : Int)) = true := decide_eq_true (by omega)
      rw [if_pos hk]
      clear hm hk
      go_enter Tryz.func23, Tryz.ntmps23
      go_wp2_with fail
      refine hK.mono ?_
      rintro e w1 ⟨rfl, rfl⟩
      go_wp2
      refine bodyPost_ret (v := .tuple #[.int .u64 0, .int .i64 113]) ?_ rfl ⟨by simp, Chg.refl _ _⟩
      simp [results, Tryz.results23, go_sem]
    · rw [if_neg hk] at hm
      omega
set_option maxHeartbeats 2000000 in
theorem rPutIf_no (h : RSt R w sb wb Ob armed left keep nu V) (x : ByteArray) (hx : keyB x = true) (A : Option Addr) (k c : Nat) (hk : k ≤ 1048576) (g : Nat) (hg : genO Ob x ≠ g) :
    Calls Tryz.prog 23 #[.pointer (some ⟨sb, 0, none⟩), .string x, .slice A k c, .int .u64 (g : Int)] w fun e w' => e = .returned (.tuple #[.int .u64 (genO Ob x : Int), .int .i64 112]) ∧ Grew w w' := by
  have hK := rKey_any x w
  rw [hx] at hK
  have hLg := rlook_gen h x hx
  have s0 : w.cell? ⟨sb, 0, none⟩ = some (.pointer (some ⟨wb, 0, none⟩)) := h.st.cell 0
  have c1 : w.cell? ⟨wb, 1, none⟩ = some (.bool false) := by
    obtain ⟨_, _, _, _, h9⟩ := h.rf
    exact h9.hd.cell 1
  have e0 : decide ((1048576 : Int) < (k : Int)) = false := decide_eq_false (by omega)
  generalize genO Ob x = gn at *
  have e1 : ((gn : Int) != (g : Int)) = true := by simp; omega
  clear h hx hg
  go_enter Tryz.func23, Tryz.ntmps23
  go_wp2_with fail
  refine hK.mono ?_
  rintro e w1 ⟨rfl, rfl⟩
  go_wp2_with fail
  refine hLg.mono ?_
  rintro e w2 ⟨⟨v9, z9, rfl⟩, g2⟩
  go_wp2
  refine bodyPost_ret (v := .tuple #[.int .u64 (gn : Int), .int .i64 112]) ?_ rfl ⟨rfl, g2⟩
  simp [results, Tryz.results23, go_sem]
set_option maxHeartbeats 2000000 in
theorem rPutIf_yes {Q : World → World → Prop} {r0 r1 : Value} (h : RSt R w sb wb Ob armed left keep nu V) (x : ByteArray) (hx : keyB x = true) (A : Option Addr) (k c : Nat) (hk : k ≤ 1048576)
    (hP : ∀ w1, Grew w w1 → Calls Tryz.prog 21 #[.pointer (some ⟨sb, 0, none⟩), .string x, .slice A k c] w1 fun e w' => e = .returned (.tuple #[r0, r1]) ∧ Q w1 w') :
    Calls Tryz.prog 23 #[.pointer (some ⟨sb, 0, none⟩), .string x, .slice A k c, .int .u64 (genO Ob x : Int)] w fun e w' => e = .returned (.tuple #[r0, r1]) ∧ ∃ w1, Grew w w1 ∧ Q w1 w' := by
  have hK := rKey_any x w
  rw [hx] at hK
  have hLg := rlook_gen h x hx
  have s0 : w.cell? ⟨sb, 0, none⟩ = some (.pointer (some ⟨wb, 0, none⟩)) := h.st.cell 0
  have c1 : w.cell? ⟨wb, 1, none⟩ = some (.bool false) := by
    obtain ⟨_, _, _, _, h9⟩ := h.rf
    exact h9.hd.cell 1
  have e0 : decide ((1048576 : Int) < (k : Int)) = false := decide_eq_false (by omega)
  generalize genO Ob x = gn at *
  have hP := Lib.hid hP
  clear h hx
  go_enter Tryz.func23, Tryz.ntmps23
  go_wp2_with fail
  refine hK.mono ?_
  rintro e w1 ⟨rfl, rfl⟩
  go_wp2_with fail
  refine hLg.mono ?_
  rintro e w2 ⟨⟨v9, z9, rfl⟩, g2⟩
  go_wp2_with fail
  refine (hP.out w2 g2).mono ?_
  rintro e w3 ⟨rfl, hQ⟩
  have hQ := Lib.hid hQ
  go_wp2
  refine bodyPost_ret (v := .tuple #[r0, r1]) ?_ rfl ⟨rfl, w2, g2, hQ.out⟩
  simp [results, Tryz.results23, go_sem]
/-- which part of a row is asked for: is it one? -/
def sliceB (a b : Int) (n : Nat) : Bool := decide (0 ≤ a) && decide (a ≤ b) && decide (b ≤ n)
set_option maxHeartbeats 2000000 in
theorem rSlice_ok (h : RSt R w sb wb Ob armed left keep nu V) (x : ByteArray) (hx : keyB x = true) {o : OEnt} (hl : lookO Ob x = some o) (a b : Nat) (hab : a ≤ b) (hb : b ≤ o.data.length) (hod : o.data.length ≤ 1048576) :
    Calls Tryz.prog 26 #[.pointer (some ⟨sb, 0, none⟩), .string x, .int .i64 (a : Int), .int .i64 (b : Int)] w fun e w' => ∃ A c, e = .returned (.tuple #[.slice A (b - a) c, .int .i64 0]) ∧ RB w' A (b - a) ((o.data.drop a).take (b - a)) ∧ Grew w w' := by
  have hG := rGet_any h x hx
  rw [hl] at hG
  unfold GotR at hG
  simp only at hG
  have e2 : decide ((b : Int) < (a : Int)) = false := decide_eq_false (by omega)
  have e3 : decide ((o.data.length : Int) < (b : Int)) = false := decide_eq_false (by omega)
  have e2n : decide (b < a) = false := decide_eq_false (by omega)
  have e3n : decide (o.data.length < b) = false := decide_eq_false (by omega)
  generalize o.data = od at *
  generalize hdn : od.length = dn at *
  obtain ⟨nn, hnn⟩ : ∃ nn, b - a = nn := ⟨_, rfl⟩
  have hba : (b : Int) - (a : Int) = (nn : Int) := by omega
  rw [hnn]
  clear h hx hl
  go_enter Tryz.func26, Tryz.ntmps26
  go_wp2_with fail
  refine hG.mono ?_
  rintro e w1 ⟨A, c, rfl, hO, g1⟩
  have hcap := hO.cap
  have hrd := ((hO.rb.dropO a).take (i := b - a) (by omega))
  rw [hnn] at hrd
  have hrd := Lib.hid hrd
  clear hG hO
  by_cases hca : c = a
  · obtain rfl : nn = 0 := by omega
    have hz : RB w1 A 0 [] := ⟨rfl, Rd.nil _ _⟩
    have hza : Hid ((od.drop a).take 0 = []) := List.take_zero
    go_wp2
    refine bodyPost_ret (v := .tuple #[.slice A 0 0, .int .i64 0]) ?_ rfl ⟨A, 0, rfl, by rw [hza.out]; exact hz, g1⟩
    simp [results, Tryz.results26, go_sem]
  · have hca' : decide (c = a) = false := decide_eq_false hca
    have hcl : a < c := by omega
    go_wp2
    refine bodyPost_ret (v := .tuple #[.slice (A.map fun x => x.add a) nn (c - a), .int .i64 0]) ?_ rfl ⟨A.map fun x => x.add a, c - a, rfl, hrd.out, g1⟩
    simp [results, Tryz.results26, go_sem]
set_option maxHeartbeats 2000000 in
theorem rSlice_out (h : RSt R w sb wb Ob armed left keep nu V) (x : ByteArray) (hx : keyB x = true) {o : OEnt} (hl : lookO Ob x = some o) (a b : Int) (hab : sliceB a b o.data.length = false) :
    Calls Tryz.prog 26 #[.pointer (some ⟨sb, 0, none⟩), .string x, .int .i64 a, .int .i64 b] w fun e w' => e = .returned (.tuple #[.slice none 0 0, .int .i64 113]) ∧ Grew w w' := by
  have hG := rGet_any h x hx
  rw [hl] at hG
  unfold GotR at hG
  simp only at hG
  unfold sliceB at hab
  generalize o.data = od at *
  generalize od.length = dn at *
  clear h hx hl
  go_enter Tryz.func26, Tryz.ntmps26
  go_wp2_with fail
  refine hG.mono ?_
  rintro e w1 ⟨A, c, rfl, hO, g1⟩
  clear hG hO
  by_cases h0 : a < 0
  · have e0 : decide (a < 0) = true := decide_eq_true h0
    clear hab
    go_wp2
    refine bodyPost_ret (v := .tuple #[.slice none 0 0, .int .i64 113]) ?_ rfl ⟨rfl, g1⟩
    simp [results, Tryz.results26, go_sem]
  · have e0 : decide (a < 0) = false := decide_eq_false h0
    by_cases h1 : b < a
    · have e1 : decide (b < a) = true := decide_eq_true h1
      clear hab
      go_wp2
      refine bodyPost_ret (v := .tuple #[.slice none 0 0, .int .i64 113]) ?_ rfl ⟨rfl, g1⟩
      simp [results, Tryz.results26, go_sem]
    · have e1 : decide (b < a) = false := decide_eq_false h1
      have h2 : (dn : Int) < b := by
        rw [decide_eq_true (show 0 ≤ a by omega), decide_eq_true (show a ≤ b by omega)] at hab
        have : ¬ b ≤ (dn : Int) := by simpa using hab
        omega
      have e2 : decide ((dn : Int) < b) = true := decide_eq_true h2
      clear hab
      go_wp2
      refine bodyPost_ret (v := .tuple #[.slice none 0 0, .int .i64 113]) ?_ rfl ⟨rfl, g1⟩
      simp [results, Tryz.results26, go_sem]
set_option maxHeartbeats 2000000 in
theorem rSlice_none (h : RSt R w sb wb Ob armed left keep nu V) (x : ByteArray) (hx : keyB x = true) (hl : lookO Ob x = none) (a b : Int) :
    Calls Tryz.prog 26 #[.pointer (some ⟨sb, 0, none⟩), .string x, .int .i64 a, .int .i64 b] w fun e w' => e = .returned (.tuple #[.slice none 0 0, .int .i64 111]) ∧ Grew w w' := by
  have hG := rGet_any h x hx
  rw [hl] at hG
  unfold GotR at hG
  simp only at hG
  clear h hx hl
  go_enter Tryz.func26, Tryz.ntmps26
  go_wp2_with fail
  refine hG.mono ?_
  rintro e w1 ⟨rfl, g1⟩
  go_wp2
  refine bodyPost_ret (v := .tuple #[.slice none 0 0, .int .i64 111]) ?_ rfl ⟨rfl, g1⟩
  simp [results, Tryz.results26, go_sem]
set_option maxHeartbeats 2000000 in
theorem rSlice_bad (x : ByteArray) (hx : keyB x = false) (v : Value) (a b : Int) (w : World) :
    Calls Tryz.prog 26 #[v, .string x, .int .i64 a, .int .i64 b] w fun e w' => e = .returned (.tuple #[.slice none 0 0, .int .i64 110]) ∧ Grew w w' := by
  have hG := rGet_bad x hx v w
  clear hx
  go_enter Tryz.func26, Tryz.ntmps26
  go_wp2_with fail
  refine hG.mono ?_
  rintro e w1 ⟨rfl, g1⟩
  go_wp2
  refine bodyPost_ret (v := .tuple #[.slice none 0 0, .int .i64 110]) ?_ rfl ⟨rfl, g1⟩
  simp [results, Tryz.results26, go_sem]
set_option maxHeartbeats 2000000 in
theorem rDel_bad (x : ByteArray) (hx : keyB x = false) (v : Value) (w : World) :
    Calls Tryz.prog 30 #[v, .string x] w fun e w' => e = .returned (.int .i64 110) ∧ Grew w w' := by
  have hK := rKey_any x w
  rw [hx] at hK
  go_enter Tryz.func30, Tryz.ntmps30
  go_wp2_with fail
  refine hK.mono ?_
  rintro e w1 ⟨rfl, rfl⟩
  go_wp2
  go_ret
  exact ⟨by simp, Chg.refl _ _⟩
set_option maxHeartbeats 2000000 in
theorem rDel_none (h : RSt R w sb wb Ob armed left keep nu V) (x : ByteArray) (hx : keyB x = true) (hl : lookO Ob x = none) :
    Calls Tryz.prog 30 #[.pointer (some ⟨sb, 0, none⟩), .string x] w fun e w' => e = .returned (.int .i64 111) ∧ Grew w w' := by
  have hK := rKey_any x w
  rw [hx] at hK
  have hxs := keyB_size hx
  have hD := rDelete_none h.rf (oN ++ x) (nm_o hx) (h.gone hl)
  unfold oN at hD
  have s0 : w.cell? ⟨sb, 0, none⟩ = some (.pointer (some ⟨wb, 0, none⟩)) := h.st.cell 0
  clear h hx hl
  go_enter Tryz.func30, Tryz.ntmps30
  go_wp2_with fail
  refine hK.mono ?_
  rintro e w1 ⟨rfl, rfl⟩
  go_wp2_with fail
  refine hD.mono ?_
  rintro e w2 ⟨rfl, g2⟩
  go_wp2
  go_ret
  exact ⟨by simp, g2⟩
set_option maxHeartbeats 2000000 in
theorem rDel_ok (h : RSt R w sb wb Ob armed left keep nu V) (hl64 : -9223372036854775808 ≤ left ∧ left ≤ 9223372036854775807) (hnu : nu ≤ 1000000000000000000) (hkp : keep ≤ 9223372036854775807) (hlen : Ob.length ≤ 1048576) {i : Nat} {o : OEnt} (hi : Ob[i]? = some o) (hlk : lookO Ob o.key = some o) (hal : armed = true → 0 < left) :
    Calls Tryz.prog 30 #[.pointer (some ⟨sb, 0, none⟩), .string o.key] w fun e w' => e = .returned (.int .i64 0) ∧ ∃ left', (armed = true → left' = left - 1) ∧ (-9223372036854775808 ≤ left' ∧ left' ≤ 9223372036854775807) ∧ UpR R w sb wb (Ob.eraseIdx i) armed left' keep (nu + 1) w' := by
  have ho := h.ok o (List.mem_of_getElem? hi)
  have hK := rKey_any o.key w
  rw [ho.key] at hK
  have hxs := keyB_size ho.key
  obtain ⟨hh, hv, _, _⟩ := h.here hlk
  have hD := rDelete_ok h.rf hl64 (by omega) h.vok (by rw [h.len]; exact hlen) hkp (oN ++ o.key) (nm_o ho.key) hv hh (goes_no hal)
  unfold oN at hD
  have s0 : w.cell? ⟨sb, 0, none⟩ = some (.pointer (some ⟨wb, 0, none⟩)) := h.st.cell 0
  have hso := Lib.hid (delV_sort h.so (posV V (oN ++ o.key)))
  have hpe : Hid ((V.eraseIdx (posV V (oN ++ o.key))).Perm ((Ob.eraseIdx i).map OEnt.view)) := List.Perm.cons_inv ((delV_perm hv).symm.trans (h.pe.trans (map_del_perm hi)))
  have hlb := Lib.hid (leftG_rng (armed := armed) hl64)
  have hlq : Hid (armed = true → leftG armed left = left - 1) := fun e => leftG_pos e (hal e)
  have h := Lib.hid h
  clear hv hh hi hlk ho
  go_enter Tryz.func30, Tryz.ntmps30
  go_wp2_with fail
  refine hK.mono ?_
  rintro e w1 ⟨rfl, rfl⟩
  go_wp2_with fail
  refine hD.mono ?_
  rintro e w2 ⟨rfl, hrc⟩
  have hup := Lib.hid (h.out.up hrc hso.out hpe.out fun p hp => h.out.ok p (List.mem_of_mem_eraseIdx hp))
  clear hD hrc
  go_wp2
  go_ret
  exact ⟨by simp, _, hlq.out, hlb.out, hup.out⟩
set_option maxHeartbeats 2000000 in
theorem rDel_cut (h : RSt R w sb wb Ob armed left keep nu V) (hl64 : -9223372036854775808 ≤ left ∧ left ≤ 9223372036854775807) (hnu : nu ≤ 1000000000000000000) (hkp : keep ≤ 9223372036854775807) (hlen : Ob.length ≤ 1048576) {o : OEnt} (hom : o ∈ Ob) (hlk : lookO Ob o.key = some o) (hal : armed = true) (hle : left = 0) :
    Calls Tryz.prog 30 #[.pointer (some ⟨sb, 0, none⟩), .string o.key] w fun e w' => e = .returned (.int .i64 60) ∧ DownR R w wb Ob none keep (nu + 1) w' := by
  have ho := h.ok o hom
  have hK := rKey_any o.key w
  rw [ho.key] at hK
  have hxs := keyB_size ho.key
  obtain ⟨hh, hv, _, _⟩ := h.here hlk
  have hD := rDelete_cut h.rf hl64 (by omega) h.vok (by rw [h.len]; exact hlen) hkp (oN ++ o.key) (nm_o ho.key) hh (goes_yes hal hle)
  unfold oN at hD
  have s0 : w.cell? ⟨sb, 0, none⟩ = some (.pointer (some ⟨wb, 0, none⟩)) := h.st.cell 0
  have hdv : Hid (DownV (V.map (cutV keep)) Ob none) := ⟨sortV_map h.so keep, vok_cut h.vok keep, [], rfl, by
    have h9 := h.pe.map (cutV keep)
    rwa [cutV_map] at h9⟩
  have hlb := Lib.hid (leftG_rng (armed := armed) hl64)
  clear h hv hh hlk ho
  go_enter Tryz.func30, Tryz.ntmps30
  go_wp2_with fail
  refine hK.mono ?_
  rintro e w1 ⟨rfl, rfl⟩
  go_wp2_with fail
  refine hD.mono ?_
  rintro e w2 ⟨rfl, hrc⟩
  have hrc := Lib.hid hrc
  clear hD
  go_wp2
  go_ret
  exact ⟨by simp, _, _, hdv.out, hlb.out.1, hlb.out.2, hrc.out⟩
end
end Go.Proofs.YtepncgeaehjhiaaGreat
