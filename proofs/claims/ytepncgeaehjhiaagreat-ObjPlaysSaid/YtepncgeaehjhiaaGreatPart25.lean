/-
  Several texts in one:
  Keys of one letter that may be: may, named. Conditions: the key's length is one.
  A put's steps: clear, sync, rename. Conditions: names that may be.
  append of a string's bytes onto a row of bytes of the call's own; a string out of bytes. Conditions: none; the two types' numbers are the program's.
  Plain laws of package codec: numbers as bytes, and read back; signed ones; the sum of bytes. Conditions: none; no program in sight.
-/
import Derived.Test.YtepncgeaehjhiaaGreatPart15
import Derived.Test.YtepncgeaehjhiaaGreatPart4
import Derived.Laws.BitsAllLaws

namespace Go.Proofs.YtepncgeaehjhiaaGreat
open Go.RowKit

set_option maxHeartbeats 1000000 in
theorem prefix_long (x y : ByteArray) (h : x.size < y.size) (w : World) : Calls Tryz.prog 39 #[.string x, .string y] w fun e w' => e = .returned (.bool false) ∧ w = w' := by
  have hin : Calls Tryz.prog 65 #[.string x, .string y] w fun e w' => e = .returned (.bool false) ∧ w = w' := by
    obtain ⟨a, ha⟩ : ∃ a, x.size = a := ⟨_, rfl⟩
    obtain ⟨b, hb⟩ : ∃ b, y.size = b := ⟨_, rfl⟩
    have e0 : decide ((b : Int) ≤ (a : Int)) = false := decide_eq_false (by omega)
    go_enter Tryz.func65, Tryz.ntmps65
    go_wp2
    go_ret
    exact ⟨by simp, rfl⟩
  go_enter Tryz.func39, Tryz.ntmps39
  go_wp2_with fail
  refine hin.mono ?_
  rintro e w1 ⟨rfl, rfl⟩
  go_wp2
  go_ret
  exact ⟨by simp, rfl⟩
set_option maxHeartbeats 1000000 in
theorem named_one (x : ByteArray) (hx : NmOk x) (h1 : x.size = 1) (w : World) : Calls Tryz.prog 64 #[.string x] w fun e w' => e = .returned (.bool true) ∧ w = w' := by
  have hN := name_ok x hx
  have hp := fun y hy => prefix_long x y hy
  go_enter Tryz.func64, Tryz.ntmps64
  go_wp2_with fail
  refine (hN _).mono ?_
  rintro e w1 ⟨rfl, rfl⟩
  go_wp2_with fail
  refine (hp _ (by rw [h1]; show 1 < 2; omega) _).mono ?_
  rintro e w1 ⟨rfl, rfl⟩
  go_wp2_with fail
  refine (hp _ (by rw [h1]; show 1 < 2; omega) _).mono ?_
  rintro e w1 ⟨rfl, rfl⟩
  go_wp2
  go_ret
  exact ⟨by simp, rfl⟩
set_option maxHeartbeats 1000000 in
theorem may_one (x : ByteArray) (hx : NmOk x) (h1 : x.size = 1) (A : Option Addr) (n c : Nat) (hn : n ≤ 1048576) (w : World) : Calls Tryz.prog 50 #[.string x, .slice A n c] w fun e w' => e = .returned (.int .i64 0) ∧ w = w' := by
  have hN := named_one x hx h1
  have e0 : decide ((1048576 : Int) < (n : Int)) = false := decide_eq_false (by omega)
  go_enter Tryz.func50, Tryz.ntmps50
  go_wp2_with fail
  refine (hN _).mono ?_
  rintro e w1 ⟨rfl, rfl⟩
  go_wp2
  go_ret
  exact ⟨by simp, rfl⟩
end Go.Proofs.YtepncgeaehjhiaaGreat

namespace Go.Proofs.YtepncgeaehjhiaaGreat
open Go.RowKit

set_option maxHeartbeats 1000000 in
theorem clear_none {O : Nat → Prop} {w : World} {d m : Nat} {es : Array MapEntry} {clock : Nat} {armed : Bool} {left keep : Int} {n : Nat} (hD : Dsk O w d m es clock true armed left keep n) (p s : Nat) (x : ByteArray) (u v : Value) (hP : Blk w p 81 #[.pointer (some ⟨s, 0, none⟩), .string x, u, v]) (hS : Blk w s 51 #[.pointer (some ⟨d, 0, none⟩)])
    (hx : NmOk ((⟨#[116, 47]⟩ : ByteArray) ++ x)) (hxs : x.size ≤ 64) (h : Instr.findNow .string (.string ((⟨#[116, 47]⟩ : ByteArray) ++ x)) es.toList 0 = some none) :
    Calls Tryz.prog 52 #[.pointer (some ⟨p, 0, none⟩)] w fun e w' => e = .returned (.int .i64 0) ∧ Grew w w' := by
  have p0 : w.cell? ⟨p, 0, none⟩ = some (.pointer (some ⟨s, 0, none⟩)) := hP.cell 0
  have p1 : w.cell? ⟨p, 1, none⟩ = some (.string x) := hP.cell 1
  have s0 : w.cell? ⟨s, 0, none⟩ = some (.pointer (some ⟨d, 0, none⟩)) := hS.cell 0
  have hC := delete_none (hD.grew (Chg.refl _ w).drew) _ hx h
  go_enter Tryz.func52, Tryz.ntmps52
  go_wp2_with fail
  refine wp_region_textS [(9, 2)] [p, s] (by kernel_rfl) (by kernel_rfl) (cellsIn_cons p0 (cellsIn_cons s0 (cellsIn_nil _))) ?_
  simp only [wpU, tagOf, chk, look, Nat.reduceBEq, if_true, if_false, Nat.reduceEqDiff, List.nil_append, List.cons_append]
  intro K hK
  go_wp2_with fail
  refine OnlyN.normal (hK _ _ (fun _ => ⟨_, _, _, rfl, rfl, by simp⟩) ?_)
  clear hK K
  intro K hK
  go_wp2_with fail
  refine OnlyN.normal (hK _ _ (fun _ => ⟨_, _, _, rfl, rfl, by simp⟩) ?_)
  clear hK K
  intro K hK
  go_wp2_with fail
  refine OnlyN.normal (hK _ _ (fun _ => ⟨_, _, _, rfl, rfl, by simp⟩) ?_)
  clear hK K
  intro K hK
  go_wp2_with fail
  refine hC.mono ?_
  rintro e w1 ⟨rfl, hg⟩
  have hg0 : Grew w w1 := (Chg.refl _ w).drew.trans hg
  go_wp2_with fail
  refine OnlyN.normal (hK _ _ (sameIn_all hg0 (by
    intro k hk
    simp only [List.mem_cons, List.not_mem_nil, or_false] at hk
    rcases hk with rfl | rfl
    · exact ⟨hP.lt, fun e => e⟩
    · exact ⟨hS.lt, fun e => e⟩)) ?_)
  clear hK K
  go_wp2_with fail
  refine OnlyN.normal ?_
  go_wp2
  go_ret
  exact ⟨by simp, hg0⟩

set_option maxHeartbeats 1000000 in
theorem sync_step {er : Int} {w : World} {d : Nat} (p s : Nat) (x : ByteArray) (u v : Value) (hP : Blk w p 81 #[.pointer (some ⟨s, 0, none⟩), .string x, u, v]) (hS : Blk w s 51 #[.pointer (some ⟨d, 0, none⟩)]) (hxs : x.size ≤ 64) {R : Ending → World → Prop} {S : Nat → Prop} (hp : ¬ S p) (hs : ¬ S s)
    (hC : Calls Tryz.prog 76 #[.pointer (some ⟨d, 0, none⟩), .string ((⟨#[116, 47]⟩ : ByteArray) ++ x)] w.drew fun e w' => e = .returned (.int .i64 er) ∧ R e w' ∧ Chg S w.drew w') :
    Calls Tryz.prog 54 #[.pointer (some ⟨p, 0, none⟩)] w fun e w' => e = .returned (.int .i64 er) ∧ R e w' ∧ Chg S w w' := by
  have p0 : w.cell? ⟨p, 0, none⟩ = some (.pointer (some ⟨s, 0, none⟩)) := hP.cell 0
  have p1 : w.cell? ⟨p, 1, none⟩ = some (.string x) := hP.cell 1
  have s0 : w.cell? ⟨s, 0, none⟩ = some (.pointer (some ⟨d, 0, none⟩)) := hS.cell 0
  go_enter Tryz.func54, Tryz.ntmps54
  go_wp2_with fail
  refine wp_region_textS [(9, 2)] [p, s] (by kernel_rfl) (by kernel_rfl) (cellsIn_cons p0 (cellsIn_cons s0 (cellsIn_nil _))) ?_
  simp only [wpU, tagOf, chk, look, Nat.reduceBEq, if_true, if_false, Nat.reduceEqDiff, List.nil_append, List.cons_append]
  intro K hK
  go_wp2_with fail
  refine OnlyN.normal (hK _ _ (fun _ => ⟨_, _, _, rfl, rfl, by simp⟩) ?_)
  clear hK K
  intro K hK
  go_wp2_with fail
  refine OnlyN.normal (hK _ _ (fun _ => ⟨_, _, _, rfl, rfl, by simp⟩) ?_)
  clear hK K
  intro K hK
  go_wp2_with fail
  refine OnlyN.normal (hK _ _ (fun _ => ⟨_, _, _, rfl, rfl, by simp⟩) ?_)
  clear hK K
  intro K hK
  go_wp2_with fail
  refine hC.mono ?_
  rintro e w1 ⟨rfl, hR, hg⟩
  have hg0 : Chg S w w1 := (Chg.refl _ w).drew.trans hg
  go_wp2_with fail
  refine OnlyN.normal (hK _ _ (sameIn_all hg0 (by
    intro k hk
    simp only [List.mem_cons, List.not_mem_nil, or_false] at hk
    rcases hk with rfl | rfl
    · exact ⟨hP.lt, hp⟩
    · exact ⟨hS.lt, hs⟩)) ?_)
  clear hK K
  go_wp2_with fail
  refine OnlyN.normal ?_
  go_wp2
  go_ret
  exact ⟨by simp, by simpa using hR, hg0⟩

set_option maxHeartbeats 1000000 in
theorem rename_step {er : Int} {w : World} {d : Nat} (p s : Nat) (x : ByteArray) (u v : Value) (hP : Blk w p 81 #[.pointer (some ⟨s, 0, none⟩), .string x, u, v]) (hS : Blk w s 51 #[.pointer (some ⟨d, 0, none⟩)]) (hxs : x.size ≤ 64) {R : Ending → World → Prop} {S : Nat → Prop} (hp : ¬ S p) (hs : ¬ S s)
    (hC : Calls Tryz.prog 77 #[.pointer (some ⟨d, 0, none⟩), .string ((⟨#[116, 47]⟩ : ByteArray) ++ x), .string ((⟨#[111, 47]⟩ : ByteArray) ++ x)] w.drew fun e w' => e = .returned (.int .i64 er) ∧ R e w' ∧ Chg S w.drew w') :
    Calls Tryz.prog 55 #[.pointer (some ⟨p, 0, none⟩)] w fun e w' => e = .returned (.int .i64 er) ∧ R e w' ∧ Chg S w w' := by
  have p0 : w.cell? ⟨p, 0, none⟩ = some (.pointer (some ⟨s, 0, none⟩)) := hP.cell 0
  have p1 : w.cell? ⟨p, 1, none⟩ = some (.string x) := hP.cell 1
  have s0 : w.cell? ⟨s, 0, none⟩ = some (.pointer (some ⟨d, 0, none⟩)) := hS.cell 0
  go_enter Tryz.func55, Tryz.ntmps55
  go_wp2_with fail
  refine wp_region_textS [(9, 2)] [p, s] (by kernel_rfl) (by kernel_rfl) (cellsIn_cons p0 (cellsIn_cons s0 (cellsIn_nil _))) ?_
  simp only [wpU, tagOf, chk, look, Nat.reduceBEq, if_true, if_false, Nat.reduceEqDiff, List.nil_append, List.cons_append]
  intro K hK
  go_wp2_with fail
  refine OnlyN.normal (hK _ _ (fun _ => ⟨_, _, _, rfl, rfl, by simp⟩) ?_)
  clear hK K
  intro K hK
  go_wp2_with fail
  refine OnlyN.normal (hK _ _ (fun _ => ⟨_, _, _, rfl, rfl, by simp⟩) ?_)
  clear hK K
  intro K hK
  go_wp2_with fail
  refine OnlyN.normal (hK _ _ (fun _ => ⟨_, _, _, rfl, rfl, by simp⟩) ?_)
  clear hK K
  intro K hK
  go_wp2_with fail
  refine OnlyN.normal (hK _ _ (fun _ => ⟨_, _, _, rfl, rfl, by simp⟩) ?_)
  clear hK K
  intro K hK
  go_wp2_with fail
  refine hC.mono ?_
  rintro e w1 ⟨rfl, hR, hg⟩
  have hg0 : Chg S w w1 := (Chg.refl _ w).drew.trans hg
  go_wp2_with fail
  refine OnlyN.normal (hK _ _ (sameIn_all hg0 (by
    intro k hk
    simp only [List.mem_cons, List.not_mem_nil, or_false] at hk
    rcases hk with rfl | rfl
    · exact ⟨hP.lt, hp⟩
    · exact ⟨hS.lt, hs⟩)) ?_)
  clear hK K
  go_wp2_with fail
  refine OnlyN.normal ?_
  go_wp2
  go_ret
  exact ⟨by simp, by simpa using hR, hg0⟩
end Go.Proofs.YtepncgeaehjhiaaGreat

namespace Go.Proofs.YtepncgeaehjhiaaGreat
open Go.RowKit

section
variable {P : Program} (w : World)
theorem firstCells_str (s : ByteArray) : (Builtin.firstCells 1 s.size (.string s)).run P w = .ok ((s.data.toList.map byt).toArray) w := by
  simp only [Builtin.firstCells, Sem.run_pure]
  congr 1
  apply Array.ext'
  simp [byt]

theorem run_appS (t u ty e : TypeId) (i : TypeInfo) (z : Value) (ht : P.underlying t = some (.slice e)) (hu : P.underlying u = some .string) (hi : P.info? e = some i) (hz : i.zero = some z)
    (hsize : i.size = 1) (hby : i.bytes = 1) (hzs : z.cells.size = 1)
    (base : Nat) (A : Option Addr) (n c : Nat) (xs : List Value) (hown : Own w base e 1 A n c xs) (hbase : base ≤ w.heap.size)
    (s : ByteArray) (h63 : n + s.size ≤ maxLen) (hbytes : (n + s.size) * 1 ≤ 140737488355328) :
    ∃ A' c' w', (Builtin.append_ #[t, u] ty #[.slice A n c, .string s]).run P w = .ok (.slice A' (n + s.size) c') w' ∧ Apped w base e 1 A (n + s.size) c (xs ++ s.data.toList.map byt) A' c' w' := by
  have hl : (s.data.toList.map byt).length = s.size * 1 := by simp
  have hlen : (xs ++ s.data.toList.map byt).length = (n + s.size) * 1 := by rw [List.length_append, hown.len, hl, Nat.add_mul]
  have h1 := byt_one s.data.toList
  have hf : ∀ w : World, (Builtin.firstCells 1 s.size (.string s)).run P w = .ok ((s.data.toList.map byt).toArray) w := fun w => firstCells_str w s
  by_cases hroom : n + s.size ≤ c
  · rcases hown.2 with ⟨e', h3⟩ | ⟨g, cap, cur, e', hbg, hg, hnc, hcm, hcs, htake⟩
    · injection e' with e1 e2 e3
      subst e1; subst e3; subst h3
      have hn : s.data.toList.map byt = [] := List.eq_nil_of_length_eq_zero (by rw [hl]; omega)
      rw [hn]
      have h0 : s.size = 0 := by omega
      refine ⟨none, 0, w, ?_, by simpa [h0] using hown, Chg.refl _ _, .inl ⟨rfl, rfl, by omega, rfl⟩⟩
      have hf0 := hf w
      rw [hn, h0] at hf0
      simp [Builtin.append_, run_underlying ht, run_underlying hu, sizeOf, typeInfo, hi, hsize, Builtin.lenOf, hf0, h0]
    · injection e' with e1 e2 e3
      subst e1; subst e3
      have hfit : n * 1 + (s.data.toList.map byt).length ≤ cur.size := by rw [hl, hcs, ← Nat.add_mul]; exact Nat.mul_le_mul_right _ hroom
      have hst := run_storeCells_at P g (n * 1) e (s.data.toList.map byt) 0 cur w hg (by simpa using hfit) h1
      simp only [Nat.add_zero, Nat.mul_one] at hst
      refine ⟨some ⟨g, 0, none⟩, c, w.setRow g (cur.toList.take (n * 1) ++ s.data.toList.map byt ++ cur.toList.drop (n * 1 + (s.data.toList.map byt).length)).toArray, ?_, ⟨hlen, .inr ⟨g, c, _, rfl, hbg, setRow_heap w g cur _ e _ hg, hroom, hcm, ?_, ?_⟩⟩,
        ⟨rfl, rfl, rfl, by simp, fun k _ hk => setRow_other w g k _ (fun e => hk ⟨_, rfl, e⟩)⟩, .inl ⟨rfl, rfl, hroom, by simp⟩⟩
      · simp [Builtin.append_, run_underlying ht, run_underlying hu, sizeOf, typeInfo, hi, hsize, Builtin.lenOf, hroom, hf, Addr.add_lit]
        simp at hst
        rw [hst]
        simp
      · simp only [List.size_toArray, List.length_append, List.length_take, List.length_drop, Array.length_toList]
        omega
      · rw [htake, ← hlen]
        exact List.take_left
  · have hsmall : n + s.size ≤ 9223372036854775807 := by simp only [maxLen] at h63; omega
    have h63' : ¬ (9223372036854775807 < ((n : Int) + (s.size : Int))) := by omega
    have hgf := growslice_fits (old := c) (need := n + s.size) (bytes := 1) (by omega) hbytes
    have h48' : ¬ (281474976710656 < Builtin.nextslicecap (n + s.size) c) := by omega
    have hfo := firstCells_rd (P := P) w.drew 1 n c A xs hown.len hown.rd
    have hge := grownCap_ge w (n + s.size) c e
    have hcm : grownCap w (n + s.size) c e ≤ maxLen := grownCap_le_maxLen w (n + s.size) c e h63
    refine ⟨some ⟨w.heap.size, 0, none⟩, grownCap w (n + s.size) c e, w.drew.alloc (.cells (xs.toArray ++ (s.data.toList.map byt).toArray ++ Builtin.zeroCells z.cells (grownCap w (n + s.size) c e - (n + s.size))) e), ?_, ?_, ?_, .inr ⟨rfl, (Chg.refl _ w).drew.alloc _, by simp⟩⟩
    · have hfd := hf w.drew
      simp [Builtin.append_, run_underlying ht, run_underlying hu, sizeOf, typeInfo, zeroValue, hi, hz, hsize, hby, Builtin.lenOf, hroom, h63', h48', Question.forced, hfd, hfo, newRow, grownCap]
      congr 2
      apply Array.ext'
      simp [List.append_assoc]
    · refine ⟨hlen, .inr ⟨w.heap.size, _, _, rfl, hbase, heap_alloc_new w.drew _, hge, hcm, ?_, ?_⟩⟩
      · simp only [Array.size_append, List.size_toArray, size_zeroCells, hzs, hown.len, hl, ← Nat.add_mul]
        congr 1
        omega
      · simp only [Array.toList_append, List.append_assoc]
        rw [← List.append_assoc, ← hlen]
        exact List.take_left
    · exact (Chg.refl _ w).drew.alloc _
end

/-- append of a string onto a row of bytes of the call's own -/
theorem wpList_appS {ops : Array Oper} {rest : List Oper} {o : Oper} {a : Act} {w : World} {Q : Exit → Act → World → Prop} (hgd : o.guard = none) (s x : Operand)
    (ho : o.op = .call { callee := .builtin .append, args := #[s, x], argTypes := #[37, 9] })
    (base : Nat) (A : Option Addr) (n c : Nat) (l : List UInt8) (hs : a.eval s = .slice A n c) (hown : OB w base 5 A n c l) (hbase : base ≤ w.heap.size)
    (r : ByteArray) (hx : a.eval x = .string r) (hbytes : n + r.size ≤ 140737488355328)
    (h : ∀ A' c' w', ApB w base A (n + r.size) c (l ++ r.data.toList) A' c' w' → wpList Tryz.prog ops Q rest (a.put o.dst (.slice A' (n + r.size) c')) w') : wpList Tryz.prog ops Q (o :: rest) a w := by
  obtain ⟨i0, hi, hz0, hz1, hz2⟩ := info_parts infoU8
  obtain ⟨A', c', w', hrun, h2⟩ := run_appS (P := Tryz.prog) w 37 9 o.type 5 i0 (.int .u8 0) Tryz.underlying37 Tryz.underlying9 hi hz0 hz1 hz2 rfl base A n c _ hown hbase r (by unfold maxLen; omega) (by omega)
  refine wpList_plain hgd fun K hK => ?_
  unfold Oper.wp execOp
  simp only [ho, resolve, invoke, builtin, Sem.run_bind, Sem.run_pure, Result.andThen_ok, List.map_toArray, List.map_cons, List.map_nil, hs, hx, hrun]
  exact hK _ _ (h A' c' w' (by unfold ApB; rw [List.map_append]; exact h2))
end Go.Proofs.YtepncgeaehjhiaaGreat

namespace Go.Proofs.YtepncgeaehjhiaaGreat

/-- a number's bytes, seven bits each, the lowest first -/
def uv (v : Nat) : List UInt8 := if v < 128 then [UInt8.ofNat v] else UInt8.ofNat (v % 128 + 128) :: uv (v / 128)
termination_by v
decreasing_by omega
theorem uv_small {v : Nat} (h : v < 128) : uv v = [UInt8.ofNat v] := by rw [uv, if_pos h]
theorem uv_big {v : Nat} (h : ¬ v < 128) : uv v = UInt8.ofNat (v % 128 + 128) :: uv (v / 128) := by rw [uv, if_neg h]
theorem uv_ne (v : Nat) : uv v ≠ [] := by
  by_cases h : v < 128
  · rw [uv_small h]; simp
  · rw [uv_big h]; simp
theorem uv_len (n : Nat) : ∀ v, v < 128 ^ (n + 1) → (uv v).length ≤ n + 1 := by
  induction n with
  | zero => intro v h; rw [uv_small (by omega)]; simp
  | succ n ih =>
    intro v h
    by_cases hv : v < 128
    · rw [uv_small hv]; simp
    · rw [uv_big hv]
      have := ih (v / 128) (by rw [Nat.pow_succ] at h; omega)
      simp
      omega
theorem uv_len10 {v : Nat} (h : v < 18446744073709551616) : (uv v).length ≤ 10 := uv_len 9 v (by omega)
theorem uv_len1 (v : Nat) : 1 ≤ (uv v).length := by
  have := uv_ne v
  rcases hl : uv v with _ | ⟨a, r⟩
  · exact absurd hl this
  · simp

/-- the signed numbers as numbers: 0, -1, 1, -2 .. -/
def zz (x : Int) : Nat := if 0 ≤ x then 2 * x.toNat else 2 * (-(x + 1)).toNat + 1
def uz (v : Nat) : Int := if v % 2 = 0 then ((v / 2 : Nat) : Int) else -((v / 2 : Nat) : Int) - 1
theorem uz_zz (x : Int) : uz (zz x) = x := by unfold uz zz; split <;> split <;> omega
theorem zz_uz (v : Nat) : zz (uz v) = v := by unfold uz zz; split <;> split <;> omega
theorem zz_lt {x : Int} (h1 : -9223372036854775808 ≤ x) (h2 : x ≤ 9223372036854775807) : zz x < 18446744073709551616 := by unfold zz; split <;> omega
theorem uz_ge {v : Nat} (h : v < 18446744073709551616) : -9223372036854775808 ≤ uz v ∧ uz v ≤ 9223372036854775807 := by unfold uz; split <;> omega

/-- reading a number: what it is, how many bytes it has, and the error -/
def ur : List UInt8 → Nat → Nat → Nat × Nat × Nat
  | [], _, _ => (0, 0, 20)
  | c :: r, k, a => if (k = 9 ∧ 1 < c.toNat) ∨ (0 < k ∧ c.toNat = 0) then (0, 0, 21) else if c.toNat < 128 then (a + c.toNat * 2 ^ (7 * k), k + 1, 0) else ur r (k + 1) (a + c.toNat % 128 * 2 ^ (7 * k))
/-- the same from a place of some bytes on, with the place behind it -/
def uintR (l : List UInt8) (at_ : Int) : Nat × Nat × Nat :=
  if 0 ≤ at_ ∧ at_ ≤ l.length then (if (ur (l.drop at_.toNat) 0 0).2.2 = 0 then ((ur (l.drop at_.toNat) 0 0).1, at_.toNat + (ur (l.drop at_.toNat) 0 0).2.1, 0) else (0, 0, (ur (l.drop at_.toNat) 0 0).2.2)) else (0, 0, 20)

theorem ofNat_toNat {v : Nat} (h : v < 256) : (UInt8.ofNat v).toNat = v := by rw [UInt8.toNat_ofNat']; exact Nat.mod_eq_of_lt h

theorem ur_uv (r : List UInt8) : ∀ v k a, (k = 0 ∨ 0 < v) → v * 2 ^ (7 * k) < 18446744073709551616 → k ≤ 9 → ur (uv v ++ r) k a = (a + v * 2 ^ (7 * k), k + (uv v).length, 0) := by
  intro v
  induction v using Nat.strongRecOn with
  | _ v ih =>
    intro k a h0 h1 hk
    have h9 : k = 9 → v < 2 := by
      rintro rfl
      rw [show 2 ^ (7 * 9) = 9223372036854775808 from rfl] at h1
      omega
    by_cases hv : v < 128
    · rw [uv_small hv]
      show ur (UInt8.ofNat v :: r) k a = _
      unfold ur
      rw [ofNat_toNat (by omega), if_neg (by omega), if_pos hv]
      rfl
    · rw [uv_big hv]
      show ur (UInt8.ofNat (v % 128 + 128) :: (uv (v / 128) ++ r)) k a = _
      unfold ur
      rw [ofNat_toNat (by omega), if_neg (by omega), if_neg (by omega)]
      have e1 : 2 ^ (7 * (k + 1)) = 2 ^ (7 * k) * 128 := by rw [show 7 * (k + 1) = 7 * k + 7 from by omega, Nat.pow_add]
      have e2 : v / 128 * 2 ^ (7 * (k + 1)) = v / 128 * 128 * 2 ^ (7 * k) := by rw [e1, Nat.mul_comm (2 ^ (7 * k)), Nat.mul_assoc]
      have e3 : v * 2 ^ (7 * k) = (v % 128) * 2 ^ (7 * k) + v / 128 * 128 * 2 ^ (7 * k) := by rw [← Nat.add_mul]; congr 1; omega
      rw [ih (v / 128) (by omega) (k + 1) _ (.inr (by omega)) (by rw [e2]; omega) (by omega)]
      rw [show (v % 128 + 128) % 128 = v % 128 from by omega, e2, e3]
      simp
      omega

theorem ur_err (r : List UInt8) : ∀ k a, (ur r k a).2.2 = 0 ∨ (ur r k a).2.2 = 20 ∨ (ur r k a).2.2 = 21 := by
  induction r with
  | nil => intro k a; right; left; rfl
  | cons c r ih =>
    intro k a
    unfold ur
    split
    · right; right; rfl
    · split
      · left; rfl
      · exact ih _ _
theorem ur_bad (r : List UInt8) : ∀ k a, (ur r k a).2.2 ≠ 0 → (ur r k a).1 = 0 ∧ (ur r k a).2.1 = 0 := by
  induction r with
  | nil => intro k a _; exact ⟨rfl, rfl⟩
  | cons c r ih =>
    intro k a
    unfold ur
    split
    · intro _; exact ⟨rfl, rfl⟩
    · split
      · intro h; exact absurd rfl h
      · exact ih _ _
/-- what is read has just those bytes -/
theorem ur_back (r : List UInt8) : ∀ k a, k ≤ 9 → (ur r k a).2.2 = 0 → ∃ v, (ur r k a).1 = a + v * 2 ^ (7 * k) ∧ (ur r k a).2.1 = k + (uv v).length ∧ r.take (uv v).length = uv v ∧ (uv v).length ≤ r.length ∧ (k = 0 ∨ 0 < v) ∧ v * 2 ^ (7 * k) < 18446744073709551616 := by
  induction r with
  | nil => intro k a _ h; cases h
  | cons c r ih =>
    intro k a hk
    have hc := c.toNat_lt
    unfold ur
    split
    · intro h; cases h
    · rename_i h1
      split
      · rename_i h2
        intro _
        have e0 : UInt8.ofNat c.toNat = c := UInt8.toNat_inj.1 (by rw [ofNat_toNat hc])
        refine ⟨c.toNat, rfl, by rw [uv_small h2]; rfl, by rw [uv_small h2, e0]; rfl, by rw [uv_small h2]; simp, by omega, ?_⟩
        by_cases h9 : k = 9
        · subst h9
          rw [show 2 ^ (7 * 9) = 9223372036854775808 from rfl]
          omega
        · have hp : 2 ^ (7 * k) ≤ 2 ^ 56 := Nat.pow_le_pow_right (by omega) (by omega)
          have : c.toNat * 2 ^ (7 * k) ≤ 127 * 2 ^ 56 := Nat.mul_le_mul (by omega) hp
          omega
      · rename_i h2
        intro h
        have hk9 : k ≠ 9 := by omega
        obtain ⟨v, e1, e2, e3, e4, e5, e6⟩ := ih (k + 1) _ (by omega) h
        have hv0 : 0 < v := by omega
        have hv : ¬ (c.toNat % 128 + v * 128 < 128) := by omega
        have hm : (c.toNat % 128 + v * 128) % 128 = c.toNat % 128 := by omega
        have hd : (c.toNat % 128 + v * 128) / 128 = v := by omega
        have hcc : UInt8.ofNat (c.toNat % 128 + 128) = c := UInt8.toNat_inj.1 (by rw [ofNat_toNat (by omega)]; omega)
        have hu : uv (c.toNat % 128 + v * 128) = c :: uv v := by rw [uv_big hv, hm, hd, hcc]
        have p1 : 2 ^ (7 * (k + 1)) = 2 ^ (7 * k) * 128 := by rw [show 7 * (k + 1) = 7 * k + 7 from by omega, Nat.pow_add]
        have p2 : v * 2 ^ (7 * (k + 1)) = v * 128 * 2 ^ (7 * k) := by rw [p1, Nat.mul_comm (2 ^ (7 * k)), Nat.mul_assoc]
        have p3 : (c.toNat % 128 + v * 128) * 2 ^ (7 * k) = c.toNat % 128 * 2 ^ (7 * k) + v * 128 * 2 ^ (7 * k) := Nat.add_mul _ _ _
        refine ⟨c.toNat % 128 + v * 128, by rw [e1, p2, p3]; omega, by rw [e2, hu]; simp; omega, by rw [hu]; simp [e3], by rw [hu]; simp; omega, .inr (by omega), ?_⟩
        have hq : 0 < 2 ^ (7 * k) := Nat.two_pow_pos _
        have hk8 : k ≤ 8 := by omega
        -- the number below fits, with its lowest digit
        rw [p2] at e6
        rw [p3]
        have hp : 2 ^ (7 * k) ∣ 18446744073709551616 := by
          have : (18446744073709551616 : Nat) = 2 ^ (7 * k) * 2 ^ (64 - 7 * k) := by rw [← Nat.pow_add, show 7 * k + (64 - 7 * k) = 64 from by omega]
          exact ⟨_, this⟩
        obtain ⟨q, hq2⟩ := hp
        rw [hq2, Nat.mul_comm (2 ^ (7 * k)) q] at e6 ⊢
        have h128 : ∃ t, q = 128 * t ∨ k = 9 := by
          by_cases h : k ≤ 8
          · have : (18446744073709551616 : Nat) = 2 ^ (7 * k) * (128 * 2 ^ (57 - 7 * k)) := by
              rw [show (128 : Nat) = 2 ^ 7 from rfl, ← Nat.pow_add, ← Nat.pow_add, show 7 * k + (7 + (57 - 7 * k)) = 64 from by omega]
            rw [this] at hq2
            exact ⟨2 ^ (57 - 7 * k), .inl (Nat.eq_of_mul_eq_mul_left hq hq2).symm⟩
          · exact ⟨0, .inr (by omega)⟩
        obtain ⟨t, rfl | h⟩ := h128
        · have h3 : v * 128 < 128 * t := Nat.lt_of_mul_lt_mul_right e6
          rw [← Nat.add_mul]
          exact Nat.mul_lt_mul_of_pos_right (by omega) hq
        · omega
end Go.Proofs.YtepncgeaehjhiaaGreat
