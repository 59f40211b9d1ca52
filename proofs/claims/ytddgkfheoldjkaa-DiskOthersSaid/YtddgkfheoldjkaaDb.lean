/-
  Whether there is such a file; what Append, Sync and Rename ask ahead. Conditions: names of one letter.
-/
import Derived.Test.YtddgkfheoldjkaaDa
import Derived.Test.YtddgkfheoldjkaaTn
namespace Go.Proofs.Ytddgkfheoldjkaa
open Go.RowKit

theorem zeroPF (w : World) : (zeroValue 48).run Try.prog w = .ok (.pointer none) w := by kernel_rfl
def isNm (c : UInt8) : Prop := c = 97 ∨ c = 98 ∨ c = 99 ∨ c = 102 ∨ c = 103
def lookV (r : Option (Nat × Value)) : Value := match r with | some (_, v) => v | none => .pointer none
theorem look_disk {w : World} {m : Nat} {es : Array MapEntry} {clock : Nat} (hm : MapB w m es clock) {s : ByteArray} {r : Option (Nat × Value)} (h : Instr.findNow .string (.string s) es.toList 0 = some r) :
    (Instr.lookup 45 (.map (some m)) (.string s) false).run Try.prog w = .ok (lookV r) w := by
  have := run_look (P := Try.prog) Try.underlying45 Try.underlying9 (zeroPF w) hm h
  cases r <;> exact this

theorem MapB.drew {w : World} {b : Nat} {es : Array MapEntry} {clock : Nat} (h : MapB w b es clock) : MapB w.drew b es clock := h
theorem cellsIn_nil (w : World) : CellsIn [] w := fun k hk => by cases hk
theorem cellsIn_cons {w : World} {k i : Nat} {u : Value} {bs : List Nat} (h : w.cell? ⟨k, i, none⟩ = some u) (hs : CellsIn bs w) : CellsIn (k :: bs) w := fun j hj => by
  rcases List.mem_cons.1 hj with rfl | hj
  · exact cellsIn_cell h j (by simp)
  · exact hs j hj

section
variable {O : Nat → Prop} {w : World} {d m : Nat} {es : Array MapEntry} {clock : Nat} {up armed : Bool} {left keep : Int} {n : Nat}
theorem Dsk.c0 (h : Dsk O w d m es clock up armed left keep n) : w.cell? ⟨d, 0, none⟩ = some (.map (some m)) := h.hd.cell 0
theorem Dsk.c1 (h : Dsk O w d m es clock up armed left keep n) : w.cell? ⟨d, 1, none⟩ = some (.bool up) := h.hd.cell 1
theorem Dsk.c2 (h : Dsk O w d m es clock up armed left keep n) : w.cell? ⟨d, 2, none⟩ = some (.bool armed) := h.hd.cell 2
theorem Dsk.c3 (h : Dsk O w d m es clock up armed left keep n) : w.cell? ⟨d, 3, none⟩ = some (.int .i64 left) := h.hd.cell 3
theorem Dsk.c4 (h : Dsk O w d m es clock up armed left keep n) : w.cell? ⟨d, 4, none⟩ = some (.int .i64 keep) := h.hd.cell 4
theorem Dsk.c5 (h : Dsk O w d m es clock up armed left keep n) : w.cell? ⟨d, 5, none⟩ = some (.int .u64 (n : Int)) := h.hd.cell 5
end

set_option maxHeartbeats 400000 in
theorem there_yes {O : Nat → Prop} {w : World} {d m : Nat} {es : Array MapEntry} {clock : Nat} {up armed : Bool} {left keep : Int} {n : Nat} (hD : Dsk O w d m es clock up armed left keep n) (c : UInt8) (hc : isNm c) {i g : Nat}
    (h : Instr.findNow .string (.string ⟨#[c]⟩) es.toList 0 = some (some (i, .pointer (some ⟨g, 0, none⟩)))) :
    Calls Try.prog 27 #[.pointer (some ⟨d, 0, none⟩), .string ⟨#[c]⟩] w fun e w' => e = .returned (.int .i64 0) ∧ w = w' := by
  have hN := name_one c hc
  have hl := look_disk hD.hm h
  have c0 := hD.c0
  generalize (⟨#[c]⟩ : ByteArray) = x at *
  simp only [lookV] at hl
  clear h hD hc
  go_enter Try.func27, Try.ntmps27
  go_wp2_with fail
  refine (hN _).mono ?_
  rintro e w1 ⟨rfl, rfl⟩
  go_wp2
  go_ret
  exact ⟨by simp, rfl⟩
set_option maxHeartbeats 400000 in
theorem there_no {O : Nat → Prop} {w : World} {d m : Nat} {es : Array MapEntry} {clock : Nat} {up armed : Bool} {left keep : Int} {n : Nat} (hD : Dsk O w d m es clock up armed left keep n) (c : UInt8) (hc : isNm c)
    (h : Instr.findNow .string (.string ⟨#[c]⟩) es.toList 0 = some none) :
    Calls Try.prog 27 #[.pointer (some ⟨d, 0, none⟩), .string ⟨#[c]⟩] w fun e w' => e = .returned (.int .i64 62) ∧ w = w' := by
  have hN := name_one c hc
  have hl := look_disk hD.hm h
  have c0 := hD.c0
  generalize (⟨#[c]⟩ : ByteArray) = x at *
  simp only [lookV] at hl
  clear h hD hc
  go_enter Try.func27, Try.ntmps27
  go_wp2_with fail
  refine (hN _).mono ?_
  rintro e w1 ⟨rfl, rfl⟩
  go_wp2
  go_ret
  exact ⟨by simp, rfl⟩

/-! ### Append's question -/
set_option maxHeartbeats 800000 in
theorem app_new {O : Nat → Prop} {w : World} {d m : Nat} {es : Array MapEntry} {clock : Nat} {up armed : Bool} {left keep : Int} {n : Nat} (hD : Dsk O w d m es clock up armed left keep n) (c : UInt8) (hc : isNm c)
    (h : Instr.findNow .string (.string ⟨#[c]⟩) es.toList 0 = some none) (hes : es.size < 1048576) {p q s : Nat} {A : Option Addr} {k cap : Nat} (hp : w.cell? ⟨p, 0, none⟩ = some (.string ⟨#[c]⟩)) (hq : w.cell? ⟨q, 0, none⟩ = some (.pointer (some ⟨d, 0, none⟩)))
    (hs : w.cell? ⟨s, 0, none⟩ = some (.slice A k cap)) (hk : k ≤ 4194304) :
    Calls Try.prog 24 #[.pointer (some ⟨p, 0, none⟩), .pointer (some ⟨q, 0, none⟩), .pointer (some ⟨s, 0, none⟩)] w fun e w' => e = .returned (.int .i64 0) ∧ ∃ k, w' = w.drewN k := by
  have hN := name_one c hc
  have hl := look_disk hD.hm.drew h
  have c0 := hD.c0
  have hlen : (Builtin.len_ #[45] 3 #[.map (some m)]).run Try.prog w.drew.drew = .ok (.int .i64 (es.size : Int)) w.drew.drew := by
    have hb := hD.hm.drew.drew
    unfold MapB at hb
    simp [Builtin.len_, run_underlying Try.underlying45, MapKept.run_getObj_map hb, Result.andThen, goInt]
  have e1 : decide ((1048576 : Int) ≤ (es.size : Int)) = false := decide_eq_false (by omega)
  have e2 : decide ((4194304 : Int) < (k : Int)) = false := decide_eq_false (by omega)
  generalize (⟨#[c]⟩ : ByteArray) = x at *
  simp only [lookV] at hl
  clear h hD hc
  go_enter Try.func24, Try.ntmps24
  go_wp2_with fail
  refine (hN _).mono ?_
  rintro e w1 ⟨rfl, rfl⟩
  go_wp2_with fail
  refine wp_region_textS [] [q, d, p] (by kernel_rfl) (by kernel_rfl) (cellsIn_cons hq (cellsIn_cons c0 (cellsIn_cons hp (cellsIn_nil _)))) ?_
  simp only [wpU, tagOf, chk, List.nil_append, List.cons_append]
  intro K hK
  go_wp2_with fail
  refine OnlyN.normal (hK _ _ (fun _ => ⟨_, _, _, rfl, rfl, by simp⟩) ?_)
  clear hK K
  intro K hK
  go_wp2_with fail
  refine OnlyN.normal (hK _ _ (fun _ => ⟨_, _, _, rfl, rfl, by simp⟩) ?_)
  clear hK K
  intro K hK
  go_wp2_with fail
  refine OnlyN.normal (hK _ _ (fun _ => ⟨_, _, _, rfl, rfl, by simp⟩) ?_)
  clear hK K
  intro K hK
  go_wp2_with fail
  refine OnlyN.normal (hK _ _ (fun _ _ => rfl) ?_)
  clear hK K
  go_wp2_with fail
  refine OnlyN.normal ?_
  go_wp2_with fail
  refine wp_region_textS [(3, 1), (45, 9)] [q, d, s] (by kernel_rfl) (by kernel_rfl) (cellsIn_cons hq (cellsIn_cons c0 (cellsIn_cons hs (cellsIn_nil _)))) ?_
  simp only [wpU, tagOf, chk, look, Nat.reduceBEq, Bool.false_eq_true, if_true, if_false, List.cons_append, List.nil_append, List.getElem?_toArray, List.getElem?_cons_zero, Nat.reduceEqDiff]
  intro K hK
  go_wp2_with fail
  refine OnlyN.normal (hK _ _ (fun _ _ => rfl) ?_)
  clear hK K
  intro K hK
  go_wp2_with fail
  refine OnlyN.normal (hK _ _ (fun _ => ⟨_, _, _, rfl, rfl, by simp⟩) ?_)
  clear hK K
  intro K hK
  go_wp2_with fail
  refine OnlyN.normal (hK _ _ (fun _ => ⟨_, _, _, rfl, rfl, by simp⟩) ?_)
  clear hK K
  intro K hK
  go_wp2_with fail
  refine OnlyN.normal (hK _ _ (fun _ _ => rfl) ?_)
  clear hK K
  intro K hK
  go_wp2_with fail
  refine OnlyN.normal (hK _ _ (fun _ => ⟨_, _, _, rfl, rfl, by simp⟩) ?_)
  clear hK K
  intro K hK
  go_wp2_with fail
  refine OnlyN.normal (hK _ _ (fun _ _ => rfl) ?_)
  clear hK K
  intro K hK
  go_wp2_with fail
  refine OnlyN.normal (hK _ _ (fun hw => by cases (show false = true from hw)) ?_)
  clear hK K
  intro K hK
  go_wp2_with fail
  refine OnlyN.normal (hK _ _ (fun hw => by cases (show false = true from hw)) ?_)
  clear hK K
  go_wp2_with fail
  refine OnlyN.normal ?_
  go_wp2
  go_ret
  exact ⟨by simp, 2, rfl⟩
end Go.Proofs.Ytddgkfheoldjkaa
