/-
  Several texts in one:
  Slice and Delete of a store; Open of a disk without unfinished objects. Conditions: the power stays; counts that have not come to their ends.
  Lists of texts compared; the list of a store's keys. Conditions: the power stays.
-/
import Derived.Test.YtepncgeaehjhiaaGreatPart32
import Derived.Lib.IndexBytes

namespace Go.Proofs.YtepncgeaehjhiaaGreat
open Go.RowKit

section
variable {S : Nat → Prop} {w w' : World} {s d m : Nat} {Ob : List OEnt} {E : List FEnt} {clock : Nat} {armed : Bool} {left kp : Int} {n : Nat}

set_option maxHeartbeats 2000000 in
theorem slice_ok (h : Stor S w s d m Ob E clock armed left kp n) (x : ByteArray) (hx : keyB x = true) {o : OEnt} (hl : lookO Ob x = some o) (a b : Nat) (hab : a ≤ b) (hb : b ≤ o.data.length) :
    Calls Tryz.prog 25 #[.pointer (some ⟨s, 0, none⟩), .string x, .int .i64 (a : Int), .int .i64 (b : Int)] w fun e w' => ∃ A c, e = .returned (.tuple #[.slice A (b - a) c, .int .i64 0]) ∧ OB w' w.heap.size 5 A (b - a) c ((o.data.drop a).take (b - a)) ∧ Grew w w' := by
  have hR := get_any h x hx
  rw [hl] at hR
  unfold ReadTo at hR
  simp only at hR
  have hdl := (h.ok o (List.mem_of_find?_eq_some hl)).data
  have e1 : decide ((a : Int) < 0) = false := decide_eq_false (by omega)
  have e2 : decide ((b : Int) < (a : Int)) = false := decide_eq_false (by omega)
  have e3 : decide ((o.data.length : Int) < (b : Int)) = false := decide_eq_false (by omega)
  obtain ⟨nn, hnn⟩ : ∃ nn, b - a = nn := ⟨_, rfl⟩
  have hba : (b : Int) - (a : Int) = (nn : Int) := by omega
  have hnl : nn ≤ 1048576 := by omega
  rw [hnn]
  clear h hx
  go_enter Tryz.func25, Tryz.ntmps25
  go_wp2_with fail
  refine hR.mono ?_
  rintro e w1 ⟨A, c, rfl, hr, hcap, hbk, hG⟩
  have hown : OB (w1.alloc (.cells #[] 5)) w.heap.size 5 (some ⟨w1.heap.size, 0, none⟩) 0 0 [] := Own.made w1 w.heap.size 5 1 hG.size
  have hr1 : RB (w1.alloc (.cells #[] 5)) A o.data.length o.data := hr.grew ((Chg.refl _ w1).alloc _)
  have hrd := ((hr1.dropO a).take (i := b - a) (by omega))
  have hrd := Lib.hid hrd
  have hs1 := hG.size
  rw [hnn] at hrd
  by_cases hca : c = a
  · obtain rfl : nn = 0 := by omega
    have hz : RB (w1.alloc (.cells #[] 5)) A 0 [] := ⟨rfl, Rd.nil _ _⟩
    go_wp2_with (at_builtin; refine wpList_appB rfl _ _ rfl w.heap.size _ 0 0 [] rfl hown (by simp; omega) A 0 _ [] rfl hz (by omega) ?_; intro A3 c3 w3 h3)
    go_ret2
    have ho3 := h3.ob
    exact ⟨A3, c3, by simp, by simpa using ho3, hG.trans (h3.grew ((Chg.refl _ w1).alloc _) (head_ge (Nat.le_refl _)))⟩
  · have hca' : decide (c = a) = false := decide_eq_false hca
    go_wp2_with (at_builtin; refine wpList_appB rfl _ _ rfl w.heap.size _ 0 0 [] rfl hown (by simp; omega) (A.map fun x => x.add a) nn _ _ rfl hrd.out (by omega) ?_; intro A3 c3 w3 h3)
    go_ret2
    have ho3 := h3.ob
    exact ⟨A3, c3, by simp, by simpa using ho3, hG.trans (h3.grew ((Chg.refl _ w1).alloc _) (head_ge (Nat.le_refl _)))⟩
set_option maxHeartbeats 2000000 in
theorem slice_bad (h : Stor S w s d m Ob E clock armed left kp n) (x : ByteArray) (hx : keyB x = true) {o : OEnt} (hl : lookO Ob x = some o) (b : Nat) (hb : o.data.length < b) :
    Calls Tryz.prog 25 #[.pointer (some ⟨s, 0, none⟩), .string x, .int .i64 0, .int .i64 (b : Int)] w fun e w' => e = .returned (.tuple #[.slice none 0 0, .int .i64 113]) ∧ Grew w w' := by
  have hR := get_any h x hx
  rw [hl] at hR
  unfold ReadTo at hR
  simp only at hR
  have e2 : decide ((b : Int) < 0) = false := decide_eq_false (by omega)
  have e3 : decide ((o.data.length : Int) < (b : Int)) = true := decide_eq_true (by omega)
  clear h hx
  go_enter Tryz.func25, Tryz.ntmps25
  go_wp2_with fail
  refine hR.mono ?_
  rintro e w1 ⟨A, c, rfl, hr, hcap, hbk, hG⟩
  have hr := Lib.hid hr
  have hcap := Lib.hid hcap
  go_wp2
  go_ret2
  exact ⟨by simp, hG⟩
set_option maxHeartbeats 2000000 in
theorem odelete_ok (h : Stor S w s d m Ob E clock armed left kp n) (hc : Cnt armed left n) {i : Nat} {o : OEnt} (hi : Ob[i]? = some o) :
    Calls Tryz.prog 29 #[.pointer (some ⟨s, 0, none⟩), .string o.key] w fun e w' => e = .returned (.int .i64 0) ∧ Stor S w' s d m (Ob.eraseIdx i) (E.eraseIdx i) clock armed (dcl left) kp (n + 1) ∧ Chg S w w' := by
  have ho := h.ok o (List.mem_of_getElem? hi)
  have hsz := keyB_size ho.key
  have hl : lookO Ob o.key = some o := by
    cases hl : lookO Ob o.key with
    | none => exact absurd rfl (look_not hl o (List.mem_of_getElem? hi))
    | some p =>
      obtain ⟨hk, j, hj⟩ := look_here hl
      have hnd := h.nd
      rw [List.Nodup, List.pairwise_iff_getElem] at hnd
      obtain ⟨a1, a2⟩ := List.getElem?_eq_some_iff.1 hi
      obtain ⟨b1, b2⟩ := List.getElem?_eq_some_iff.1 hj
      have hij : i = j := by
        rcases Nat.lt_trichotomy i j with hlt | rfl | hlt
        · exact absurd (by rw [List.getElem_map, List.getElem_map, a2, b2, hk]) (hnd i j (by simpa using a1) (by simpa using b1) hlt)
        · rfl
        · exact absurd (by rw [List.getElem_map, List.getElem_map, a2, b2, hk]) (hnd j i (by simpa using b1) (by simpa using a1) hlt)
      subst hij
      rw [hi] at hj
      exact hj.symm
  have hR := get_any h o.key ho.key
  rw [hl] at hR
  unfold ReadTo at hR
  simp only at hR
  obtain ⟨f, hf, hnm, _, _⟩ := h.ent hi
  have hD : Hid (∀ w1, Grew w w1 → Calls Tryz.prog 15 #[.pointer (some ⟨d, 0, none⟩), .string ((⟨#[111, 47]⟩ : ByteArray) ++ o.key)] w1 fun e w' => e = .returned (.int .i64 0) ∧ Stor S w' s d m (Ob.eraseIdx i) (E.eraseIdx i) clock armed (dcl left) kp (n + 1) ∧ Chg S w w') := by
    intro w1 hg1
    have := fs_delete (h.fs.grew hg1) hc hf (hnm ▸ nm_o ho.key)
    rw [hnm] at this
    refine this.mono ?_
    rintro e w' ⟨rfl, h1, h2⟩
    refine ⟨rfl, ⟨(h.st.grew hg1).chg h2 h.sn, h.sn, h1, ?_, fun p hp => h.ok p (List.mem_of_mem_eraseIdx hp)⟩, (Chg.of_grew hg1).trans h2⟩
    rw [← map_erase, ← map_erase, h.vw]
  have hst := h.st
  clear h hf hnm hc hi
  go_enter Tryz.func29, Tryz.ntmps29
  go_wp2_with fail
  refine hR.mono ?_
  rintro e w1 ⟨A, c, rfl, hr, hcap, hbk, hG⟩
  have s0 := (hst.grew hG).cell 0
  have hr := Lib.hid hr
  have hcap := Lib.hid hcap
  clear hR
  go_wp2_with fail
  refine (hD.out w1 hG).mono ?_
  rintro e w2 ⟨rfl, h1, h2⟩
  have h1 := Lib.hid h1
  go_wp2
  go_ret
  exact ⟨by simp, h1.out, h2⟩
set_option maxHeartbeats 2000000 in
theorem odelete_none (h : Stor S w s d m Ob E clock armed left kp n) (x : ByteArray) (hx : keyB x = true) (hno : ∀ o ∈ Ob, o.key ≠ x) :
    Calls Tryz.prog 29 #[.pointer (some ⟨s, 0, none⟩), .string x] w fun e w' => e = .returned (.int .i64 111) ∧ w = w' := by
  have hl : lookO Ob x = none := by
    unfold lookO
    rw [List.find?_eq_none]
    intro o ho
    simpa using hno o ho
  have hR := get_any h x hx
  rw [hl] at hR
  unfold ReadTo at hR
  simp only at hR
  clear h hx
  go_enter Tryz.func29, Tryz.ntmps29
  go_wp2_with fail
  refine hR.mono ?_
  rintro e w1 ⟨rfl, rfl⟩
  go_wp2
  go_ret
  exact ⟨by simp, rfl⟩
set_option maxHeartbeats 2000000 in
theorem open_clean (h : FS S w d m E clock true armed left kp n) (hE : E.length ≤ 1048576) (hno : begun E tN = []) :
    Calls Tryz.prog 5 #[.pointer (some ⟨d, 0, none⟩)] w fun e w' => ∃ s, e = .returned (.tuple #[.pointer (some ⟨s, 0, none⟩), .int .i64 0]) ∧ Blk w' s 51 #[.pointer (some ⟨d, 0, none⟩)] ∧ w.heap.size ≤ s ∧ Grew w w' := by
  have hL := fs_list h hE tN
  have hU := up_any h.dsk
  rw [hno] at hL
  unfold tN at hL
  simp only [sortT, List.map_nil, List.mergeSort_nil, List.length_nil] at hL
  clear h hno
  go_enter Tryz.func5, Tryz.ntmps5
  go_wp2_with fail
  refine hU.mono ?_
  rintro e w1 ⟨rfl, rfl⟩
  go_wp2_with fail
  refine hL.mono ?_
  rintro e w1 ⟨A, c, rfl, hO, hG⟩
  go_wp2
  refine wp_loop_rounds 1 ?_
  rw [rounds_succ]
  go_wp2
  go_ret2
  exact ⟨w1.heap.size, by simp, Blk.new w1 _ _, hG.size, hG.trans ((Chg.refl _ w1).alloc _)⟩
end
end Go.Proofs.YtepncgeaehjhiaaGreat

namespace Go.Proofs.YtepncgeaehjhiaaGreat
open Go.RowKit

set_option maxHeartbeats 1000000 in
theorem sameTexts_any (A B : Option Addr) (n m c d : Nat) (l r : List ByteArray) (w : World) (ha : RE elNm w A n l) (hb : RE elNm w B m r) (hn : n ≤ 9223372036854775807) (hm : m ≤ 9223372036854775807) :
    Calls Tryz.prog 35 #[.slice A n c, .slice B m d] w fun e w' => e = .returned (.bool (decide (l = r))) ∧ ∃ k, w' = w.drewN k := by
  by_cases hnm : n = m
  · subst hnm
    go_enter Tryz.func35, Tryz.ntmps35
    go_wp2
    go_loopw [5] (fun i wr => ∃ k : Nat, k ≤ n ∧ i = .int .i64 k ∧ l.take k = r.take k ∧ ∃ j, wr = w.drewN j) (fun i _ => n - (intOf i).toNat)
    case atStart => exact ⟨0, Nat.zero_le _, rfl, rfl, 0, rfl⟩
    case round =>
      obtain ⟨k, hk, rfl, ht, j, rfl⟩ := hrel
      by_cases hlt : k < n
      · obtain ⟨ad, x, rfl, hx, hcx⟩ := ha.at_ hlt (by decide)
        obtain ⟨bd, y, rfl, hy, hcy⟩ := hb.at_ hlt (by decide)
        have hcx := hcx 0 _ rfl
        have hcy := hcy 0 _ rfl
        simp only [elNm, Nat.mul_one, Nat.add_zero] at hcx hcy
        go_wp2
        go_quiet (fail)
        go_wp2
        · have hne : (!(x.toList == y.toList)) = true := by assumption
          go_ret
          refine ⟨?_, j + nq, by simp⟩
          have : decide (l = r) = false := by
            refine decide_eq_false ?_
            rintro rfl
            rw [hx] at hy
            injection hy with hy
            subst hy
            simp at hne
          simp [this]
        · have he : (!(x.toList == y.toList)) = false := by assumption
          go_roundw
          case rel =>
            refine ⟨k + 1, by omega, by go_num, ?_, _, rfl⟩
            have hxy : x = y := by
              simp only [Bool.not_eq_false', beq_iff_eq, ByteArray.toList_eq] at he
              exact lst_inj.1 he
            rw [List.take_add_one, List.take_add_one, ht, hx, hy, hxy]
          case measure => simp [intOf]; omega
      · have hkn : k = n := by omega
        subst hkn
        go_wp2
        go_ret
        refine ⟨?_, _, rfl⟩
        have h1 : l.take k = l := List.take_of_length_le (by rw [ha.1]; omega)
        have h2 : r.take k = r := List.take_of_length_le (by rw [hb.1]; omega)
        rw [h1, h2] at ht
        simp [ht]
  · go_enter Tryz.func35, Tryz.ntmps35
    have hne : ((n : Int) != (m : Int)) = true := by simp; omega
    go_wp2
    go_ret
    refine ⟨?_, 0, rfl⟩
    have : decide (l = r) = false := decide_eq_false (by
      rintro rfl
      exact hnm (ha.1.symm.trans hb.1))
    simp [this]

/-! ### Keys listed -/
def cut2 (x : ByteArray) : ByteArray := x.extract 2 x.size
theorem lst_cut2 (x : ByteArray) : lst (cut2 x) = (lst x).drop 2 := Lib.extract_to_end x 2
theorem cut2_o (x : ByteArray) : cut2 (oN ++ x) = x := by
  apply lst_inj.1
  rw [lst_cut2, lst_append]
  rfl
def hasP (x p : ByteArray) : Bool := Lib.hasPrefix (lst x) (lst p)
def keysO (Ob : List OEnt) (p : ByteArray) : List ByteArray := sortT ((Ob.filter fun o => hasP o.key p).map OEnt.key)
theorem hasP_o (x p : ByteArray) : hasP (oN ++ x) (oN ++ p) = hasP x p := by
  unfold hasP Lib.hasPrefix
  rw [lst_append, lst_append]
  show List.isPrefixOf (111 :: 47 :: lst p) (111 :: 47 :: lst x) = _
  simp [List.isPrefixOf]
theorem sortT_pre (l : List ByteArray) : sortT (l.map fun k => oN ++ k) = (sortT l).map fun k => oN ++ k := by
  unfold sortT
  rw [List.map_map, List.map_map]
  have h1 : (l.map (lst ∘ fun k => oN ++ k)) = (l.map lst).map fun k => 111 :: 47 :: k := by
    rw [List.map_map]
    apply List.map_congr_left
    intro a _
    show lst (oN ++ a) = _
    rw [lst_append]
    rfl
  have h2 : ((l.map lst).mergeSort fun x y => decide (x ≤ y)).map (fun k => (111 : UInt8) :: 47 :: k) = ((l.map lst).map fun k => 111 :: 47 :: k).mergeSort fun x y => decide (x ≤ y) := by
    apply List.map_mergeSort
    intro a _ b _
    simp [List.cons_le_cons_iff]
  rw [h1, ← h2, List.map_map]
  apply List.map_congr_left
  intro a _
  apply lst_inj.1
  show lst (txt (111 :: 47 :: a)) = lst (oN ++ txt a)
  rw [lst_append, lst_txt, lst_txt]
  rfl

section
variable {S : Nat → Prop} {w w' : World} {s d m : Nat} {Ob : List OEnt} {E : List FEnt} {clock : Nat} {armed : Bool} {left kp : Int} {n : Nat}
theorem begun_keys (h : Stor S w s d m Ob E clock armed left kp n) (p : ByteArray) : begun E (oN ++ p) = ((Ob.filter fun o => hasP o.key p).map OEnt.key).map fun k => oN ++ k := by
  have h1 : (E.map FEnt.nm) = Ob.map fun o => oN ++ o.key := by
    have := congrArg (List.map Prod.fst) h.vw
    rw [List.map_map, List.map_map] at this
    exact this
  have h2 : begun E (oN ++ p) = (E.map FEnt.nm).filter fun x => hasP x (oN ++ p) := by
    unfold begun hasP
    rw [List.filter_map]
    rfl
  rw [h2, h1, List.filter_map, List.map_map]
  congr 1
theorem list_keys (h : Stor S w s d m Ob E clock armed left kp n) (p : ByteArray) : sortT (begun E (oN ++ p)) = (keysO Ob p).map fun k => oN ++ k := by
  rw [begun_keys h, sortT_pre]
  unfold keysO
  rfl
theorem keysO_len (Ob : List OEnt) (p : ByteArray) : (keysO Ob p).length ≤ Ob.length := by
  unfold keysO
  rw [sortT_length, List.length_map]
  exact List.length_filter_le _ _
set_option maxHeartbeats 2000000 in
theorem olist_any (h : Stor S w s d m Ob E clock armed left kp n) (hE : E.length ≤ 1048576) (p : ByteArray) (hp : p.size ≤ 140737488355328) :
    Calls Tryz.prog 36 #[.pointer (some ⟨s, 0, none⟩), .string p] w fun e w' => ∃ A c, e = .returned (.slice A (keysO Ob p).length c) ∧ OE elNm w' w.heap.size 9 A (keysO Ob p).length c (keysO Ob p) ∧ Grew w w' := by
  have hL := fs_list h.fs hE (oN ++ p)
  rw [list_keys h p] at hL
  have hkl := keysO_len Ob p
  rw [← h.len] at hkl
  have s0 : w.cell? ⟨s, 0, none⟩ = some (.pointer (some ⟨d, 0, none⟩)) := h.st.cell 0
  generalize keysO Ob p = K at *
  rw [List.length_map] at hL
  unfold oN at hL
  obtain ⟨kn, hkn⟩ : ∃ kn, K.length = kn := ⟨_, rfl⟩
  rw [hkn] at hL hkl ⊢
  clear h
  go_enter Tryz.func36, Tryz.ntmps36
  go_wp2_with fail
  refine (hL).mono ?_
  rintro e w1 ⟨A, c, rfl, hO, hG⟩
  have hOr := hO.re (by decide)
  have hsz := hG.size
  clear hL
  go_wp2
  go_loopw [5, 16] (fun v i wr => ∃ k : Nat, k ≤ kn ∧ i = .int .i64 k ∧ ∃ B cb, v = .slice B k cb ∧ OE elNm wr w1.heap.size 9 B k cb (K.take k) ∧ Grew w1 wr) (fun _ i _ => kn - (intOf i).toNat)
  case atStart => exact ⟨0, by omega, rfl, none, 0, rfl, OE.nil _ _ _, Chg.refl _ _⟩
  case round =>
    obtain ⟨k, hk, rfl, B, cb, rfl, hB, hg⟩ := hrel
    by_cases hlt : k < kn
    · have hcl := hg.size
      obtain ⟨ad, x, rfl, hx, hcx⟩ := (hOr.grew hg).at_ hlt (by decide)
      have hcx := hcx 0 _ rfl
      rw [List.getElem?_map] at hx
      cases hK : K[k]? with
      | none => rw [hK] at hx; cases hx
      | some y =>
      rw [hK] at hx
      injection hx with hx
      subst hx
      have hcx : wr.cell? (ad.add k) = some (.string ((⟨#[111, 47]⟩ : ByteArray) ++ y)) := by simpa [elNm] using hcx
      have hys : 2 ≤ ((⟨#[111, 47]⟩ : ByteArray) ++ y).size := by rw [ByteArray.size_append]; exact Nat.le_add_right _ _
      have hcut : ((⟨#[111, 47]⟩ : ByteArray) ++ y).extract 2 ((⟨#[111, 47]⟩ : ByteArray) ++ y).size = y := cut2_o y
      have hKt : K.take (k + 1) = K.take k ++ [y] := by rw [List.take_add_one, hK]; rfl
      have hKt := Lib.hid hKt
      generalize ((⟨#[111, 47]⟩ : ByteArray) ++ y) = z at *
      have hsrc : RE elNm (wr.alloc (.cells #[.string y] 9)) (some ⟨wr.heap.size, 0, none⟩) 1 [y] := RE.newAt rfl rfl rfl
      have hown : OE elNm (wr.alloc (.cells #[.string y] 9)) w1.heap.size 9 B k cb (K.take k) := hB.grew ((Chg.refl _ wr).alloc _)
      go_wp2_with (at_builtin; refine wpList_appE rfl _ _ 47 9 infoNm rfl Tryz.underlying47 rfl w1.heap.size B k cb (K.take k) rfl hown (by simp; omega) _ 1 1 [y] rfl hsrc (by unfold maxLen; omega) (by omega) ?_; intro A3 c3 w3 h3)
      have hc3 : Grew w1 w3 := h3.grew (hg.alloc _) fun ad e => (Own.blk_lt hB ad e).1
      have ho3 := h3.oe
      rw [← hKt.out] at ho3
      clear h3 hsrc hown hcx
      go_roundw
      case rel => exact ⟨k + 1, by omega, by go_num, A3, c3, by simp, by simpa using ho3, hc3⟩
      case measure => simp [intOf]; omega
    · obtain rfl : k = kn := by omega
      rw [List.take_of_length_le (by omega)] at hB
      go_wp2
      go_ret
      exact ⟨B, cb, by simp, hB.mono hsz, hG.trans hg⟩
end
end Go.Proofs.YtepncgeaehjhiaaGreat
