/-
  Several texts in one:
  A store over a disk of any number of files: what lies in it; an object read. Conditions: the power stays.
  An object that is not there read; the step lay of a put; Put. Conditions: the power stays.
-/
import Derived.Test.YtepncgeaehjhiaaGreatPart19
import Derived.Test.YtepncgeaehjhiaaGreatPart25
import Derived.Test.YtepncgeaehjhiaaGreatPart30

namespace Go.Proofs.YtepncgeaehjhiaaGreat
open Go.RowKit

theorem uintR_at (p r : List UInt8) (v : Nat) (hv : v < 18446744073709551616) : uintR (p ++ (uv v ++ r)) (p.length : Int) = (v, p.length + (uv v).length, 0) := by
  have h := ur_uv r v 0 0 (Or.inl rfl) (by omega) (by omega)
  unfold uintR
  rw [if_pos ⟨by omega, by simp only [List.length_append]; omega⟩, Int.toNat_natCast, List.drop_left, h]
  simp
theorem unfR_at (p q r : List UInt8) (hq : q.length ≤ 65536) : unfR (p ++ (frameB q ++ r)) (p.length : Int) = (q, p.length + ((uv q.length).length + 4 + q.length), 0) := by
  unfold unfR frameB
  rw [show p ++ (uv q.length ++ four (crc q) ++ q ++ r) = p ++ (uv q.length ++ (four (crc q) ++ (q ++ r))) by simp only [List.append_assoc], uintR_at p _ q.length (by omega)]
  have h4 : (four (crc q)).length = 4 := rfl
  have e : (p ++ (uv q.length ++ (four (crc q) ++ (q ++ r)))).drop (p.length + (uv q.length).length) = four (crc q) ++ (q ++ r) := by
    rw [← List.append_assoc, ← List.length_append, List.drop_left]
  have e2 : (p ++ (uv q.length ++ (four (crc q) ++ (q ++ r)))).drop (p.length + (uv q.length).length + 4) = q ++ r := by
    rw [← List.drop_drop, e, List.drop_left' h4]
  have hrec : recOf (p ++ (uv q.length ++ (four (crc q) ++ (q ++ r)))) (p.length + (uv q.length).length) q.length = (q, p.length + (uv q.length).length + 4 + q.length, 0) := by
    unfold recOf
    rw [if_neg (by simp only [List.length_append, h4]; omega), e, e2, List.take_left' h4, List.take_left, beN_four _ (crc_lt q)]
    simp
  unfold unfOf
  have hle : lenE (q.length, p.length + (uv q.length).length, 0) = 0 := by
    unfold lenE
    rw [if_neg (by simp), if_neg (by simp only; omega)]
  rw [hle]
  simp only [hrec]
  simp
  omega

/-! ### What lies in a store -/
structure OEnt where
  key : ByteArray
  data : List UInt8
  gen : Nat
def hdr (g : Nat) : List UInt8 := frameB (uv g)
theorem frameB_length (l : List UInt8) : (frameB l).length = (uv l.length).length + 4 + l.length := by
  unfold frameB
  rw [List.length_append, List.length_append]
  rfl
theorem hdr_length {g : Nat} (hg : g < 18446744073709551616) : (hdr g).length ≤ 24 := by
  have h1 := uv_len10 hg
  have h2 := uv_len10 (v := (uv g).length) (by omega)
  unfold hdr
  rw [frameB_length]
  omega
def FEnt.view (e : FEnt) : ByteArray × List UInt8 × Nat := (e.nm, e.l, e.sy)
def OEnt.view (o : OEnt) : ByteArray × List UInt8 × Nat := (oN ++ o.key, hdr o.gen ++ o.data, (hdr o.gen ++ o.data).length)
structure OEnt.Ok (o : OEnt) : Prop where
  key : keyB o.key = true
  gen : o.gen < 18446744073709551616
  data : o.data.length ≤ 1048576
/-- the store s over the disk d -/
structure Stor (S : Nat → Prop) (w : World) (s d m : Nat) (Ob : List OEnt) (E : List FEnt) (clock : Nat) (armed : Bool) (left kp : Int) (n : Nat) : Prop where
  st : Blk w s 51 #[.pointer (some ⟨d, 0, none⟩)]
  sn : ¬ S s
  fs : FS S w d m E clock true armed left kp n
  vw : E.map FEnt.view = Ob.map OEnt.view
  ok : ∀ o ∈ Ob, o.Ok

theorem keyB_size {x : ByteArray} (h : keyB x = true) : x.size ≤ 56 := by
  unfold keyB at h
  simp only [Bool.and_eq_true, decide_eq_true_eq] at h
  exact h.1.1.1
theorem keyB_nm {x : ByteArray} (h : keyB x = true) : NmOk x := by
  unfold keyB at h
  simp only [Bool.and_eq_true] at h
  exact (nameB_iff x).1 h.1.1.2
theorem lst_append (a b : ByteArray) : lst (a ++ b) = lst a ++ lst b := by simp [lst]
theorem nm_pre (p x : ByteArray) (hp : lst p = [111, 47] ∨ lst p = [116, 47]) (hx : keyB x = true) : NmOk (p ++ x) := by
  have h1 := keyB_size hx
  have h2 := (nameB_iff x).2 (keyB_nm hx)
  refine (nameB_iff _).1 ?_
  unfold nameB at h2 ⊢
  have hs : (p ++ x).size = 2 + x.size := by
    rw [← lst_length, ← lst_length x, lst_append, List.length_append]
    rcases hp with hp | hp <;> rw [hp] <;> rfl
  rw [hs, lst_append]
  simp only [Bool.and_eq_true, decide_eq_true_eq] at h2 ⊢
  refine ⟨⟨by omega, by omega⟩, ?_⟩
  rw [List.all_append, h2.2]
  rcases hp with hp | hp <;> rw [hp] <;> rfl
theorem nm_o {x : ByteArray} (hx : keyB x = true) : NmOk (oN ++ x) := nm_pre oN x (.inl rfl) hx
theorem nm_t {x : ByteArray} (hx : keyB x = true) : NmOk (tN ++ x) := nm_pre tN x (.inr rfl) hx
theorem oN_inj {x y : ByteArray} (h : oN ++ x = oN ++ y) : x = y := by
  have := congrArg lst h
  rw [lst_append, lst_append] at this
  exact lst_inj.1 (List.append_cancel_left this)
theorem oN_tN (x y : ByteArray) : oN ++ x ≠ tN ++ y := fun h => by
  have := congrArg lst h
  rw [lst_append, lst_append] at this
  injection this with h1 _
  cases h1

section
variable {S : Nat → Prop} {w w' : World} {s d m : Nat} {Ob : List OEnt} {E : List FEnt} {clock : Nat} {armed : Bool} {left kp : Int} {n : Nat}
theorem Stor.ent (h : Stor S w s d m Ob E clock armed left kp n) {i : Nat} {o : OEnt} (hi : Ob[i]? = some o) : ∃ f, E[i]? = some f ∧ f.nm = oN ++ o.key ∧ f.l = hdr o.gen ++ o.data ∧ f.sy = f.l.length := by
  have h1 : (E.map FEnt.view)[i]? = some o.view := by rw [h.vw]; simp [hi]
  rw [List.getElem?_map] at h1
  cases hE : E[i]? with
  | none => rw [hE] at h1; cases h1
  | some f =>
    rw [hE] at h1
    injection h1 with h1
    injection h1 with h2 h3
    injection h3 with h3 h4
    exact ⟨f, rfl, h2, h3, by rw [h4, h3]⟩
theorem Stor.mem (h : Stor S w s d m Ob E clock armed left kp n) {f : FEnt} (hf : f ∈ E) : ∃ o ∈ Ob, f.nm = oN ++ o.key := by
  have : f.view ∈ E.map FEnt.view := List.mem_map_of_mem hf
  rw [h.vw] at this
  obtain ⟨o, ho, he⟩ := List.mem_map.1 this
  injection he with h1 _
  exact ⟨o, ho, h1.symm⟩
theorem Stor.no (h : Stor S w s d m Ob E clock armed left kp n) {x : ByteArray} (hx : ∀ o ∈ Ob, o.key ≠ x) : ∀ f ∈ E, f.nm ≠ oN ++ x := fun f hf e => by
  obtain ⟨o, ho, h1⟩ := h.mem hf
  exact hx o ho (oN_inj (h1.symm.trans e))
theorem Stor.noT (h : Stor S w s d m Ob E clock armed left kp n) (x : ByteArray) : ∀ f ∈ E, f.nm ≠ tN ++ x := fun f hf e => by
  obtain ⟨o, ho, h1⟩ := h.mem hf
  exact oN_tN o.key x (h1.symm.trans e)
theorem Stor.len (h : Stor S w s d m Ob E clock armed left kp n) : E.length = Ob.length := by
  have := congrArg List.length h.vw
  simpa using this
theorem Stor.grew (h : Stor S w s d m Ob E clock armed left kp n) (hc : Grew w w') : Stor S w' s d m Ob E clock armed left kp n := ⟨h.st.grew hc, h.sn, h.fs.grew hc, h.vw, h.ok⟩
theorem Stor.chg {T : Nat → Prop} (h : Stor S w s d m Ob E clock armed left kp n) (hc : Chg T w w') (hs : ¬ T s) (hT : ∀ k, S k → ¬ T k) : Stor S w' s d m Ob E clock armed left kp n := ⟨h.st.chg hc hs, h.sn, h.fs.chg hc hT, h.vw, h.ok⟩

/-- what a read of an object that is there gives -/
def GotO (w : World) (o : OEnt) (e : Ending) (w' : World) : Prop :=
  ∃ A c, e = .returned (.tuple #[.slice A o.data.length c, .int .u64 (o.gen : Int), .int .i64 0]) ∧ RB w' A o.data.length o.data ∧ (o.data.length ≤ c ∧ c ≤ 9223372036854775807) ∧ (∀ ad, A = some ad → w.heap.size ≤ ad.block) ∧ Grew w w'

set_option maxHeartbeats 2000000 in
theorem oread_ok (h : Stor S w s d m Ob E clock armed left kp n) {i : Nat} {o : OEnt} (hi : Ob[i]? = some o) :
    Calls Tryz.prog 51 #[.pointer (some ⟨s, 0, none⟩), .string o.key] w (GotO w o) := by
  have ho := h.ok o (List.mem_of_getElem? hi)
  obtain ⟨f, hf, hnm, hl, hsy⟩ := h.ent hi
  have hR := fs_read h.fs hf (hnm ▸ nm_o ho.key)
  have hll : f.l.length ≤ 4194304 := (h.fs.ok f (List.mem_of_getElem? hf)).len
  have s0 : w.cell? ⟨s, 0, none⟩ = some (.pointer (some ⟨d, 0, none⟩)) := h.st.cell 0
  have hsz := keyB_size ho.key
  have hhl := hdr_length ho.gen
  rw [hnm] at hR
  unfold oN at hR
  have hU := unfR_at [] (uv o.gen) o.data (by have := uv_len10 ho.gen; omega)
  have hV := uintR_at [] [] o.gen ho.gen
  have hul := uv_len10 ho.gen
  simp only [List.nil_append, List.append_nil, List.length_nil, Nat.zero_add] at hU hV
  have hh : (uv (uv o.gen).length).length + 4 + (uv o.gen).length = (hdr o.gen).length := by unfold hdr; rw [frameB_length]
  rw [hh] at hU
  rw [show frameB (uv o.gen) = hdr o.gen from rfl, ← hl] at hU
  have hlen : f.l.length = (hdr o.gen).length + o.data.length := by rw [hl, List.length_append]
  have hdrop : f.l.drop (hdr o.gen).length = o.data := by rw [hl, List.drop_left]
  generalize f.l = l at *
  generalize (hdr o.gen).length = hn at *
  generalize hun : (uv o.gen).length = un at *
  generalize uv o.gen = ul at *
  generalize hdn : o.data.length = dn at *
  generalize hln : l.length = ln at *
  subst hlen
  have hU' : unfR l 0 = (ul, hn, 0) := hU
  have hV' : uintR ul 0 = (o.gen, un, 0) := hV
  clear hU hV
  have hUn := fun A c w h1 h2 h3 => hU' ▸ unframe_any A (hn + dn) c l 0 w h1 h2 h3
  have hVn := fun B k c w h1 h2 => hV' ▸ uint_any B k c ul 0 w h1 h2
  clear hU' hV'
  clear hf hnm hl hsy ho
  have h := Lib.hid h
  go_enter Tryz.func51, Tryz.ntmps51
  go_wp2_with fail
  refine hR.mono ?_
  rintro e w1 ⟨A1, c1, rfl, hO1, hG1⟩
  have hcap1 := hO1.cap
  go_wp2_with fail
  refine (hUn A1 c1 w1 hO1.rb (by omega) hcap1).mono ?_
  rintro e w2 ⟨B, k, C, rfl, hO2, hG2⟩
  obtain rfl : un = k := hun.symm.trans hO2.len
  clear hUn
  go_wp2_with fail
  refine (hVn B _ C w2 hO2.rb (by omega)).mono ?_
  unfold UintPost uintEnd
  rintro e w3 ⟨rfl, rfl⟩
  clear hVn
  have hdrop := Lib.hid hdrop
  have hdn := Lib.hid hdn
  have hln := Lib.hid hln
  clear hR
  have hrd := hO1.rb.dropO hn
  rw [Nat.add_sub_cancel_left, hdrop.out] at hrd
  have hrd := Lib.hid (hrd.grew hG2)
  have hG := Lib.hid (hG1.trans hG2)
  have hbk := Lib.hid (Own.blk_lt hO1)
  clear hO1 hdrop
  go_wp2
  · go_ret3
    obtain rfl : dn = 0 := by omega
    unfold GotO
    rw [hdn.out]
    refine ⟨A1, 0, rfl, ⟨hdn.out, by rw [List.eq_nil_of_length_eq_zero hdn.out]; exact Rd.nil _ _⟩, by omega, fun ad e => (hbk.out ad e).1, hG.out⟩
  · go_ret3
    unfold GotO
    rw [hdn.out]
    refine ⟨_, c1 - hn, rfl, hrd.out, by omega, ?_, hG.out⟩
    intro ad e
    cases A1 with
    | none => cases e
    | some a =>
      injection e with e
      subst e
      rw [block_add]
      exact (hbk.out a rfl).1
end
end Go.Proofs.YtepncgeaehjhiaaGreat

namespace Go.Proofs.YtepncgeaehjhiaaGreat
open Go.RowKit

set_option maxHeartbeats 2000000 in
theorem oread_none {S : Nat → Prop} {w : World} {s d m : Nat} {Ob : List OEnt} {E : List FEnt} {clock : Nat} {armed : Bool} {left kp : Int} {n : Nat} (h : Stor S w s d m Ob E clock armed left kp n) (x : ByteArray) (hx : keyB x = true) (hno : ∀ o ∈ Ob, o.key ≠ x) :
    Calls Tryz.prog 51 #[.pointer (some ⟨s, 0, none⟩), .string x] w fun e w' => e = .returned (.tuple #[.slice none 0 0, .int .u64 0, .int .i64 111]) ∧ w = w' := by
  have hR := fs_read_none h.fs (oN ++ x) (nm_o hx) (h.no hno)
  have s0 : w.cell? ⟨s, 0, none⟩ = some (.pointer (some ⟨d, 0, none⟩)) := h.st.cell 0
  have hsz := keyB_size hx
  unfold oN at hR
  clear hx h hno
  go_enter Tryz.func51, Tryz.ntmps51
  go_wp2_with fail
  refine hR.mono ?_
  rintro e w1 ⟨rfl, rfl⟩
  go_wp2
  go_ret3
  exact ⟨by simp, rfl⟩

set_option maxRecDepth 100000 in
set_option maxHeartbeats 2000000 in
theorem lay_step {er : Int} {w : World} {d : Nat} (p s : Nat) (x : ByteArray) (A : Option Addr) (k c : Nat) (data : List UInt8) (g : Nat) (hP : Blk w p 81 #[.pointer (some ⟨s, 0, none⟩), .string x, .slice A k c, .int .u64 (g : Int)]) (hS : Blk w s 51 #[.pointer (some ⟨d, 0, none⟩)]) (hxs : x.size ≤ 64)
    (hr : RB w A k data) (hk : k ≤ 1048576) (hg : g < 18446744073709551616) {R : World → Prop} {S : Nat → Prop} (hp : ¬ S p) (hs : ¬ S s)
    (hC : ∀ B cap w1, Grew w w1 → RB w1 B ((hdr g).length + k) (hdr g ++ data) → (∀ ad, B = some ad → w.heap.size ≤ ad.block) → Calls Tryz.prog 75 #[.pointer (some ⟨d, 0, none⟩), .string ((⟨#[116, 47]⟩ : ByteArray) ++ x), .slice B ((hdr g).length + k) cap] w1 fun e w' => e = .returned (.int .i64 er) ∧ R w' ∧ Chg S w1 w') :
    Calls Tryz.prog 53 #[.pointer (some ⟨p, 0, none⟩)] w fun e w' => e = .returned (.int .i64 er) ∧ R w' ∧ Chg S w w' := by
  have p0 : w.cell? ⟨p, 0, none⟩ = some (.pointer (some ⟨s, 0, none⟩)) := hP.cell 0
  have p1 : w.cell? ⟨p, 1, none⟩ = some (.string x) := hP.cell 1
  have p2 : w.cell? ⟨p, 2, none⟩ = some (.slice A k c) := hP.cell 2
  have p3 : w.cell? ⟨p, 3, none⟩ = some (.int .u64 (g : Int)) := hP.cell 3
  have s0 : w.cell? ⟨s, 0, none⟩ = some (.pointer (some ⟨d, 0, none⟩)) := hS.cell 0
  have hU := putUint_any none 0 0 [] g (g : Int) w ⟨rfl, Rd.nil _ _⟩ rfl (by omega) hg
  have hul := uv_len10 hg
  have hhl := hdr_length hg
  have hfl : (uv (uv g).length).length + 4 + (uv g).length = (hdr g).length := by unfold hdr; rw [frameB_length]
  have hF := fun B c w h => frame_any B (uv g).length c (uv g) w h (by omega)
  rw [hfl, show frameB (uv g) = hdr g from rfl] at hF
  simp only [Nat.zero_add, List.nil_append] at hU
  generalize hdr g = hd at *
  generalize uv g = ul at *
  obtain ⟨hn, hhn⟩ : ∃ hn, hd.length = hn := ⟨_, rfl⟩
  rw [hhn] at hF hC hhl
  generalize ul.length = un at *
  clear hfl
  go_enter Tryz.func53, Tryz.ntmps53
  go_wp2_with fail
  refine hU.mono ?_
  rintro e w1 ⟨B1, c1, rfl, hO1, hG1⟩
  go_wp2_with fail
  refine (hF B1 c1 w1 hO1.rb).mono ?_
  rintro e w2 ⟨B2, c2, rfl, hO2, hG2⟩
  have hG := hG1.trans hG2
  have hw1 := hG1.size
  have q0 := hG.cell p0 (fun e => e)
  have q1 := hG.cell p1 (fun e => e)
  have q2 := hG.cell p2 (fun e => e)
  have t0 := hG.cell s0 (fun e => e)
  have hr2 := hr.grew hG
  clear p0 p1 p2 p3 s0 hU hF hO1
  go_wp2_with fail
  refine wp_region_textS [(9, 2)] [p, s] (by kernel_rfl) (by kernel_rfl) (cellsIn_cons q0 (cellsIn_cons t0 (cellsIn_nil _))) ?_
  simp only [wpU, tagOf, chk, look, Nat.reduceBEq, if_true, if_false, Nat.reduceEqDiff, List.nil_append, List.cons_append]
  intro K hK
  go_wp2_with fail
  refine OnlyN.normal (hK _ _ (fun _ => ⟨_, _, _, rfl, rfl, by simp⟩) ?_)
  clear hK K
  intro K hK
  go_wp2_with fail
  refine OnlyN.normal (hK _ _ (fun _ => ⟨_, _, _, rfl, rfl, by simp⟩) ?_)
  clear hK K
  intro K hK
  go_wp2_with fail
  refine OnlyN.normal (hK _ _ (fun _ => ⟨_, _, _, rfl, rfl, by simp⟩) ?_)
  clear hK K
  intro K hK
  go_wp2_with fail
  refine OnlyN.normal (hK _ _ (fun _ => ⟨_, _, _, rfl, rfl, by simp⟩) ?_)
  clear hK K
  intro K hK
  go_wp2_with (at_builtin; refine wpList_appB rfl _ _ rfl w1.heap.size B2 hn c2 hd rfl (by exact hO2) (by have := hG2.size; simpa using this) A k c data rfl (by exact hr2) (by omega) ?_; intro B3 c3 w3 h3)
  have hc23 : Chg (fun j => ∃ ad, B2 = some ad ∧ j = ad.block) w2 w3 := Chg.step (S := fun j => ∃ ad, B2 = some ad ∧ j = ad.block) (Chg.refl _ w2).drew h3.chg fun _ _ e => e
  have hB2 : ∀ j, j < w.heap.size → ¬ ∃ ad, B2 = some ad ∧ j = ad.block := fun j hj ⟨ad, e, he⟩ => by
    have := (Own.blk_lt hO2 ad e).1
    omega
  have hpl := hP.lt
  have hsl := hS.lt
  have hpl2 : p < w2.heap.size := (hP.grew hG).lt
  have hsl2 : s < w2.heap.size := (hS.grew hG).lt
  have hG3 : Grew w w3 := hG1.trans (hG2.step (Chg.step (S := fun j => ∃ ad, B2 = some ad ∧ j = ad.block) (Chg.refl _ w2).drew h3.chg fun _ _ e => e) fun j hj ⟨ad, e, he⟩ => by
    have := (Own.blk_lt hO2 ad e).1
    omega)
  have ho3 := h3.ob
  have hbk : ∀ ad, B3 = some ad → w.heap.size ≤ ad.block := fun ad e => by
    have := (Own.blk_lt ho3 ad e).1
    omega
  have hP3 := hP.grew hG3
  have hS3 := hS.grew hG3
  refine OnlyN.normal (hK _ _ (sameIn_all hc23 (by
    intro k hk
    simp only [List.mem_cons, List.not_mem_nil, or_false] at hk
    rcases hk with rfl | rfl
    · exact ⟨hpl2, hB2 _ hpl⟩
    · exact ⟨hsl2, hB2 _ hsl⟩)) ?_)
  clear hK K
  intro K hK
  go_wp2_with fail
  refine (hC B3 c3 w3 hG3 ho3.rb hbk).mono ?_
  rintro e w4 ⟨rfl, hR4, hc4⟩
  have hc24 : Chg (fun j => S j ∨ ∃ ad, B2 = some ad ∧ j = ad.block) w2 w4 := (hc23.mono fun _ _ e => .inr e).trans (hc4.mono fun _ _ e => .inl e)
  go_wp2_with fail
  refine OnlyN.normal (hK _ _ (sameIn_all hc24 (by
    intro k hk
    simp only [List.mem_cons, List.not_mem_nil, or_false] at hk
    rcases hk with rfl | rfl
    · exact ⟨hpl2, fun e => e.elim hp (hB2 _ hpl)⟩
    · exact ⟨hsl2, fun e => e.elim hs (hB2 _ hsl)⟩)) ?_)
  clear hK K
  go_wp2_with fail
  refine OnlyN.normal ?_
  go_wp2
  go_ret
  exact ⟨by simp, hR4, (Chg.of_grew hG3).trans hc4⟩
end Go.Proofs.YtepncgeaehjhiaaGreat
