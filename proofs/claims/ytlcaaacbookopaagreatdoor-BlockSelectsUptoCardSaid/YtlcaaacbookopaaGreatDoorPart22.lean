/-
  Several texts in one:
  A map from texts to their places, as its block holds it. Conditions: none; no program in sight.
  A row of texts compacted by the library (slices.Compact). Conditions: lengths that memory bears.
  (block.texts) walked: a block's texts and the map to their places. Conditions: series that a block may hold.
-/
import Derived.Test.YtlcaaacbookopaaGreatDoorPart21
import Derived.Test.YtlcaaacbookopaaGreatDoorPart13

namespace Go.Proofs.YtlcaaacbookopaaGreatDoor

theorem findT_str (x : ByteArray) : ∀ (es : List MapEntry) (i : Nat), (∀ e ∈ es, ∃ s, e.key = .string s) →
    (Instr.findNow .string (.string x) es i = some none ∧ ∀ e ∈ es, e.key ≠ .string x) ∨ ∃ (j : Nat) (e : MapEntry), Instr.findNow .string (.string x) es i = some (some (i + j, e.val)) ∧ es[j]? = some e ∧ e.key = .string x
  | [], i, _ => .inl ⟨rfl, fun e h => by cases h⟩
  | e :: es, i, h => by
    obtain ⟨s, hs⟩ := h e (by simp)
    by_cases hx : x = s
    · subst hx
      refine .inr ⟨0, e, ?_, rfl, hs⟩
      have : (x == x) = true := (MapKept.bytes_beq x x).2 rfl
      simp [Instr.findNow, hs, Instr.sameNow, this]
    · have hb : (x == s) = false := by
        cases hb : (x == s) with
        | false => rfl
        | true => exact absurd ((MapKept.bytes_beq x s).1 hb) hx
      rcases findT_str x es (i + 1) (fun y hy => h y (by simp [hy])) with ⟨h1, h2⟩ | ⟨j, e', h1, h2, h3⟩
      · refine .inl ⟨by simp [Instr.findNow, hs, Instr.sameNow, hb, h1], fun y hy => ?_⟩
        rcases List.mem_cons.1 hy with rfl | hy
        · rw [hs]
          intro e
          injection e with e
          exact hx e.symm
        · exact h2 y hy
      · exact .inr ⟨j + 1, e', by simp [Instr.findNow, hs, Instr.sameNow, hb, h1, Nat.add_assoc, Nat.add_comm 1 j], by simpa using h2, h3⟩

/-- a map's entries: these texts, each with its place -/
def NoM (es : Array MapEntry) (T : List ByteArray) : Prop := es.size = T.length ∧ ∀ (i : Nat) (s : ByteArray), T[i]? = some s → ∃ b : Nat, es[i]? = some (⟨.string s, .int .i64 (i : Int), b⟩ : MapEntry)
theorem NoM.nil : NoM #[] [] := ⟨rfl, fun i s h => by simp at h⟩
theorem NoM.snoc {es : Array MapEntry} {T : List ByteArray} (h : NoM es T) (s : ByteArray) (b : Nat) : NoM (es.push ⟨.string s, .int .i64 (T.length : Int), b⟩) (T ++ [s]) := by
  refine ⟨by simp [h.1], fun i x hx => ?_⟩
  by_cases hi : i < T.length
  · rw [List.getElem?_append_left hi] at hx
    obtain ⟨c, hc⟩ := h.2 i x hx
    refine ⟨c, ?_⟩
    rw [Array.getElem?_push, if_neg (by have := h.1; omega)]
    exact hc
  · rw [List.getElem?_append_right (by omega)] at hx
    have hl : i - T.length < 1 := (List.getElem?_eq_some_iff.1 hx).1
    have hi2 : i = T.length := by omega
    subst hi2
    simp only [Nat.sub_self, List.getElem?_cons_zero, Option.some.injEq] at hx
    subst hx
    exact ⟨b, by rw [Array.getElem?_push, if_pos (by have := h.1; omega)]⟩
theorem NoM.keys {es : Array MapEntry} {T : List ByteArray} (h : NoM es T) : ∀ e ∈ es.toList, ∃ s, e.key = .string s := fun e he => by
  obtain ⟨i, hi, hx⟩ := List.getElem_of_mem he
  have hi2 : i < T.length := by have := h.1; simpa [this] using hi
  obtain ⟨b, hb⟩ := h.2 i _ (List.getElem?_eq_getElem hi2)
  have h3 : es.toList[i]? = some e := by rw [List.getElem?_eq_getElem hi, hx]
  rw [Array.getElem?_toList, hb] at h3
  injection h3 with h3
  exact ⟨_, by rw [← h3]⟩
theorem NoM.at_ {es : Array MapEntry} {T : List ByteArray} (h : NoM es T) {j : Nat} {e : MapEntry} {s : ByteArray} (hj : es.toList[j]? = some e) (he : e.key = .string s) : T[j]? = some s ∧ e.val = .int .i64 (j : Int) := by
  rw [Array.getElem?_toList] at hj
  have hl : j < T.length := by have h1 := (Array.getElem?_eq_some_iff.1 hj).1; have := h.1; omega
  obtain ⟨b, hb⟩ := h.2 j _ (List.getElem?_eq_getElem hl)
  rw [hj] at hb
  injection hb with hb
  subst hb
  simp only [Value.string.injEq] at he
  exact ⟨by rw [List.getElem?_eq_getElem hl, he], rfl⟩
theorem NoM.new {es : Array MapEntry} {T : List ByteArray} (h : NoM es T) {s : ByteArray} (hs : s ∉ T) : Instr.findNow .string (.string s) es.toList 0 = some none := by
  rcases findT_str s es.toList 0 h.keys with ⟨h1, _⟩ | ⟨j, e, _, h2, h3⟩
  · exact h1
  · exact absurd (List.mem_of_getElem? (h.at_ h2 h3).1) hs
theorem NoM.find {es : Array MapEntry} {T : List ByteArray} (h : NoM es T) (hn : T.Nodup) {s : ByteArray} (hs : s ∈ T) : Instr.findNow .string (.string s) es.toList 0 = some (some (plc T s, .int .i64 (plc T s : Int))) := by
  rcases findT_str s es.toList 0 h.keys with ⟨_, h1⟩ | ⟨j, e, h1, h2, h3⟩
  · exfalso
    obtain ⟨b, hb⟩ := h.2 (plc T s) s (plc_get hs)
    have hm : (⟨.string s, .int .i64 (plc T s : Int), b⟩ : MapEntry) ∈ es.toList := List.mem_of_getElem? (by rw [Array.getElem?_toList]; exact hb)
    exact h1 _ hm rfl
  · obtain ⟨h4, h5⟩ := h.at_ h2 h3
    rw [h1, h5, Nat.zero_add, plc_at hn h4]
end Go.Proofs.YtlcaaacbookopaaGreatDoor

namespace Go.Proofs.YtlcaaacbookopaaGreatDoor
open Go.RowKit Go.Sort

theorem Own.cut {w : World} {base : Nat} {t : TypeId} {sz n c : Nat} {A : Option Addr} {cs : List Value} (h : Own w base t sz A n c cs) (k : Nat) (hk : k ≤ n) (hA : A = none → k = n) : Own w base t sz A k c (cs.take (k * sz)) := by
  obtain ⟨h1, h2⟩ := id h
  refine ⟨by rw [List.length_take, h1]; exact Nat.min_eq_left (Nat.mul_le_mul_right _ hk), ?_⟩
  rcases h2 with ⟨e, h3⟩ | ⟨g, cap, cur, e, hb, hg, h3, h4, h5, h6⟩
  · injection e with e1 e2 e3
    have hkn := hA e1
    subst hkn
    exact .inl ⟨by rw [e1, e2, e3], h3⟩
  · injection e with e1 e2 e3
    refine .inr ⟨g, cap, cur, by rw [e1, e3], hb, hg, by omega, h4, h5, ?_⟩
    rw [← h6, List.take_take, Nat.min_eq_left (Nat.mul_le_mul_right _ hk)]

theorem compact_names {w : World} {base : Nat} {A : Option Addr} {n c : Nat} {ss : List ByteArray} (h : OE elNm w base 9 A n c ss) (hn : n ≤ 9223372036854775807) :
    Calls Tryz.prog 77 #[.slice A n c] w fun e w' => ∃ zs : List ByteArray, zs = (Lib.compact (ss.map lst)).map txt ∧ e = .returned (.slice A zs.length c) ∧ OE elNm w' base 9 A zs.length c zs ∧ Chg (fun k => ∃ ad, A = some ad ∧ k = ad.block) w w' := by
  have hl : ss.length = n := h.len (by decide)
  subst hl
  rcases h.2 with ⟨e, h3⟩ | ⟨g, cap, cur, e, hb, hg, h3, h4, h5, h6⟩
  · injection e with e1 e2 e3
    subst e1; subst e3
    have : ss = [] := List.eq_nil_of_length_eq_zero (by omega)
    subst this
    refine (Tryz.slices_Compact_string_empty none 0 w).mono ?_
    rintro e w' ⟨rfl, rfl⟩
    exact ⟨[], rfl, rfl, h, Chg.refl _ _⟩
  · injection e with e1 e2 e3
    subst e1; subst e3
    have h6' : cur.toList.take (ss.map lst).length = (ss.map lst).map encStr := by
      rw [← flat_enc, ← h6]
      simp [elNm]
    have hH : Holds encStr w g 0 (ss.map lst).toArray := holds_of_block hg h6'
    have hcl : (Lib.compact (ss.map lst)).length ≤ (ss.map lst).length := up_len _ _
    have hS := Tryz.slices_Compact_string g 0 c (ss.map lst) w hH (by simpa using hn) (by simpa using h3)
    have hlm : (ss.map lst).length = ss.length := List.length_map _
    rw [hlm] at hS hcl
    refine hS.mono ?_
    rintro e w' ⟨rfl, k, rfl⟩
    have ho := ownsRow_sorted (n := k) (os := #[]) (base := base) (g := g) (cap := c) (e := 9) (cur := cur) (ss := ss.map lst) (ts := Lib.compact (ss.map lst) ++ List.replicate (ss.length - (Lib.compact (ss.map lst)).length) []) (by simp; omega) hb hg (by simpa using h3) h4 (by simpa [elNm] using h5)
    rw [grow_empty, hlm] at ho
    have ho2 := Own.cut (A := some ⟨g, 0, none⟩) (c := c) ho (Lib.compact (ss.map lst)).length hcl (fun e => by cases e)
    refine ⟨_, rfl, by rw [List.length_map], ?_, ?_⟩
    · unfold OE
      rw [List.length_map, ← enc_flat]
      rw [Nat.mul_one, List.map_append, List.take_left' (List.length_map _)] at ho2
      exact ho2
    · have hc := grownBy_sorted (n := k) (os := #[]) (w := w) (g := g) (Lib.compact (ss.map lst) ++ List.replicate (ss.length - (Lib.compact (ss.map lst)).length) []).toArray
      rw [grow_empty] at hc
      exact (Chg.of_grownBy hc).mono fun j _ hj => ⟨⟨g, 0, none⟩, rfl, by simpa using hj⟩
end Go.Proofs.YtlcaaacbookopaaGreatDoor

namespace Go.Proofs.YtlcaaacbookopaaGreatDoor
open Go.RowKit

def labT (ls : List Lab) : List ByteArray := ls.flatMap fun l => [l.1, l.2]
theorem labT_take {ls : List Lab} {k : Nat} {l : Lab} (h : ls[k]? = some l) : labT (ls.take (k + 1)) = labT (ls.take k) ++ [l.1, l.2] := by
  unfold labT
  rw [List.take_add_one, h, List.flatMap_append]
  simp
theorem allT_take {ss : List Ser} {k : Nat} {s : Ser} (h : ss[k]? = some s) : allT (ss.take (k + 1)) = allT (ss.take k) ++ labT s.lbs := by
  unfold allT labT
  rw [List.take_add_one, h, List.flatMap_append]
  simp

theorem MapB.ne_own {w : World} {b base n c : Nat} {es : Array MapEntry} {ck : Nat} {t : TypeId} {A : Option Addr} {l : List ByteArray} (h : MapB w b es ck) (ho : OE elNm w base t A n c l) : ∀ ad, A = some ad → b ≠ ad.block := by
  rintro ad rfl
  rcases ho.2 with ⟨e, _⟩ | ⟨g, cap, cur, e, _, hg, _⟩
  · injection e with e1
    cases e1
  · injection e with e1
    injection e1 with e1
    subst e1
    exact h.ne_blk hg
/-- the map on the way -/
structure TxM (w W : World) (mb : Nat) (es : Array MapEntry) (ck : Nat) : Prop where
  mp : MapB W mb es ck
  lo : w.heap.size ≤ mb
  gw : Grew w W

set_option maxRecDepth 100000 in
set_option maxHeartbeats 16000000 in
theorem texts_any (A : Option Addr) (n c : Nat) (ss : List Ser) (w : World) (h : RS w A n ss) (hn : n ≤ 1024) (hl : ∀ s ∈ ss, s.lbs.length ≤ 16) :
    Calls Tryz.prog 49 #[.slice A n c] w fun e w' => ∃ (B : Option Addr) (p d mb : Nat) (es : Array MapEntry) (ck : Nat), e = .returned (.tuple #[.slice B p d, .map (some mb)]) ∧ p = (tabT ss).length ∧ OE elNm w' w.heap.size 9 B p d (tabT ss) ∧ TxM w w' mb es ck ∧ NoM es (tabT ss) := by
  have hmm := @run_makeMap Tryz.prog
  have hln := h.len
  obtain ⟨W0, hW0⟩ : ∃ W, W = w.alloc (.map #[] 0) := ⟨_, rfl⟩
  have g0 : Grew w W0 := by rw [hW0]; exact (Chg.refl _ w).alloc _
  have hM0 : TxM w W0 w.heap.size #[] 0 := ⟨by rw [hW0]; exact MapB.new w #[] 0, Nat.le_refl _, g0⟩
  replace hln := Lib.hid hln
  replace hl := Lib.hid hl
  go_enter Tryz.func49, Tryz.ntmps49
  go_wp2
  rw [← hW0]
  clear hW0
  go_loopw [15, 5] (fun i t wr => ∃ (k p : Nat) (B : Option Addr) (d : Nat) (L : List ByteArray), k ≤ n ∧ i = .int .i64 (k : Int) ∧ t = .slice B p d ∧ p ≤ 32 * k ∧ Hid (L = allT (ss.take k)) ∧ OE elNm wr w.heap.size 9 B p d L ∧ TxM w wr w.heap.size #[] 0) (fun i _ _ => n - (intOf i).toNat)
  case atStart => exact ⟨0, 0, none, 0, [], by omega, rfl, rfl, by omega, rfl, OE.nil _ _ _, hM0⟩
  case round =>
    clear hM0 g0
    obtain ⟨k, p, B, d, L, hk, rfl, rfl, hp, hL, hO, hM⟩ := hrel
    by_cases hlt : k < n
    · obtain ⟨ad, m, s, rfl, hs, hsi, x0, x1⟩ := h.at_ hlt
      replace x0 := hM.gw.cell x0 (fun e => e)
      replace x1 := hM.gw.cell x1 (fun e => e)
      have hlw := hsi.lb
      rcases m with ⟨la, ln, lc, pa, pn, pc⟩
      have hl16 := hl.out s (List.mem_of_getElem? hs)
      have hsl := hsi.lb.1
      rw [hsl] at hl16
      have hmc : ln ≤ lc ∧ lc ≤ 9223372036854775807 := hsi.lc
      simp only at x0 x1 hsl hlw
      have hL2 : Hid (∀ K, K = L ++ labT s.lbs → K = allT (ss.take (k + 1))) := Lib.hid (fun K e => by rw [e, allT_take hs, hL.out])
      obtain ⟨W, hW⟩ : ∃ W, W = wr.alloc (.cells #[.slice la ln lc, .slice pa pn pc] 85) := ⟨_, rfl⟩
      have hgW : Grew wr W := by rw [hW]; exact (Chg.refl _ wr).alloc _
      have hO1 := hO.grew hgW
      have hM1 : TxM w W w.heap.size #[] 0 := ⟨hM.mp.grew hgW, hM.lo, hM.gw.trans hgW⟩
      replace hsl := Lib.hid hsl
      clear hs hsi hO hL hgW
      go_wp2
      rw [← hW]
      clear hW
      go_loopw [22, 5] (fun i t wq => ∃ (j q : Nat) (Bq : Option Addr) (d2 : Nat) (K : List ByteArray), j ≤ ln ∧ i = .int .i64 (j : Int) ∧ t = .slice Bq q d2 ∧ q ≤ 32 * k + 2 * j ∧ Hid (K = L ++ labT (s.lbs.take j)) ∧ OE elNm wq w.heap.size 9 Bq q d2 K ∧ TxM w wq w.heap.size #[] 0 ) (fun i _ _ => ln - (intOf i).toNat)
      case atStart => exact ⟨0, p, B, d, L, by omega, rfl, rfl, by omega, by simp [labT, Hid], hO1, hM1⟩
      case round =>
        clear hM1 hO1
        obtain ⟨j, q, Bq, d2, K, hj, rfl, rfl, hq, hK, hOq, hMq⟩ := hrel
        have hlq := hlw.grew hMq.gw
        by_cases hjl : j < ln
        · obtain ⟨al, x, rfl, hx, y0, y1⟩ := hlq.lb hjl
          have hK2 : Hid (K ++ [x.1, x.2] = L ++ labT (s.lbs.take (j + 1))) := Lib.hid (by rw [labT_take hx, hK.out, List.append_assoc])
          obtain ⟨V, hV⟩ : ∃ V, V = (wr.alloc (.cells #[.string x.1, .string x.2] 79)).alloc (.cells #[.string x.1, .string x.2] 9) := ⟨_, rfl⟩
          have hgV : Grew wr V := by rw [hV]; exact ((Chg.refl _ wr).alloc _).alloc _
          have hr : RE elNm V (some ⟨(wr.alloc (.cells #[.string x.1, .string x.2] 79)).heap.size, 0, none⟩) 2 [x.1, x.2] := by rw [hV]; exact RE.newAt rfl rfl rfl
          have hO2 := hOq.grew hgV
          have hs2 := (hMq.gw.trans hgV).size
          rw [hV] at hr hO2 hs2
          rw [World.size_alloc] at hr
          clear hx
          go_wp2_with (at_builtin; go_loud (refine wpList_appE rfl _ _ 86 9 infoNm rfl Tryz.underlying86 rfl w.heap.size Bq q d2 K rfl hO2 hs2 _ 2 2 [x.1, x.2] rfl hr (by unfold maxLen; omega) (by omega) ?_); intro A3 d3 W3 h3)
          rw [← hV] at h3 hO2
          go_wp2
          go_roundw
          case rel => exact ⟨j + 1, q + 2, A3, d3, K ++ [x.1, x.2], by omega, by go_num, rfl, by omega, hK2, h3.oe, ⟨(hMq.mp.grew hgV).chg h3.chg (fun ⟨ad, e, hk⟩ => (hMq.mp.grew hgV).ne_own hO2 ad e hk), hMq.lo, h3.grew (hMq.gw.trans hgV) (fun ad e => (Own.blk_lt hOq ad e).1)⟩⟩
          case measure => simp [intOf] <;> omega
        · obtain rfl : j = ln := by omega
          go_wp2
          go_roundw
          case rel => exact ⟨k + 1, q, Bq, d2, K, by omega, by go_num, rfl, by omega, Lib.hid (hL2.out _ (by rw [hK.out, List.take_of_length_le (by have := hsl.out; omega)])), hOq, hMq⟩
          case measure => simp [intOf] <;> omega
    · obtain rfl : k = n := by omega
      have hLf : L = allT ss := by rw [hL.out, List.take_of_length_le (by have := hln.out; omega)]
      replace hLf := Lib.hid hLf
      clear hL
      go_wp2_with fail
      refine (sort_names hO (by omega)).mono ?_
      rintro e w1 ⟨rfl, o1, c1⟩
      have M1 : TxM w w1 w.heap.size #[] 0 := ⟨hM.mp.chg c1 (fun ⟨ad, e, hk⟩ => hM.mp.ne_own hO ad e hk), hM.lo, hM.gw.step c1 fun i hi ⟨ad, e, hk⟩ => by have := (Own.blk_lt hO ad e).1; omega⟩
      clear hM hO c1
      go_wp2_with fail
      refine (compact_names o1 (by omega)).mono ?_
      rintro e w2 ⟨zs, hz, rfl, o2, c2⟩
      have hzT : Hid (zs = tabT ss) := Lib.hid (by rw [hz, hLf.out]; rfl)
      have M2 : TxM w w2 w.heap.size #[] 0 := ⟨M1.mp.chg c2 (fun ⟨ad, e, hk⟩ => M1.mp.ne_own o1 ad e hk), M1.lo, M1.gw.step c2 fun i hi ⟨ad, e, hk⟩ => by have := (Own.blk_lt o1 ad e).1; omega⟩
      have hnd : zs.Nodup := by rw [hzT.out]; exact uniT_nodup _
      obtain ⟨q, hq⟩ : ∃ q, zs.length = q := ⟨_, rfl⟩
      rw [hq] at o2 ⊢
      have hqc := o2.cap
      replace hq := Lib.hid hq
      clear M1 o1 c2 hz
      go_wp2
      go_loopw [41] (fun i wr => ∃ (j : Nat) (es : Array MapEntry) (ck : Nat), j ≤ q ∧ i = .int .i64 (j : Int) ∧ NoM es (zs.take j) ∧ TxM w wr w.heap.size es ck ∧ OE elNm wr w.heap.size 9 B q d zs) (fun i _ => q - (intOf i).toNat)
      case atStart => exact ⟨0, #[], 0, by omega, rfl, NoM.nil, M2, o2⟩
      case round =>
        clear M2 o2
        obtain ⟨j, es, ck, hj, rfl, hN, hMq, hOq⟩ := hrel
        by_cases hjl : j < q
        · obtain ⟨ad, x, rfl, hx, hc⟩ := (OE.re (by decide) hOq).at_ hjl (by decide)
          have y0 : wr.cell? (ad.add j) = some (.string x) := by
            have h0 := hc 0 _ rfl
            rw [show j * elNm.sz = j from Nat.mul_one j] at h0
            exact h0
          have hnew : x ∉ zs.take j := fun hm => by
            obtain ⟨i, hi⟩ := List.mem_iff_getElem?.1 hm
            rw [List.getElem?_take] at hi
            split at hi
            · have e1 := plc_at hnd hi
              have e2 := plc_at hnd hx
              omega
            · cases hi
          have hN3 := hN.snoc x ck
          rw [List.length_take, Nat.min_eq_left (by have := hq.out; omega)] at hN3
          have ht : zs.take (j + 1) = zs.take j ++ [x] := by rw [List.take_add_one, hx]; rfl
          rw [← ht] at hN3
          have hput := run_put_new (P := Tryz.prog) (t := 87) Tryz.underlying87 Tryz.underlying9 hMq.mp (.int .i64 (j : Int)) (hN.new hnew)
          have hgs := Chg.setB hMq.gw (.inl hMq.lo) (.map (es.push ⟨.string x, .int .i64 (j : Int), ck⟩) (ck + 1))
          have hos := OE.chg hOq (Chg.setB (Chg.refl (fun k => k = w.heap.size) wr) (.inr rfl) (.map (es.push ⟨.string x, .int .i64 (j : Int), ck⟩) (ck + 1))) fun ad e hk => hMq.mp.ne_own hOq ad e hk.symm
          clear ht hnew hx hc
          go_wp2_with (at_mapUpdate; refine wpList_put rfl _ _ _ _ rfl w.heap.size rfl _ rfl _ rfl _ hput ?_)
          go_roundw
          case rel => exact ⟨j + 1, _, ck + 1, by omega, by go_num, hN3, ⟨hMq.mp.set _ _, hMq.lo, hgs⟩, hos⟩
          case measure => simp [intOf] <;> omega
        · obtain rfl : j = q := by omega
          rw [List.take_of_length_le (by have := hq.out; omega)] at hN
          rw [hzT.out] at hN hOq
          go_wp2
          refine bodyPost_ret (v := .tuple #[.slice B j d, .map (some w.heap.size)]) ?_ rfl ⟨B, j, d, w.heap.size, es, ck, rfl, by rw [← hzT.out, hq.out], hOq, hMq, hN⟩
          simp [results, Tryz.results49, go_sem]
end Go.Proofs.YtlcaaacbookopaaGreatDoor
