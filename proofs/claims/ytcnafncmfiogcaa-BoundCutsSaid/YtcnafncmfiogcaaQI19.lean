/-
  Chapter 25: the search, walked: one round. Conditions: valid problems, areas that are not too great.
-/
import Derived.Test.YtcnafncmfiogcaaQI18
import Derived.Test.YtcnafncmfiogcaaQI13
namespace Go.Proofs.Ytcnafncmfiogcaa.Bm
open Go Go.RowKit
open Cp (Q nameB limS limQ mayQ prQ validQ badP hasP bitB)
theorem bit_all : ∀ w : Fin 64, ∀ u : Fin 6, IntKind.i64.wrap ((BitVec.ofInt 64 ((w.val : Int).fdiv (2 ^ (min (u.val : Int).toNat 64))) &&& BitVec.ofInt 64 1).toNat) = (if bitB w.val u.val = true then 1 else 0) := by decide +kernel
theorem bit_rem : ∀ w : Fin 64, ∀ u : Fin 6, ((w.val : Int).fdiv (2 ^ (min (u.val : Int).toNat 64))).tmod 2 = (if bitB w.val u.val = true then 1 else 0) := by decide +kernel
theorem shr_bit {w u : Int} (hw : 0 ≤ w ∧ w ≤ 63) (hu : 0 ≤ u ∧ u < 6) : ∃ z, aBin E.P .shr 3 (.int .i64 w) (.int .i64 u) = some (.int .i64 z) ∧ aBin E.P .and 3 (.int .i64 z) (.int .i64 1) = some (.int .i64 (if bitB w u = true then 1 else 0)) ∧
    aBin E.P .rem 3 (.int .i64 z) (.int .i64 2) = some (.int .i64 (if bitB w u = true then 1 else 0)) := by
  have h1 := bit_all ⟨w.toNat, by omega⟩ ⟨u.toNat, by omega⟩
  have h2 := bit_rem ⟨w.toNat, by omega⟩ ⟨u.toNat, by omega⟩
  have ew : ((w.toNat : Nat) : Int) = w := by omega
  have eu : ((u.toNat : Nat) : Int) = u := by omega
  simp only [ew, eu] at h1 h2
  refine ⟨w.fdiv (2 ^ (min u.toNat 64)), ?_, ?_, ?_⟩
  · show (if u < 0 then none else some (Value.int .i64 (w.fdiv (2 ^ (min u.toNat 64))))) = _
    rw [if_neg (by omega)]
  · show some (Value.int .i64 (IntKind.i64.wrap ((BitVec.ofInt 64 (w.fdiv (2 ^ (min u.toNat 64))) &&& BitVec.ofInt 64 1).toNat))) = _
    rw [h1]
  · show (if (2 : Int) = 0 then none else some (Value.int .i64 ((w.fdiv (2 ^ (min u.toNat 64))).tmod 2))) = _
    rw [if_neg (by decide), h2]
structure ChV (h : Heap) (cv : Value) (c : List Int) : Prop where
  len : ∀ e, lenT .sl (h ++ e) cv = some (.int .i64 c.length)
  last : ∀ e (hc : c ≠ []), ∃ a, indexAddrT (.sl 3 ⟨some false, some 1⟩) cv (.int .i64 ((c.length : Int) - 1)) = some a ∧ loadT ⟨some false, some 1⟩ (h ++ e) a = some (.int .i64 (c.getLast hc))
theorem ChV.tree {h : Heap} {k : Option Bool} {c : List Int} (hk : Enc.Ok k c) : ChV h (intE.o k c) c := by
  refine ⟨fun e => Enc.o_len hk, fun e hc => ?_⟩
  have h0 : 0 < c.length := List.length_pos_iff.2 hc
  have ix := Enc.index_o (O := intE) (t := 3) (k := .i64) hk (i := c.length - 1) (by omega)
  refine ⟨_, (by rw [show ((c.length : Int) - 1) = ((c.length - 1 : Nat) : Int) by omega]; exact ix), ?_⟩
  rw [Enc.load_e, List.getLast_eq_getElem]; rfl
theorem ChV.part {h : Heap} {b : Nat} {R c : List Int} (hb : h[b]? = some (intE.row 3 R)) (hc : R.take c.length = c) (hl : c.length ≤ R.length) : ChV h (Enc.part b c.length R) c := by
  refine ⟨fun e => Enc.part_len, fun e hne => ?_⟩
  have h0 : 0 < c.length := List.length_pos_iff.2 hne
  have hb' : (h ++ e)[b]? = some (intE.row 3 R) := by rw [List.getElem?_append_left (List.getElem?_eq_some_iff.1 hb).1]; exact hb
  refine ⟨_, (by rw [show ((c.length : Int) - 1) = ((c.length - 1 : Nat) : Int) by omega]; exact Enc.part_index (by omega)), ?_⟩
  rw [Enc.load_at hb' (by omega), List.getLast_eq_getElem]
  have : R[c.length - 1]? = c[c.length - 1]? := by rw [← List.getElem?_take_of_lt (show c.length - 1 < c.length by omega), hc]
  rw [List.getElem?_eq_getElem (by omega), List.getElem?_eq_getElem (by omega)] at this
  rw [Option.some.inj this]; rfl
theorem st_fits {av : Value} {p : Pb} {L : List Int} {v : Int} (hL : L.length = 6) : fitsTT ⟨some true, some 12⟩ (.agg ⟨stC av p L v⟩) = true := fits_ag (by show (stC av p L v).length = 12; exact st_len hL)
theorem st_f5 {av : Value} {p : Pb} {L : List Int} {v : Int} (hL : L.length = 6) : fieldAddrT ⟨some true, some 12⟩ (some (5, ⟨some true, some 6⟩)) (cptr (.agg ⟨stC av p L v⟩)) = some (cptr (.agg ⟨intE.vals L⟩)) := by
  rw [fieldAddr_cptr, if_pos (st_fits hL)]
  show (fieldT (some (5, ⟨some true, some 6⟩)) (.agg ⟨stC av p L v⟩)).map cptr = _
  rw [field_agg, Option.bind_some, part_agg]
  congr 2
  have e : (Array.extract ⟨stC av p L v⟩ 5 (5 + 6)) = ⟨((stC av p L v).drop 5).take 6⟩ := by
    rw [← Array.toList_inj]; simp
  rw [Option.map_some, e]
  congr 4
  unfold stC
  rw [List.drop_succ_cons, List.drop_append, List.drop_of_length_le (by rw [pb_len]; omega), pb_len, List.nil_append]
  show (intE.vals L ++ [Value.int .i64 v]).take 6 = _
  rw [List.take_append_of_le_length (by rw [Enc.vals_len]; omega), List.take_of_length_le (by rw [Enc.vals_len]; omega)]
theorem st_f11 {av : Value} {p : Pb} {L : List Int} {v : Int} (hL : L.length = 6) : fieldAddrT ⟨some true, some 12⟩ (some (11, ⟨some false, some 1⟩)) (cptr (.agg ⟨stC av p L v⟩)) = some (cptr (.int .i64 v)) := by
  rw [fieldAddr_cptr, if_pos (st_fits hL)]
  show ((⟨stC av p L v⟩ : Array Value)[11]?).map cptr = _
  have : (stC av p L v)[11]? = some (.int .i64 v) := by
    unfold stC
    rw [List.getElem?_cons_succ, List.getElem?_append_right (by rw [pb_len]; omega), pb_len, List.getElem?_append_right (by rw [Enc.vals_len]; omega), Enc.vals_len, hL]; rfl
  rw [List.getElem?_toArray, this]; rfl
theorem st_f1 {av : Value} {p : Pb} {L : List Int} {v : Int} (hL : L.length = 6) : fieldAddrT ⟨some true, some 12⟩ (some (1, ⟨some true, some 4⟩)) (cptr (.agg ⟨stC av p L v⟩)) = some (cptr (.agg ⟨p.cells⟩)) := by
  rw [fieldAddr_cptr, if_pos (st_fits hL)]
  show (fieldT (some (1, ⟨some true, some 4⟩)) (.agg ⟨stC av p L v⟩)).map cptr = _
  rw [field_agg, Option.bind_some, part_agg]
  have e : (Array.extract ⟨stC av p L v⟩ 1 (1 + 4)) = ⟨((stC av p L v).drop 1).take 4⟩ := by
    rw [← Array.toList_inj]; simp
  rw [Option.map_some, e]
  rfl
theorem st_i5 {L : List Int} {u : Nat} (hL : L.length = 6) (hu : u < 6) : indexAddrT (.arr 6 ⟨some false, some 1⟩) (cptr (.agg ⟨intE.vals L⟩)) (.int .i64 (u : Int)) = some (cptr (.int .i64 (L[u]'(by omega)))) := by
  rw [index_arrC, if_pos ⟨by omega, by omega⟩]
  show ((⟨intE.vals L⟩ : Array Value)[(u : Int).toNat * 1]?).map cptr = _
  rw [Int.toNat_natCast, Nat.mul_one, List.getElem?_toArray, Enc.vals_get (by omega)]; rfl
theorem pb_f2 (p : Pb) : fieldAddrT ⟨some true, some 4⟩ (some (2, ⟨some false, some 1⟩)) (cptr (.agg ⟨p.cells⟩)) = some (cptr (.int .i64 p.most)) := rfl
theorem app_get0 {h : Heap} {a : AObj} {e : Heap} : (h ++ a :: e)[h.length]? = some a := by rw [List.getElem?_append_right (Nat.le_refl _), Nat.sub_self]; rfl
theorem app_set0 {h : Heap} {a b : AObj} {e : Heap} : (h ++ a :: e).set h.length b = h ++ b :: e := by rw [List.set_append_right _ _ (Nat.le_refl _), Nat.sub_self]; rfl
theorem app_get1 {h : Heap} {a b : AObj} {e : Heap} : (h ++ a :: b :: e)[h.length + 1]? = some b := by rw [List.getElem?_append_right (by omega), show h.length + 1 - h.length = 1 by omega]; rfl
theorem app_set1 {h : Heap} {a b c : AObj} {e : Heap} : (h ++ a :: b :: e).set (h.length + 1) c = h ++ a :: c :: e := by rw [List.set_append_right _ _ (by omega), show h.length + 1 - h.length = 1 by omega]; rfl
end Go.Proofs.Ytcnafncmfiogcaa.Bm
namespace Go.Proofs.Ytcnafncmfiogcaa.Bm
open Go Go.RowKit
open Cp (Q nameB limS limQ mayQ prQ validQ badP hasP bitB)
structure AOk (A : List Int) : Prop where
  len : A.length ≤ 13
  a : ∀ a ∈ A, 0 ≤ a ∧ a ≤ 1099511627776
structure LOk (L : List Int) : Prop where
  len : L.length = 6
  b : ∀ x ∈ L, -4611686018427387904 ≤ x ∧ x ≤ 9223372036854775807
theorem may_eq (p : Pb) (c : List Int) (u : Int) (h0 : 0 ≤ u) (h6 : u < 6) : mayQ p.q c.getLast? u = (bitB p.uses u && (match c.getLast? with | none => true | some w => !hasP p.never (w, u))) := by
  unfold mayQ
  rw [decide_eq_true h0, decide_eq_true h6]; rfl
set_option maxHeartbeats 1000000 in
theorem add_no (p : Pb) (hp : PbOk p) (hv : validQ p.q = true) (ka : Option Bool) (A W : List Int) (hL : LOk W) (v : Int) (h : Heap) (cv : Value) (c : List Int) (hc : ChV h cv c) (u : Int) (hn : mayQ p.q c.getLast? u = false) (hcl : c.length ≤ 100) :
    ∃ e, L E 44 [stV (intE.o ka A) p W v, cv, .int .i64 u] h 0 = some (.tuple ⟨[stV (intE.o ka A) p W v, .bool false]⟩, h ++ e) := by
  obtain ⟨hu0, hu63, hm0, hl30, hn36, _⟩ := Cp.validQ_iff.1 hv
  have hlen := hL.len
  have lS : ∀ j w z, (stC (intE.o ka A) p W v)[j]? = some w → loadT ⟨some false, some 1⟩ (h ++ [AObj.cells 70 (stC (intE.o ka A) p W v) 0, z]) (.pointer (some ⟨h.length, j, none⟩)) = some w := fun j w z hj => obj_load (b := h.length) (j := j) app_get0 hj
  have l1 := fun z => lS 1 _ z rfl
  have l4 := fun z => lS 4 _ z rfl
  have lA : ∀ z, loadT ⟨some true, some 12⟩ (h ++ [AObj.cells 70 (stC (intE.o ka A) p W v) 0, z]) (.pointer (some ⟨h.length, 0, none⟩)) = some (.agg ⟨stC (intE.o ka A) p W v⟩) := fun z => obj_all (b := h.length) app_get0 (st_len hlen)
  have sA : storeT (some 12) (h ++ [AObj.cells 70 (stC (intE.o ka A) p W v) 0, AObj.cells 70 zSt 0]) 0 (.agg ⟨stC (intE.o ka A) p W v⟩) (.pointer (some ⟨h.length + 1, 0, none⟩)) = some (h ++ [AObj.cells 70 (stC (intE.o ka A) p W v) 0, AObj.cells 70 (stC (intE.o ka A) p W v) 0]) :=
    (obj_put (b := h.length + 1) (n := 12) (lo := 0) (t := 70) (c := zSt) app_get1 rfl (st_len hlen) (by decide) (Nat.zero_le _)).trans (congrArg some app_set1)
  have lR : loadT ⟨some true, some 12⟩ (h ++ [AObj.cells 70 (stC (intE.o ka A) p W v) 0, AObj.cells 70 (stC (intE.o ka A) p W v) 0]) (.pointer (some ⟨h.length + 1, 0, none⟩)) = some (.agg ⟨stC (intE.o ka A) p W v⟩) := obj_all (b := h.length + 1) app_get1 (st_len hlen)
  unfold zSt at sA
  have cl := fun e => hc.len e
  refine ⟨[AObj.cells 70 (stC (intE.o ka A) p W v) 0, AObj.cells 70 (stC (intE.o ka A) p W v) 0], ?_⟩
  rw [L_fn F44 rfl]
  unfold stV
  by_cases q1 : u < 0
  · simp -implicitDefEqProofs [r44, p44, cl, q1, lA, sA, lR]
  by_cases q2 : 6 ≤ u
  · simp -implicitDefEqProofs [r44, p44, cl, q1, q2, lA, sA, lR]
  rw [may_eq p c u (by omega) (by omega)] at hn
  obtain ⟨z, b1, b2, _⟩ := shr_bit (w := p.uses) (u := u) ⟨hu0, hu63⟩ ⟨by omega, by omega⟩
  by_cases q3 : bitB p.uses u = true
  · rw [q3, Bool.true_and] at hn
    rw [if_pos q3] at b2
    by_cases hne : c = []
    · subst hne; exact absurd hn (by simp)
    · have hl0 : 0 < c.length := List.length_pos_iff.2 hne
      have hl0' : (0 : Int) < c.length := by omega
      have hw : IntKind.i64.wrap ((c.length : Int) - 1) = (c.length : Int) - 1 := wrap64 (by omega) (by omega)
      rw [List.getLast?_eq_some_getLast hne] at hn
      have hn : (!hasP p.never (c.getLast hne, u)) = false := hn
      have hh : hasP p.never (c.getLast hne, u) = true := by simpa using hn
      have cp := contains_pairs p.kn p.never (c.getLast hne, u) hp.kn (by have := hp.nn; omega)
      rw [hh] at cp
      have so : ∀ h, reify E.P 8 h (pairR.o p.kn p.never) = some (pairR.o p.kn p.never) := fun h => Rec.o_reify
      have ra : ∀ h a b, reify E.P 8 h (.agg ⟨[.int .i64 a, .int .i64 b]⟩) = some (.agg ⟨[.int .i64 a, .int .i64 b]⟩) := fun h a b => rfl
      have ba : ∀ a b : Int, buildT (.arr ⟨[Value.int .i64 0, Value.int .i64 0]⟩ 1) #[(0, .int .i64 a), (1, .int .i64 b)] = some (.agg ⟨[.int .i64 a, .int .i64 b]⟩) := fun a b => rfl
      obtain ⟨a, i1, i2⟩ := hc.last [AObj.cells 70 (stC (intE.o ka A) p W v) 0, AObj.cells 70 zSt 0] hne
      unfold zSt at i2
      simp only at cp
      simp -implicitDefEqProofs [r44, p44, cl, q1, q2, l1, l4, b1, b2, hl0, hw, i1, i2, ba, ret0 m64, so, ra, cp, lA, sA, lR]
  · rw [if_neg q3] at b2
    simp -implicitDefEqProofs [r44, p44, cl, q1, q2, l1, b1, b2, lA, sA, lR]
theorem st_setv {av : Value} {p : Pb} {W : List Int} {v z : Int} (hW : W.length = 6) : (stC av p W v).set 11 (.int .i64 z) = stC av p W z := by
  unfold stC
  rw [List.set_cons_succ, List.set_append_right _ _ (by rw [pb_len]; omega), pb_len, List.set_append_right _ _ (by rw [Enc.vals_len, hW]; omega), Enc.vals_len, hW]; rfl
theorem sSt : szOf E.P 70 = some 12 := by kernel_rfl
theorem aSt : aggT E.P 70 = some true := by kernel_rfl
set_option maxHeartbeats 2000000 in
theorem add_yes (p : Pb) (hp : PbOk p) (hv : validQ p.q = true) (ka : Option Bool) (A W : List Int) (hk : Enc.Ok ka A) (hA : AOk A) (hL : LOk W) (v : Int) (hvb : 0 ≤ v ∧ v ≤ 1152921504606846976) (h : Heap) (cv : Value) (c : List Int) (hc : ChV h cv c) (u : Nat) (hn : mayQ p.q c.getLast? (u : Int) = true) (hcl : c.length < A.length)
    (hu6 : u < W.length) :
    ∃ e, L E 44 [stV (intE.o ka A) p W v, cv, .int .i64 (u : Int)] h 0 = some (.tuple ⟨[stV (intE.o ka A) p (W.set u (W[u] - A[c.length])) (v + A[c.length]), .bool (decide (0 ≤ W[u] - A[c.length]) && decide (v + A[c.length] ≤ p.most))]⟩, h ++ e) := by
  obtain ⟨hu0, hu63, hm0, hl30, hn36, _⟩ := Cp.validQ_iff.1 hv
  have hlen := hL.len
  have ha := hA.a A[c.length] (List.getElem_mem hcl)
  have hx := hL.b W[u] (List.getElem_mem hu6)
  have h13 := hA.len
  have hu6' : u < 6 := by omega
  have ix : indexAddrT (.sl 3 ⟨some false, some 1⟩) (intE.o ka A) (.int .i64 (c.length : Int)) = some (cptr (.int .i64 A[c.length])) := Enc.index_o (O := intE) hk hcl
  generalize hW1 : W.set u (W[u] - A[c.length]) = W1 at *
  have hlen1 : W1.length = 6 := by rw [← hW1, List.length_set, hlen]
  have hg1 : W1[u]'(by omega) = W[u] - A[c.length] := by subst hW1; rw [List.getElem_set_self]
  have st5 : ∀ z : AObj, storeT (some 1) (h ++ [AObj.cells 70 (stC (intE.o ka A) p W (v + A[c.length])) 0, z]) 0 (.int .i64 (W[u] - A[c.length])) (cAt h.length (5 + u)) = some (h ++ [AObj.cells 70 (stC (intE.o ka A) p W1 (v + A[c.length])) 0, z]) := fun z => by
    rw [obj_store (b := h.length) (lo := 0) app_get0 (by rw [st_len hlen]; omega) (Nat.zero_le _) rfl, app_set0, st_set (by omega), hW1]
  have ld5 : ∀ (z : AObj) (x : Int), loadT ⟨some false, some 1⟩ (h ++ [AObj.cells 70 (stC (intE.o ka A) p W x) 0, z]) (cAt h.length (5 + u)) = some (.int .i64 W[u]) := fun z x => obj_load (b := h.length) app_get0 (st_left hu6)
  generalize A[c.length] = a at *
  generalize W[u] = x at *
  have lS : ∀ y j w z, (stC (intE.o ka A) p W y)[j]? = some w → loadT ⟨some false, some 1⟩ (h ++ [AObj.cells 70 (stC (intE.o ka A) p W y) 0, z]) (.pointer (some ⟨h.length, j, none⟩)) = some w := fun y j w z hj => obj_load (b := h.length) (j := j) app_get0 hj
  have l0 := fun y z => lS y 0 _ z rfl
  have l1 := fun y z => lS y 1 _ z rfl
  have l4 := fun y z => lS y 4 _ z rfl
  have l11 := fun y z => lS y 11 (.int .i64 y) z (by
    unfold stC
    rw [List.getElem?_cons_succ, List.getElem?_append_right (by rw [pb_len]; omega), pb_len, List.getElem?_append_right (by rw [Enc.vals_len]; omega), Enc.vals_len, hlen]; rfl)
  have s11 : ∀ z : AObj, storeT (some 1) (h ++ [AObj.cells 70 (stC (intE.o ka A) p W v) 0, z]) 0 (.int .i64 (v + a)) (.pointer (some ⟨h.length, 11, none⟩)) = some (h ++ [AObj.cells 70 (stC (intE.o ka A) p W (v + a)) 0, z]) := fun z => by
    have := obj_store (b := h.length) (j := 11) (lo := 0) (t := 70) (h := h ++ [AObj.cells 70 (stC (intE.o ka A) p W v) 0, z]) (v := .int .i64 (v + a)) app_get0 (by rw [st_len hlen]; omega) (Nat.zero_le _) rfl
    rw [app_set0, st_setv hlen] at this
    exact this
  have ai := arr_idx (b := h.length) (off := 5) (len := 6) (k := .i64) (g := some false) hu6'
  have fz : ∀ z : AObj, freezeV E.P depth 0 (h ++ [AObj.cells 70 (stC (intE.o ka A) p W1 (v + a)) 0, z]) (.pointer (some ⟨h.length, 0, none⟩)) = some (cptr (.agg ⟨stC (intE.o ka A) p W1 (v + a)⟩), h ++ [AObj.dead, z]) := fun z => by
    have := obj_frz (P := E.P) (lo := 0) (b := h.length) (t := 70) (h := h ++ [AObj.cells 70 (stC (intE.o ka A) p W1 (v + a)) 0, z]) app_get0 (by rw [sSt, st_len hlen1]) aSt (Nat.zero_le _) (st_all Enc.o_set)
    rw [app_set0] at this
    exact this
  have sA : storeT (some 12) (h ++ [AObj.dead, AObj.cells 70 zSt 0]) 0 (.agg ⟨stC (intE.o ka A) p W1 (v + a)⟩) (.pointer (some ⟨h.length + 1, 0, none⟩)) = some (h ++ [AObj.dead, AObj.cells 70 (stC (intE.o ka A) p W1 (v + a)) 0]) :=
    (obj_put (b := h.length + 1) (n := 12) (lo := 0) (t := 70) (c := zSt) app_get1 rfl (st_len hlen1) (by decide) (Nat.zero_le _)).trans (congrArg some app_set1)
  have lR : loadT ⟨some true, some 12⟩ (h ++ [AObj.dead, AObj.cells 70 (stC (intE.o ka A) p W1 (v + a)) 0]) (.pointer (some ⟨h.length + 1, 0, none⟩)) = some (.agg ⟨stC (intE.o ka A) p W1 (v + a)⟩) := obj_all (b := h.length + 1) app_get1 (st_len hlen1)
  have f5 := st_f5 (av := intE.o ka A) (p := p) (v := v + a) hlen1
  have f11 := st_f11 (av := intE.o ka A) (p := p) (v := v + a) hlen1
  have f1 := st_f1 (av := intE.o ka A) (p := p) (v := v + a) hlen1
  have i5 := st_i5 hlen1 hu6'
  have ff := st_fits (av := intE.o ka A) (p := p) (v := v + a) hlen1
  have f2 := pb_f2 p
  rw [hg1] at i5
  unfold zSt at sA
  have cl := fun e => hc.len e
  have w1 : IntKind.i64.wrap (v + a) = v + a := wrap64 (by omega) (by omega)
  have w2 : IntKind.i64.wrap (x - a) = x - a := wrap64 (by omega) (by omega)
  refine ⟨[AObj.dead, AObj.cells 70 (stC (intE.o ka A) p W1 (v + a)) 0], ?_⟩
  have hu0' : ¬ ((u : Int) < 0) := by omega
  have hu6n : ¬ (6 ≤ (u : Int)) := by omega
  rw [may_eq p c (u : Int) (by omega) (by omega), Bool.and_eq_true] at hn
  obtain ⟨z, b1, b2, _⟩ := shr_bit (w := p.uses) (u := (u : Int)) ⟨hu0, hu63⟩ ⟨by omega, by omega⟩
  rw [if_pos hn.1] at b2
  have hn := hn.2
  rw [L_fn F44 rfl]
  unfold stV
  by_cases hne : c = []
  · subst hne
    have ix : indexAddrT (.sl 3 ⟨some false, some 1⟩) (intE.o ka A) (.int .i64 0) = some (cptr (.int .i64 a)) := ix
    by_cases k1 : a ≤ x
    · simp -implicitDefEqProofs [r44, p44, cl, hu0', hu6n, l0, l1, l11, b1, b2, ix, s11, w1, ai, ld5, w2, st5, prep_frz, prep_still, fz, ff, f5, f11, f1, f2, i5, sA, lR, k1, rop_loadC, isCp_cptr]
    · simp -implicitDefEqProofs [r44, p44, cl, hu0', hu6n, l0, l1, l11, b1, b2, ix, s11, w1, ai, ld5, w2, st5, prep_frz, prep_still, fz, ff, f5, i5, sA, lR, k1, rop_loadC, isCp_cptr]
  · have hl0 : 0 < c.length := List.length_pos_iff.2 hne
    have hl0' : (0 : Int) < c.length := by omega
    have hw : IntKind.i64.wrap ((c.length : Int) - 1) = (c.length : Int) - 1 := wrap64 (by omega) (by omega)
    rw [List.getLast?_eq_some_getLast hne] at hn
    have hn : (!hasP p.never (c.getLast hne, (u : Int))) = true := hn
    have hh : hasP p.never (c.getLast hne, (u : Int)) = false := by simpa using hn
    have cp := contains_pairs p.kn p.never (c.getLast hne, (u : Int)) hp.kn (by have := hp.nn; omega)
    rw [hh] at cp
    have so : ∀ h, reify E.P 8 h (pairR.o p.kn p.never) = some (pairR.o p.kn p.never) := fun h => Rec.o_reify
    have ra : ∀ h a b, reify E.P 8 h (.agg ⟨[.int .i64 a, .int .i64 b]⟩) = some (.agg ⟨[.int .i64 a, .int .i64 b]⟩) := fun h a b => rfl
    have ba : ∀ a b : Int, buildT (.arr ⟨[Value.int .i64 0, Value.int .i64 0]⟩ 1) #[(0, .int .i64 a), (1, .int .i64 b)] = some (.agg ⟨[.int .i64 a, .int .i64 b]⟩) := fun a b => rfl
    obtain ⟨aa, i1, i2⟩ := hc.last [AObj.cells 70 (stC (intE.o ka A) p W v) 0, AObj.cells 70 zSt 0] hne
    unfold zSt at i2
    simp only at cp
    by_cases k1 : a ≤ x
    · simp -implicitDefEqProofs [r44, p44, cl, hu0', hu6n, l0, l1, l4, l11, b1, b2, hl0, hw, i1, i2, ba, ret0 m64, so, ra, cp, ix, s11, w1, ai, ld5, w2, st5, prep_frz, prep_still, fz, ff, f5, f11, f1, f2, i5, sA, lR, k1, rop_loadC, isCp_cptr]
    · simp -implicitDefEqProofs [r44, p44, cl, hu0', hu6n, l0, l1, l4, l11, b1, b2, hl0, hw, i1, i2, ba, ret0 m64, so, ra, cp, ix, s11, w1, ai, ld5, w2, st5, prep_frz, prep_still, fz, ff, f5, i5, sA, lR, k1, rop_loadC, isCp_cptr]
end Go.Proofs.Ytcnafncmfiogcaa.Bm
namespace Go.Proofs.Ytcnafncmfiogcaa.Cp
def Small (n : Nat) (t : List Br) : Prop := ∀ b ∈ t, 0 ≤ b.kids ∧ b.kids ≤ (n : Int)
theorem small_bump {n : Nat} {t : List Br} (h : Small n t) (i : Nat) : Small (n + 1) (t.modify i bump) := by
  intro b hb
  obtain ⟨j, hj, rfl⟩ := List.getElem_of_mem hb
  rw [List.getElem_modify]
  have hj' : j < t.length := by rw [modify_len] at hj; exact hj
  have := h t[j] (List.getElem_mem hj')
  by_cases e : i = j
  · rw [if_pos e]
    show 0 ≤ t[j].kids + 1 ∧ t[j].kids + 1 ≤ ((n + 1 : Nat) : Int)
    omega
  · rw [if_neg e]; omega
theorem small_enter {P : Pr} {s : Nd} {a : Acc} (h : Small (a.tree.length + 1) a.tree) : Small (enter P s a).tree.length (enter P s a).tree := by
  rw [enter_len, enter_tree]
  intro b hb
  rcases List.mem_append.1 hb with hb | hb
  · exact h b hb
  · rw [List.mem_singleton.1 hb]
    exact ⟨Int.le_refl _, by show (0 : Int) ≤ _; omega⟩
theorem small_loop {P : Pr} {f : Nd → Acc → Acc} (hf : ∀ s a, Small (a.tree.length + 1) a.tree → Small (f s a).tree.length (f s a).tree) (s : Nd) (i : Nat) : ∀ (l : List Int) (a : Acc), Small a.tree.length a.tree → Small (loopF f P s i l a).tree.length (loopF f P s i l a).tree
  | [], _, h => h
  | u :: l, a, h => by
    unfold loopF
    split
    · cases next P s u with
      | none => exact small_loop hf s i l a h
      | some t =>
        refine small_loop hf s i l _ (hf t _ ?_)
        show Small ((a.tree.modify i bump).length + 1) (a.tree.modify i bump)
        rw [modify_len]
        exact small_bump h i
    · exact h
theorem small_vis (P : Pr) : ∀ (n : Nat) (s : Nd) (a : Acc), Small (a.tree.length + 1) a.tree → Small (vis P n s a).tree.length (vis P n s a).tree
  | 0, s, a, h => small_enter h
  | n + 1, s, a, h => by
    unfold vis
    split
    · exact small_loop (small_vis P n) s _ us _ (small_enter h)
    · exact small_enter h
theorem loopF_full {f : Nd → Acc → Acc} {P : Pr} {s : Nd} {i : Nat} {l : List Int} {a : Acc} (h : ¬ a.tree.length ≤ 4000) : loopF f P s i l a = a := by
  cases l with
  | nil => rfl
  | cons u l => exact if_neg h
theorem loopF_none {f : Nd → Acc → Acc} {P : Pr} {s : Nd} {i : Nat} {u : Int} {l : List Int} {a : Acc} (h : a.tree.length ≤ 4000) (hn : next P s u = none) : loopF f P s i (u :: l) a = loopF f P s i l a := by
  rw [loopF, if_pos h, hn]
theorem loopF_some {f : Nd → Acc → Acc} {P : Pr} {s t : Nd} {i : Nat} {u : Int} {l : List Int} {a : Acc} (h : a.tree.length ≤ 4000) (hn : next P s u = some t) : loopF f P s i (u :: l) a = loopF f P s i l (f t ⟨a.val, a.best, a.tree.modify i bump⟩) := by
  rw [loopF, if_pos h, hn]
theorem us_drop {u : Nat} (h : u < 6) : us.drop u = (u : Int) :: us.drop (u + 1) := by
  have : u = 0 ∨ u = 1 ∨ u = 2 ∨ u = 3 ∨ u = 4 ∨ u = 5 := by omega
  rcases this with rfl | rfl | rfl | rfl | rfl | rfl <;> rfl
theorem next_no {q : Q} {s : Nd} {u : Int} (h : mayQ q s.c.getLast? u = false) : next (prQ q) s u = none := by
  unfold next
  cases s.rem with
  | nil => rfl
  | cons a r => exact if_neg fun k => by have k1 : mayQ q s.c.getLast? u = true := k.1; rw [h] at k1; exact absurd k1 (by decide)
theorem next_may {q : Q} {s : Nd} {u a : Int} {r : List Int} (hr : s.rem = a :: r) (h : mayQ q s.c.getLast? u = true) : next (prQ q) s u = if 0 ≤ s.left u - a ∧ s.v + a ≤ q.most then some (take s u a r) else none := by
  unfold next
  rw [hr]
  show (if mayQ q s.c.getLast? u = true ∧ 0 ≤ s.left u - a ∧ s.v + a ≤ q.most then _ else _) = _
  by_cases k : 0 ≤ s.left u - a ∧ s.v + a ≤ q.most
  · rw [if_pos k, if_pos ⟨h, k⟩]
  · rw [if_neg k, if_neg fun x => k x.2]
end Go.Proofs.Ytcnafncmfiogcaa.Cp
namespace Go.Proofs.Ytcnafncmfiogcaa.Bm
open Go Go.RowKit
theorem LL_ex {k : List Nat × List Nat} {b : Body} {σ₀ : Slots} {h₀ : Heap} {α : Type} (a₀ : α) (up : α → List (Nat × Value)) (H : α → Heap) (Q : Exit × Slots × Heap → Prop) (I : α → Prop) (ms : α → Nat)
    (hI : I a₀) (e0 : sets (up a₀) (forget k.1 σ₀) = forget k.1 σ₀) (e1 : H a₀ = h₀)
    (step : ∀ (nx : Body) a, I a → (∀ a', ms a' < ms a → I a' → ∃ r, nx (sets (up a') (forget k.1 σ₀)) (H a') = some r ∧ Q r) →
      ∃ r, lopK k.1 k.2 nx (H a).length (b (forget k.1 (sets (up a) (forget k.1 σ₀))) (H a)) = some r ∧ Q r) :
    ∃ r, LL k b σ₀ h₀ = some r ∧ Q r := by
  have key : ∀ n a, ms a = n → I a → ∃ r, LL k b (sets (up a) (forget k.1 σ₀)) (H a) = some r ∧ Q r := by
    intro n
    induction n using Nat.strongRecOn with
    | _ n ih =>
      intro a ha hi
      rw [LL_go]
      exact step (LL k b) a hi fun a' hlt hi' => ih (ms a') (by omega) a' rfl hi'
  have h := key _ a₀ rfl hI
  rw [e0, e1] at h
  have e : LL k b (forget k.1 σ₀) h₀ = LL k b σ₀ h₀ := by
    rw [LL_go, LL_go, forget_twice]
  rw [e] at h
  exact h
theorem LL_hx {k : List Nat × List Nat} {b : Body} {σ₀ : Slots} {h₀ : Heap} {α : Type} (a₀ : α) (up : α → List (Nat × Value)) (H : α → Heap) (R : Exit × List (Nat × Value)) (I : α → Prop) (ms : α → Nat)
    (hI : I a₀) (e0 : sets (up a₀) (forget k.1 σ₀) = forget k.1 σ₀) (e1 : H a₀ = h₀)
    (step : ∀ (nx : Body) a, I a → (∀ a', ms a' < ms a → I a' → ∃ h', nx (sets (up a') (forget k.1 σ₀)) (H a') = fin (forget k.1 σ₀) (R.1, R.2, h')) →
      ∃ h', lopK k.1 k.2 nx (H a).length (b (forget k.1 (sets (up a) (forget k.1 σ₀))) (H a)) = fin (forget k.1 σ₀) (R.1, R.2, h')) :
    ∃ h', LL k b σ₀ h₀ = fin (forget k.1 σ₀) (R.1, R.2, h') := by
  obtain ⟨r, h1, h', h2⟩ := LL_ex (k := k) (b := b) (σ₀ := σ₀) (h₀ := h₀) a₀ up H (fun r => ∃ h', some r = fin (forget k.1 σ₀) (R.1, R.2, h')) I ms hI e0 e1 fun nx a ha ih => by
    obtain ⟨h', he⟩ := step nx a ha fun a' hlt hi' => by
      obtain ⟨r, h1, h', h2⟩ := ih a' hlt hi'
      exact ⟨h', h1.trans h2⟩
    exact ⟨_, he, h', rfl⟩
  exact ⟨h', h1.trans h2⟩
theorem hx_goal {β : Type} {g : CRes → β} {y : β} {X : CRes} {F : Heap → CRes} (h : ∃ h', X = F h') (k : ∀ h', g (F h') = y) : g X = y := by
  obtain ⟨h', rfl⟩ := h
  exact k h'
end Go.Proofs.Ytcnafncmfiogcaa.Bm
namespace Go.Proofs.Ytcnafncmfiogcaa.Bm
open Go Go.RowKit
open Cp (Q Br Acc bump)
def brR : Rec Br where
  enc b := [.int .i64 b.kids, .int .i64 b.bound]
  m := 1
  len _ := rfl
  set _ := rfl
  bel _ _ := rfl
def visF : Value := .func (.func 42) ⟨[]⟩ ⟨[cAt 5 0, cAt 4 0, cAt 3 0, cAt 1 0, cAt 2 0, cAt 0 0, cAt 6 0]⟩
structure Cs (p : Pb) (ka : Option Bool) (A : List Int) (h : Heap) (a : Acc) (c : List Int) (ob : Option Nat) : Prop where
  len : 8 ≤ h.length
  pr : h[0]? = some (.cells 26 p.cells 0)
  ar : h[1]? = some (.cells 29 [intE.o ka A] 0)
  tr : h[2]? = some (.cells 33 [brR.sl 7 a.tree] 0)
  be : ∃ k, Enc.Ok k a.best ∧ h[3]? = some (.cells 29 [intE.o k a.best] 0)
  ch : ∃ cv, h[4]? = some (.cells 29 [cv] 0) ∧ ((ob = none ∧ c = [] ∧ cv = .slice none 0 0) ∨ ∃ b R, ob = some b ∧ 8 ≤ b ∧ cv = Enc.part b c.length R ∧ h[b]? = some (intE.row 3 R) ∧ R.take c.length = c ∧ c.length ≤ R.length ∧ R ≠ [] ∧ R.length ≤ A.length)
  va : h[5]? = some (.cells 3 [.int .i64 a.val] 0)
  vi : h[6]? = some (.cells 67 [visF] 0)
  row : h[7]? = some (brR.row 41 a.tree)
structure Ext (h : Heap) (ob : Option Nat) (h' : Heap) (ob' : Option Nat) : Prop where
  len : h.length ≤ h'.length
  keep : ∀ b o, 8 ≤ b → ob ≠ some b → h[b]? = some o → h'[b]? = some o
  new : ob' = ob ∨ (ob = none ∧ ∃ b, ob' = some b ∧ h.length ≤ b)
theorem gl {h : Heap} {b : Nat} {o : AObj} (hb : h[b]? = some o) : b < h.length := (List.getElem?_eq_some_iff.1 hb).1
theorem ga {h : Heap} {b : Nat} {o : AObj} (e : Heap) (hb : h[b]? = some o) : (h ++ e)[b]? = some o := by rw [List.getElem?_append_left (gl hb), hb]
theorem gs {h : Heap} {b c : Nat} {o q : AObj} (hb : h[b]? = some o) (hne : c ≠ b) : (h.set c q)[b]? = some o := by rw [List.getElem?_set_ne hne]; exact hb
theorem gq {h : Heap} {b : Nat} {q : AObj} (hb : b < h.length) : (h.set b q)[b]? = some q := by rw [List.getElem?_set_self hb]
theorem Ext.refl {h : Heap} {ob : Option Nat} : Ext h ob h ob := ⟨Nat.le_refl _, fun _ _ _ _ h => h, .inl rfl⟩
theorem Ext.trans {h h1 h2 : Heap} {o o1 o2 : Option Nat} (x : Ext h o h1 o1) (y : Ext h1 o1 h2 o2) : Ext h o h2 o2 := by
  refine ⟨Nat.le_trans x.len y.len, fun b ob hb hn hg => y.keep b ob hb ?_ (x.keep b ob hb hn hg), ?_⟩
  · rcases x.new with e | ⟨_, b', e, hl⟩
    · rw [e]; exact hn
    · rw [e]; intro k
      have := gl hg
      have := Option.some.inj k
      omega
  · rcases y.new with e | ⟨e, b', e', hl⟩
    · rw [e]; exact x.new
    · rcases x.new with k | ⟨k, b2, k2, _⟩
      · exact .inr ⟨by rw [← k]; exact e, b', e', Nat.le_trans x.len hl⟩
      · rw [e] at k2; cases k2
theorem Ext.app {h : Heap} {ob : Option Nat} (e : Heap) : Ext h ob (h ++ e) ob := ⟨by simp, fun _ _ _ _ h => ga e h, .inl rfl⟩
theorem Ext.set {h : Heap} {ob : Option Nat} {i : Nat} {q : AObj} (hi : i < 8 ∨ ob = some i) : Ext h ob (h.set i q) ob := by
  refine ⟨by simp, fun b o hb hn hg => gs hg ?_, .inl rfl⟩
  rcases hi with hi | hi
  · omega
  · intro e; rw [hi, e] at hn; exact hn rfl
theorem Ext.trim {h h' : Heap} {o o' : Option Nat} (x : Ext h o h' o') (n : Nat) (vs : List Value) (hn : h.length ≤ n) (_hn' : n ≤ h'.length) : Ext h o (trim n vs h') o' := by
  unfold Bm.trim
  split
  · exact x
  split
  · refine ⟨by rw [List.length_take]; omega, fun b ob hb hne hg => ?_, x.new⟩
    rw [List.getElem?_take_of_lt (by have := gl hg; omega)]
    exact x.keep b ob hb hne hg
  · exact x
section
variable {p : Pb} {ka : Option Bool} {A : List Int} {h : Heap} {a : Acc} {c : List Int} {ob : Option Nat}
theorem Cs.app (s : Cs p ka A h a c ob) (e : Heap) : Cs p ka A (h ++ e) a c ob := by
  obtain ⟨h0, h1, h2, h3, ⟨k, h4, h4'⟩, ⟨cv, h5, h6⟩, h7, h8, h9⟩ := s
  refine ⟨by simp; omega, ga e h1, ga e h2, ga e h3, ⟨k, h4, ga e h4'⟩, ⟨cv, ga e h5, ?_⟩, ga e h7, ga e h8, ga e h9⟩
  rcases h6 with h6 | ⟨b, R, q1, q2, q3, q4, q5⟩
  · exact .inl h6
  · exact .inr ⟨b, R, q1, q2, q3, ga e q4, q5⟩
theorem Cs.trim (s : Cs p ka A h a c ob) (n : Nat) (vs : List Value) (hn : 8 ≤ n) : Cs p ka A (trim n vs h) a c ob := by
  unfold Bm.trim
  split
  · exact s
  split
  · rename_i hl hc
    rw [Bool.and_eq_true] at hc
    have ht : ∀ {b : Nat} {o : AObj}, b < n → h[b]? = some o → (h.take n)[b]? = some o := fun hb ho => by rw [List.getElem?_take_of_lt hb]; exact ho
    obtain ⟨h0, h1, h2, h3, ⟨k, h4, h4'⟩, ⟨cv, h5, h6⟩, h7, h8, h9⟩ := s
    refine ⟨by rw [List.length_take]; omega, ht (by omega) h1, ht (by omega) h2, ht (by omega) h3, ⟨k, h4, ht (by omega) h4'⟩, ⟨cv, ht (by omega) h5, ?_⟩, ht (by omega) h7, ht (by omega) h8, ht (by omega) h9⟩
    rcases h6 with h6 | ⟨b, R, q1, q2, q3, q4, q5⟩
    · exact .inl h6
    · have hm := List.all_eq_true.1 hc.2 _ (List.mem_of_getElem? (ht (by omega) h5))
      have hbn : b < n := by
        rw [q3] at hm
        unfold belowO at hm
        simp only [List.all_cons, List.all_nil, Bool.and_true] at hm
        exact of_decide_eq_true hm
      exact .inr ⟨b, R, q1, q2, q3, ht hbn q4, q5⟩
  · exact s
theorem Cs.setA {b : Acc} (s : Cs p ka A h a c ob) {i : Nat} {q : AObj} (hi : i < 8) (hne : i ≠ 0 ∧ i ≠ 1 ∧ i ≠ 4 ∧ i ≠ 6) (h2 : (h.set i q)[2]? = some (.cells 33 [brR.sl 7 b.tree] 0)) (h3 : ∃ k, Enc.Ok k b.best ∧ (h.set i q)[3]? = some (.cells 29 [intE.o k b.best] 0))
    (h5 : (h.set i q)[5]? = some (.cells 3 [.int .i64 b.val] 0)) (h7 : (h.set i q)[7]? = some (brR.row 41 b.tree)) : Cs p ka A (h.set i q) b c ob := by
  obtain ⟨k0, k1, k2, _, _, ⟨cv, k5, k6⟩, _, k8, _⟩ := s
  refine ⟨by simpa using k0, gs k1 hne.1, gs k2 hne.2.1, h2, h3, ⟨cv, gs k5 hne.2.2.1, ?_⟩, h5, gs k8 hne.2.2.2, h7⟩
  rcases k6 with k6 | ⟨b, R, q1, q2, q3, q4, q5⟩
  · exact .inl k6
  · exact .inr ⟨b, R, q1, q2, q3, gs q4 (by omega), q5⟩
theorem Cs.cho (s : Cs p ka A h a c ob) : ∃ cv, (∀ e, loadT ⟨some false, some 1⟩ (h ++ e) (cAt 4 0) = some cv) ∧ ChV h cv c := by
  obtain ⟨cv, h5, h6⟩ := s.ch
  refine ⟨cv, fun e => obj_load (ga e h5) rfl, ?_⟩
  rcases h6 with ⟨_, rfl, rfl⟩ | ⟨b, R, _, _, rfl, q4, q5, q6, _⟩
  · exact ChV.tree (k := none) Enc.ok_nil
  · exact ChV.part q4 q5 q6
end
end Go.Proofs.Ytcnafncmfiogcaa.Bm
namespace Go.Proofs.Ytcnafncmfiogcaa.Bm
open Go Go.RowKit
open Cp (Q Br Acc bump)
def sndC : RCode → RCode
  | .seq _ b => b
  | c => c
def fstC : RCode → RCode
  | .seq a _ => a
  | c => c
theorem eq_some_nil {n c : Nat} {a : Addr} (hc : c ≠ 0) : aBin E.P .eql 29 (.slice (some a) n c) (.slice none 0 0) = some (.bool false) := by
  have hu : E.P.underlying 29 = some (.slice 3) := by kernel_rfl
  show ((aEq E.P Op.maxDepth 29 (.slice (some a) n c) (.slice none 0 0)).map Value.bool) = _
  unfold Op.maxDepth aEq
  rw [hu]
  show (if c = 0 then none else some false).map Value.bool = _
  rw [if_neg hc]; rfl
theorem eq_nil_nil : aBin E.P .eql 29 (.slice none 0 0) (.slice none 0 0) = some (.bool true) := by
  have hu : E.P.underlying 29 = some (.slice 3) := by kernel_rfl
  show ((aEq E.P Op.maxDepth 29 (.slice none 0 0) (.slice none 0 0)).map Value.bool) = _
  unfold Op.maxDepth aEq
  rw [hu]; rfl
abbrev elInt : El := ⟨3, 1, 8, .int .i64 0, ⟨some false, some 1⟩⟩
abbrev elBr : El := ⟨41, 2, 16, .agg ⟨[.int .i64 0, .int .i64 0]⟩, ⟨some true, some 2⟩⟩
theorem clone_nil (h : Heap) (st : Bool) : retCall E (L E) 0 st 43 [.slice none 0 0] h = some (.slice none 0 0, h) := by
  have e := eq_nil_nil
  rw [ret5 m43, L_fn F43 rfl]
  simp -implicitDefEqProofs [r43, padS, e, trim_le, frz_set8]
theorem clone_part (h : Heap) (st : Bool) (b n : Nat) (R : List Int) (hb : h[b]? = some (intE.row 3 R)) (hn : n ≤ R.length) (hR : R ≠ []) (hl : R.length ≤ 1000000) : ∃ x e, retCall E (L E) 0 st 43 [Enc.part b n R] h = some (lst x (intE.vals (R.take n)), h ++ e) := by
  have h0 : R.length ≠ 0 := fun e => hR (List.eq_nil_of_length_eq_zero e)
  have e := eq_some_nil (n := n) (c := R.length) (a := ⟨b, 0, some R.length⟩) h0
  have cs := Enc.cells_part (O := intE) hb hn
  have hlt : (R.take n).length = n := by rw [List.length_take]; omega
  by_cases hz : n = 0
  · subst hz
    have ap := Enc.app_none (O := intE) (el := elInt) (h := h) (lo := h.length) (st := false) (u := Enc.part b 0 R) rfl (by rw [cs]; rfl)
    have fz := Enc.o_frz (P := E.P) (O := intE) (k := some true) (l := []) (h := h) (lo := h.length)
    refine ⟨true, [], ?_⟩
    rw [ret5 m43, L_fn F43 rfl]
    unfold Enc.part at *
    have fz : freezeV E.P depth h.length h (lst true []) = some (lst true [], h) := fz
    simp -implicitDefEqProofs [r43, padS, e, lit_none, ap, -append_lst, fz, trim_le]
    rfl
  · have hm : R.take n ≠ [] := fun q => hz (by rw [← hlt, q]; rfl)
    have ap := Enc.app_tree (O := intE) (l := []) (m := R.take n) (el := elInt) (h := h) (lo := h.length) (st := false) (u := Enc.part b n R) rfl cs hm (by rw [hlt]; show (0 + n) * 8 ≤ 2 ^ 47; omega)
    rw [List.nil_append] at ap
    have fz := Enc.frz_sl (P := E.P) (O := intE) (l := R.take n) (h := h ++ [intE.row 3 (R.take n)]) (b := h.length) (lo := h.length) (t := 3) app_get0 sI1 gI1 (Nat.le_refl _)
    rw [hlt, if_neg hz, app_set0] at fz
    have tr : ∃ e, trim h.length [lst false (intE.vals (R.take n))] (h ++ [AObj.dead]) = h ++ e := by
      unfold Bm.trim
      split
      · exact ⟨_, rfl⟩
      split
      · exact ⟨[], by rw [List.take_left, List.append_nil]⟩
      · exact ⟨_, rfl⟩
    obtain ⟨e', tr⟩ := tr
    refine ⟨false, e', ?_⟩
    rw [ret5 m43, L_fn F43 rfl]
    have ap : appendT (some elInt) h h.length false (lst true []) (Enc.part b n R) = _ := ap
    unfold Enc.part at *
    simp -implicitDefEqProofs [r43, padS, e, lit_none, ap, -append_lst, fz, tr]
section
variable {p : Pb} {ka : Option Bool} {A : List Int} {h : Heap} {a : Acc} {c : List Int} {ob : Option Nat}
theorem Cs.clone (s : Cs p ka A h a c ob) (hl : A.length ≤ 1000000) (st : Bool) (e0 : Heap) :
    ∃ cv k e, loadT ⟨some false, some 1⟩ (h ++ e0) (cAt 4 0) = some cv ∧ Enc.Ok k c ∧ retCall E (L E) 0 st 43 [cv] (h ++ e0) = some (intE.o k c, (h ++ e0) ++ e) := by
  obtain ⟨cv, h5, h6⟩ := s.ch
  rcases h6 with ⟨_, rfl, rfl⟩ | ⟨b, R, q1, _, rfl, q4, q5, q6, q7, q8⟩
  · exact ⟨_, none, [], obj_load (ga e0 h5) rfl, Enc.ok_nil, by rw [List.append_nil]; exact clone_nil _ _⟩
  · obtain ⟨x, e, hr⟩ := clone_part (h ++ e0) st b c.length R (ga e0 q4) q6 q7 (by omega)
    rw [q5] at hr
    exact ⟨_, some x, e, obj_load (ga e0 h5) rfl, Enc.ok_some, hr⟩
theorem Cs.setVal (s : Cs p ka A h a c ob) (v : Int) : storeT (some 1) h 0 (.int .i64 v) (cAt 5 0) = some (h.set 5 (.cells 3 [.int .i64 v] 0)) ∧ Cs p ka A (h.set 5 (.cells 3 [.int .i64 v] 0)) ⟨v, a.best, a.tree⟩ c ob := by
  refine ⟨obj_store s.va (by simp) (Nat.zero_le _) rfl, s.setA (by decide) (by decide) (gs s.tr (by decide)) ?_ (gq (gl s.va)) (gs s.row (by decide))⟩
  obtain ⟨k, h1, h2⟩ := s.be
  exact ⟨k, h1, gs h2 (by decide)⟩
theorem Cs.setBest (s : Cs p ka A h a c ob) (k : Option Bool) (l : List Int) (hk : Enc.Ok k l) : storeT (some 1) h 0 (intE.o k l) (cAt 3 0) = some (h.set 3 (.cells 29 [intE.o k l] 0)) ∧ Cs p ka A (h.set 3 (.cells 29 [intE.o k l] 0)) ⟨a.val, l, a.tree⟩ c ob := by
  obtain ⟨k0, h1, h2⟩ := s.be
  exact ⟨obj_store h2 (by simp) (Nat.zero_le _) Enc.o_cellsOf, s.setA (by decide) (by decide) (gs s.tr (by decide)) ⟨k, hk, gq (gl h2)⟩ (gs s.va (by decide)) (gs s.row (by decide))⟩
theorem sl_cellsOf (l : List Br) : cellsOf (brR.sl 7 l) = some [brR.sl 7 l] := rfl
theorem Cs.push (s : Cs p ka A h a c ob) (b : Br) (hl : a.tree.length ≤ 1000000) : ∃ h1, appendT (some elBr) h 0 false (brR.sl 7 a.tree) (lst true [brR.val b]) = some (brR.sl 7 (a.tree ++ [b]), h1) ∧ ∃ h2, storeT (some 1) h1 0 (brR.sl 7 (a.tree ++ [b])) (cAt 2 0) = some h2 ∧ Cs p ka A h2 ⟨a.val, a.best, a.tree ++ [b]⟩ c ob ∧ Ext h ob h2 ob := by
  have ap := Rec.app (R := brR) (m := [b]) (el := elBr) (h := h) (lo := 0) (b := 7) (t := 41) (acc := a.tree) (u := lst true [brR.val b]) rfl s.row (Rec.cells_tree rfl [b]) (Nat.zero_le _) (by show (a.tree.length + 1) * 16 ≤ 2 ^ 47; omega)
  have h7 := gl s.row
  have h2' := gs (q := brR.row 41 (a.tree ++ [b])) s.tr (show 7 ≠ 2 by decide)
  refine ⟨_, ap, _, obj_store h2' (by simp) (Nat.zero_le _) (sl_cellsOf _), ?_, (Ext.set (.inl (by decide))).trans (Ext.set (.inl (by decide)))⟩
  obtain ⟨k0, k1, k2, _, ⟨kk, k3, k3'⟩, ⟨cv, k5, k6⟩, k7, k8, _⟩ := s
  refine ⟨by simpa using k0, gs (gs k1 (by decide)) (by decide), gs (gs k2 (by decide)) (by decide), gq (by simp; omega), ⟨kk, k3, gs (gs k3' (by decide)) (by decide)⟩, ⟨cv, gs (gs k5 (by decide)) (by decide), ?_⟩, gs (gs k7 (by decide)) (by decide), gs (gs k8 (by decide)) (by decide), gs (gq h7) (by decide)⟩
  rcases k6 with k6 | ⟨b, R, q1, q2, q3, q4, q5⟩
  · exact .inl k6
  · exact .inr ⟨b, R, q1, q2, q3, gs (gs q4 (by omega)) (by omega), q5⟩
theorem Cs.count (s : Cs p ka A h a c ob) (i : Nat) (hi : i < a.tree.length) : storeT (some 1) h 0 (.int .i64 (a.tree[i].kids + 1)) (brR.at_ 7 a.tree i 0) = some (h.set 7 (brR.row 41 (a.tree.modify i bump))) ∧
    Cs p ka A (h.set 7 (brR.row 41 (a.tree.modify i bump))) ⟨a.val, a.best, a.tree.modify i bump⟩ c ob := by
  have e : a.tree.modify i bump = a.tree.set i (bump a.tree[i]) := by
    apply List.ext_getElem
    · rw [List.length_modify, List.length_set]
    · intro j h1 h2
      rw [List.getElem_modify, List.getElem_set]
      by_cases q : i = j
      · subst q; simp
      · simp [q]
  have st := Rec.store_cell (R := brR) (h := h) (b := 7) (j := 0) (lo := 0) (t := 41) (l := a.tree) (i := i) (v := .int .i64 (a.tree[i].kids + 1)) (a := bump a.tree[i]) rfl s.row (Nat.zero_le _) hi (by decide) rfl
  rw [e]
  refine ⟨st, s.setA (by decide) (by decide) ?_ ?_ (gs s.va (by decide)) (gq (gl s.row))⟩
  · have := gs (q := brR.row 41 (a.tree.set i (bump a.tree[i]))) s.tr (show 7 ≠ 2 by decide)
    rw [this]
    unfold Rec.sl
    rw [List.length_set]
  · obtain ⟨k, h1, h2⟩ := s.be
    exact ⟨k, h1, gs h2 (by decide)⟩
theorem Cs.more (s : Cs p ka A h a c ob) (u : Int) (hA : A.length ≤ 1000) (hc : c.length < A.length) : ∃ cv, loadT ⟨some false, some 1⟩ h (cAt 4 0) = some cv ∧ ∃ cv' h1, appendT (some elInt) h 0 false cv (lst true (intE.vals [u])) = some (cv', h1) ∧ ∃ h2, storeT (some 1) h1 0 cv' (cAt 4 0) = some h2 ∧
    ∃ ob', Cs p ka A h2 a (c ++ [u]) ob' ∧ Ext h ob h2 ob' := by
  obtain ⟨k0, k1, k2, k3, ⟨kk, k4, k4'⟩, ⟨cv, k5, k6⟩, k7, k8, k9⟩ := s
  refine ⟨cv, obj_load k5 rfl, ?_⟩
  have hl := gl k5
  rcases k6 with ⟨rfl, rfl, rfl⟩ | ⟨b, R, rfl, q2, rfl, q4, q5, q6, q7, q8⟩
  · have ap := Enc.app_nil (O := intE) (m := [u]) (el := elInt) (h := h) (lo := 0) (st := false) (u := lst true (intE.vals [u])) rfl Enc.cells_tree (by simp) (by show 1 * 8 ≤ 2 ^ 47; decide)
    refine ⟨_, _, ap, _, obj_store (ga _ k5) (by simp) (Nat.zero_le _) rfl, some h.length, ?_, ?_⟩
    · refine ⟨by simp; omega, gs (ga _ k1) (by decide), gs (ga _ k2) (by decide), gs (ga _ k3) (by decide), ⟨kk, k4, gs (ga _ k4') (by decide)⟩, ⟨_, gq (by simp; omega), .inr ⟨h.length, [u], rfl, k0, rfl, gs (by rw [List.getElem?_append_right (Nat.le_refl _), Nat.sub_self]; rfl) (by omega), rfl, Nat.le_refl _, by simp, by simp only [List.length_cons, List.length_nil] at *; omega⟩⟩, gs (ga _ k7) (by decide), gs (ga _ k8) (by decide), gs (ga _ k9) (by decide)⟩
    · refine ⟨by simp, fun b o hb _ hg => gs (ga _ hg) (by omega), .inr ⟨rfl, _, rfl, Nat.le_refl _⟩⟩
  · by_cases hr : c.length < R.length
    · have ap := Enc.app_room (O := intE) (m := [u]) (el := elInt) (h := h) (lo := 0) (b := b) (i := c.length) (t := 3) (l := R) (u := lst true (intE.vals [u])) rfl q4 Enc.cells_tree (by simp) (Nat.zero_le _) (by show c.length + 1 ≤ R.length; omega)
      have hlen : (R.take c.length ++ [u] ++ R.drop (c.length + [u].length)).length = R.length := by simp; omega
      have h5' := gs (q := intE.row 3 (R.take c.length ++ [u] ++ R.drop (c.length + [u].length))) k5 (show b ≠ 4 by omega)
      refine ⟨_, _, ap, _, obj_store h5' (by simp) (Nat.zero_le _) rfl, some b, ?_, (Ext.set (.inr rfl)).trans (Ext.set (.inl (by decide)))⟩
      refine ⟨by simpa using k0, gs (gs k1 (by omega)) (by decide), gs (gs k2 (by omega)) (by decide), gs (gs k3 (by omega)) (by decide), ⟨kk, k4, gs (gs k4' (by omega)) (by decide)⟩, ⟨_, gq (by simp; omega), .inr ⟨b, _, rfl, q2, by rw [List.length_append], gs (gq (gl q4)) (by omega), ?_, ?_, ?_, by rw [hlen]; exact q8⟩⟩, gs (gs k7 (by omega)) (by decide), gs (gs k8 (by omega)) (by decide), gs (gs k9 (by omega)) (by decide)⟩
      · rw [q5, List.take_append_of_le_length (by simp), List.take_of_length_le (by simp)]
      · rw [hlen, List.length_append]; show c.length + 1 ≤ R.length; omega
      · simp
    · have he : R = c := by rw [← q5, List.take_of_length_le (by omega)]
      subst he
      have ap := Enc.app (O := intE) (m := [u]) (el := elInt) (h := h) (lo := 0) (b := b) (t := 3) (l := R) (u := lst true (intE.vals [u])) rfl q4 Enc.cells_tree (Nat.zero_le _) (by show (R.length + 1) * 8 ≤ 2 ^ 47; omega)
      have h5' := gs (q := intE.row 3 (R ++ [u])) k5 (show b ≠ 4 by omega)
      refine ⟨_, _, ap, _, obj_store h5' (by simp) (Nat.zero_le _) rfl, some b, ?_, (Ext.set (.inr rfl)).trans (Ext.set (.inl (by decide)))⟩
      refine ⟨by simpa using k0, gs (gs k1 (by omega)) (by decide), gs (gs k2 (by omega)) (by decide), gs (gs k3 (by omega)) (by decide), ⟨kk, k4, gs (gs k4' (by omega)) (by decide)⟩, ⟨_, gq (by simp; omega), .inr ⟨b, _, rfl, q2, rfl, gs (gq (gl q4)) (by omega), List.take_of_length_le (Nat.le_refl _), Nat.le_refl _, by simp, by rw [List.length_append]; exact hc⟩⟩, gs (gs k7 (by omega)) (by decide), gs (gs k8 (by omega)) (by decide), gs (gs k9 (by omega)) (by decide)⟩
theorem Cs.less {u : Int} (s : Cs p ka A h a (c ++ [u]) ob) : ∃ cv, loadT ⟨some false, some 1⟩ h (cAt 4 0) = some cv ∧ lenT .sl h cv = some (.int .i64 ((c.length + 1 : Nat) : Int)) ∧ ∃ cv', sliceT (.sl 3 ⟨some false, some 1⟩) h cv none (some (.int .i64 (c.length : Int))) none = some cv' ∧
    ∃ h2, storeT (some 1) h 0 cv' (cAt 4 0) = some h2 ∧ Cs p ka A h2 a c ob ∧ Ext h ob h2 ob := by
  obtain ⟨k0, k1, k2, k3, ⟨kk, k4, k4'⟩, ⟨cv, k5, k6⟩, k7, k8, k9⟩ := s
  have hl := gl k5
  rcases k6 with ⟨_, q, _⟩ | ⟨b, R, rfl, q2, rfl, q4, q5, q6, q7, q8⟩
  · exact absurd q (by simp)
  · have e1 : (c ++ [u]).length = c.length + 1 := by simp
    rw [e1] at q5 q6 k5
    refine ⟨_, obj_load k5 rfl, Enc.part_len, _, Enc.part_take q4 (by omega), _, obj_store k5 (by simp) (Nat.zero_le _) rfl, ?_, Ext.set (.inl (by decide))⟩
    refine ⟨by simpa using k0, gs k1 (by decide), gs k2 (by decide), gs k3 (by decide), ⟨kk, k4, gs k4' (by decide)⟩, ⟨_, gq hl, .inr ⟨b, R, rfl, q2, rfl, gs q4 (by omega), ?_, by omega, q7, q8⟩⟩, gs k7 (by decide), gs k8 (by decide), gs k9 (by decide)⟩
    have := congrArg (List.take c.length) q5
    rw [List.take_take, Nat.min_eq_left (by omega), List.take_left] at this
    exact this
end
end Go.Proofs.Ytcnafncmfiogcaa.Bm
namespace Go.Proofs.Ytcnafncmfiogcaa.Bm
open Go Go.RowKit
open Cp (Q Br Acc Nd bump prQ mayQ validQ reach enter vis loopF next take us Small)
def h42 : RCode := fstC r42.body
def c42 : RCode := fstC (sndC r42.body)
def t42 : RCode := sndC (sndC r42.body)
theorem r42_eq : r42 = ⟨104, .seq h42 (.seq c42 t42), []⟩ := rfl
structure Sr (A W : List Int) (s : Nd) : Prop where
  w : W.length = 6
  left : ∀ (u : Nat) (hu : u < W.length), s.left (u : Int) = W[u]
  wb : ∀ x ∈ W, -1 ≤ x ∧ x ≤ 9223372036854775807
  rem : s.rem = A.drop s.c.length
  le : s.c.length ≤ A.length
  v : 0 ≤ s.v ∧ s.v ≤ (s.c.length : Int) * 1099511627776
theorem Sr.lok {A W : List Int} {s : Nd} (h : Sr A W s) : LOk W := ⟨h.w, fun x hx => by have := h.wb x hx; omega⟩
theorem Sr.vb {A W : List Int} {s : Nd} (h : Sr A W s) (hA : AOk A) : 0 ≤ s.v ∧ s.v ≤ 14293651161088 := by
  have h1 := h.v
  have h2 := h.le
  have h3 := hA.len
  omega
theorem Sr.remE {A W : List Int} {s : Nd} (h : Sr A W s) (hc : s.c.length < A.length) : s.rem = A[s.c.length] :: A.drop (s.c.length + 1) := by
  rw [h.rem]; exact List.drop_eq_getElem_cons hc
theorem Sr.next {A W : List Int} {s : Nd} (h : Sr A W s) (hA : AOk A) (hc : s.c.length < A.length) (u : Nat) (hu : u < W.length) (h0 : 0 ≤ W[u] - A[s.c.length]) : Sr A (W.set u (W[u] - A[s.c.length])) (take s (u : Int) A[s.c.length] (A.drop (s.c.length + 1))) := by
  have ha := hA.a _ (List.getElem_mem hc)
  have hw := h.wb _ (List.getElem_mem hu)
  have e : (s.c ++ [(u : Int)]).length = s.c.length + 1 := by simp
  refine ⟨by rw [List.length_set]; exact h.w, fun w hw => ?_, fun x hx => ?_, ?_, ?_, ?_⟩
  · show (if ((w : Nat) : Int) = (u : Int) then s.left (u : Int) - A[s.c.length] else s.left (w : Int)) = _
    have hw' : w < W.length := by rw [List.length_set] at hw; exact hw
    rw [List.getElem_set]
    by_cases q : u = w
    · subst q; rw [if_pos rfl, if_pos rfl, h.left u hu]
    · rw [if_neg (by omega), if_neg q, h.left w hw']
  · rcases List.mem_or_eq_of_mem_set hx with k | k
    · exact h.wb x k
    · omega
  · show A.drop (s.c.length + 1) = A.drop (s.c ++ [(u : Int)]).length
    rw [e]
  · show (s.c ++ [(u : Int)]).length ≤ A.length
    rw [e]; exact hc
  · show 0 ≤ s.v + A[s.c.length] ∧ s.v + A[s.c.length] ≤ (((s.c ++ [(u : Int)]).length : Nat) : Int) * 1099511627776
    rw [e]
    have := h.v
    omega
set_option maxHeartbeats 1000000 in
theorem enter42 (p : Pb) (x : Bool) (A W : List Int) (s : Nd) (hs : Sr A W s) (hA : AOk A) {h : Heap} {a : Acc} {ob : Option Nat} (hC : Cs p (some x) A h a s.c ob) {bs : Nat} (hS : h[bs]? = some (stO (intE.o (some x) A) p W s.v)) (_h8 : 8 ≤ bs) (_hob : ob ≠ some bs) (v0 : Value) :
    ∃ x17 x18 x19 x20 x21 x22 x23 x24 h2, (∀ l : Slots, evR E (L E) LL 0 c42 (blk v0 (cAt 5 0) (cAt 4 0) (cAt 3 0) (cAt 1 0) (cAt 2 0) (cAt 0 0) (cAt 6 0) (.pointer (some ⟨bs, 0, none⟩)) undef undef undef undef undef undef undef (blk undef undef undef undef undef undef undef undef undef undef undef undef undef undef undef undef l)) h =
      some (.normal, blk v0 (cAt 5 0) (cAt 4 0) (cAt 3 0) (cAt 1 0) (cAt 2 0) (cAt 0 0) (cAt 6 0) (.pointer (some ⟨bs, 0, none⟩)) undef undef undef undef undef undef undef (blk undef x17 x18 x19 x20 x21 x22 x23 x24 undef undef undef undef undef undef undef l), h2)) ∧
      Cs p (some x) A h2 ⟨if a.val < s.v then s.v else a.val, if a.val < s.v then s.c else a.best, a.tree⟩ s.c ob ∧ Ext h ob h2 ob := by
  have hA13 := hA.len
  have l11 : ∀ e, loadT ⟨some false, some 1⟩ (h ++ e) (.pointer (some ⟨bs, 11, none⟩)) = some (.int .i64 s.v) := fun e => obj_load (b := bs) (j := 11) (ga e hS) (by
    unfold stC
    rw [List.getElem?_cons_succ, List.getElem?_append_right (by rw [pb_len]; omega), pb_len, List.getElem?_append_right (by rw [Enc.vals_len, hs.w]; omega), Enc.vals_len, hs.w]; rfl)
  have l11 := l11 []
  rw [List.append_nil] at l11
  have l5 : loadT ⟨some false, some 1⟩ h (cAt 5 0) = some (.int .i64 a.val) := obj_load hC.va rfl
  by_cases hv : a.val < s.v
  · obtain ⟨cv, k, e, i1, i2, i3⟩ := hC.clone (by omega) true []
    rw [List.append_nil] at i1 i3
    have C1 := hC.app e
    obtain ⟨s1, C2⟩ := C1.setVal s.v
    obtain ⟨s2, C3⟩ := C2.setBest k s.c i2
    rw [if_pos hv, if_pos hv]
    refine ⟨.pointer (some ⟨bs, 11, none⟩), .int .i64 s.v, .int .i64 a.val, .bool true, .pointer (some ⟨bs, 11, none⟩), .int .i64 s.v, cv, intE.o k s.c, _, fun l => ?_, C3, (Ext.app e).trans ((Ext.set (.inl (by decide))).trans (Ext.set (.inl (by decide))))⟩
    unfold c42 fstC sndC
    simp -implicitDefEqProofs [r42, l11, l5, hv, i1, i3, s1, s2]
  · rw [if_neg hv, if_neg hv]
    refine ⟨.pointer (some ⟨bs, 11, none⟩), .int .i64 s.v, .int .i64 a.val, .bool false, undef, undef, undef, undef, _, fun l => ?_, hC, Ext.refl⟩
    unfold c42 fstC sndC
    simp -implicitDefEqProofs [r42, l11, l5, hv]
end Go.Proofs.Ytcnafncmfiogcaa.Bm
namespace Go.Proofs.Ytcnafncmfiogcaa.Bm
open Go Go.RowKit
open Cp (Q Br Acc Nd bump prQ mayQ validQ reach enter vis loopF next take us Small)
theorem ret3t {f : FuncId} (hm : E.mode f = 3) {C : Callee} {lo : Nat} {h : Heap} {args : List Value} : retCall E C lo false f args h = (C f args h lo).map fun r => (r.1, trim h.length [r.1] r.2) := by
  unfold retCall; rw [hm]; rfl
theorem trim_app (h e : Heap) (vs : List Value) : ∃ e', trim h.length vs (h ++ e) = h ++ e' := by
  unfold Bm.trim
  split
  · exact ⟨_, rfl⟩
  split
  · exact ⟨[], by rw [List.take_left, List.append_nil]⟩
  · exact ⟨_, rfl⟩
theorem ex_last {X : CRes} {i : Nat} {K : Heap → Prop} (hx : ∃ r, X = some r ∧ r.1 = .exit i ∧ K r.2.2) : ∃ h', retK [] (blkK i X) = some (.tuple #[], h') ∧ K h' := by
  obtain ⟨⟨e, σ, h'⟩, rfl, he, hk⟩ := hx
  simp only at he hk
  subst he
  refine ⟨h', ?_, hk⟩
  rw [blkK_exit, if_pos rfl, retK_normal]; rfl
theorem lit_br (h : Heap) (b : Br) : buildSliceT (some elBr) false h 1 #[(0, .agg ⟨[.int .i64 b.kids, .int .i64 b.bound]⟩)] = some (lst true [brR.val b], h) :=
  (build_lit' (n := 1) (l := [(0, .agg ⟨[.int .i64 b.kids, .int .i64 b.bound]⟩)]) rfl rfl (by decide) (by decide) (by decide)).trans rfl
def VisN (p : Pb) (x : Bool) (A : List Int) (n : Nat) : Prop := ∀ (s : Nd) (W : List Int) (a : Acc) (h : Heap) (ob : Option Nat), s.rem.length = n → Sr A W s → Cs p (some x) A h a s.c ob → a.tree.length ≤ 4000 → Small (a.tree.length + 1) a.tree →
  ∃ h', L E 42 [stV (intE.o (some x) A) p W s.v, cAt 5 0, cAt 4 0, cAt 3 0, cAt 1 0, cAt 2 0, cAt 0 0, cAt 6 0] h 0 = some (.tuple #[], h') ∧ ∃ ob', Cs p (some x) A h' (vis (prQ p.q) n s a) s.c ob' ∧ Ext h ob h' ob'
theorem add_step (p : Pb) (hp : PbOk p) (hv : validQ p.q = true) (x : Bool) (A W : List Int) (hA : AOk A) (s : Nd) (hs : Sr A W s) (hc : s.c.length < A.length) {h : Heap} {a : Acc} {ob : Option Nat} (hC : Cs p (some x) A h a s.c ob) (u : Nat) (hu : u < W.length) :
    ∃ cv W' v' ok g, loadT ⟨some false, some 1⟩ h (cAt 4 0) = some cv ∧ lenT .sl h cv = some (.int .i64 s.c.length) ∧ retCall E (L E) 0 false 44 [stV (intE.o (some x) A) p W s.v, cv, .int .i64 (u : Int)] h = some (.tuple ⟨[stV (intE.o (some x) A) p W' v', .bool ok]⟩, g) ∧ W'.length = 6 ∧
      Cs p (some x) A g a s.c ob ∧ Ext h ob g ob ∧ h.length ≤ g.length ∧ (ok = false → next (prQ p.q) s (u : Int) = none) ∧ (ok = true → ∃ t, next (prQ p.q) s (u : Int) = some t ∧ Sr A W' t ∧ t.v = v' ∧ t.c = s.c ++ [(u : Int)] ∧ t.rem.length + 1 = s.rem.length) := by
  obtain ⟨cv, l4, ch⟩ := hC.cho
  have l4 := l4 []
  have lc := ch.len []
  rw [List.append_nil] at l4 lc
  have h13 := hA.len
  cases hm : mayQ p.q s.c.getLast? (u : Int)
  · obtain ⟨e, he⟩ := add_no p hp hv (some x) A W hs.lok s.v h cv s.c ch (u : Int) hm (by omega)
    obtain ⟨e', ht⟩ := trim_app h e [.tuple ⟨[stV (intE.o (some x) A) p W s.v, .bool false]⟩]
    refine ⟨cv, W, s.v, false, h ++ e', l4, lc, ?_, hs.w, hC.app e', Ext.app e', by simp, fun _ => Cp.next_no hm, fun k => absurd k (by decide)⟩
    rw [ret3t m44, he, Option.map_some, ht]
  · obtain ⟨e, he⟩ := add_yes p hp hv (some x) A W Enc.ok_some hA hs.lok s.v (by have := hs.vb hA; omega) h cv s.c ch u hm hc hu
    obtain ⟨e', ht⟩ := trim_app h e [.tuple ⟨[stV (intE.o (some x) A) p (W.set u (W[u] - A[s.c.length])) (s.v + A[s.c.length]), .bool (decide (0 ≤ W[u] - A[s.c.length]) && decide (s.v + A[s.c.length] ≤ p.most))]⟩]
    have hn := Cp.next_may (hs.remE hc) hm
    rw [hs.left u hu] at hn
    refine ⟨cv, _, _, _, h ++ e', l4, lc, (by rw [ret3t m44, he, Option.map_some, ht]), by rw [List.length_set]; exact hs.w, hC.app e', Ext.app e', by simp, fun k => ?_, fun k => ?_⟩
    · rw [hn, if_neg]
      rintro ⟨k1, k2⟩
      rw [decide_eq_true k1, decide_eq_true (show s.v + A[s.c.length] ≤ p.most from k2)] at k
      exact absurd k (by decide)
    · rw [Bool.and_eq_true, decide_eq_true_eq, decide_eq_true_eq] at k
      refine ⟨_, (by rw [hn, if_pos ⟨k.1, k.2⟩]), hs.next hA hc u hu k.1, rfl, rfl, ?_⟩
      rw [hs.remE hc]; rfl
end Go.Proofs.Ytcnafncmfiogcaa.Bm
