/-
  The reference of regions: edges, lists of numbers compared, columns. Conditions: lists that are not too long.
-/
import Derived.Test.YtimjfondgdhfcaaQD22
import Derived.Test.YtimjfondgdhfcaaQD21
namespace Go.Proofs.Ytimjfondgdhfcaa.Bm
open Go Go.RowKit
open Rg (Rect Pt Zn rightP polyL comA comP ovR ovF)
namespace Rec
variable {α : Type} {R : Rec α}
theorem mload_cell {h : Heap} {b j : Nat} {t : TypeId} {l : List α} {i : Nat} {sz : Option Nat} (hob : h[b]? = some (R.mrow t l)) (h1 : i < l.length) (hj : j < R.m + 1) : loadT ⟨some false, sz⟩ h (R.mat b i j) = (R.enc l[i])[j]? := by
  unfold mat
  rw [load_one]
  have e : rowOf h ⟨b, i * (R.m + 1) + j, none⟩ = some (R.flat l) := by
    unfold rowOf
    show (match h[b]? with | some (.cells _ c g) => _ | _ => none) = _
    rw [hob]
    rfl
  rw [e, Option.bind_some]
  exact flat_get h1 hj
theorem mstore_cell {h : Heap} {b j lo : Nat} {t : TypeId} {l : List α} {i : Nat} {v : Value} {a : α} (hv : cellsOf v = some [v]) (hob : h[b]? = some (R.mrow t l)) (hlo : lo ≤ b) (h1 : i < l.length) (hj : j < R.m + 1) (he : (R.enc l[i]).set j v = R.enc a) :
    storeT (some 1) h lo v (R.mat b i j) = some (h.set b (R.mrow t (l.set i a))) := by
  unfold mat
  rw [store_ptr, hv, Option.bind_some]
  have hob' : h[b]? = some (.cells t (R.flat l) 0) := hob
  have hin := in_row (R := R) h1
  rw [if_pos (by rfl)]
  unfold wrN
  show (match h[b]? with | some (.cells t c g) => _ | _ => none) = _
  rw [hob']
  show (if _ then _ else none) = _
  rw [if_pos ⟨hlo, rfl, by simp, by rw [flat_len]; simp; omega⟩]
  show some (h.set b (.cells t (splice (R.flat l) (i * (R.m + 1) + j) [v]) 0)) = _
  rw [splice_one (by rw [flat_len]; omega), flat_put h1 hj he]; rfl
end Rec
abbrev RgO := Option Bool × List Rect
def regR : Rec RgO where
  enc c := [rectR.o c.1 c.2]
  m := 0
  len _ := rfl
  set c := by
    show ([rectR.o c.1 c.2].all (settled 8)) = true
    rw [List.all_cons, Rec.o_set]; rfl
  bel c n := by
    show ([rectR.o c.1 c.2].all (below 8 n)) = true
    rw [List.all_cons, Rec.o_bel]; rfl
def regZ (z : Zn) : RgO := if z.ov then (none, []) else (kR (polyX z.cs), cellsZ z)
def allR (zs : List Zn) : List RgO := zs.map regZ
def allL (zs : List Zn) : List (List Rect) := zs.map fun z => if z.ov then [] else cellsZ z
def partA (zs : List Zn) (i : Nat) : List RgO := (allR zs).take i ++ List.replicate (zs.length - i) (none, [])
theorem allR_len (zs : List Zn) : (allR zs).length = zs.length := List.length_map _
theorem partA_zero (zs : List Zn) : partA zs 0 = List.replicate zs.length (none, []) := by unfold partA; simp
theorem partA_all (zs : List Zn) : partA zs zs.length = allR zs := by
  unfold partA
  rw [Nat.sub_self, ← allR_len zs, List.take_length]; simp
theorem partA_len {zs : List Zn} {i : Nat} (h : i ≤ zs.length) : (partA zs i).length = zs.length := by
  unfold partA
  rw [List.length_append, List.length_take, allR_len, List.length_replicate]; omega
theorem partA_get {zs : List Zn} {i : Nat} (h : i < zs.length) : (partA zs i)[i]'(by rw [partA_len (by omega)]; exact h) = (none, []) := by
  unfold partA
  rw [List.getElem_append_right (by rw [List.length_take]; omega)]
  simp
theorem partA_set {zs : List Zn} {i : Nat} (h : i < zs.length) : (partA zs i).set i (regZ zs[i]) = partA zs (i + 1) := by
  unfold partA
  have hl : ((allR zs).take i).length = i := by rw [List.length_take, allR_len]; omega
  rw [List.set_append_right _ _ (by omega), hl, Nat.sub_self, List.take_succ_eq_append_getElem (by rw [allR_len]; exact h), List.append_assoc]
  congr 1
  obtain ⟨d, hd⟩ : ∃ d, zs.length - i = d + 1 := ⟨zs.length - i - 1, by omega⟩
  rw [hd, show zs.length - (i + 1) = d by omega, List.replicate_succ, List.set_cons_zero]
  unfold allR
  rw [List.getElem_map]; rfl
theorem partA_ov {zs : List Zn} {i : Nat} (h : i < zs.length) (ho : zs[i].ov = true) : partA zs i = partA zs (i + 1) := by
  rw [← partA_set h]
  unfold regZ
  rw [ho, if_pos rfl]
  have e := partA_get h
  have hl : i < (partA zs i).length := by rw [partA_len (by omega)]; exact h
  have q : (partA zs i).set i (partA zs i)[i] = partA zs i := List.set_getElem_self hl
  rw [e] at q
  exact q.symm
theorem allR_get {zs : List Zn} {i : Nat} (h : i < zs.length) : (allR zs)[i]'(by rw [allR_len]; exact h) = regZ zs[i] := by unfold allR; rw [List.getElem_map]
theorem regZ_ok (z : Zn) : Rec.Ok (regZ z).1 (regZ z).2 ∧ regB (regZ z).2 = true := by
  unfold regZ
  cases z.ov
  · exact ⟨kR_ok _, cellsZ_reg z⟩
  · exact ⟨fun _ => rfl, regB_iff.2 ⟨rfl, by show 0 ≤ 200; omega, Rg.Form.nil⟩⟩
theorem regZ_snd (z : Zn) : (regZ z).2 = if z.ov then [] else cellsZ z := by unfold regZ; cases z.ov <;> rfl
theorem allL_get {zs : List Zn} {i : Nat} (h : i < zs.length) : (allL zs)[i]'(by unfold allL; rw [List.length_map]; exact h) = (regZ zs[i]).2 := by unfold allL; rw [List.getElem_map, regZ_snd]
theorem allL_len (zs : List Zn) : (allL zs).length = zs.length := List.length_map _
theorem make_regs (h : Heap) (n : Nat) (hn : n ≤ 1000000) : makeSliceT (some ⟨31, 1, 24, .slice none 0 0, ⟨some false, some 1⟩⟩) h (.int .i64 (n : Int)) (.int .i64 (n : Int)) = some (regR.msl h.length (List.replicate n (none, [])), h ++ [regR.mrow 31 (List.replicate n (none, []))]) :=
  Rec.make_rec (R := regR) (a := (none, [])) rfl rfl hn (by decide)
def ovT : Option (Nat × Nat × Pt) → List Value
  | none => [.slice none 0 0, .agg ⟨[.int .i64 0, .int .i64 0]⟩, .bool false]
  | some (i, k, p) => [lst true [.int .i64 (i : Int), .int .i64 (k : Int)], .agg ⟨[.int .i64 p.1, .int .i64 p.2]⟩, .bool true]
theorem b2_none : buildT (Bl.fs ⟨[.int .i64 0, .int .i64 0]⟩ ⟨[(0, 1), (1, 1)]⟩) #[] = some (.agg ⟨[.int .i64 0, .int .i64 0]⟩) := rfl
set_option maxHeartbeats 2000000 in
theorem overlap_spec (p : Pl) (hp : PlOk p) : pureCall E.P (L E) 10 [p.val] = some (.tuple ⟨ovT (ovF 0 (allL p.zs))⟩) := by
  have lz : ∀ h, lenT .sl h p.zv = some (.int .i64 p.zs.length) := fun h => Rec.tree_len
  have iz : ∀ (j : Nat) (hj : j < p.zs.length), indexAddrT (.sl 49 ⟨some true, some 3⟩) p.zv (.int .i64 (j : Int)) = some (cptr ((znR p.y).val p.zs[j])) := fun j hj => Rec.index_tree rfl hj
  have blz : ∀ d n, below (d + 1) n p.zv = true := fun d n => rfl
  have op0 := @op_bel
  have hl6 := hp.len
  have hcz := hp.cor
  have mk := fun h => make_regs h p.zs.length (by omega)
  rw [pureCall_fn F10 rfl]
  unfold Pl.val Pl.cells
  generalize p.zv = ZV at *
  simp -implicitDefEqProofs [r10, p10, lz, mk]
  have emsl : ∀ i, i ≤ p.zs.length → regR.msl 2 (partA p.zs i) = regR.msl 2 (List.replicate p.zs.length (none, [])) := fun i hi => Rec.msl_eq (by rw [partA_len hi, List.length_replicate])
  rw [LL_for (γ := Unit) p.zs () (fun i _ => [(19, .int .i64 i)]) (fun i _ => [plO p ZV, ptO (0, 0), regR.mrow 31 (partA p.zs i)])
    (fun i rest _ => (.exit 0, [(19, undef)], [plO p ZV, ptO (0, 0), regR.mrow 31 (partA p.zs p.zs.length)])) (fun i _ => True) (by omega) trivial]
  · rw [partA_all]
    have hD : ∀ (i : Nat) (h : i < p.zs.length), Rec.Ok ((allR p.zs)[i]'(by rw [allR_len]; exact h)).1 ((allR p.zs)[i]'(by rw [allR_len]; exact h)).2 ∧ regB ((allR p.zs)[i]'(by rw [allR_len]; exact h)).2 = true := fun i h => by
      rw [allR_get h]; exact regZ_ok _
    have lm : ∀ h, lenT .sl h (regR.msl 2 (List.replicate p.zs.length (none, []))) = some (.int .i64 p.zs.length) := fun h => by rw [Rec.msl_len, List.length_replicate]
    have im : ∀ (i : Nat) (h : i < p.zs.length), indexAddrT (.sl 31 ⟨some false, some 1⟩) (regR.msl 2 (List.replicate p.zs.length (none, []))) (.int .i64 (i : Int)) = some (regR.mat 2 i 0) := fun i h => Rec.mindex (R := regR) rfl (by rw [List.length_replicate]; exact h)
    have ld : ∀ (h : Heap) (i : Nat) (hi : i < p.zs.length), h[2]? = some (regR.mrow 31 (allR p.zs)) → loadT ⟨some false, some 1⟩ h (regR.mat 2 i 0) = some (rectR.o (regZ p.zs[i]).1 (regZ p.zs[i]).2) := fun h i hi hob => by
      have := Rec.mload_cell (R := regR) (j := 0) (sz := some 1) hob (by rw [allR_len]; exact hi) (by decide)
      rw [this]
      show some (rectR.o ((allR p.zs)[i]'_).1 ((allR p.zs)[i]'_).2) = _
      rw [allR_get hi]
    have rfz : ∀ n h z, reify E.P (n + 1) h (rectR.o (regZ z).1 (regZ z).2) = some (rectR.o (regZ z).1 (regZ z).2) := fun n h z => Rec.o_reify
    have hcom := fun z w => zcommon_reg (regZ z).1 (regZ w).1 (regZ z).2 (regZ w).2 (regZ_ok z).1 (regZ_ok w).1 (regZ_ok z).2 (regZ_ok w).2
    have blM : ∀ d n, 2 < n → below (d + 1) n (regR.msl 2 (List.replicate p.zs.length (none, []))) = true := fun d n h => Rec.msl_bel h
    have blA : ∀ n, belowO n (regR.mrow 31 (allR p.zs)) = true := fun n => Rec.mrow_bel _
    have hAl := allL_len p.zs
    have hAg := fun (i : Nat) (h : i < p.zs.length) => allL_get (zs := p.zs) h
    generalize regR.msl 2 (List.replicate p.zs.length (none, [])) = MV at *
    generalize regR.mrow 31 (allR p.zs) = MO at *
    simp -implicitDefEqProofs [k10_3, plO, ptO, lm]
    rw [LL_for (γ := Unit) (allL p.zs) () (fun i _ => [(35, .int .i64 i)]) (fun i _ => [plO p ZV, ptO (0, 0), MO])
      (fun i rest _ => match ovF i rest with
        | none => (.exit 2, [(35, undef)], [plO p ZV, ptO (0, 0), MO])
        | some (a, b, q) => (.ret, [(2, lst true [.int .i64 (a : Int), .int .i64 (b : Int)]), (4, .bool true), (35, undef)], [plO p ZV, ptO q, MO])) (fun i _ => True) (by omega) trivial]
    · cases hov : ovF 0 (allL p.zs) with
      | none => simp -implicitDefEqProofs [k10_9, plO, ptO, ovT, b2_none]
      | some abq =>
        obtain ⟨a, b, q⟩ := abq
        simp -implicitDefEqProofs [k10_9, plO, ptO, ovT]
    · simp -implicitDefEqProofs [k10_9]
    · rfl
    · intro nx i c hi _
      rw [hAl] at hi
      have e1 : ∀ i, ovF i [] = none := fun i => rfl
      simp -implicitDefEqProofs [r10_9, k10_9, hi, trim_le, e1, plO, ptO]
    · intro nx i c rest _ hi hv hd hw _ ih
      have hin : i < p.zs.length := by omega
      have ih := ih () trivial
      have wi : IntKind.i64.wrap ((i : Int) + 1) = ((i + 1 : Nat) : Int) := (wrap64 (by omega) (by omega)).trans (by omega)
      have ee : ovF i (c :: rest) = match Rg.ovR c (i + 1) rest with
        | some (k, p) => some (i, k, p)
        | none => ovF (i + 1) rest := rfl
      have hrl : rest.length = p.zs.length - (i + 1) := by
        have := congrArg List.length hd
        rw [List.length_drop, List.length_cons, hAl] at this; omega
      have hrg : ∀ (j : Nat) (h : j < rest.length), ∃ h' : i + 1 + j < p.zs.length, rest[j] = (regZ p.zs[i + 1 + j]).2 := fun j h => by
        have h' : i + 1 + j < p.zs.length := by omega
        refine ⟨h', ?_⟩
        rw [← hAg _ h']
        have e2 : ((allL p.zs).drop i)[j + 1]? = rest[j]? := by rw [hd]; rfl
        rw [List.getElem?_drop, show i + (j + 1) = i + 1 + j by omega, List.getElem?_eq_getElem (by omega), List.getElem?_eq_getElem h] at e2
        exact (Option.some.inj e2).symm
      have hcz : c = (regZ p.zs[i]).2 := by rw [← hAg i hin, hv]
      rw [ee]
      simp -implicitDefEqProofs [k10_9, plO, ptO, -Int.natCast_add] at ih
      simp -implicitDefEqProofs [r10_9, k10_9, hin, wi, plO, ptO, -Int.natCast_add]
      rw [LL_for (γ := Unit) rest () (fun j _ => [(9, .int .i64 ((i + 1 + j : Nat) : Int))]) (fun _ _ => [plO p ZV, ptO (0, 0), MO])
        (fun j rest2 _ => match Rg.ovR c (i + 1 + j) rest2 with
          | none => (.exit 4, [(9, undef)], [plO p ZV, ptO (0, 0), MO])
          | some (b, q) => (.ret, [(2, lst true [.int .i64 (i : Int), .int .i64 (b : Int)]), (4, .bool true), (9, undef)], [plO p ZV, ptO q, MO])) (fun _ _ => True) (by omega) trivial]
      · rw [Nat.add_zero]
        cases hov : Rg.ovR c (i + 1) rest with
        | none =>
          simp -implicitDefEqProofs [k10_12, plO, ptO, wi, -Int.natCast_add]
          exact ih
        | some bq =>
          obtain ⟨b, q⟩ := bq
          simp -implicitDefEqProofs [k10_12, plO, ptO, trim_le, -Int.natCast_add]
      · simp -implicitDefEqProofs [k10_12, -Int.natCast_add]
      · rfl
      · intro nx2 j _ hj _
        have hjn : ¬ (((i + 1 + j : Nat) : Int) < (p.zs.length : Int)) := by omega
        have hjn' : ¬ (i + 1 + j < p.zs.length) := by omega
        have e1 : Rg.ovR c (i + 1 + j) [] = none := rfl
        simp -implicitDefEqProofs [r10_12, k10_12, lm, hjn, trim_le, e1, plO, ptO, -Int.natCast_add]
      · intro nx2 j d rest2 _ hj hv2 hd2 hw2 _ ih2
        obtain ⟨hjn, ed⟩ := hrg j hj
        rw [hv2] at ed
        have hjn' : ((i + 1 + j : Nat) : Int) < (p.zs.length : Int) := by omega
        have ih2 := ih2 () trivial
        have wk : IntKind.i64.wrap (((i + 1 + j : Nat) : Int) + 1) = ((i + 1 + (j + 1) : Nat) : Int) := (wrap64 (by omega) (by omega)).trans (by omega)
        have e3 : Rg.ovR c (i + 1 + j) (d :: rest2) = if 0 < comA c d then some (i + 1 + j, comP c d (1048576, 0)) else Rg.ovR c (i + 1 + j + 1) rest2 := rfl
        have hc2 := hcom p.zs[i] p.zs[i + 1 + j]
        rw [← hcz, ← ed] at hc2
        have l1 := fun h => ld h i hin
        have l2 := fun h => ld h (i + 1 + j) hjn
        rw [← hcz] at l1
        rw [← ed] at l2
        have r1 := fun n h => rfz n h p.zs[i]
        have r2 := fun n h => rfz n h p.zs[i + 1 + j]
        rw [← hcz] at r1
        rw [← ed] at r2
        have i1 := im i hin
        have i2 := im (i + 1 + j) hjn
        rw [e3]
        rw [show i + 1 + (j + 1) = i + 1 + j + 1 by omega] at ih2 wk
        simp -implicitDefEqProofs [k10_12, plO, ptO, -Int.natCast_add] at ih2
        by_cases hn : 0 < comA c d
        · rw [if_pos hn]
          simp -implicitDefEqProofs [r10_12, k10_12, lm, hjn', i1, i2, l1, l2, ret0 m32, r1, r2, hc2, hn, lit_ints2, plO, ptO, trim_cut, op0, blz, blM, blA, -Int.natCast_add]
        · rw [if_neg hn]
          simp -implicitDefEqProofs [r10_12, k10_12, lm, hjn', i1, i2, l1, l2, ret0 m32, r1, r2, hc2, hn, wk, plO, ptO, trim_cut, op0, blz, blM, blA, -Int.natCast_add]
          exact ih2
  · simp -implicitDefEqProofs [k10_3]
  · rw [partA_zero]; simp [plO, ptO]
  · intro nx i c hi _
    subst hi
    simp -implicitDefEqProofs [r10_3, k10_3, trim_le, plO]
  · intro nx i z rest c hi hv hd hw _ ih
    have xi := iz i hi
    rw [hv] at xi
    have hz := zcells_spec p.y z (hcz z (hv ▸ List.getElem_mem hi))
    have zset : settled depth ((znR p.y).val z) = true := rfl
    rw [zn_val] at xi hz zset
    have ih := ih () trivial
    simp -implicitDefEqProofs [k10_3, plO, ptO] at ih
    have pm := Rec.mindex (R := regR) (h0 := 1) (g := some false) (t := 31) (b := 2) (l := partA p.zs i) (i := i) (k := .i64) rfl (by rw [partA_len (by omega)]; exact hi)
    rw [emsl i (by omega)] at pm
    cases ho : z.ov
    · have st := fun h (hob : h[2]? = some (regR.mrow 31 (partA p.zs i))) => Rec.mstore_cell (R := regR) (h := h) (b := 2) (lo := 0) (i := i) (j := 0) (v := rectR.o (kR (polyX z.cs)) (cellsZ z)) (a := regZ z) Rec.o_cellsOf hob (Nat.zero_le _) (by rw [partA_len (by omega)]; exact hi) (by decide) (by unfold regZ; rw [ho]; rfl)
      rw [show (partA p.zs i).set i (regZ z) = partA p.zs (i + 1) by rw [← hv]; exact partA_set hi] at st
      rw [ho] at xi hz zset
      simp -implicitDefEqProofs [r10_3, k10_3, hi, xi, plO, ptO, ret1 m31, zset, hz, pm, st, hw, trim_cut, op0, blz, Rec.mrow_bel, Rec.msl_bel]
      exact ih
    · rw [← partA_ov hi (by rw [hv]; exact ho)] at ih
      rw [ho] at xi
      simp -implicitDefEqProofs [r10_3, k10_3, hi, xi, plO, ptO, hw, trim_cut, op0, blz, Rec.mrow_bel, Rec.msl_bel]
      exact ih
end Go.Proofs.Ytimjfondgdhfcaa.Bm
namespace Go.Proofs.Ytimjfondgdhfcaa.Bm
open Go Go.RowKit
open Rg (Rect Pt Zn rightP polyL comA comP ovR ovF)
theorem uStr : E.P.underlying 9 = some .string := by kernel_rfl
theorem ba_beq (a b : ByteArray) : (a == b) = decide (a = b) := by
  rw [Bool.eq_iff_iff, decide_eq_true_iff]
  obtain ⟨x⟩ := a
  obtain ⟨y⟩ := b
  show (x == y) = true ↔ _
  rw [beq_iff_eq, ByteArray.mk.injEq]
theorem strK : KeyEnc E.P 9 Value.string where
  flat _ := rfl
  ok s := by unfold keyOk; rw [uStr]
  eq a b := by
    unfold aKeyEq
    rw [uStr]
    show some (a == b) = _
    rw [ba_beq]
  bits s := by
    show (s == s) = true
    rw [ba_beq, decide_eq_true rfl]
def memS : List ByteArray → ByteArray → Bool
  | [], _ => false
  | a :: l, s => decide (a = s) || memS l s
def dupZ : List ByteArray → List Zn → Bool
  | _, [] => false
  | S, z :: r => memS S z.nm || dupZ (S ++ [z.nm]) r
def dupS : List ByteArray → List Zn → List ByteArray
  | S, [] => S
  | S, z :: r => if memS S z.nm then S else dupS (S ++ [z.nm]) r
def badZ (z : Zn) : Bool := !decide (eR (polyX z.cs) = 0)
def anyZ : List Zn → Bool
  | [] => false
  | z :: r => badZ z || anyZ r
def seenM (S : List ByteArray) : List (ByteArray × Value) := S.map fun s => (s, .bool true)
theorem seen_get : ∀ (S : List ByteArray) (s : ByteArray), aget (seenM S) s = if memS S s then some (.bool true) else none
  | [], _ => rfl
  | a :: S, s => by
    have ih := seen_get S s
    show (if a = s then _ else aget (seenM S) s) = _
    rw [ih, show memS (a :: S) s = (decide (a = s) || memS S s) from rfl]
    by_cases h : a = s
    · rw [if_pos h, decide_eq_true h]; rfl
    · rw [if_neg h, decide_eq_false h, Bool.false_or]
theorem seen_app (S : List ByteArray) (s : ByteArray) : seenM (S ++ [s]) = seenM S ++ [(s, .bool true)] := List.map_append
def mapI (zs : List Zn) : Int := if anyZ zs then 10 else if dupZ [] zs then 5 else if (ovF 0 (allL zs)).isSome then 11 else 0
set_option maxHeartbeats 2000000 in
theorem zmap_spec (p : Pl) (hp : PlOk p) : pureCall E.P (L E) 12 [p.val] = some (.int .i64 (mapI p.zs)) := by
  have lz : ∀ h, lenT .sl h p.zv = some (.int .i64 p.zs.length) := fun h => Rec.tree_len
  have iz : ∀ (j : Nat) (hj : j < p.zs.length), indexAddrT (.sl 49 ⟨some true, some 3⟩) p.zv (.int .i64 (j : Int)) = some (cptr ((znR p.y).val p.zs[j])) := fun j hj => Rec.index_tree rfl hj
  have blz : ∀ d n, below (d + 1) n p.zv = true := fun d n => rfl
  have op0 := @op_bel
  have hl6 := hp.len
  have hcz := hp.cor
  have ov := overlap_spec p hp
  have sp := p.set
  rw [pureCall_fn F12 rfl]
  unfold Pl.val Pl.cells at *
  generalize p.zv = ZV at *
  unfold mapI
  simp -implicitDefEqProofs [r12, p12, lz]
  rw [LL_for (γ := Unit) p.zs () (fun i _ => [(16, .int .i64 i)]) (fun i _ => [plO p ZV])
    (fun i rest _ => if anyZ rest then (.ret, [(2, .int .i64 10), (16, undef)], [plO p ZV]) else (.exit 0, [(16, undef)], [plO p ZV])) (fun i _ => True) (by omega) trivial]
  · cases hb : anyZ p.zs
    · simp -implicitDefEqProofs [k12_2, plO, lz]
      rw [LL_for (γ := List ByteArray) p.zs [] (fun i _ => [(33, .int .i64 i)]) (fun i S => [plO p ZV, mapB Value.string (seenM S)])
        (fun i rest S => if dupZ S rest then (.ret, [(2, .int .i64 5), (33, undef)], [plO p ZV, mapB Value.string (seenM (dupS S rest))]) else (.exit 2, [(33, undef)], [plO p ZV, mapB Value.string (seenM (S ++ rest.map (·.nm)))])) (fun i S => True) (by omega) trivial]
      · cases hd : dupZ [] p.zs
        · rw [List.nil_append]
          cases ho : ovF 0 (allL p.zs) with
          | none =>
            rw [ho] at ov
            unfold ovT at ov
            simp -implicitDefEqProofs [k12_10, plO, ret1 m10, sp, ov]
          | some ikp =>
            obtain ⟨i, k, q⟩ := ikp
            rw [ho] at ov
            unfold ovT at ov
            simp -implicitDefEqProofs [k12_10, plO, ret1 m10, sp, ov]
        · simp -implicitDefEqProofs [k12_10, plO]
      · simp -implicitDefEqProofs [k12_10]
      · rfl
      · intro nx i S hi _
        have e1 : dupZ S [] = false := rfl
        simp -implicitDefEqProofs [r12_10, k12_10, hi, trim_le, e1, plO]
      · intro nx i z rest S hi hv hd hw _ ih
        have xi := iz i hi
        rw [hv, zn_val] at xi
        have ih := ih (S ++ [z.nm]) trivial
        have e1 : dupZ S (z :: rest) = (memS S z.nm || dupZ (S ++ [z.nm]) rest) := rfl
        have e2 : S ++ (z :: rest).map (·.nm) = S ++ [z.nm] ++ rest.map (·.nm) := by rw [List.append_assoc]; rfl
        have blm : ∀ n S, belowO n (mapB Value.string (seenM S)) = true := fun n S => belO_map strK fun q hq => by
          obtain ⟨s, _, rfl⟩ := List.mem_map.1 hq; rfl
        have e3 : dupS S (z :: rest) = if memS S z.nm then S else dupS (S ++ [z.nm]) rest := rfl
        rw [e1, e2, e3]
        have sg := seen_get S z.nm
        have bmp : ∀ d, below (d + 1) 2 (.map (some 1)) = true := fun _ => rfl
        simp -implicitDefEqProofs [k12_10, plO, -List.append_assoc] at ih
        cases hm : memS S z.nm
        · rw [hm] at sg
          have sg : aget (seenM S) z.nm = none := sg
          have lk := fun h (hob : h[1]? = some (mapB Value.string (seenM S))) => lookup_none (P := E.P) (kt := 9) (enc := Value.string) (ok := false) (k := z.nm) (zv := .bool false) strK rfl hob sg
          have pt := fun h (hob : h[1]? = some (mapB Value.string (seenM S))) => put_map (P := E.P) (kt := 9) (enc := Value.string) (z := some (.bool false)) (lo := 0) (k := z.nm) (x := .bool true) strK hob (Nat.zero_le _)
          rw [aset_new sg, ← seen_app] at pt
          simp -implicitDefEqProofs [r12_10, k12_10, hi, xi, plO, lk, pt, hw, trim_cut, op0, blz, bmp, blm, -List.append_assoc]
          exact ih
        · rw [hm] at sg
          have sg : aget (seenM S) z.nm = some (.bool true) := sg
          have lk := fun h (hob : h[1]? = some (mapB Value.string (seenM S))) => lookup_some (P := E.P) (kt := 9) (enc := Value.string) (ok := false) (k := z.nm) (z := some (.bool false)) strK rfl hob sg
          simp -implicitDefEqProofs [r12_10, k12_10, hi, xi, plO, lk, trim_cut, op0, blz, bmp, blm, -List.append_assoc]
    · simp -implicitDefEqProofs [k12_2, plO]
  · simp -implicitDefEqProofs [k12_2]
  · rfl
  · intro nx i _ hi _
    have e1 : anyZ [] = false := rfl
    simp -implicitDefEqProofs [r12_2, k12_2, hi, trim_le, e1, plO]
  · intro nx i z rest _ hi hv hd hw _ ih
    have xi := iz i hi
    rw [hv, zn_val] at xi
    have hz := pregion_o p.y z.cs (by have := hcz z (hv ▸ List.getElem_mem hi); omega)
    have sv : settled depth (lst p.y (spanR.vals z.cs)) = true := rfl
    have blv : ∀ d n, below (d + 1) n (lst p.y (spanR.vals z.cs)) = true := fun _ _ => rfl
    have ih := ih () trivial
    have e1 : anyZ (z :: rest) = (badZ z || anyZ rest) := rfl
    rw [e1]
    generalize lst p.y (spanR.vals z.cs) = CV at *
    simp -implicitDefEqProofs [k12_2, plO] at ih
    by_cases he : eR (polyX z.cs) = 0
    · rw [show badZ z = false by unfold badZ; rw [decide_eq_true he]; rfl, Bool.false_or]
      rw [he] at hz
      simp -implicitDefEqProofs [r12_2, k12_2, hi, xi, plO, ret1 m21, sv, hz, hw, trim_cut, op0, blz]
      exact ih
    · rw [show badZ z = true by unfold badZ; rw [decide_eq_false he]; rfl, Bool.true_or]
      simp -implicitDefEqProofs [r12_2, k12_2, hi, xi, plO, ret1 m21, sv, hz, he, trim_cut, op0, blz]
end Go.Proofs.Ytimjfondgdhfcaa.Bm
namespace Go.Proofs.Ytimjfondgdhfcaa.Bm
open Go Go.RowKit
open Rg (Rect Pt Zn rightP polyL comA comP ovR ovF)
def fewC : List Zn → Bool
  | [] => true
  | z :: r => decide (z.cs.length ≤ 64) && fewC r
def fewB (zs : List Zn) (n : Nat) : Bool := fewC zs && decide (zs.length ≤ 6) && decide (n ≤ 24)
theorem fewC_iff : ∀ {zs : List Zn}, fewC zs = true → ∀ z ∈ zs, z.cs.length ≤ 64
  | [], _, z, hz => absurd hz List.not_mem_nil
  | a :: r, h, z, hz => by
    unfold fewC at h
    rw [Bool.and_eq_true, decide_eq_true_eq] at h
    rcases List.mem_cons.1 hz with rfl | hz
    · exact h.1
    · exact fewC_iff h.2 z hz
theorem fewB_ok {p : Pl} {n : Nat} (h : fewB p.zs n = true) : PlOk p ∧ n ≤ 24 := by
  unfold fewB at h
  rw [Bool.and_eq_true, Bool.and_eq_true, decide_eq_true_eq, decide_eq_true_eq] at h
  exact ⟨⟨h.1.2, fewC_iff h.1.1⟩, h.2⟩
theorem few_spec (p : Pl) (v : Value) (n : Nat) (hn : ∀ h, lenT .sl h v = some (.int .i64 n)) (_hv : ∀ d m, below (d + 1) m v = true) (hl : p.zs.length ≤ 9223372036854775807) : pureCall E.P (L E) 9 [p.val, v] = some (.bool (fewB p.zs n)) := by
  have lz : ∀ h, lenT .sl h p.zv = some (.int .i64 p.zs.length) := fun h => Rec.tree_len
  have iz : ∀ (j : Nat) (hj : j < p.zs.length), indexAddrT (.sl 49 ⟨some true, some 3⟩) p.zv (.int .i64 (j : Int)) = some (cptr ((znR p.y).val p.zs[j])) := fun j hj => Rec.index_tree rfl hj
  have blz : ∀ d n, below (d + 1) n p.zv = true := fun d n => rfl
  have op0 := @op_bel
  rw [pureCall_fn F9 rfl]
  unfold Pl.val Pl.cells
  generalize p.zv = ZV at *
  unfold fewB
  simp -implicitDefEqProofs [r9, p9]
  rw [LL_for (γ := Unit) p.zs () (fun i _ => [(5, .int .i64 i)]) (fun i _ => [plO p ZV])
    (fun i rest _ => if fewC rest then (.exit 0, [(5, undef)], [plO p ZV]) else (.ret, [(4, .bool false), (5, undef)], [plO p ZV])) (fun i _ => True) hl trivial]
  · cases hc : fewC p.zs
    · simp -implicitDefEqProofs [k9_2, plO]
    · by_cases h6 : p.zs.length ≤ 6
      · have h6' : (p.zs.length : Int) ≤ 6 := by omega
        by_cases hn24 : n ≤ 24
        · have hn' : (n : Int) ≤ 24 := by omega
          simp -implicitDefEqProofs [k9_2, plO, lz, hn, h6, h6', hn24, hn']
        · have hn' : ¬ ((n : Int) ≤ 24) := by omega
          simp -implicitDefEqProofs [k9_2, plO, lz, hn, h6, h6', hn24, hn']
      · have h6' : ¬ ((p.zs.length : Int) ≤ 6) := by omega
        simp -implicitDefEqProofs [k9_2, plO, lz, h6, h6']
  · simp -implicitDefEqProofs [k9_2]
  · rfl
  · intro nx i _ hi _
    have e1 : fewC [] = true := rfl
    simp -implicitDefEqProofs [r9_2, k9_2, hi, lz, trim_le, e1, plO]
  · intro nx i z rest _ hi hv2 hd hw _ ih
    have xi := iz i hi
    rw [hv2, zn_val] at xi
    have hi' : (i : Int) < (p.zs.length : Int) := by omega
    have lc : ∀ h, lenT .sl h (lst p.y (spanR.vals z.cs)) = some (.int .i64 z.cs.length) := fun h => Rec.tree_len
    have ih := ih () trivial
    have e1 : fewC (z :: rest) = (decide (z.cs.length ≤ 64) && fewC rest) := rfl
    rw [e1]
    simp -implicitDefEqProofs [k9_2, plO] at ih
    by_cases hc : z.cs.length ≤ 64
    · have hc' : ¬ (64 < (z.cs.length : Int)) := by omega
      have hc'' : ¬ (64 < z.cs.length) := by omega
      rw [decide_eq_true hc, Bool.true_and]
      simp -implicitDefEqProofs [r9_2, k9_2, hi', lz, xi, lc, hc', plO, hw, trim_le]
      exact ih
    · have hc' : 64 < (z.cs.length : Int) := by omega
      have hc'' : 64 < z.cs.length := by omega
      rw [decide_eq_false hc, Bool.false_and]
      simp -implicitDefEqProofs [r9_2, k9_2, hi', lz, xi, lc, hc', plO, trim_le]
def sT (x : Bool) (l : List ByteArray) : Value := lst x (l.map .string)
theorem sT_index {x : Bool} {l : List ByteArray} {i : Nat} (hi : i < l.length) : indexAddrT (.sl 9 ⟨some false, some 1⟩) (sT x l) (.int .i64 (i : Int)) = some (cptr (.string l[i])) := by
  unfold sT
  have e : (l.map (Value.string))[i]? = some (.string l[i]) := by simp [hi]
  rw [index_lst, if_pos (by omega), show ((i : Int)).toNat = i by omega, e, Option.bind_some, if_pos (by rfl)]
theorem sT_len {h : Heap} {x : Bool} {l : List ByteArray} : lenT .sl h (sT x l) = some (.int .i64 l.length) := by unfold sT; rw [len_lst]; simp
theorem drop_eq_cons {α : Type} {m : List α} {i : Nat} {a : α} {rest : List α} (hi : i < m.length) : (a :: rest = m.drop i) ↔ (a = m[i] ∧ rest = m.drop (i + 1)) := by
  rw [List.drop_eq_getElem_cons hi, List.cons.injEq]
theorem texts_spec (x y : Bool) (l m : List ByteArray) (hl : l.length ≤ 1000) : pureCall E.P (L E) 17 [sT x l, sT y m] = some (.bool (decide (l = m))) := by
  have l1 := fun h => sT_len (h := h) (x := x) (l := l)
  have l2 := fun h => sT_len (h := h) (x := y) (l := m)
  have i1 := fun (i : Nat) (hi : i < l.length) => sT_index (x := x) hi
  have i2 := fun (i : Nat) (hi : i < m.length) => sT_index (x := y) hi
  rw [pureCall_fn F17 rfl]
  generalize sT x l = X at *
  generalize sT y m = Y at *
  by_cases hlm : l.length = m.length
  case neg =>
    have hlm' : ¬ ((l.length : Int) = (m.length : Int)) := by omega
    rw [decide_eq_false fun e => hlm (by rw [e])]
    simp -implicitDefEqProofs [r17, p17, l1, l2, hlm']
  simp -implicitDefEqProofs [r17, p17, l1, l2, hlm]
  rw [LL_for (γ := Unit) l () (fun i _ => [(5, .int .i64 i)]) (fun _ _ => []) (fun i rest _ => if rest = m.drop i then (.exit 0, [(5, undef)], []) else (.ret, [(4, .bool false), (5, undef)], [])) (fun _ _ => True) (by omega) trivial]
  · rw [List.drop_zero]
    by_cases h : l = m
    · simp -implicitDefEqProofs [k17_4, h]
    · simp -implicitDefEqProofs [k17_4, h]
  · simp -implicitDefEqProofs [k17_4]
  · rfl
  · intro nx i _ hi _
    have e1 : ([] : List ByteArray) = m.drop i := (List.drop_eq_nil_of_le (by omega)).symm
    rw [if_pos e1]
    simp -implicitDefEqProofs [r17_4, k17_4, hi, l1, hlm, trim_le]
  · intro nx i s rest _ hi hv hd hw _ ih
    have ih := ih () trivial
    have hm : i < m.length := by omega
    have hm' : (i : Int) < (m.length : Int) := by omega
    have x1 := i1 i hi
    rw [hv] at x1
    have x2 := i2 i hm
    have e1 := drop_eq_cons (a := s) (rest := rest) hm
    simp -implicitDefEqProofs [k17_4] at ih
    by_cases hs : s = m[i]
    · have e2 : (s :: rest = m.drop i) = (rest = m.drop (i + 1)) := propext (e1.trans ⟨fun h => h.2, fun h => ⟨hs, h⟩⟩)
      simp only [e2]
      simp -implicitDefEqProofs [r17_4, k17_4, hm', l1, hlm, x1, x2, hs, hw, trim_le]
      exact ih
    · have e2 : ¬ (s :: rest = m.drop i) := fun h => hs (e1.1 h).1
      rw [if_neg e2]
      simp -implicitDefEqProofs [r17_4, k17_4, hm', l1, hlm, x1, x2, hs, trim_le]
end Go.Proofs.Ytimjfondgdhfcaa.Bm
namespace Go.Proofs.Ytimjfondgdhfcaa.Bm
open Go Go.RowKit
open Rg (Rect Pt Zn rightP polyL comA comP ovR ovF)
theorem ints18_spec (X Y : Value) (l m : List Int) (l1 : ∀ h, lenT .sl h X = some (.int .i64 l.length)) (l2 : ∀ h, lenT .sl h Y = some (.int .i64 m.length)) (i1 : ∀ (i : Nat) (hi : i < l.length), indexAddrT (.sl 3 ⟨some false, some 1⟩) X (.int .i64 (i : Int)) = some (cptr (.int .i64 l[i]))) (i2 : ∀ (i : Nat) (hi : i < m.length), indexAddrT (.sl 3 ⟨some false, some 1⟩) Y (.int .i64 (i : Int)) = some (cptr (.int .i64 m[i]))) (hl : l.length ≤ 1000) : pureCall E.P (L E) 14 [X, Y] = some (.bool (decide (l = m))) := by
  rw [pureCall_fn F14 rfl]
  by_cases hlm : l.length = m.length
  case neg =>
    have hlm' : ¬ ((l.length : Int) = (m.length : Int)) := by omega
    rw [decide_eq_false fun e => hlm (by rw [e])]
    simp -implicitDefEqProofs [r14, p14, l1, l2, hlm']
  simp -implicitDefEqProofs [r14, p14, l1, l2, hlm]
  rw [LL_for (γ := Unit) l () (fun i _ => [(5, .int .i64 i)]) (fun _ _ => []) (fun i rest _ => if rest = m.drop i then (.exit 0, [(5, undef)], []) else (.ret, [(4, .bool false), (5, undef)], [])) (fun _ _ => True) (by omega) trivial]
  · rw [List.drop_zero]
    by_cases h : l = m
    · simp -implicitDefEqProofs [k14_4, h]
    · simp -implicitDefEqProofs [k14_4, h]
  · simp -implicitDefEqProofs [k14_4]
  · rfl
  · intro nx i _ hi _
    have e1 : ([] : List Int) = m.drop i := (List.drop_eq_nil_of_le (by omega)).symm
    rw [if_pos e1]
    simp -implicitDefEqProofs [r14_4, k14_4, hi, l1, hlm, trim_le]
  · intro nx i s rest _ hi hv hd hw _ ih
    have ih := ih () trivial
    have hm : i < m.length := by omega
    have hm' : (i : Int) < (m.length : Int) := by omega
    have x1 := i1 i hi
    rw [hv] at x1
    have x2 := i2 i hm
    have e1 := drop_eq_cons (a := s) (rest := rest) hm
    simp -implicitDefEqProofs [k14_4] at ih
    by_cases hs : s = m[i]
    · have e2 : (s :: rest = m.drop i) = (rest = m.drop (i + 1)) := propext (e1.trans ⟨fun h => h.2, fun h => ⟨hs, h⟩⟩)
      simp only [e2]
      simp -implicitDefEqProofs [r14_4, k14_4, hm', l1, hlm, x1, x2, hs, hw, trim_le]
      exact ih
    · have e2 : ¬ (s :: rest = m.drop i) := fun h => hs (e1.1 h).1
      rw [if_neg e2]
      simp -implicitDefEqProofs [r14_4, k14_4, hm', l1, hlm, x1, x2, hs, trim_le]
def sq (x0 y0 x1 y1 : Int) : List Pt := [(x0, y0), (x1, y0), (x1, y1), (x0, y1)]
def nCore : ByteArray := ⟨⟨[99, 111, 114, 101]⟩⟩
def nRim : ByteArray := ⟨⟨[114, 105, 109]⟩⟩
def nRiver : ByteArray := ⟨⟨[114, 105, 118, 101, 114]⟩⟩
def smp (a : Int) : Pl := ⟨none, none, none, none, none, none, 0, true, true, [⟨nCore, false, sq 0 0 10 8⟩, ⟨nRim, false, sq a 0 20 8⟩, ⟨nRiver, true, sq 4 0 6 8⟩]⟩
theorem smp_ok (a : Int) : PlOk (smp a) := ⟨by show 3 ≤ 6; omega, fun z hz => by
  simp only [smp, List.mem_cons, List.not_mem_nil, or_false] at hz
  rcases hz with rfl | rfl | rfl <;> exact (by decide : 4 ≤ 64)⟩
set_option maxRecDepth 100000 in
theorem xm9 : pureCall E.P (L E) 29 [.int .i64 9] = some (smp 9).val := pureCall_le (evF_L 60) (by kernel_rfl)
set_option maxRecDepth 100000 in
theorem xm10 : pureCall E.P (L E) 29 [.int .i64 10] = some (smp 10).val := pureCall_le (evF_L 60) (by kernel_rfl)
set_option maxRecDepth 100000 in
theorem xm30 : pureCall E.P (L E) 29 [.int .i64 30] = some (smp 30).val := pureCall_le (evF_L 60) (by kernel_rfl)
set_option maxRecDepth 100000 in
theorem xs0 : pureCall E.P (L E) 30 [.int .i64 8, .int .i64 13] = some (rectR.o (some true) [⟨8, 0, 13, 1⟩]) := pureCall_le (evF_L 60) (by kernel_rfl)
set_option maxRecDepth 100000 in
theorem xs1 : pureCall E.P (L E) 30 [.int .i64 0, .int .i64 5] = some (rectR.o (some true) [⟨0, 0, 5, 1⟩]) := pureCall_le (evF_L 60) (by kernel_rfl)
set_option maxRecDepth 100000 in
theorem xs2 : pureCall E.P (L E) 30 [.int .i64 30, .int .i64 31] = some (rectR.o (some true) [⟨30, 0, 31, 1⟩]) := pureCall_le (evF_L 60) (by kernel_rfl)
set_option maxRecDepth 100000 in
theorem xs3 : pureCall E.P (L E) 30 [.int .i64 8, .int .i64 12] = some (rectR.o (some true) [⟨8, 0, 12, 1⟩]) := pureCall_le (evF_L 60) (by kernel_rfl)
set_option maxRecDepth 100000 in
theorem xs4 : pureCall E.P (L E) 30 [.int .i64 0, .int .i64 12] = some (rectR.o (some true) [⟨0, 0, 12, 1⟩]) := pureCall_le (evF_L 60) (by kernel_rfl)
theorem xn0 : namesZ (smp 10).zs [⟨8, 0, 13, 1⟩] = [nRim] := by kernel_rfl
theorem xn1 : namesZ (smp 10).zs [⟨0, 0, 5, 1⟩] = [nCore, nRiver] := by kernel_rfl
theorem xn2 : namesZ (smp 10).zs [⟨30, 0, 31, 1⟩] = [] := by kernel_rfl
theorem xn3 : namesZ (smp 10).zs [⟨8, 0, 12, 1⟩] = [nCore] := by kernel_rfl
theorem xh0 : sharesV (smp 10).zs [⟨0, 0, 12, 1⟩] = lst false [.int .i64 10, .int .i64 2, .int .i64 2] := by kernel_rfl
theorem xv9 : ovF 0 (allL (smp 9).zs) = some (0, 1, (9, 0)) := by kernel_rfl
theorem xv10 : ovF 0 (allL (smp 10).zs) = none := by kernel_rfl
theorem xi9 : mapI (smp 9).zs = 11 := by kernel_rfl
theorem xi10 : mapI (smp 10).zs = 0 := by kernel_rfl
theorem xi30 : mapI (smp 30).zs = 10 := by kernel_rfl
end Go.Proofs.Ytimjfondgdhfcaa.Bm
namespace Go.Proofs.Ytimjfondgdhfcaa.Bm
open Go Go.RowKit
open Rg (Rect Pt Zn rightP polyL comA comP ovR ovF)
abbrev bCore : Value := .string ⟨⟨[99, 111, 114, 101]⟩⟩
abbrev bRim : Value := .string ⟨⟨[114, 105, 109]⟩⟩
abbrev bRiver : Value := .string ⟨⟨[114, 105, 118, 101, 114]⟩⟩
theorem lit_str2 (h : Heap) (s r : ByteArray) : buildSliceT (some ⟨9, 1, 16, .string ⟨⟨[]⟩⟩, ⟨some false, some 1⟩⟩) false h 2 #[(0, .string s), (1, .string r)] = some (lst true [.string s, .string r], h) :=
  (build_lit' (n := 2) (l := [(0, .string s), (1, .string r)]) rfl rfl (by decide) (by decide) (by decide)).trans rfl
theorem lit_ints3 (h : Heap) (a b c : Int) : buildSliceT (some ⟨3, 1, 8, .int .i64 0, ⟨some false, some 1⟩⟩) false h 3 #[(0, .int .i64 a), (1, .int .i64 b), (2, .int .i64 c)] = some (lst true [.int .i64 a, .int .i64 b, .int .i64 c], h) :=
  (build_lit' (n := 3) (l := [(0, .int .i64 a), (1, .int .i64 b), (2, .int .i64 c)]) rfl rfl (by decide) (by decide) (by decide)).trans rfl
theorem iL_len {h : Heap} {x : Bool} {l : List Int} : lenT .sl h (lst x (l.map (.int .i64))) = some (.int .i64 l.length) := by rw [len_lst]; simp
theorem iL_index {x : Bool} {l : List Int} {i : Nat} (hi : i < l.length) : indexAddrT (.sl 3 ⟨some false, some 1⟩) (lst x (l.map (.int .i64))) (.int .i64 (i : Int)) = some (cptr (.int .i64 l[i])) := by
  have e : (l.map (Value.int .i64))[i]? = some (.int .i64 l[i]) := by simp [hi]
  rw [index_lst, if_pos (by omega), show ((i : Int)).toNat = i by omega, e, Option.bind_some, if_pos (by rfl)]
theorem ints_list (x y : Bool) (l m : List Int) (hl : l.length ≤ 1000) : pureCall E.P (L E) 14 [lst x (l.map (.int .i64)), lst y (m.map (.int .i64))] = some (.bool (decide (l = m))) :=
  ints18_spec _ _ l m (fun _ => iL_len) (fun _ => iL_len) (fun _ hi => iL_index hi) (fun _ hi => iL_index hi) hl
theorem xt0 : pureCall E.P (L E) 17 [lst false [bRim], lst true [bRim]] = some (.bool true) := (texts_spec false true [nRim] [nRim] (by decide)).trans (by rw [decide_eq_true rfl])
theorem xt1 : pureCall E.P (L E) 17 [lst false [bCore, bRiver], lst true [bCore, bRiver]] = some (.bool true) := (texts_spec false true [nCore, nRiver] [nCore, nRiver] (by decide)).trans (by rw [decide_eq_true rfl])
theorem xt3 : pureCall E.P (L E) 17 [lst false [bCore], lst true [bCore]] = some (.bool true) := (texts_spec false true [nCore] [nCore] (by decide)).trans (by rw [decide_eq_true rfl])
theorem xj0 : pureCall E.P (L E) 14 [lst false [.int .i64 10, .int .i64 2, .int .i64 2], lst true [.int .i64 10, .int .i64 2, .int .i64 2]] = some (.bool true) := (ints_list false true [10, 2, 2] [10, 2, 2] (by decide)).trans (by rw [decide_eq_true rfl])
theorem xj1 : pureCall E.P (L E) 14 [lst true [.int .i64 0, .int .i64 1], lst true [.int .i64 0, .int .i64 1]] = some (.bool true) := (ints_list true true [0, 1] [0, 1] (by decide)).trans (by rw [decide_eq_true rfl])
theorem b2_fst {a : Int} : buildT (Bl.fs ⟨[.int .i64 0, .int .i64 0]⟩ ⟨[(0, 1), (1, 1)]⟩) #[(0, .int .i64 a)] = some (.agg ⟨[.int .i64 a, .int .i64 0]⟩) := rfl
theorem eqlp (a b c d : Int) : aBin E.P .eql 36 (.agg ⟨[.int .i64 a, .int .i64 b]⟩) (.agg ⟨[.int .i64 c, .int .i64 d]⟩) = (allOf [some (a == c), some (b == d)]).map .bool := by kernel_rfl
theorem eql_pt (a b c d : Int) : aBin E.P .eql 36 (.agg ⟨[.int .i64 a, .int .i64 b]⟩) (.agg ⟨[.int .i64 c, .int .i64 d]⟩) = some (.bool (decide ((a, b) = (c, d)))) := by
  rw [eqlp]
  by_cases h1 : a = c <;> by_cases h2 : b = d <;> simp [allOf_two, h1, h2]
set_option maxHeartbeats 1000000 in
theorem small_spec : pureCall E.P (L E) 8 [] = some (.bool true) := by
  have o0 := zof_spec (smp 10) (smp_ok 10) (some true) [⟨8, 0, 13, 1⟩] Rec.ok_some (by decide)
  have o1 := zof_spec (smp 10) (smp_ok 10) (some true) [⟨0, 0, 5, 1⟩] Rec.ok_some (by decide)
  have o2 := zof_spec (smp 10) (smp_ok 10) (some true) [⟨30, 0, 31, 1⟩] Rec.ok_some (by decide)
  have o3 := zof_spec (smp 10) (smp_ok 10) (some true) [⟨8, 0, 12, 1⟩] Rec.ok_some (by decide)
  have h0 := shares_spec (smp 10) (smp_ok 10) (some true) [⟨0, 0, 12, 1⟩] Rec.ok_some (by decide)
  have v9 := overlap_spec (smp 9) (smp_ok 9)
  have v10 := overlap_spec (smp 10) (smp_ok 10)
  have mp9 := zmap_spec (smp 9) (smp_ok 9)
  have mp10 := zmap_spec (smp 10) (smp_ok 10)
  have mp30 := zmap_spec (smp 30) (smp_ok 30)
  have sp9 := xm9
  have sp10 := xm10
  have sp30 := xm30
  have tp9 := (smp 9).set
  have tp10 := (smp 10).set
  have tp30 := (smp 30).set
  have rf9 := fun h => (smp 9).reify h
  have rf10 := fun h => (smp 10).reify h
  have rf30 := fun h => (smp 30).reify h
  have e0 := xs0
  have e1 := xs1
  have e2 := xs2
  have e3 := xs3
  have e4 := xs4
  rw [xn0] at o0
  rw [xn1] at o1
  rw [xn2] at o2
  rw [xn3] at o3
  rw [xh0] at h0
  rw [xv9] at v9
  rw [xv10] at v10
  rw [xi9] at mp9
  rw [xi10] at mp10
  rw [xi30] at mp30
  unfold ovT at v9 v10
  simp only [List.map_cons, List.map_nil] at o0 o1 o2 o3
  have u0 := xt0
  have u1 := xt1
  have u3 := xt3
  have w0 := xj0
  have w1 := xj1
  have so : ∀ r, settled depth (rectR.o (some true) [r]) = true := fun _ => Rec.o_set
  have rl : ∀ h b l, reify E.P 8 h (lst b l) = some (lst b l) := fun _ _ _ => rfl
  unfold nRim nCore nRiver at *
  unfold Pl.val Pl.cells at *
  generalize (smp 9).zv = Z9 at *
  generalize (smp 10).zv = Z10 at *
  generalize (smp 30).zv = Z30 at *
  rw [pureCall_fn F8 rfl]
  simp -implicitDefEqProofs [r8, p8, ret1 m29, sp9, sp10, sp30, ret1 m10, tp9, tp10, v9, v10, ret1 m30, e0, e1, e2, e3, e4, ret1 m18, so, o0, o1, o2, o3, lit_str, lit_str2, ret0 m17, rl, u0, u1, u3, ret1 m15, h0, lit_ints3, lit_ints2, ret0 m14, w0, w1, ret0 m12, rf9, rf10, rf30, mp9, mp10, mp30, sett, b2_fst, eql_pt]
end Go.Proofs.Ytimjfondgdhfcaa.Bm
namespace Go.Proofs.Ytimjfondgdhfcaa.Bm
open Go Go.RowKit
open Rg (Rect scan scan_le putAt sortU edgesX own colC colF gstep ends)
theorem xsL_app (a b : List Rect) : xsL a ++ xsL b = xsL (a ++ b) := List.flatMap_append.symm
theorem edges_spec (k m : Option Bool) (a b : List Rect) (hk : Rec.Ok k a) (hm : Rec.Ok m b) (ha : a.length ≤ 1000) (hb : b.length ≤ 1000) : pureCall E.P (L E) 43 [rectR.o k a, rectR.o m b] = some (iT (edgesX (a ++ b))) := by
  have sp := sorted_spec (xsL (a ++ b)) (by rw [xsL_len, List.length_append]; omega)
  rw [pureCall_fn F43 rfl]
  simp -implicitDefEqProofs [r43, p43, prep_new, newK_nil s3]
  rw [LL_for (γ := List Int) a [] (fun i c => [(5, intR.sl 0 c), (6, .int .i64 i)]) (fun _ c => [intR.row 3 c])
    (fun _ rest c => (.exit 0, [(5, intR.sl 0 (c ++ xsL rest)), (6, undef)], [intR.row 3 (c ++ xsL rest)])) (fun i c => c.length = 2 * i) (by omega) rfl]
  · rw [List.nil_append]
    simp -implicitDefEqProofs [k43_3]
    rw [LL_for (γ := List Int) b (xsL a) (fun i c => [(5, intR.sl 0 c), (7, .int .i64 i)]) (fun _ c => [intR.row 3 c])
      (fun _ rest c => (.exit 2, [(5, intR.sl 0 (c ++ xsL rest)), (7, undef)], [intR.row 3 (c ++ xsL rest)])) (fun i c => c.length = 2 * a.length + 2 * i) (by omega) (xsL_len a)]
    · obtain ⟨g, fz⟩ := int_freeze (h := [intR.row 3 (xsL (a ++ b))]) (b := 0) (lo := 0) (l := xsL (a ++ b)) rfl (Nat.le_refl _)
      have e : iT (sortU (xsL (a ++ b))) = iT (edgesX (a ++ b)) := rfl
      rw [xsL_app]
      simp -implicitDefEqProofs [k43_7, prep_frz, fz, ret1 m68, iT_set, sp, e]
      rfl
    · simp -implicitDefEqProofs [k43_7]
    · rfl
    · intro nx i c hi _
      simp -implicitDefEqProofs [r43_7, k43_7, hi, Rec.o_len hm, trim_le, xsL]
    · intro nx i r rest c hi hv hd hw hc ih
      have ixi := Rec.o_index (R := rectR) (t := 55) (kk := .i64) (s := 4) rfl hm hi
      rw [hv] at ixi
      have ap := app_two' (h := [intR.row 3 c]) (b := 0) (lo := 0) (c := c) r.x0 r.x1 rfl (Nat.le_refl _) (by omega)
      have ih := ih (c ++ [r.x0, r.x1]) (by simp; omega)
      rw [xsL_cons, ← List.append_assoc]
      simp -implicitDefEqProofs [k43_7, -List.append_assoc] at ih
      simp -implicitDefEqProofs [r43_7, k43_7, hi, ixi, Rec.o_len hm, rect_val, lit_two, ap, hw, trim_le, -List.append_assoc]
      exact ih
  · simp -implicitDefEqProofs [k43_3, Rec.sl_nil]
  · rfl
  · intro nx i c hi _
    simp -implicitDefEqProofs [r43_3, k43_3, hi, Rec.o_len hk, trim_le, xsL]
  · intro nx i r rest c hi hv hd hw hc ih
    have ixi := Rec.o_index (R := rectR) (t := 55) (kk := .i64) (s := 4) rfl hk hi
    rw [hv] at ixi
    have ap := app_two' (h := [intR.row 3 c]) (b := 0) (lo := 0) (c := c) r.x0 r.x1 rfl (Nat.le_refl _) (by omega)
    have ih := ih (c ++ [r.x0, r.x1]) (by simp; omega)
    rw [xsL_cons, ← List.append_assoc]
    simp -implicitDefEqProofs [k43_3, -List.append_assoc] at ih
    simp -implicitDefEqProofs [r43_3, k43_3, hi, ixi, Rec.o_len hk, rect_val, lit_two, ap, hw, trim_le, -List.append_assoc]
    exact ih
theorem ints_spec (l r : List Int) (hl : l.length ≤ 1000000) : pureCall E.P (L E) 46 [iT l, iT r] = some (.bool (decide (l = r))) := by
  rw [pureCall_fn F46 rfl]
  simp -implicitDefEqProofs [r46, padS, iT_len]
  by_cases hlen : l.length = r.length
  · simp -implicitDefEqProofs [hlen]
    rw [LL_for (γ := Unit) l () (fun i _ => [(5, .int .i64 i)]) (fun _ _ => []) (fun i rest _ => if eqL rest (r.drop i) then (.exit 0, [(5, undef)], []) else (.ret, [(4, .bool false), (5, undef)], [])) (fun _ _ => True) (by omega) trivial]
    · cases h : eqL l r
      · have : ¬ l = r := of_decide_eq_false h
        simp -implicitDefEqProofs [this, k46_4, h]
      · have : l = r := of_decide_eq_true h
        simp -implicitDefEqProofs [this, k46_4, eqL]
    · simp -implicitDefEqProofs [k46_4]
    · rfl
    · intro nx i c hi _
      have hd0 : eqL [] (r.drop i) = true := by rw [List.drop_eq_nil_of_le (by omega)]; rfl
      rw [hd0]
      simp -implicitDefEqProofs [r46_4, k46_4, iT_len, hi, hlen, trim_le]
    · intro nx i v rest c hi hv hd hw _ ih
      have ih := ih () trivial
      have hi' : i < r.length := by omega
      have hrd : r.drop i = r[i] :: r.drop (i + 1) := List.drop_eq_getElem_cons hi'
      have ixl := iT_index hi
      have ixr := iT_index hi'
      rw [hv] at ixl
      rw [hrd, eqL_cons]
      simp -implicitDefEqProofs [k46_4] at ih
      by_cases he : v = r[i]
      · rw [he] at ixl
        simp -implicitDefEqProofs [r46_4, k46_4, iT_len, hi', hlen, ixl, ixr, hw, he, trim_le]
        exact ih
      · simp -implicitDefEqProofs [r46_4, k46_4, iT_len, hi', hlen, ixl, ixr, he, trim_le]
  · have : ¬ l = r := fun e => hlen (by rw [e])
    have hlen' : ¬ ((l.length : Int) = r.length) := by omega
    simp -implicitDefEqProofs [hlen', this]
end Go.Proofs.Ytimjfondgdhfcaa.Bm
