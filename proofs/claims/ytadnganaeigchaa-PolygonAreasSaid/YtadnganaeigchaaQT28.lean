/-
 Chapter 07: the outline of a right region, with its laws. Conditions: none.
-/
import Derived.Test.YtadnganaeigchaaQT27
import Derived.Test.YtadnganaeigchaaQT16
namespace Go.Proofs.Ytadnganaeigchaa.Bm
open Go Go.RowKit
open Rg (Rect Pt sgnI turnI minP ltPo)
theorem sign_spec (n : Int) : pureCall E.P (L E) 42 [.int .i64 n] = some (.int .i64 (sgnI n)) := by
 rw [pureCall_fn F42 rfl]
 unfold sgnI
 simp -implicitDefEqProofs [r42, p42, min_int, max_int]
def nearS (s : Pt × Pt) : Prop := 0 ≤ s.1.1 ∧ s.1.1 ≤ 1048576 ∧ 0 ≤ s.1.2 ∧ s.1.2 ≤ 1048576 ∧ 0 ≤ s.2.1 ∧ s.2.1 ≤ 1048576 ∧ 0 ≤ s.2.2 ∧ s.2.2 ≤ 1048576
theorem sgn_le (n : Int) : -1 ≤ sgnI n ∧ sgnI n ≤ 1 := by unfold sgnI; omega
theorem sgn_cases (n : Int) : sgnI n = -1 ∨ sgnI n = 0 ∨ sgnI n = 1 := by have := sgn_le n; omega
theorem sgn_mul (a b : Int) : IntKind.i64.wrap (sgnI a * sgnI b) = sgnI a * sgnI b ∧ -1 ≤ sgnI a * sgnI b ∧ sgnI a * sgnI b ≤ 1 := by
 rcases sgn_cases a with h | h | h <;> rcases sgn_cases b with g | g | g <;> rw [h, g] <;> decide
theorem turn_spec (s t : Pt × Pt) (hs : nearS s) (ht : nearS t) : pureCall E.P (L E) 20 [.agg ⟨[.int .i64 s.1.1, .int .i64 s.1.2, .int .i64 s.2.1, .int .i64 s.2.2]⟩, .agg ⟨[.int .i64 t.1.1, .int .i64 t.1.2, .int .i64 t.2.1, .int .i64 t.2.2]⟩] = some (.int .i64 (turnI s t)) := by
 obtain ⟨a1, a2, a3, a4, a5, a6, a7, a8⟩ := hs
 obtain ⟨b1, b2, b3, b4, b5, b6, b7, b8⟩ := ht
 have w1 : IntKind.i64.wrap (s.2.1 - s.1.1) = s.2.1 - s.1.1 := wrap64 (by omega) (by omega)
 have w2 : IntKind.i64.wrap (s.2.2 - s.1.2) = s.2.2 - s.1.2 := wrap64 (by omega) (by omega)
 have w3 : IntKind.i64.wrap (t.2.1 - t.1.1) = t.2.1 - t.1.1 := wrap64 (by omega) (by omega)
 have w4 : IntKind.i64.wrap (t.2.2 - t.1.2) = t.2.2 - t.1.2 := wrap64 (by omega) (by omega)
 have m1 := sgn_mul (s.2.1 - s.1.1) (t.2.2 - t.1.2)
 have m2 := sgn_mul (s.2.2 - s.1.2) (t.2.1 - t.1.1)
 have w5 : IntKind.i64.wrap (sgnI (s.2.1 - s.1.1) * sgnI (t.2.2 - t.1.2) - sgnI (s.2.2 - s.1.2) * sgnI (t.2.1 - t.1.1)) = turnI s t := wrap64 (by omega) (by omega)
 have g1 := sign_spec (s.2.1 - s.1.1)
 have g2 := sign_spec (s.2.2 - s.1.2)
 have g3 := sign_spec (t.2.1 - t.1.1)
 have g4 := sign_spec (t.2.2 - t.1.2)
 rw [pureCall_fn F20 rfl]
 simp -implicitDefEqProofs [r20, p20, ret0 m42, w1, w2, w3, w4, g1, g2, g3, g4, m1.1, m2.1, w5]
theorem cmpP_po (a b : Pt) : cmpP a b < 0 ↔ ltPo a b = true := cmpP_lt a b
theorem min_spec (x : Bool) (a : Pt) (l : List Pt) (hl : l.length ≤ 1000000) : pureCall E.P (L E) 22 [lst x (spanR.vals (a :: l)), .func (.func 23) ⟨[]⟩ ⟨[]⟩] = some (.agg ⟨[.int .i64 (minP a l).1, .int .i64 (minP a l).2]⟩) := by
 have ln : ∀ h, lenT .sl h (lst x (spanR.vals (a :: l))) = some (.int .i64 ((l.length : Int) + 1)) := fun h => (Rec.tree_len (R := spanR)).trans (by rw [List.length_cons]; rfl)
 have ix0 : indexAddrT (.sl 42 ⟨some true, some 2⟩) (lst x (spanR.vals (a :: l))) (.int .i64 0) = some (cptr (spanR.val a)) := Rec.index_tree (R := spanR) (l := a :: l) (i := 0) rfl (by simp)
 have ix : ∀ (i : Nat) (hi : i < l.length), indexAddrT (.sl 42 ⟨some true, some 2⟩) (lst x (spanR.vals (a :: l))) (.int .i64 ((i + 1 : Nat) : Int)) = some (cptr (spanR.val l[i])) := fun i hi => Rec.index_tree (R := spanR) (l := a :: l) (i := i + 1) rfl (by simp; omega)
 have bP : ∀ d n, below (d + 1) n (lst x (spanR.vals (a :: l))) = true := fun d n => rfl
 rw [pureCall_fn F22 rfl]
 generalize lst x (spanR.vals (a :: l)) = V at *
 have n1 : ¬ ((l.length : Int) + 1 < 1) := by omega
 rw [span_val] at ix0
 simp -implicitDefEqProofs [r22, p22, ln, n1, ix0]
 rw [LL_for (γ := Pt) l a (fun i _ => [(6, .int .i64 ((i + 1 : Nat) : Int))]) (fun _ m => [.cells 42 [.int .i64 0, .int .i64 0] 0, .cells 42 [.int .i64 m.1, .int .i64 m.2] 0])
  (fun _ rest m => (.exit 0, [(6, undef)], [.cells 42 [.int .i64 0, .int .i64 0] 0, .cells 42 [.int .i64 (minP m rest).1, .int .i64 (minP m rest).2] 0])) (fun _ _ => True) (by omega) trivial]
 ·simp -implicitDefEqProofs [k22_5]
 ·simp -implicitDefEqProofs [k22_5]
 ·rfl
 ·intro nx i m hi _
  have h1 : ¬ (((i + 1 : Nat) : Int) < (l.length : Int) + 1) := by omega
  have h2 : minP m [] = m := rfl
  simp -implicitDefEqProofs [r22_5, k22_5, ln, h1, h2, trim_le, -Int.natCast_add]
 ·intro nx i v rest m hi hv hd hw _ ih
  have ixi := ix i hi
  rw [hv, span_val] at ixi
  have h1 : ((i + 1 : Nat) : Int) < (l.length : Int) + 1 := by omega
  have wi : IntKind.i64.wrap (((i + 1 : Nat) : Int) + 1) = ((i + 1 + 1 : Nat) : Int) := (wrap64 (by omega) (by omega)).trans (by omega)
  have cs := compare_spec v m
  have e : minP m (v :: rest) = minP (if ltPo v m = true then v else m) rest := rfl
  have iv := ih v trivial
  have im := ih m trivial
  rw [e]
  simp -implicitDefEqProofs [k22_5, -Int.natCast_add] at iv im
  by_cases q : cmpP v m < 0
  ·rw [if_pos ((cmpP_po v m).1 q)]
   simp -implicitDefEqProofs [r22_5, k22_5, ln, h1, ixi, ret0 m23, cs, q, wi, trim_le, -Int.natCast_add]
   exact iv
  ·rw [if_neg fun q' => q ((cmpP_po v m).2 q')]
   simp -implicitDefEqProofs [r22_5, k22_5, ln, h1, ixi, ret0 m23, cs, q, wi, trim_le, -Int.natCast_add]
   exact im
theorem eql2 (a b c d : Int) : aBin E.P .eql 42 (.agg ⟨[.int .i64 a, .int .i64 b]⟩) (.agg ⟨[.int .i64 c, .int .i64 d]⟩) = (allOf [some (a == c), some (b == d)]).map .bool := by kernel_rfl
theorem eql_point (s t : Pt) : aBin E.P .eql 42 (.agg ⟨[.int .i64 s.1, .int .i64 s.2]⟩) (.agg ⟨[.int .i64 t.1, .int .i64 t.2]⟩) = some (.bool (decide (t = s))) := by
 obtain ⟨a, b⟩ := s
 obtain ⟨c, d⟩ := t
 have e : ∀ x y : Int, (x == y) = decide (y = x) := fun x y => by
  by_cases h : y = x
  ·simp [h]
  ·have : ¬ x = y := fun e => h e.symm
   simp [h, this]
 rw [eql2, e a c, e b d, allOf_two]
 simp
theorem indexP_spec (x : Bool) (p : List Pt) (m : Pt) (hp : p.length ≤ 1000000) (hm : m ∈ p) : pureCall E.P (L E) 21 [lst x (spanR.vals p), .agg ⟨[.int .i64 m.1, .int .i64 m.2]⟩] = some (.int .i64 (p.idxOf m : Int)) := by
 have ln : ∀ h, lenT .sl h (lst x (spanR.vals p)) = some (.int .i64 p.length) := fun h => Rec.tree_len (R := spanR)
 have ix : ∀ (i : Nat) (hi : i < p.length), indexAddrT (.sl 42 ⟨some true, some 2⟩) (lst x (spanR.vals p)) (.int .i64 (i : Int)) = some (cptr (spanR.val p[i])) := fun i hi => Rec.index_tree (R := spanR) rfl hi
 rw [pureCall_fn F21 rfl]
 generalize lst x (spanR.vals p) = V at *
 simp -implicitDefEqProofs [r21, p21, ln]
 rw [LL_for (γ := Unit) p () (fun i _ => [(8, .int .i64 i)]) (fun _ _ => [.cells 42 [.int .i64 m.1, .int .i64 m.2] 0]) (fun i rest _ => if m ∈ rest then (.ret, [(4, .int .i64 ((i + rest.idxOf m : Nat) : Int)), (8, undef)], [.cells 42 [.int .i64 m.1, .int .i64 m.2] 0]) else (.exit 0, [(8, undef)], [.cells 42 [.int .i64 m.1, .int .i64 m.2] 0])) (fun _ _ => True) (by omega) trivial]
 ·simp -implicitDefEqProofs [k21_2, hm]
 ·simp -implicitDefEqProofs [k21_2]
 ·rfl
 ·intro nx i c hi _
  simp -implicitDefEqProofs [r21_2, k21_2, ln, hi, trim_le]
 ·intro nx i v rest c hi hv hd hw _ ih
  have ih := ih () trivial
  have ixi := ix i hi
  rw [hv, span_val] at ixi
  have eq := eql_point m v
  rw [List.idxOf_cons]
  simp -implicitDefEqProofs [k21_2, -Int.natCast_add] at ih
  by_cases q : v = m
  ·subst q
   simp -implicitDefEqProofs [r21_2, k21_2, ln, hi, ixi, eq, trim_le]
  ·have q' : ¬ m = v := fun e => q e.symm
   have e1 : (v == m) = false := by simpa using q
   have e2 : i + (rest.idxOf m + 1) = i + 1 + rest.idxOf m := by omega
   simp -implicitDefEqProofs [r21_2, k21_2, ln, hi, ixi, eq, q, q', e1, e2, hw, trim_le, -Int.natCast_add]
   exact ih
theorem points_grow (n : Nat) (h : Heap) (lo : Nat) (hn : n ≤ 1000000) : L E 45 [.slice none 0 0, .int .i64 (n : Int)] h lo =
  some (if n = 0 then (.slice none 0 0, h) else (.slice (some ⟨h.length, 0, some (n * 2)⟩) 0 n, h ++ [spanR.row 42 (List.replicate n (0, 0))])) := by
 have sn : sliceT (.sl 42 ⟨some true, some 2⟩) h (.slice none 0 0) none (some (.int .i64 0)) none = some (.slice none 0 0) := Rec.slice_none rfl
 have w1 : IntKind.i64.wrap (n : Int) = n := wrap64 (by omega) (by omega)
 have w0 : IntKind.i64.wrap 0 = 0 := rfl
 rw [L_fn F45 rfl]
 simp -implicitDefEqProofs [r45, padS]
 by_cases h0 : n = 0
 ·subst h0
  simp -implicitDefEqProofs [cap_nil, w0]
 ·have h1 : 0 < n := by omega
  have h2 : ¬ ((n : Int) < 0) := by omega
  have ap := Rec.appN (R := spanR) (el := ⟨42, 2, 16, .agg ⟨[.int .i64 0, .int .i64 0]⟩, ⟨some true, some 2⟩⟩) (h := h) (n := n) (k := .i64) (a := (0, 0)) rfl rfl h1 (by show n * 16 ≤ 2 ^ 47; omega)
  have sl := Rec.slice_row0 (R := spanR) (e := 42) (t := 42) (g := some true) (h := h ++ [spanR.row 42 (List.replicate n (0, 0))]) (b := h.length) (n := n) (l := List.replicate n (0, 0)) (k := .i64) rfl (by simp) (by simp)
  simp only [show spanR.m + 1 = 2 from rfl] at ap sl
  simp -implicitDefEqProofs [h0, h1, h2, cap_nil, sn, w0, w1, ap, sl]
theorem points_concat (x : Bool) (P : List (Option Bool × List (Int × Int))) (hok : ∀ p ∈ P, Rec.Ok p.1 p.2) (hP : P.length ≤ 1000) (ht : tot P ≤ 1000000) :
  pureCall E.P (L E) 24 [lst x (P.map fun p => spanR.o p.1 p.2)] = some (spanR.o (if tot P = 0 then none else some false) (allP P)) := by
 have okI : ∀ (i : Nat) (hi : i < P.length), Rec.Ok (P[i]).1 (P[i]).2 := fun i hi => hok _ (List.getElem_mem hi)
 have ix : ∀ (i : Nat) (hi : i < P.length), indexAddrT (.sl 22 ⟨some false, some 1⟩) (lst x (P.map fun p => spanR.o p.1 p.2)) (.int .i64 (i : Int)) = some (cptr (spanR.o (P[i]).1 (P[i]).2)) := fun i hi => by
  have e : (P.map fun p => spanR.o p.1 p.2)[i]? = some (spanR.o (P[i]).1 (P[i]).2) := by simp [hi]
  rw [index_lst, if_pos (by omega), show ((i : Int)).toNat = i by omega, e, Option.bind_some, if_pos (by rw [Rec.o_fits, Rec.o_cells1]; rfl)]
 have gr := points_grow (tot P)
 rw [pureCall_fn F24 rfl]
 simp -implicitDefEqProofs [r24, padS]
 rw [LL_for (γ := Nat) P 0 (fun i c => [(3, .int .i64 (c : Int)), (11, .int .i64 i)]) (fun _ _ => []) (fun i rest c => (.exit 0, [(3, .int .i64 ((c + tot rest : Nat) : Int)), (11, undef)], [])) (fun i c => c + tot (P.drop i) ≤ 1000000) (by omega) (by simpa using ht)]
 ·rw [Nat.zero_add]
  simp -implicitDefEqProofs [k24_3, ret2 m45, gr, ht]
  by_cases h0 : tot P = 0
  ·have hz := tot_zero h0
   have ha : allP P = [] := List.eq_nil_of_length_eq_zero (by rw [tot_all, h0])
   simp -implicitDefEqProofs [h0, ha]
   rw [LL_for (γ := Unit) P () (fun i _ => [(27, .int .i64 i)]) (fun _ _ => []) (fun _ _ _ => (.exit 2, [(27, undef)], [])) (fun _ _ => True) (by omega) trivial]
   ·simp -implicitDefEqProofs [k24_11, Rec.o]
   ·simp -implicitDefEqProofs [k24_11]
   ·rfl
   ·intro nx i c hi _
    simp -implicitDefEqProofs [r24_11, k24_11, hi, trim_le]
   ·intro nx i p rest c hi hv hd hw _ ih
    have ih := ih () trivial
    have hp := okI i hi
    have ixi := ix i hi
    rw [hv] at hp ixi
    have hpe := hz p (hv ▸ List.getElem_mem hi)
    have cl : sliceCells [] 2 (spanR.o p.1 p.2) = some ([], 0) := (Rec.o_cells (R := spanR) (s := 2) rfl hp).trans (by rw [hpe]; rfl)
    simp -implicitDefEqProofs [k24_11] at ih
    simp -implicitDefEqProofs [r24_11, k24_11, hi, ixi, Rec.o_fits, append_nil, cl, hw, trim_le]
    exact ih
  ·have h1 : 0 < tot P := by omega
   simp -implicitDefEqProofs [h0]
   rw [LL_for (γ := List (Int × Int)) P [] (fun i c => [(6, .slice (some ⟨0, 0, some (tot P * 2)⟩) c.length (tot P)), (27, .int .i64 i)]) (fun _ c => [spanR.row 42 (c ++ List.replicate (tot P - c.length) (0, 0))])
    (fun _ rest c => (.exit 2, [(6, .slice (some ⟨0, 0, some (tot P * 2)⟩) (c ++ allP rest).length (tot P)), (27, undef)], [spanR.row 42 ((c ++ allP rest) ++ List.replicate (tot P - (c ++ allP rest).length) (0, 0))])) (fun i c => c.length + tot (P.drop i) = tot P) (by omega) (by simp)]
   ·have e : [] ++ allP P = allP P := rfl
    have e2 : tot P - (allP P).length = 0 := by rw [tot_all]; omega
    have rr := Rec.reify_row (R := spanR) (P := E.P) (h := [spanR.row 42 (allP P)]) (b := 0) (n := 7) (t := 42) (l := allP P) rfl (by kernel_rfl) (by kernel_rfl)
    rw [e, e2, List.replicate_zero, List.append_nil]
    unfold Rec.sl at rr
    rw [tot_all] at rr ⊢
    simp only [show spanR.m + 1 = 2 from rfl] at rr
    simp -implicitDefEqProofs [k24_11, -reify_slice, rr, Rec.o]
   ·simp -implicitDefEqProofs [k24_11]
   ·simp
   ·intro nx i c hi _
    simp -implicitDefEqProofs [r24_11, k24_11, hi, trim_le, allP]
   ·intro nx i p rest c hi hv hd hw hc ih
    have hr : P.drop (i + 1) = rest := by rw [← List.drop_drop, hd]; rfl
    rw [hd] at hc
    have hc' : c.length + (p.2.length + tot rest) = tot P := hc
    have ih := ih (c ++ p.2) (by rw [hr, List.length_append]; omega)
    have hp := okI i hi
    have ixi := ix i hi
    rw [hv] at hp ixi
    have e : c ++ allP (p :: rest) = c ++ p.2 ++ allP rest := by
     show c ++ (p.2 ++ allP rest) = _
     rw [List.append_assoc]
    have ap := Rec.app_fill (R := spanR) (el := ⟨42, 2, 16, .agg ⟨[.int .i64 0, .int .i64 0]⟩, ⟨some true, some 2⟩⟩) (h := [spanR.row 42 (c ++ List.replicate (tot P - c.length) (0, 0))]) (lo := 0) (b := 0) (n := tot P) (r := tot P - c.length) (t := 42) (acc := c) (m := p.2) (z := (0, 0)) (u := spanR.o p.1 p.2)
     rfl rfl (by omega) (Rec.o_cells rfl hp) (Nat.le_refl _) (by omega)
    simp only [show spanR.m + 1 = 2 from rfl] at ap
    have e3 : tot P - c.length - p.2.length = tot P - (c ++ p.2).length := by rw [List.length_append]; omega
    rw [e3] at ap
    rw [e]
    simp -implicitDefEqProofs [k24_11, -List.length_append] at ih
    simp -implicitDefEqProofs [r24_11, k24_11, hi, ixi, Rec.o_fits, ap, hw, trim_le, -List.length_append]
    exact ih
 ·simp -implicitDefEqProofs [k24_3]
 ·rfl
 ·intro nx i c hi _
  simp -implicitDefEqProofs [r24_3, k24_3, hi, trim_le, tot]
 ·intro nx i p rest c hi hv hd hw hc ih
  have hr : P.drop (i + 1) = rest := by rw [← List.drop_drop, hd]; rfl
  rw [hd] at hc
  have hc' : c + (p.2.length + tot rest) ≤ 1000000 := hc
  have ih := ih (c + p.2.length) (by rw [hr]; omega)
  have w1 : IntKind.i64.wrap ((c : Int) + (p.2.length : Int)) = ((c + p.2.length : Nat) : Int) := by rw [wrap64 (by omega) (by omega)]; rfl
  have e : c + tot (p :: rest) = c + p.2.length + tot rest := by show c + (p.2.length + tot rest) = _; omega
  have hp := okI i hi
  rw [hv] at hp
  have ixi := ix i hi
  rw [hv] at ixi
  have hneg : ¬ (((c + p.2.length : Nat) : Int) < 0) := by omega
  rw [e]
  simp -implicitDefEqProofs [k24_3, -Int.natCast_add] at ih
  simp -implicitDefEqProofs [r24_3, k24_3, hi, ixi, Rec.o_fits, Rec.o_len hp, w1, hneg, hw, trim_le, -Int.natCast_add]
  exact ih
end Go.Proofs.Ytadnganaeigchaa.Bm
namespace Go.Proofs.Ytadnganaeigchaa.Bm
open Go Go.RowKit
open Rg (Rect Pt turnI gtS fromI pickI nxI cornF trc freeN waysF waysL loopsL rotM minP bdL Net)
def encP (p : Pt) : Value := .agg ⟨[.int .i64 p.1, .int .i64 p.2]⟩
theorem p_ok (k : Pt) : keyOk E.P 4 42 (encP k) = true := by kernel_rfl
theorem p_eq0 (a b : Pt) : aKeyEq E.P 42 (encP a) (encP b) = allOf [some (a.1 == b.1), some (a.2 == b.2)] := by kernel_rfl
theorem keyP : KeyEnc E.P 42 encP where
 flat k := by simp [encP, flat, atom]
 ok := p_ok
 eq a b := by
  rw [p_eq0, allOf_two]
  obtain ⟨a1, a2⟩ := a
  obtain ⟨b1, b2⟩ := b
  by_cases h1 : a1 = b1 <;> by_cases h2 : a2 = b2 <;> simp [h1, h2]
 bits a := by
  obtain ⟨a1, a2⟩ := a
  show Instr.sameBits 10000 (.agg ⟨[.int .i64 a1, .int .i64 a2]⟩) (.agg ⟨[.int .i64 a1, .int .i64 a2]⟩) = true
  simp [Instr.sameBits]
theorem obj_sub7 {h : Heap} {b j n : Nat} {t : TypeId} {c : List Value} (hob : h[b]? = some (.cells t c 0)) (hn : j + n ≤ c.length) : loadT ⟨some true, some n⟩ h (cAt b j) = some (.agg ⟨(c.drop j).take n⟩) := by
 unfold cAt
 rw [load_agg, obj_row hob, Option.bind_some]
 show (if j + n ≤ c.length then some (Value.agg ((c.drop j).take n).toArray) else none) = _
 rw [if_pos hn]
def elI : El := ⟨3, 1, 8, .int .i64 0, ⟨some false, some 1⟩⟩
def frI (l : List (Pt × Pt)) (n : Nat) (p : Pt) : List Int := ((List.range n).filter fun i => decide ((gtS l i).1 = p)).map fun (i : Nat) => (i : Int)
theorem fr_all (l : List (Pt × Pt)) (p : Pt) : frI l l.length p = (fromI l p).map fun (i : Nat) => (i : Int) := rfl
theorem fr_snoc {l : List (Pt × Pt)} {i : Nat} (hi : i < l.length) (p : Pt) : upd (fun p => frI l i p) l[i].1 (frI l i l[i].1 ++ [(i : Int)]) p = frI l (i + 1) p := by
 unfold upd frI
 rw [List.range_succ, List.filter_append, List.map_append]
 by_cases q : l[i].1 = p
 ·rw [if_pos q, q]; simp [Rg.gt_get hi, q]
 ·rw [if_neg q]; simp [Rg.gt_get hi, q]
theorem fr_len (l : List (Pt × Pt)) (i : Nat) (p : Pt) : (frI l i p).length ≤ i := by
 unfold frI
 rw [List.length_map]
 have h := List.length_filter_le (fun i => decide ((gtS l i).1 = p)) (List.range i)
 rw [List.length_range] at h
 exact h
def ptsE : Enc (List Pt) := ⟨fun p => lst false (spanR.vals p), fun _ => rfl, fun _ _ => rfl, fun _ _ _ => rfl, fun _ _ => rfl⟩
def elPts : El := ⟨22, 1, 24, .slice none 0 0, ⟨some false, some 1⟩⟩
theorem lit_pts1 (h : Heap) (x : Bool) (p : List Value) : buildSliceT (some ⟨22, 1, 24, .slice none 0 0, ⟨some false, some 1⟩⟩) false h 1 #[(0, lst x p)] = some (lst true [lst x p], h) :=
 (build_lit' (n := 1) (l := [(0, _)]) rfl rfl (by decide) (by decide) (by decide)).trans rfl
theorem lit_pts2 (h : Heap) (x y : Bool) (p q : List Value) : buildSliceT (some ⟨22, 1, 24, .slice none 0 0, ⟨some false, some 1⟩⟩) false h 2 #[(0, lst x p), (1, lst y q)] = some (lst true [lst x p, lst y q], h) :=
 (build_lit' (n := 2) (l := [(0, _), (1, _)]) rfl rfl (by decide) (by decide) (by decide)).trans rfl
theorem lit_pt (h : Heap) (a b : Int) : buildSliceT (some ⟨42, 2, 16, .agg ⟨[.int .i64 0, .int .i64 0]⟩, ⟨some true, some 2⟩⟩) false h 1 #[(0, .agg ⟨[.int .i64 a, .int .i64 b]⟩)] = some (lst true [.agg ⟨[.int .i64 a, .int .i64 b]⟩], h) :=
 (build_lit' (n := 1) (l := [(0, .agg ⟨[.int .i64 a, .int .i64 b]⟩)]) rfl rfl (by decide) (by decide) (by decide)).trans rfl
theorem app_pt {h : Heap} {b lo : Nat} {c : List Pt} (s : Pt) (hob : h[b]? = some (spanR.row 42 c)) (hlo : lo ≤ b) (hc : c.length ≤ 1000000) :
  appendT (some ⟨42, 2, 16, .agg ⟨[.int .i64 0, .int .i64 0]⟩, ⟨some true, some 2⟩⟩) h lo false (spanR.sl b c) (lst true [.agg ⟨[.int .i64 s.1, .int .i64 s.2]⟩]) = some (spanR.sl b (c ++ [s]), h.set b (spanR.row 42 (c ++ [s]))) :=
 Rec.app (R := spanR) (m := [s]) rfl hob (Rec.cells_tree (R := spanR) rfl [s]) hlo (by show (c.length + 1) * 16 ≤ 2 ^ 47; omega)
theorem pts_set {x y : Bool} {p q : List Pt} : settled depth (lst true [lst x (spanR.vals p), lst y (spanR.vals q)]) = true := rfl
theorem zP : szOf E.P 42 = some 2 := by kernel_rfl
theorem aPt7 : aggT E.P 42 = some true := by kernel_rfl
theorem zPs : szOf E.P 22 = some 1 := by kernel_rfl
theorem aPs : aggT E.P 22 = some false := by kernel_rfl
theorem rot_spec (h : Heap) (P : List Pt) (hP : P ≠ []) (hl : P.length ≤ 500000) :
  ∃ (m : Pt) (k : Nat), pureCall E.P (L E) 22 [lst false (spanR.vals P), .func (.func 23) ⟨[]⟩ ⟨[]⟩] = some (.agg ⟨[.int .i64 m.1, .int .i64 m.2]⟩) ∧
   pureCall E.P (L E) 21 [lst false (spanR.vals P), .agg ⟨[.int .i64 m.1, .int .i64 m.2]⟩] = some (.int .i64 ((k : Nat) : Int)) ∧
   ∃ x y, sliceT (.sl 42 ⟨some true, some 2⟩) h (lst false (spanR.vals P)) (some (.int .i64 ((k : Nat) : Int))) none none = some (lst x (spanR.vals (P.drop k))) ∧
    sliceT (.sl 42 ⟨some true, some 2⟩) h (lst false (spanR.vals P)) none (some (.int .i64 ((k : Nat) : Int))) none = some (lst y (spanR.vals (P.take k))) ∧
    pureCall E.P (L E) 24 [lst true [lst x (spanR.vals (P.drop k)), lst y (spanR.vals (P.take k))]] = some (lst false (spanR.vals (rotM P))) := by
 cases P with
 | nil => exact absurd rfl hP
 | cons a l =>
  have ll : (a :: l).length = l.length + 1 := rfl
  have hm : minP a l ∈ a :: l := by
   rcases (Rg.minP_told l a).1 with e | e
   ·rw [e]; exact List.mem_cons_self ..
   ·exact List.mem_cons_of_mem _ e
  have hk : (a :: l).idxOf (minP a l) < (a :: l).length := List.idxOf_lt_length_iff.2 hm
  have e : rotM (a :: l) = (a :: l).drop ((a :: l).idxOf (minP a l)) ++ (a :: l).take ((a :: l).idxOf (minP a l)) := rfl
  refine ⟨minP a l, (a :: l).idxOf (minP a l), min_spec false a l (by omega), indexP_spec false (a :: l) (minP a l) (by omega) hm, false, (false && (a :: l).idxOf (minP a l) == (spanR.vals (a :: l)).length), ?_, ?_, ?_⟩
  ·rw [slice_drop (s := 2) (Rec.vals_all (R := spanR) _) rfl (by rw [Rec.vals_len]; omega)]
   unfold Rec.vals; rw [List.map_drop]
  ·rw [slice_take (s := 2) (Rec.vals_all (R := spanR) _) (by rw [Rec.vals_len]; omega)]
   unfold Rec.vals; rw [List.map_take]
  ·have pc := points_concat true [(some false, (a :: l).drop ((a :: l).idxOf (minP a l))), (some (false && (a :: l).idxOf (minP a l) == (spanR.vals (a :: l)).length), (a :: l).take ((a :: l).idxOf (minP a l)))] (by
    intro p hp
    rcases List.mem_cons.1 hp with e | e
    ·subst e; exact Rec.ok_some
    ·rw [List.mem_singleton] at e; subst e; exact Rec.ok_some) (by show 2 ≤ 1000; decide) (by
    show (List.drop _ _).length + ((List.take _ _).length + 0) ≤ 1000000
    rw [List.length_drop, List.length_take]; omega)
   have ht : tot [(some false, (a :: l).drop ((a :: l).idxOf (minP a l))), (some (false && (a :: l).idxOf (minP a l) == (spanR.vals (a :: l)).length), (a :: l).take ((a :: l).idxOf (minP a l)))] ≠ 0 := by
    show (List.drop _ _).length + ((List.take _ _).length + 0) ≠ 0
    rw [List.length_drop]; omega
   rw [if_neg ht] at pc
   have ea : allP [((some false : Option Bool), (a :: l).drop ((a :: l).idxOf (minP a l))), (some (false && (a :: l).idxOf (minP a l) == (spanR.vals (a :: l)).length), (a :: l).take ((a :: l).idxOf (minP a l)))] = rotM (a :: l) := by
    rw [e]
    show _ ++ (_ ++ []) = _
    rw [List.append_nil]
   rw [ea] at pc
   exact pc
def rowB (d : List Bool) : AObj := .cells 4 (d.map .bool) 0
theorem key_pts (p : List Pt) : keyD (ptsE.e p) = p.headD (0, 0) := by cases p <;> rfl
theorem key_some {p : List Pt} (h : p ≠ []) : (keyT (ptsE.e p)).isSome = true := by
 cases p with
 | nil => exact absurd rfl h
 | cons a l => rfl
def leP (p q : List Pt) : Bool := leV (ptsE.e p) (ptsE.e q)
def outL (l : List (Pt × Pt)) : List (List Pt) := (loopsL l).mergeSort leP
theorem sort_pts {l : List (Pt × Pt)} (hl : Net l) : sortPF (ptsE.vals (loopsL l)) = some (ptsE.vals (outL l)) := by
 have h1 : okK (ptsE.vals (loopsL l)) = true := by
  unfold okK
  rw [Bool.and_eq_true, List.all_eq_true, decide_eq_true_eq]
  refine ⟨fun v hv => ?_, ?_⟩
  ·obtain ⟨p, hp, rfl⟩ := List.mem_map.1 hv
   obtain ⟨m, r, e, _⟩ := (Rg.loops_ok hl p hp).least
   exact key_some (by rw [e]; simp)
  ·have e : (ptsE.vals (loopsL l)).map keyD = (loopsL l).map fun p => p.headD (0, 0) := by
    unfold Enc.vals
    rw [List.map_map]
    exact List.map_congr_left fun p _ => key_pts p
   rw [e]; exact Rg.loops_heads hl
 unfold sortPF
 rw [if_pos h1]
 congr 1
 exact (List.map_mergeSort (r := leP) (s := leV) (f := ptsE.e) (l := loopsL l) fun a _ b _ => rfl).symm
theorem sortP_spec {h : Heap} {b lo : Nat} {l : List (Pt × Pt)} (hl : Net l) (hob : h[b]? = some (ptsE.row 22 (loopsL l))) (hlo : lo ≤ b) (hn : (loopsL l).length ≤ 1000000) :
  L E 25 [Enc.sl b (loopsL l), .func (.func 26) ⟨[]⟩ ⟨[]⟩] h lo = some (.tuple #[], h.set b (ptsE.row 22 (outL l))) := by
 rw [L_orc (g := inC 26 1 sortPF) rfl]
 unfold inC Enc.sl
 simp only
 rw [if_pos ⟨trivial, Nat.le_refl _⟩]
 have hso := sort_pts hl
 by_cases h0 : (loopsL l).length = 0
 ·rw [if_pos h0]
  have e0 : loopsL l = [] := List.eq_nil_of_length_eq_zero h0
  have e : outL l = loopsL l := by unfold outL; rw [e0, List.mergeSort_nil]
  rw [e, set_same hob]
 ·rw [if_neg h0]
  have hob' : h[b]? = some (.cells 22 (ptsE.vals (loopsL l)) 1) := hob
  have hl2 : (ptsE.vals (loopsL l)).length = (loopsL l).length := Enc.vals_len
  unfold inCR
  simp only [hob']
  rw [List.take_of_length_le (by omega), hso, Option.bind_some, if_pos ⟨hlo, by unfold stampOk; rw [hl2]; simp, trivial, by omega, by omega⟩]
  rw [List.drop_of_length_le (by omega), List.append_nil]; rfl
theorem outline_walk (k : Option Bool) (a : List Rect) (hk : Rec.Ok k a) (ha : a.length ≤ 200) (hr : regB a = true) (hnet : Net (bdL a)) (hlen : (bdL a).length ≤ 400000) (hnear : ∀ s ∈ bdL a, nearS s) : pureCall E.P (L E) 6 [rectR.o k a] = some (lst false (ptsE.vals (outL (bdL a)))) := by
 have hR := right2_spec k a hk (by omega)
 have hB := boundary_one k a hk ha
 rw [hr] at hR
 have rf : ∀ h, reify E.P 8 h (rectR.o k a) = some (rectR.o k a) := fun _ => Rec.o_reify
 have st : settled depth (rectR.o k a) = true := Rec.o_set
 have bA : ∀ d n, below (d + 1) n (rectR.o k a) = true := fun d n => Rec.o_bel
 have lS : ∀ h, lenT .sl h (lst false (sideR.vals (bdL a))) = some (.int .i64 (bdL a).length) := fun h => Rec.tree_len
 have ix : ∀ (i : Nat) (hi : i < (bdL a).length), indexAddrT (.sl 48 ⟨some true, some 4⟩) (lst false (sideR.vals (bdL a))) (.int .i64 (i : Int)) = some (cptr (sideR.val (bdL a)[i])) := fun i hi => Rec.index_tree rfl hi
 have bS : ∀ d n, below (d + 1) n (lst false (sideR.vals (bdL a))) = true := fun d n => rfl
 rw [pureCall_fn F6 rfl]
 generalize rectR.o k a = VA at *
 generalize lst false (sideR.vals (bdL a)) = VS at *
 generalize bdL a = l at *
 simp -implicitDefEqProofs [r6, p6, ret0 m18, rf, hR, ret1 m19, st, hB, lS]
 generalize hX : LL _ _ _ _ = X
 obtain ⟨u, g, rfl, g0, gM⟩ := LL_uxk hX (α := Nat × List (Pt × Value) × (Pt → Nat) × Heap) (U := List (Pt × Value) × (Pt → Nat)) (0, [], fun _ => 0, [mapB encP []]) (fun c => [(24, .int .i64 (c.1 : Int))]) (fun c => c.2.2.2) (.exit 0) (fun _ => [(24, undef)])
   (fun u g => g[0]? = some (mapB encP u.1) ∧ MR intR 3 1 g u.1 u.2 (fun p => frI l l.length p))
   (fun c => c.1 ≤ l.length ∧ c.2.2.2[0]? = some (mapB encP c.2.1) ∧ MR intR 3 1 c.2.2.2 c.2.1 c.2.2.1 (fun p => frI l c.1 p)) (fun c => l.length - c.1)
  ⟨Nat.zero_le _, rfl, MR.init.congr fun p => rfl⟩
  (by simp -implicitDefEqProofs [k6_6]) rfl (by
  intro nx c hc ih
  obtain ⟨i, m, bl, g⟩ := c
  obtain ⟨h1, h2, h3⟩ := hc
  simp only at h1 h2 h3
  have hgl := get_lt h2
  by_cases hi : i < l.length
  ·have e0 := ix i hi
   rw [side_val] at e0
   have eP : l[i].1 = (l[i].1.1, l[i].1.2) := rfl
   have q0 : (g ++ [.cells 48 [.int .i64 l[i].1.1, .int .i64 l[i].1.2, .int .i64 l[i].2.1, .int .i64 l[i].2.2] 0])[0]? = some (mapB encP m) := by rw [List.getElem?_append_left hgl]; exact h2
   have en := entry_map (P := E.P) (lo := 0) (zv := .slice none 0 0) (k := l[i].1) keyP q0 (Nat.le_refl _)
   have ld : loadT ⟨some true, some 2⟩ (g ++ [.cells 48 [.int .i64 l[i].1.1, .int .i64 l[i].1.2, .int .i64 l[i].2.1, .int .i64 l[i].2.2] 0]) (.pointer (some ⟨g.length, 0, none⟩)) = some (encP l[i].1) := obj_sub7 (b := g.length) (j := 0) (n := 2) (c := [.int .i64 l[i].1.1, .int .i64 l[i].1.2, .int .i64 l[i].2.1, .int .i64 l[i].2.2]) end0 (by show 0 + 2 ≤ 4; omega)
   have M0 : MR intR 3 1 (g ++ [.cells 48 [.int .i64 l[i].1.1, .int .i64 l[i].1.2, .int .i64 l[i].2.1, .int .i64 l[i].2.2] 0]) m bl (fun p => frI l i p) := h3.keep fun o x _ hx => by rw [List.getElem?_append_left (get_lt hx)]; exact hx
   generalize hG : g ++ [AObj.cells 48 [.int .i64 l[i].1.1, .int .i64 l[i].1.2, .int .i64 l[i].2.1, .int .i64 l[i].2.2] 0] = G at *
   generalize hu : (aget m l[i].1).getD (.slice none 0 0) = u at *
   have M1 : MR intR 3 1 (G.set 0 (mapB encP (aset m l[i].1 u))) m bl (fun p => frI l i p) := M0.keep fun o x ho hx => by rw [List.getElem?_set_ne (by omega)]; exact hx
   have m1 : (G.set 0 (mapB encP (aset m l[i].1 u)))[0]? = some (mapB encP (aset m l[i].1 u)) := by rw [List.getElem?_set_self (get_lt q0)]
   obtain ⟨h', bl', ap, M2, hl1, hk1⟩ := M1.add (el := elI) (l0 := 0) (Nat.zero_le _) (get_lt m1) l[i].1 (i : Int) (u := lst true [.int .i64 (i : Int)]) rfl (fun h => cells_lst (by rfl)) (by have := fr_len l i l[i].1; show (_ + 1) * 8 ≤ 2 ^ 47; omega)
   rw [hu] at ap
   have m2 := hk1 _ _ (by omega) m1
   have st := store_map (lo := 0) (k := l[i].1) (x := intR.sl (bl' l[i].1) (frI l i l[i].1 ++ [(i : Int)])) (n := (aidx m l[i].1 : Int)) m2 (Nat.le_refl _) (by rw [aget_set, if_pos rfl]; simp) (by rw [aidx_set])
   rw [aset_set] at st
   have M2 := M2.congr (fr_snoc hi)
   generalize intR.sl (bl' l[i].1) (frI l i l[i].1 ++ [(i : Int)]) = v at *
   generalize aset m l[i].1 v = m' at *
   have m3 : (h'.set 0 (mapB encP m'))[0]? = some (mapB encP m') := by rw [List.getElem?_set_self (get_lt m2)]
   have M3 : MR intR 3 1 (h'.set 0 (mapB encP m')) m' bl' (fun p => frI l (i + 1) p) := M2.keep fun o x ho hx => by rw [List.getElem?_set_ne (by omega)]; exact hx
   have wi : IntKind.i64.wrap ((i : Int) + 1) = ((i + 1 : Nat) : Int) := (wrap64 (by omega) (by omega)).trans (by omega)
   unfold elI at ap
   have ih := fun vs => ih (i + 1, m', bl', trim g.length vs (h'.set 0 (mapB encP m'))) (by show l.length - (i + 1) < l.length - i; omega) ⟨hi, trim_get hgl m3, M3.trim m3 hgl⟩
   generalize encP l[i].1 = kp at *
   simp -implicitDefEqProofs [k6_6] at ih
   simp -implicitDefEqProofs [r6_6, k6_6, hi, e0, hG, ld, lit_num, en, ap, st, wi]
   exact ih _
  ·have e : i = l.length := by omega
   refine ⟨(m, bl), g, ?_, h2, by rw [e] at h3; exact h3⟩
   simp -implicitDefEqProofs [r6_6, k6_6, hi, trim_le])
 obtain ⟨lm, bl⟩ := u
 simp only at g0 gM
 have mk := make_one (h := g) (el := ⟨4, 1, 1, .bool false, ⟨some false, some 1⟩⟩) (n := l.length) (k := .i64) (k' := .i64) rfl rfl (by omega) (by decide)
 have ez : List.replicate l.length (Value.bool false) = (List.replicate l.length false).map .bool := by rw [List.map_replicate]
 rw [ez] at mk
 have rB : ∀ k, aget lm k ≠ none → 1 ≤ bl k ∧ bl k < g.length := fun k hk => gM.lt hk
 have hgl := get_lt g0
 have wl : waysF (nxI l) l.length l.length 0 (List.replicate l.length false) = waysL l := rfl
 generalize hD : g.length = D at *
 have M0 : MR intR 3 1 (g ++ [rowB (List.replicate l.length false), ptsE.row 22 []]) lm bl (fun p => frI l l.length p) := gM.keepB fun k x hk hx => by rw [List.getElem?_append_left (get_lt hx)]; exact hx
 simp -implicitDefEqProofs [k6_6, lS, mk, prep_new, newK_nil zPs, hD]
 generalize hX : LL _ _ _ _ = X
 obtain ⟨o, h, rfl, oe, hB, hol⟩ := LL_uxk hX (α := Nat × List Bool × List (List Pt) × Heap) (U := List (List Pt)) (0, List.replicate l.length false, [], g ++ [rowB (List.replicate l.length false), ptsE.row 22 []]) (fun c => [(8, Enc.sl (D + 1) c.2.2.1), (44, .int .i64 (c.1 : Int))]) (fun c => c.2.2.2) (.exit 2) (fun o => [(8, Enc.sl (D + 1) o), (44, undef)])
   (fun o h => o = loopsL l ∧ h[D + 1]? = some (ptsE.row 22 o) ∧ o.length ≤ l.length)
   (fun c => c.1 ≤ l.length ∧ c.2.1.length = l.length ∧ c.2.2.1.length ≤ c.1 ∧ c.2.2.1 ++ ((waysF (nxI l) l.length (l.length - c.1) c.1 c.2.1).map fun w => rotM (cornF l w)).filter (fun p => !p.isEmpty) = loopsL l ∧
    c.2.2.2[0]? = some (mapB encP lm) ∧ MR intR 3 1 c.2.2.2 lm bl (fun p => frI l l.length p) ∧ c.2.2.2[D]? = some (rowB c.2.1) ∧ c.2.2.2[D + 1]? = some (ptsE.row 22 c.2.2.1)) (fun c => l.length - c.1)
  ⟨Nat.zero_le _, List.length_replicate, Nat.zero_le _, rfl, by rw [List.getElem?_append_left (by omega)]; exact g0, M0, by rw [← hD]; exact end1, by rw [← hD]; exact end2⟩
  (by simp -implicitDefEqProofs [k6_13, show Enc.sl (D + 1) ([] : List (List Pt)) = .slice (some ⟨D + 1, 0, some 0⟩) 0 0 from rfl]) (by simp [rowB, Enc.row, Enc.vals]) (by
  intro nx c hc ih
  obtain ⟨i, d, o, h⟩ := c
  obtain ⟨h1, h2, h3, h4, h5, h6, h7, h8⟩ := hc
  simp only at h1 h2 h3 h4 h5 h6 h7 h8
  by_cases hi : i < l.length
  ·have hBl := get_lt h8
   have ew : waysF (nxI l) l.length (l.length - i) i d = (trc (nxI l) (l.length + 1) d i).2 :: waysF (nxI l) l.length (l.length - (i + 1)) (i + 1) (trc (nxI l) (l.length + 1) d i).1 := by
    rw [show l.length - i = (l.length - (i + 1)) + 1 by omega]; rfl
   rw [ew] at h4
   obtain ⟨D', hD'⟩ : ∃ D', (trc (nxI l) (l.length + 1) d i).1 = D' := ⟨_, rfl⟩
   obtain ⟨W, hW⟩ : ∃ W, (trc (nxI l) (l.length + 1) d i).2 = W := ⟨_, rfl⟩
   have hf0 : freeN d < l.length + 1 := by have := Rg.freeN_le d; omega
   have hf1 := Rg.freeN_le d
   rw [hD', hW] at h4
   have wi : IntKind.i64.wrap ((i : Int) + 1) = ((i + 1 : Nat) : Int) := (wrap64 (by omega) (by omega)).trans (by omega)
   simp -implicitDefEqProofs [r6_13, k6_13, hi, prep_new, newK_nil zP]
   generalize hX2 : LL _ _ _ _ = X2
   obtain ⟨_, g1, rfl, p1, p2, p3, p4, p5, p6, p7⟩ := LL_uxk hX2 (α := Nat × List Bool × Nat × List Pt × Heap) (U := Unit) (l.length + 1, d, i, [], h ++ [spanR.row 42 []]) (fun c => [(10, spanR.sl h.length c.2.2.2.1), (11, .int .i64 (c.2.2.1 : Int))]) (fun c => c.2.2.2.2) (.exit 4) (fun _ => [(10, spanR.sl h.length (cornF l W)), (11, undef)])
    (fun _ g => D'.length = l.length ∧ (cornF l W).length ≤ l.length ∧ g[0]? = some (mapB encP lm) ∧ MR intR 3 1 g lm bl (fun p => frI l l.length p) ∧ g[D]? = some (rowB D') ∧ g[D + 1]? = some (ptsE.row 22 o) ∧ g[h.length]? = some (spanR.row 42 (cornF l W)))
    (fun c => freeN c.2.1 < c.1 ∧ c.2.1.length = l.length ∧ c.2.2.1 < l.length ∧ (trc (nxI l) c.1 c.2.1 c.2.2.1).1 = D' ∧ c.2.2.2.1 ++ cornF l (trc (nxI l) c.1 c.2.1 c.2.2.1).2 = cornF l W ∧ c.2.2.2.1.length + freeN c.2.1 ≤ l.length ∧
     c.2.2.2.2[0]? = some (mapB encP lm) ∧ MR intR 3 1 c.2.2.2.2 lm bl (fun p => frI l l.length p) ∧ c.2.2.2.2[D]? = some (rowB c.2.1) ∧ c.2.2.2.2[D + 1]? = some (ptsE.row 22 o) ∧ c.2.2.2.2[h.length]? = some (spanR.row 42 c.2.2.2.1)) (fun c => c.1)
    ⟨hf0, h2, hi, hD', by rw [hW]; rfl, by show 0 + freeN d ≤ l.length; omega, by rw [List.getElem?_append_left (by omega)]; exact h5, h6.keep fun o x _ hx => by rw [List.getElem?_append_left (get_lt hx)]; exact hx, by rw [List.getElem?_append_left (by omega)]; exact h7, by rw [List.getElem?_append_left (by omega)]; exact h8, end0⟩
    (by simp -implicitDefEqProofs [k6_17, Rec.sl_nil]) (by simp [Rec.row_nil]; rfl) (by
    intro nx c hc ih
    obtain ⟨k, d1, j, p, g1⟩ := c
    obtain ⟨i1, i2, i3, i4, i5, i6, i7, i8, i9, i10, i11⟩ := hc
    simp only at i1 i2 i3 i4 i5 i6 i7 i8 i9 i10 i11
    obtain ⟨k, rfl⟩ : ∃ k', k = k' + 1 := ⟨k - 1, by omega⟩
    have dl := get_lt i9
    have dx : ∀ u : Nat, u < l.length → indexAddrT (.sl 4 ⟨some false, some 1⟩) (.slice (some ⟨D, 0, none⟩) l.length l.length) (.int .i64 (u : Int)) = some (cAt D u) := fun u hu => by
     rw [index_slice, if_pos ⟨by omega, by omega⟩]; simp [shift, cAt]
    have dxj := dx j i3
    have hdj : j < d1.length := by omega
    have ld := obj_load (b := D) (j := j) (sz := some 1) i9 (v := .bool d1[j]) (by rw [List.getElem?_map, List.getElem?_eq_getElem hdj]; rfl)
    cases hdv : d1[j]
    ·have hgt : gtS l j = l[j] := Rg.gt_get i3
     have hnx := (hnet.next i3).1
     have hd0 : d1[j]? = some false := by rw [List.getElem?_eq_getElem hdj, hdv]
     have hfr := Rg.freeN_set hd0
     have e : trc (nxI l) (k + 1) d1 j = ((trc (nxI l) k (d1.set j true) (nxI l j)).1, j :: (trc (nxI l) k (d1.set j true) (nxI l j)).2) := by
      conv => lhs; unfold trc
      rw [if_pos hd0]
     rw [e] at i4 i5
     simp only at i4 i5
     have ec : cornF l (j :: (trc (nxI l) k (d1.set j true) (nxI l j)).2) = (if turnI l[j] (gtS l (nxI l j)) = 0 then [] else [l[j].2]) ++ cornF l (trc (nxI l) k (d1.set j true) (nxI l j)).2 := by rw [← hgt]; rfl
     rw [ec, ← List.append_assoc] at i5
     rw [hdv] at ld
     have st := obj_store (b := D) (j := j) (lo := 0) (v := .bool true) i9 (by rw [List.length_map]; exact hdj) (Nat.zero_le _) rfl
     have es : (d1.map Value.bool).set j (.bool true) = (d1.set j true).map .bool := (List.map_set ..).symm
     rw [es] at st
     have st : storeT (some 1) g1 0 (.bool true) (cAt D j) = some (g1.set D (rowB (d1.set j true))) := st
     have old : ∀ o x, o ≠ D → g1[o]? = some x → (g1.set D (rowB (d1.set j true)))[o]? = some x := fun o x ho hx => by rw [List.getElem?_set_ne (by omega)]; exact hx
     have w7 := old _ _ (by omega) i7
     have w8 : MR intR 3 1 (g1.set D (rowB (d1.set j true))) lm bl (fun p => frI l l.length p) := i8.keepB fun q x hq hx => old _ _ (by have := rB q hq; omega) hx
     have w9 : (g1.set D (rowB (d1.set j true)))[D]? = some (rowB (d1.set j true)) := List.getElem?_set_self dl
     have w10 := old _ _ (by omega) i10
     have w11 := old h.length _ (by omega) i11
     have hGl : (g1.set D (rowB (d1.set j true))).length = g1.length := List.length_set
     generalize hG : g1.set D (rowB (d1.set j true)) = G at *
     have ej := ix j i3
     rw [side_val] at ej
     -- the pieces that go on
     have hne : fromI l l[j].2 ≠ [] := fun q => by
      have hn2 := hnet.next i3
      have : nxI l j ∈ fromI l (gtS l j).2 := Rg.from_mem.2 ⟨hn2.1, hn2.2.1⟩
      rw [hgt, q] at this; cases this
     obtain ⟨v, hv⟩ : ∃ v, aget lm l[j].2 = some v := by
      cases q : aget lm l[j].2 with
      | some v => exact ⟨v, rfl⟩
      | none =>
       have := w8.non _ q
       rw [fr_all] at this
       exact absurd (List.map_eq_nil_iff.1 this) hne
     obtain ⟨v1, v2, v3⟩ := w8.val _ v hv
     have lk := lookup_get (P := E.P) (h := G) (zv := .slice none 0 0) (k := l[j].2) keyP w7
     rw [hv, v1] at lk
     have lk : lookupT E.P (some ⟨42, some (.slice none 0 0)⟩) G (.map (some 0)) (.agg ⟨[.int .i64 l[j].2.1, .int .i64 l[j].2.2]⟩) false = some (intR.sl (bl l[j].2) ((fromI l l[j].2).map fun (i : Nat) => (i : Int))) := lk
     have v2 : G[bl l[j].2]? = some (intR.row 3 ((fromI l l[j].2).map fun (i : Nat) => (i : Int))) := v2
     have hmem : ∀ u ∈ fromI l l[j].2, u < l.length := fun u hu => (Rg.from_mem.1 hu).1
     have enx : nxI l j = pickI l l[j] (fromI l l[j].2) ((fromI l l[j].2).headD 0) := by unfold nxI; rw [hgt]
     have hFl : (fromI l l[j].2).length ≤ l.length := by
      have := fr_len l l.length l[j].2
      rw [fr_all, List.length_map] at this
      exact this
     generalize fromI l l[j].2 = Fl at *
     generalize bl l[j].2 = bk at *
     have px : ∀ (u : Nat) (hu : u < Fl.length), indexAddrT (.sl 3 ⟨some false, some 1⟩) (intR.sl bk (Fl.map fun (i : Nat) => (i : Int))) (.int .i64 (u : Int)) = some (Rec.at_ (R := intR) bk (Fl.map fun (i : Nat) => (i : Int)) u 0) := fun u hu => int_index (by rw [List.length_map]; exact hu)
     have pl : ∀ (u : Nat) (hu : u < Fl.length), loadT ⟨some false, some 1⟩ G (Rec.at_ (R := intR) bk (Fl.map fun (i : Nat) => (i : Int)) u 0) = some (.int .i64 (Fl[u] : Int)) := fun u hu => by
      have := int_load (h := G) (b := bk) (l := Fl.map fun (i : Nat) => (i : Int)) (i := u) (sz := some 1) v2 (by rw [List.length_map]; exact hu)
      rw [List.getElem_map] at this
      exact this
     have ln : lenT .sl G (intR.sl bk (Fl.map fun (i : Nat) => (i : Int))) = some (.int .i64 Fl.length) := (Rec.sl_len (R := intR)).trans (by rw [List.length_map])
     have hF0 : 0 < Fl.length := List.length_pos_iff.2 hne
     have px0 := px 0 hF0
     have pl0 := pl 0 hF0
     have eh : Fl[0] = Fl.headD 0 := by cases Fl with | nil => exact absurd rfl hne | cons a F => rfl
     rw [eh] at pl0
     have px0 : indexAddrT (.sl 3 ⟨some false, some 1⟩) (intR.sl bk (Fl.map fun (i : Nat) => (i : Int))) (.int .i64 0) = _ := px0
     generalize hVR : intR.sl bk (Fl.map fun (i : Nat) => (i : Int)) = VR at *
     generalize Rec.at_ (R := intR) bk (Fl.map fun (i : Nat) => (i : Int)) = at_ at *
     have hnj : nearS l[j] := hnear _ (List.getElem_mem i3)
     have nxl : pickI l l[j] Fl (Fl.headD 0) < l.length := by rw [← enx]; exact hnx
     have tx := turn_spec l[j] l[nxI l j] hnj (hnear _ (List.getElem_mem hnx))
     have egn : gtS l (nxI l j) = l[nxI l j] := Rg.gt_get hnx
     have ejn := ix (nxI l j) hnx
     rw [side_val] at ejn
     rw [egn] at i5
     simp -implicitDefEqProofs [r6_17, k6_17, dxj, ld, st, ej, lk, ln, px0, pl0]
     rw [LL_for (γ := Nat) Fl (Fl.headD 0) (fun u nx => [(12, .int .i64 (nx : Int)), (73, .int .i64 u)]) (fun _ _ => G) (fun _ rest nx => (.exit 6, [(12, .int .i64 (pickI l l[j] rest nx : Int)), (73, undef)], G)) (fun _ nx => nx < l.length) (by omega) (hmem _ (by rw [← eh]; exact List.getElem_mem hF0))]
     ·rw [← enx]
      by_cases ht : turnI l[j] l[nxI l j] = 0
      ·rw [if_pos ht, List.append_nil] at i5
       have ih := ih (k, d1.set j true, nxI l j, p, G) (Nat.lt_succ_self k) ⟨by show freeN (d1.set j true) < k; omega, by show (d1.set j true).length = _; rw [List.length_set]; exact i2, hnx, i4, i5, by show p.length + freeN (d1.set j true) ≤ _; omega, w7, w8, w9, w10, w11⟩
       simp -implicitDefEqProofs [k6_17] at ih
       simp -implicitDefEqProofs [k6_21, ej, ejn, ret0 m20, tx, ht, trim_le, hGl]
       exact ih
      ·rw [if_neg ht] at i5
       have ap := app_pt (h := G) (b := h.length) (lo := 0) (c := p) l[j].2 w11 (Nat.zero_le _) (by omega)
       have ih := ih (k, d1.set j true, nxI l j, p ++ [l[j].2], G.set h.length (spanR.row 42 (p ++ [l[j].2]))) (Nat.lt_succ_self k) ⟨by show freeN (d1.set j true) < k; omega, by show (d1.set j true).length = _; rw [List.length_set]; exact i2, hnx, i4, i5, by show (p ++ [l[j].2]).length + freeN (d1.set j true) ≤ _; rw [List.length_append]; show p.length + 1 + _ ≤ _; omega,
        by rw [List.getElem?_set_ne (by omega)]; exact w7, w8.keepB fun q x hq hx => by rw [List.getElem?_set_ne (by have := rB q hq; omega)]; exact hx, by rw [List.getElem?_set_ne (by omega)]; exact w9, by rw [List.getElem?_set_ne (by omega)]; exact w10, List.getElem?_set_self (get_lt w11)⟩
       simp -implicitDefEqProofs [k6_17] at ih
       simp -implicitDefEqProofs [k6_21, ej, ejn, ret0 m20, tx, ht, lit_pt, ap, trim_le, hGl]
       exact ih
     ·simp -implicitDefEqProofs [k6_21]
     ·rfl
     ·intro nx u c hu _
      have e0 : pickI l l[j] [] c = c := rfl
      rw [e0]
      simp -implicitDefEqProofs [r6_21, k6_21, hu, trim_le]
     ·intro nx u q rest c hu hv hd hw hc ih
      have pxu := px u hu
      have plu := pl u hu
      rw [hv] at plu
      have hq : q < l.length := hmem q (by rw [← hv]; exact List.getElem_mem hu)
      have eq := ix q hq
      rw [side_val] at eq
      have tq := turn_spec l[j] l[q] hnj (hnear _ (List.getElem_mem hq))
      have egq : gtS l q = l[q] := Rg.gt_get hq
      have e1 : pickI l l[j] (q :: rest) c = pickI l l[j] rest (if 0 < turnI l[j] l[q] then q else c) := by rw [← egq]; rfl
      rw [e1]
      have ih1 := ih q hq
      have ih2 := ih c hc
      simp -implicitDefEqProofs [k6_21] at ih1 ih2
      by_cases ht : 0 < turnI l[j] l[q]
      ·rw [if_pos ht]
       simp -implicitDefEqProofs [r6_21, k6_21, hu, pxu, plu, ej, eq, ret0 m20, tq, ht, hw, trim_le]
       exact ih1
      ·rw [if_neg ht]
       simp -implicitDefEqProofs [r6_21, k6_21, hu, pxu, plu, ej, eq, ret0 m20, tq, ht, hw, trim_le]
       exact ih2
    ·have e : trc (nxI l) (k + 1) d1 j = (d1, []) := by
      unfold trc
      rw [if_neg (by rw [List.getElem?_eq_getElem hdj, hdv]; simp)]
     rw [e] at i4 i5
     have i4 : d1 = D' := i4
     have i5 : p ++ [] = cornF l W := i5
     rw [List.append_nil] at i5
     subst i4
     rw [hdv] at ld
     refine ⟨(), g1, ?_, i2, by rw [← i5]; omega, i7, i8, i9, i10, by rw [← i5]; exact i11⟩
     simp -implicitDefEqProofs [r6_17, k6_17, dxj, ld, i5, trim_le])
   by_cases hP : cornF l W = []
   ·rw [List.map_cons, hP] at h4
    have h4 : o ++ ((waysF (nxI l) l.length (l.length - (i + 1)) (i + 1) D').map fun w => rotM (cornF l w)).filter (fun p => !p.isEmpty) = loopsL l := h4
    have ih := fun vs => ih (i + 1, D', o, trim h.length vs g1) (by show l.length - (i + 1) < l.length - i; omega) ⟨hi, p1, by show o.length ≤ i + 1; omega, h4, trim_get (by omega) p3, p4.trim p3 (by omega), trim_get (by omega) p5, trim_get hBl p6⟩
    have hs : spanR.sl h.length (cornF l W) = spanR.sl h.length [] := by rw [hP]
    have hs2 : ∀ g, lenT .sl g (spanR.sl h.length []) = some (.int .i64 0) := fun g => rfl
    rw [hs]
    simp -implicitDefEqProofs [k6_13] at ih
    simp -implicitDefEqProofs [k6_17, hs2, wi]
    exact ih _
   ·have hPl : 0 < (cornF l W).length := List.length_pos_iff.2 hP
    have hPi : 0 < ((cornF l W).length : Int) := by omega
    have fz := Rec.freeze_row (R := spanR) (P := E.P) (lo := 0) p7 zP aPt7 (Nat.zero_le _)
    rw [if_neg (by omega)] at fz
    have q3 : (g1.set h.length .dead)[0]? = some (mapB encP lm) := by rw [List.getElem?_set_ne (by omega)]; exact p3
    have q4 : MR intR 3 1 (g1.set h.length .dead) lm bl (fun p => frI l l.length p) := p4.keepB fun q x hq hx => by rw [List.getElem?_set_ne (by have := rB q hq; omega)]; exact hx
    have q5 : (g1.set h.length .dead)[D]? = some (rowB D') := by rw [List.getElem?_set_ne (by omega)]; exact p5
    have q6 : (g1.set h.length .dead)[D + 1]? = some (ptsE.row 22 o) := by rw [List.getElem?_set_ne (by omega)]; exact p6
    generalize hG : g1.set h.length .dead = G at *
    obtain ⟨m, kk, r1, r2, x, y, r3, r4, r5⟩ := rot_spec G (cornF l W) hP (by omega)
    have ne : (rotM (cornF l W)).isEmpty = false := by
     have := (Rg.rotM_rot (cornF l W)).len
     cases hq : rotM (cornF l W) with
     | nil => rw [hq] at this; simp at this; exact absurd this (by omega)
     | cons a q => rfl
    rw [List.map_cons, List.filter_cons_of_pos (by rw [ne]; rfl)] at h4
    have ap := Enc.app (O := ptsE) (el := elPts) (h := G) (lo := 0) (b := D + 1) (m := [rotM (cornF l W)]) (u := lst true [lst false (spanR.vals (rotM (cornF l W)))]) rfl q6 (Enc.cells_tree (O := ptsE) (l := [rotM (cornF l W)])) (Nat.zero_le _) (by show (_ + 1) * 24 ≤ 2 ^ 47; omega)
    have h4 : (o ++ [rotM (cornF l W)]) ++ ((waysF (nxI l) l.length (l.length - (i + 1)) (i + 1) D').map fun w => rotM (cornF l w)).filter (fun p => !p.isEmpty) = loopsL l := by rw [List.append_assoc]; exact h4
    generalize hG2 : G.set (D + 1) (ptsE.row 22 (o ++ [rotM (cornF l W)])) = G2 at *
    have s3 : G2[0]? = some (mapB encP lm) := by rw [← hG2, List.getElem?_set_ne (by omega)]; exact q3
    have s4 : MR intR 3 1 G2 lm bl (fun p => frI l l.length p) := q4.keepB fun q x hq hx => by rw [← hG2, List.getElem?_set_ne (by have := rB q hq; omega)]; exact hx
    have s5 : G2[D]? = some (rowB D') := by rw [← hG2, List.getElem?_set_ne (by omega)]; exact q5
    have s6 : G2[D + 1]? = some (ptsE.row 22 (o ++ [rotM (cornF l W)])) := by rw [← hG2]; exact List.getElem?_set_self (get_lt q6)
    have ih := fun vs => ih (i + 1, D', o ++ [rotM (cornF l W)], trim h.length vs G2) (by show l.length - (i + 1) < l.length - i; omega) ⟨hi, p1, by show (o ++ [_]).length ≤ i + 1; rw [List.length_append]; show o.length + 1 ≤ i + 1; omega, h4, trim_get (by omega) s3, s4.trim s3 (by omega), trim_get (by omega) s5, trim_get hBl s6⟩
    have ln : lenT .sl g1 (spanR.sl h.length (cornF l W)) = some (.int .i64 ((cornF l W).length : Int)) := Rec.sl_len
    have rf : ∀ g, reify E.P 8 g (lst false (spanR.vals (cornF l W))) = some (lst false (spanR.vals (cornF l W))) := fun _ => rfl
    have sc : scalar (.agg ⟨[.int .i64 m.1, .int .i64 m.2]⟩) = true := by simp [scalar, flat, atom]
    unfold elPts at ap
    simp -implicitDefEqProofs [k6_13] at ih
    simp -implicitDefEqProofs [k6_17, ln, hPi, hPl, prep_frz, fz, ret0 m22, rf, r1, sc, ret0 m21, r2, r3, r4, lit_pts2, ret1 m24, pts_set, r5, lit_pts1, ap, wi]
    exact ih _
  ·have e : l.length - i = 0 := by omega
   rw [e] at h4
   have h4 : o ++ [] = loopsL l := h4
   rw [List.append_nil] at h4
   refine ⟨o, h, ?_, h4, h8, by omega⟩
   simp -implicitDefEqProofs [r6_13, k6_13, hi, trim_le])
 subst oe
 have so := sortP_spec (lo := 0) hnet hB (Nat.zero_le _) (by omega)
 have el : (outL l).length = (loopsL l).length := List.length_mergeSort ..
 have es : Enc.sl (D + 1) (loopsL l) = Enc.sl (D + 1) (outL l) := by unfold Enc.sl; rw [el]
 have rr := Enc.reifyR_sl (O := ptsE) (P := E.P) (h := h.set (D + 1) (ptsE.row 22 (outL l))) (b := D + 1) (t := 22) (l := outL l) (List.getElem?_set_self (get_lt hB)) zPs aPs
 rw [← es] at rr
 simp -implicitDefEqProofs [k6_13, ret2 (E := E) (f := 25) rfl, so, rr]
end Go.Proofs.Ytadnganaeigchaa.Bm
namespace Go.Proofs.Ytadnganaeigchaa.Bm
open Go Go.RowKit
open Rg (Rect Pt Sd bdL bdH botR topR xsB ysB endsX begsX upL loopsL Net ltPo csum ssum Addt Form Apart)
theorem upL_mem {x : Int} {A B : List Rect} {s : Sd} : ∀ {ys : List Int}, s ∈ upL x A B ys → s.1.1 = x ∧ s.2.1 = x ∧ s.1.2 ∈ ys ∧ s.2.2 ∈ ys
 | [], h => absurd h List.not_mem_nil
 | [_], h => absurd h List.not_mem_nil
 | u :: v :: ys, h => by
  have e : upL x A B (u :: v :: ys) = (if (Rg.inY A u && !Rg.inY B u) = true then [((x, u), (x, v))] else if (Rg.inY B u && !Rg.inY A u) = true then [((x, v), (x, u))] else []) ++ upL x A B (v :: ys) := rfl
  rw [e] at h
  rcases List.mem_append.1 h with q | q
  ·split at q
   ·rw [List.mem_singleton.1 q]; simp
   ·split at q
    ·rw [List.mem_singleton.1 q]; simp
    ·cases q
  ·obtain ⟨a, b, c, d⟩ := upL_mem q
   exact ⟨a, b, List.mem_cons_of_mem _ c, List.mem_cons_of_mem _ d⟩
theorem bd_near {a : List Rect} (h : ∀ r ∈ a, okR r = true) : ∀ s ∈ bdL a, nearS s := by
 have hb : ∀ r ∈ a, 0 ≤ r.x0 ∧ r.x0 ≤ 1048576 ∧ 0 ≤ r.y0 ∧ r.y0 ≤ 1048576 ∧ 0 ≤ r.x1 ∧ r.x1 ≤ 1048576 ∧ 0 ≤ r.y1 ∧ r.y1 ≤ 1048576 := fun r hr => by
  have := okR_iff.1 (h r hr)
  unfold Rect.inBox at this
  omega
 intro s hs
 unfold bdL at hs
 rcases List.mem_append.1 hs with q | q
 ·unfold bdH at q
  obtain ⟨r, hr, q⟩ := List.mem_flatMap.1 q
  have := hb r hr
  rcases List.mem_cons.1 q with e | e
  ·rw [e]; unfold nearS botR; simp only; omega
  ·rw [List.mem_singleton.1 e]; unfold nearS topR; simp only; omega
 ·obtain ⟨x, hx, q⟩ := List.mem_flatMap.1 q
  obtain ⟨r, hr, hxr⟩ := Rg.xs_mem.1 hx
  obtain ⟨e1, e2, e3, e4⟩ := upL_mem q
  have hy : ∀ y ∈ ysB (endsX a x) (begsX a x), 0 ≤ y ∧ y ≤ 1048576 := fun y hy => by
   obtain ⟨t, ht, hty⟩ := Rg.ys_mem.1 hy
   have hta : t ∈ a := by
    rcases ht with ht | ht
    ·exact (List.mem_filter.1 ht).1
    ·exact (List.mem_filter.1 ht).1
   have := hb t hta
   omega
  have h1 := hy _ e3
  have h2 := hy _ e4
  have := hb r hr
  unfold nearS
  omega
theorem bd_len {a : List Rect} (ha : a.length ≤ 200) : (bdL a).length ≤ 400000 := by
 have h1 := bdH_len a
 have h2 := flatMap_le (fun x => colX_len a x ha) (xsB a)
 have h3 : (xsB a).length ≤ (xsL a).length := Rg.sortU_le _
 have h4 := xsL_len a
 show (bdH a ++ (xsB a).flatMap (Rg.colX a)).length ≤ 400000
 rw [List.length_append]
 have h5 : (xsB a).length ≤ 400 := by omega
 have h6 : (xsB a).length * 800 ≤ 400 * 800 := Nat.mul_le_mul_right _ h5
 omega
theorem regB_net {a : List Rect} (hr : regB a = true) : Net (bdL a) := Rg.bd_net (regB_iff.1 hr).2.2.apart
theorem outline_spec (k : Option Bool) (a : List Rect) (hk : Rec.Ok k a) (hr : regB a = true) : pureCall E.P (L E) 6 [rectR.o k a] = some (lst false (ptsE.vals (outL (bdL a)))) := by
 obtain ⟨h1, h2, h3⟩ := regB_iff.1 hr
 exact outline_walk k a hk h2 hr (regB_net hr) (bd_len h2) (bd_near (List.all_eq_true.1 h1))
section
variable {l : List Sd} (hl : Net l)
include hl
end
end Go.Proofs.Ytadnganaeigchaa.Bm
