/-
 The reference of regions: two columns combined. Conditions: lists that are not too long.
-/
import Derived.Test.YthkddpgnhaeooaaQT24
import Derived.Test.YthkddpgnhaeooaaQT17
namespace Go.Proofs.Ythkddpgnhaeooaa.Bm
open Go Go.RowKit
open Rg (Rect scan scan_le putAt insN sortU edgesX)
def iT (l : List Int) : Value := lst false (l.map (.int .i64))
theorem iT_len {h : Heap} {l : List Int} : lenT .sl h (iT l) = some (.int .i64 l.length) := by unfold iT; rw [len_lst]; simp
theorem iT_index {l : List Int} {i : Nat} (hi : i < l.length) : indexAddrT (.sl 3 ⟨some false, some 1⟩) (iT l) (.int .i64 (i : Int)) = some (cptr (.int .i64 l[i])) := by
 unfold iT
 have e : (l.map (Value.int .i64))[i]? = some (.int .i64 l[i]) := by simp [hi]
 rw [index_lst, if_pos (by omega), show ((i : Int)).toNat = i by omega, e, Option.bind_some, if_pos (by rfl)]
theorem iT_set (l : List Int) : settled depth (iT l) = true := rfl
theorem iT_reify (h : Heap) (l : List Int) : reify E.P 8 h (iT l) = some (iT l) := rfl
theorem g3 : aggT E.P 3 = some false := by kernel_rfl
theorem int_reifyR {h : Heap} {b : Nat} {l : List Int} (hob : h[b]? = some (intR.row 3 l)) : reifyR E.P h (intR.sl b l) = some (iT l) := by
 have e0 : intR.sl b l = .slice (some ⟨b, 0, some l.length⟩) l.length l.length := by unfold Rec.sl; simp [intR]
 show reify E.P 8 h (intR.sl b l) = _
 rw [e0, reify_slice]
 by_cases h0 : l.length = 0
 ·have : l = [] := List.eq_nil_of_length_eq_zero h0
  subst this; rfl
 ·rw [if_neg h0, hob]
  unfold Rec.row
  rw [int_flat]
  show reifyS E.P 7 h (some (.cells 3 (l.map (.int .i64)) 1)) _ _ = _
  rw [reifyS_cells, s3, Option.bind_some, if_pos ⟨by simp [stampOk], Nat.one_pos, by simp⟩]
  have e : ((l.map (Value.int .i64)).drop 0).take (l.length * 1) = l.map (.int .i64) := by rw [List.drop_zero, Nat.mul_one, List.take_of_length_le (by simp)]
  rw [e, reifyC_set (by simp [List.all_eq_true]), Option.bind_some, elems_one g3 s3]; rfl
theorem int_freeze {h : Heap} {lo b : Nat} {l : List Int} (hob : h[b]? = some (intR.row 3 l)) (hlo : lo ≤ b) : ∃ g, freezeV E.P depth lo h (intR.sl b l) = some (iT l, g) := by
 have e0 : intR.sl b l = .slice (some ⟨b, 0, some l.length⟩) l.length l.length := by unfold Rec.sl; simp [intR]
 have hob' : h[b]? = some (.cells 3 (l.map (.int .i64)) 1) := by rw [hob]; unfold Rec.row; rw [int_flat]; rfl
 rw [e0]
 exact ⟨_, frz_one8 hob' s3 g3 hlo (List.length_map _).symm (List.length_map _).symm (by simp [List.all_eq_true])⟩
theorem int_sl {b : Nat} {c d : List Int} (h : c.length = d.length) : intR.sl b c = intR.sl b d := by unfold Rec.sl; rw [h]
theorem int_index {g : Option Bool} {b : Nat} {l : List Int} {i : Nat} (h1 : i < l.length) : indexAddrT (.sl 3 ⟨g, some 1⟩) (intR.sl b l) (.int .i64 (i : Int)) = some (intR.at_ b l i 0) := Rec.index_row (R := intR) rfl h1
theorem int_load {h : Heap} {b : Nat} {l : List Int} {i : Nat} {sz : Option Nat} (hob : h[b]? = some (intR.row 3 l)) (h1 : i < l.length) : loadT ⟨some false, sz⟩ h (intR.at_ b l i 0) = some (.int .i64 l[i]) := Rec.load_cell (R := intR) (j := 0) hob h1 (by decide)
theorem int_store {h : Heap} {b lo : Nat} {l : List Int} {i : Nat} (z : Int) (hob : h[b]? = some (intR.row 3 l)) (hlo : lo ≤ b) (h1 : i < l.length) : storeT (some 1) h lo (.int .i64 z) (intR.at_ b l i 0) = some (h.set b (intR.row 3 (l.set i z))) :=
 Rec.store_cell (R := intR) (j := 0) rfl hob hlo h1 (by decide) rfl
theorem lit_num (h : Heap) (z : Int) : buildSliceT (some ⟨3, 1, 8, .int .i64 0, ⟨some false, some 1⟩⟩) false h 1 #[(0, .int .i64 z)] = some (lst true [.int .i64 z], h) :=
 (build_lit' (n := 1) (l := [(0, .int .i64 z)]) rfl rfl (by decide) (by decide) (by decide)).trans rfl
theorem app_num {h : Heap} {b lo : Nat} {c : List Int} (z : Int) (hob : h[b]? = some (intR.row 3 c)) (hlo : lo ≤ b) (hc : c.length ≤ 1000000) :
  appendT (some ⟨3, 1, 8, .int .i64 0, ⟨some false, some 1⟩⟩) h lo false (intR.sl b c) (lst true [.int .i64 z]) = some (intR.sl b (c ++ [z]), h.set b (intR.row 3 (c ++ [z]))) :=
 Rec.app (R := intR) (m := [z]) rfl hob (cells_lst (by rfl)) hlo (by show (c.length + 1) * 8 ≤ 2 ^ 47; omega)
def shiftRow (o : List Int) (m : Nat) : List Int := (o ++ [0]).take (m + 1) ++ o.drop m
theorem shiftRow_len {o : List Int} {m : Nat} (h : m ≤ o.length) : (shiftRow o m).length = o.length + 1 := by
 unfold shiftRow
 rw [List.length_append, List.length_take, List.length_drop, List.length_append]
 show min (m + 1) (o.length + 1) + (o.length - m) = _
 omega
theorem shiftRow_top (o : List Int) : shiftRow o o.length = o ++ [0] := by
 unfold shiftRow
 rw [List.drop_length, List.append_nil, List.take_of_length_le (by simp)]
theorem shiftRow_get {o : List Int} {m j : Nat} (h : m ≤ o.length) (hj : j < m) : (shiftRow o m)[j]'(by rw [shiftRow_len h]; omega) = o[j] := by
 unfold shiftRow
 rw [List.getElem_append_left (by rw [List.length_take, List.length_append]; simp; omega), List.getElem_take, List.getElem_append_left (by omega)]
theorem shiftRow_split {o : List Int} {m : Nat} (h : m ≤ o.length) : ∃ x, shiftRow o m = o.take m ++ x :: o.drop m := by
 refine ⟨(o ++ [0])[m]'(by simp; omega), ?_⟩
 unfold shiftRow
 rw [List.take_succ_eq_append_getElem (by simp; omega), List.take_append_of_le_length h, List.append_assoc]; rfl
theorem shiftRow_set {o : List Int} {m : Nat} (h : m ≤ o.length) (z : Int) : (shiftRow o m).set m z = putAt o m z := by
 obtain ⟨x, e⟩ := shiftRow_split h
 have hl : (o.take m).length = m := by rw [List.length_take]; omega
 rw [e, List.set_append_right _ _ (by omega), hl, Nat.sub_self]; rfl
theorem shiftRow_down {o : List Int} {m : Nat} (h : m + 1 ≤ o.length) : (shiftRow o (m + 1)).set (m + 1) (o[m]'(by omega)) = shiftRow o m := by
 rw [shiftRow_set h]
 unfold putAt shiftRow
 rw [List.take_append_of_le_length (by omega), List.drop_eq_getElem_cons (show m < o.length by omega)]
theorem sorted_spec (l : List Int) (hl : l.length ≤ 10000) : pureCall E.P (L E) 78 [iT l] = some (iT (sortU l)) := by
 rw [← Rg.insN_sortU, pureCall_fn F78 rfl]
 simp -implicitDefEqProofs [r78, p78, prep_new, newK_nil s3]
 rw [LL_for (γ := List Int) l [] (fun i o => [(3, intR.sl 0 o), (4, .int .i64 i)]) (fun _ o => [intR.row 3 o])
  (fun _ rest o => (.exit 0, [(3, intR.sl 0 (rest.foldl insN o)), (4, undef)], [intR.row 3 (rest.foldl insN o)])) (fun i o => o.length ≤ i) (by omega) (Nat.le_refl _)]
 ·have rr := int_reifyR (h := [intR.row 3 (l.foldl insN [])]) (b := 0) (l := l.foldl insN []) rfl
  simp -implicitDefEqProofs [k78_3, rr]
 ·simp -implicitDefEqProofs [k78_3, Rec.sl_nil]
 ·rfl
 ·intro nx i o hi _
  simp -implicitDefEqProofs [r78_3, k78_3, hi, iT_len, trim_le]
 ·intro nx i z rest o hi hv hd hw ho ih
  have ixl := iT_index hi
  rw [hv] at ixl
  have hle := scan_le (fun j => decide (z < o.getD j 0)) o.length
  have gd : ∀ j (hj : j < o.length), o.getD j 0 = o[j] := fun j hj => by rw [List.getD_eq_getElem?_getD, List.getElem?_eq_getElem hj]; rfl
  have ei : insN o z = if 0 < scan (fun j => decide (z < o.getD j 0)) o.length ∧ o.getD (scan (fun j => decide (z < o.getD j 0)) o.length - 1) 0 = z then o else putAt o (scan (fun j => decide (z < o.getD j 0)) o.length) z := rfl
  have ixo := fun (j : Nat) (hj : j < o.length) => int_index (g := some false) (b := 0) (l := o) hj
  have ldo := fun (j : Nat) (hj : j < o.length) => int_load (h := [intR.row 3 o]) (b := 0) (l := o) (sz := some 1) rfl hj
  rw [List.foldl_cons]
  simp -implicitDefEqProofs [r78_3, k78_3, hi, iT_len, Rec.sl_len]
  rw [LL_rec (α := Nat) o.length (fun k => [(5, .int .i64 (k : Int))]) (fun _ => [intR.row 3 o]) (fun k => (.exit 2, [(5, .int .i64 ((scan (fun j => decide (z < o.getD j 0)) k : Nat) : Int))], [intR.row 3 o])) (fun k => k ≤ o.length) (fun k => k)]
  ·generalize scan (fun j => decide (z < o.getD j 0)) o.length = k at hle ei ⊢
   have hk := hle
   have ap := app_num (h := [intR.row 3 o]) (b := 0) (lo := 0) (c := o) 0 rfl (Nat.le_refl _) (by omega)
   have wl : IntKind.i64.wrap (((o ++ [0]).length : Int) - 1) = (o.length : Int) := by
    have : (o ++ [0]).length = o.length + 1 := by simp
    rw [this]; exact (wrap64 (by omega) (by omega)).trans (by omega)
   by_cases hc : 0 < k ∧ o.getD (k - 1) 0 = z
   ·rw [ei, if_pos hc]
    obtain ⟨hk0, hkz⟩ := hc
    have hko : k - 1 < o.length := by omega
    rw [gd _ hko] at hkz
    have hpos : (0 : Int) < (k : Int) := by omega
    have w1 : IntKind.i64.wrap ((k : Int) - 1) = ((k - 1 : Nat) : Int) := (wrap64 (by omega) (by omega)).trans (by omega)
    have ih := ih o (by omega)
    simp -implicitDefEqProofs [k78_3] at ih
    simp -implicitDefEqProofs [k78_6, hk0, w1, ixo _ hko, ldo _ hko, ixl, hkz, hw, trim_le]
    exact ih
   ·rw [ei, if_neg hc]
    have ih := ih (putAt o k z) (by rw [Rg.putAt_len]; omega)
    simp -implicitDefEqProofs [k78_3] at ih
    have es : ∀ m, m ≤ o.length → intR.sl 0 (shiftRow o m) = intR.sl 0 (o ++ [0]) := fun m hm => int_sl (by rw [shiftRow_len hm]; simp)
    have ixs := fun (m : Nat) (hm : m ≤ o.length) (j : Nat) (hj : j < o.length + 1) => (es m hm) ▸ int_index (g := some false) (b := 0) (l := shiftRow o m) (i := j) (by rw [shiftRow_len hm]; exact hj)
    have esp : intR.sl 0 (putAt o k z) = intR.sl 0 (o ++ [0]) := int_sl (by rw [Rg.putAt_len]; simp)
    rw [esp] at ih
    have two : (¬ (0 : Int) < (k : Int)) ∨ ((0 : Int) < (k : Int) ∧ ∃ hko : k - 1 < o.length, ¬ o[k - 1] = z) := by
     by_cases h0 : 0 < k
     ·have hko : k - 1 < o.length := by omega
      exact .inr ⟨by omega, hko, fun e => hc ⟨h0, by rw [gd _ hko]; exact e⟩⟩
     ·exact .inl (by omega)
    have w1 : 0 < k → IntKind.i64.wrap ((k : Int) - 1) = ((k - 1 : Nat) : Int) := fun h => (wrap64 (by omega) (by omega)).trans (by omega)
    have ixk := ixs k hk k (by omega)
    have stk := int_store (h := [intR.row 3 (shiftRow o k)]) (b := 0) (lo := 0) (l := shiftRow o k) (i := k) z rfl (Nat.le_refl _) (by rw [shiftRow_len hk]; omega)
    rw [shiftRow_set hk] at stk
    rcases two with h0 | ⟨h0, hko, hne⟩
    ·have h0n : ¬ (0 < k) := by omega
     simp -implicitDefEqProofs [k78_6, h0n, lit_num, ap, Rec.sl_len, wl, -List.length_append]
     rw [LL_rec (α := Nat) o.length (fun m => [(6, .int .i64 (m : Int))]) (fun m => [intR.row 3 (shiftRow o m)]) (fun m => (.exit 4, [(6, undef)], [intR.row 3 (shiftRow o k)])) (fun m => k ≤ m ∧ m ≤ o.length) (fun m => m)]
     ·simp -implicitDefEqProofs [k78_11, ixk, stk, ixl, hw, trim_le]
      exact ih
     ·exact ⟨hk, Nat.le_refl _⟩
     ·simp -implicitDefEqProofs [k78_11]
     ·simp only [shiftRow_top]
     ·intro nx m hm ih
      by_cases hkm : k < m
      ·obtain ⟨m, rfl⟩ : ∃ m', m = m' + 1 := ⟨m - 1, by omega⟩
       have hmo : m < o.length := by omega
       have ih := ih m (by omega) ⟨by omega, by omega⟩
       have w3 : IntKind.i64.wrap ((m : Int) + 1 - 1) = (m : Int) := (wrap64 (by omega) (by omega)).trans (by omega)
       have w4 : IntKind.i64.wrap (m : Int) = (m : Int) := wrap64 (by omega) (by omega)
       have hkm' : (k : Int) < (m : Int) + 1 := by omega
       have ixa := ixs (m + 1) (by omega) m (by omega)
       have ixb := ixs (m + 1) (by omega) (m + 1) (by omega)
       have lda := int_load (h := [intR.row 3 (shiftRow o (m + 1))]) (b := 0) (l := shiftRow o (m + 1)) (i := m) (sz := some 1) rfl (by rw [shiftRow_len (by omega)]; omega)
       rw [shiftRow_get (by omega) (by omega)] at lda
       have sta := int_store (h := [intR.row 3 (shiftRow o (m + 1))]) (b := 0) (lo := 0) (l := shiftRow o (m + 1)) (i := m + 1) o[m] rfl (Nat.le_refl _) (by rw [shiftRow_len (by omega)]; omega)
       rw [shiftRow_down hmo] at sta
       push_cast at ixb
       simp -implicitDefEqProofs [k78_11] at ih
       simp -implicitDefEqProofs [r78_11, k78_11, hkm', w4, ixa, ixb, lda, sta, trim_le]
       exact ih
      ·have e : m = k := by omega
       subst e
       simp -implicitDefEqProofs [r78_11, k78_11, trim_le]
    ·have h0' : 0 < k := by omega
     simp -implicitDefEqProofs [k78_6, h0', w1 h0', ixo _ hko, ldo _ hko, ixl, hne, lit_num, ap, Rec.sl_len, wl, -List.length_append]
     rw [LL_rec (α := Nat) o.length (fun m => [(6, .int .i64 (m : Int))]) (fun m => [intR.row 3 (shiftRow o m)]) (fun m => (.exit 4, [(6, undef)], [intR.row 3 (shiftRow o k)])) (fun m => k ≤ m ∧ m ≤ o.length) (fun m => m)]
     ·simp -implicitDefEqProofs [k78_11, ixk, stk, ixl, hw, trim_le]
      exact ih
     ·exact ⟨hk, Nat.le_refl _⟩
     ·simp -implicitDefEqProofs [k78_11]
     ·simp only [shiftRow_top]
     ·intro nx m hm ih
      by_cases hkm : k < m
      ·obtain ⟨m, rfl⟩ : ∃ m', m = m' + 1 := ⟨m - 1, by omega⟩
       have hmo : m < o.length := by omega
       have ih := ih m (by omega) ⟨by omega, by omega⟩
       have w3 : IntKind.i64.wrap ((m : Int) + 1 - 1) = (m : Int) := (wrap64 (by omega) (by omega)).trans (by omega)
       have w4 : IntKind.i64.wrap (m : Int) = (m : Int) := wrap64 (by omega) (by omega)
       have hkm' : (k : Int) < (m : Int) + 1 := by omega
       have ixa := ixs (m + 1) (by omega) m (by omega)
       have ixb := ixs (m + 1) (by omega) (m + 1) (by omega)
       have lda := int_load (h := [intR.row 3 (shiftRow o (m + 1))]) (b := 0) (l := shiftRow o (m + 1)) (i := m) (sz := some 1) rfl (by rw [shiftRow_len (by omega)]; omega)
       rw [shiftRow_get (by omega) (by omega)] at lda
       have sta := int_store (h := [intR.row 3 (shiftRow o (m + 1))]) (b := 0) (lo := 0) (l := shiftRow o (m + 1)) (i := m + 1) o[m] rfl (Nat.le_refl _) (by rw [shiftRow_len (by omega)]; omega)
       rw [shiftRow_down hmo] at sta
       push_cast at ixb
       simp -implicitDefEqProofs [k78_11] at ih
       simp -implicitDefEqProofs [r78_11, k78_11, hkm', w4, ixa, ixb, lda, sta, trim_le]
       exact ih
      ·have e : m = k := by omega
       subst e
       simp -implicitDefEqProofs [r78_11, k78_11, trim_le]
  ·exact Nat.le_refl _
  ·simp -implicitDefEqProofs [k78_6]
  ·rfl
  ·intro nx k hk ih
   cases k with
   | zero => simp -implicitDefEqProofs [r78_6, k78_6, scan, trim_le]
   | succ k =>
    have hko : k < o.length := by omega
    have w1 : IntKind.i64.wrap ((k : Int) + 1 - 1) = (k : Int) := (wrap64 (by omega) (by omega)).trans (by omega)
    have w2 : IntKind.i64.wrap (k : Int) = (k : Int) := wrap64 (by omega) (by omega)
    have hpos : (0 : Int) < (k : Int) + 1 := by omega
    have ih := ih k (by omega) (by omega)
    have e : scan (fun j => decide (z < o.getD j 0)) (k + 1) = if decide (z < o.getD k 0) then scan (fun j => decide (z < o.getD j 0)) k else k + 1 := rfl
    rw [e, gd k hko]
    simp -implicitDefEqProofs [k78_6] at ih
    by_cases hz : z < o[k]
    ·simp -implicitDefEqProofs [r78_6, k78_6, hpos, w2, ixo k hko, ldo k hko, ixl, hz, trim_le]
     exact ih
    ·simp -implicitDefEqProofs [r78_6, k78_6, hpos, w2, ixo k hko, ldo k hko, ixl, hz, trim_le]
open Rg (Rect scan scan_le putAt sortU edgesX own colC colF gstep ends)
theorem xsL_app (a b : List Rect) : xsL a ++ xsL b = xsL (a ++ b) := List.flatMap_append.symm
theorem edges_spec (k m : Option Bool) (a b : List Rect) (hk : Rec.Ok k a) (hm : Rec.Ok m b) (ha : a.length ≤ 1000) (hb : b.length ≤ 1000) : pureCall E.P (L E) 58 [rectR.o k a, rectR.o m b] = some (iT (edgesX (a ++ b))) := by
 have sp := sorted_spec (xsL (a ++ b)) (by rw [xsL_len, List.length_append]; omega)
 rw [pureCall_fn F58 rfl]
 simp -implicitDefEqProofs [r58, p58, prep_new, newK_nil s3]
 rw [LL_for (γ := List Int) a [] (fun i c => [(5, intR.sl 0 c), (6, .int .i64 i)]) (fun _ c => [intR.row 3 c])
  (fun _ rest c => (.exit 0, [(5, intR.sl 0 (c ++ xsL rest)), (6, undef)], [intR.row 3 (c ++ xsL rest)])) (fun i c => c.length = 2 * i) (by omega) rfl]
 ·rw [List.nil_append]
  simp -implicitDefEqProofs [k58_3]
  rw [LL_for (γ := List Int) b (xsL a) (fun i c => [(5, intR.sl 0 c), (7, .int .i64 i)]) (fun _ c => [intR.row 3 c])
   (fun _ rest c => (.exit 2, [(5, intR.sl 0 (c ++ xsL rest)), (7, undef)], [intR.row 3 (c ++ xsL rest)])) (fun i c => c.length = 2 * a.length + 2 * i) (by omega) (xsL_len a)]
  ·obtain ⟨g, fz⟩ := int_freeze (h := [intR.row 3 (xsL (a ++ b))]) (b := 0) (lo := 0) (l := xsL (a ++ b)) rfl (Nat.le_refl _)
   have e : iT (sortU (xsL (a ++ b))) = iT (edgesX (a ++ b)) := rfl
   rw [xsL_app]
   simp -implicitDefEqProofs [k58_7, prep_frz, fz, ret1 m78, iT_set, sp, e]
   rfl
  ·simp -implicitDefEqProofs [k58_7]
  ·rfl
  ·intro nx i c hi _
   simp -implicitDefEqProofs [r58_7, k58_7, hi, Rec.o_len hm, trim_le, xsL]
  ·intro nx i r rest c hi hv hd hw hc ih
   have ixi := Rec.o_index (R := rectR) (t := 41) (kk := .i64) (s := 4) rfl hm hi
   rw [hv] at ixi
   have ap := app_two' (h := [intR.row 3 c]) (b := 0) (lo := 0) (c := c) r.x0 r.x1 rfl (Nat.le_refl _) (by omega)
   have ih := ih (c ++ [r.x0, r.x1]) (by simp; omega)
   rw [xsL_cons, ← List.append_assoc]
   simp -implicitDefEqProofs [k58_7, -List.append_assoc] at ih
   simp -implicitDefEqProofs [r58_7, k58_7, hi, ixi, Rec.o_len hm, rect_val, lit_two, ap, hw, trim_le, -List.append_assoc]
   exact ih
 ·simp -implicitDefEqProofs [k58_3, Rec.sl_nil]
 ·rfl
 ·intro nx i c hi _
  simp -implicitDefEqProofs [r58_3, k58_3, hi, Rec.o_len hk, trim_le, xsL]
 ·intro nx i r rest c hi hv hd hw hc ih
  have ixi := Rec.o_index (R := rectR) (t := 41) (kk := .i64) (s := 4) rfl hk hi
  rw [hv] at ixi
  have ap := app_two' (h := [intR.row 3 c]) (b := 0) (lo := 0) (c := c) r.x0 r.x1 rfl (Nat.le_refl _) (by omega)
  have ih := ih (c ++ [r.x0, r.x1]) (by simp; omega)
  rw [xsL_cons, ← List.append_assoc]
  simp -implicitDefEqProofs [k58_3, -List.append_assoc] at ih
  simp -implicitDefEqProofs [r58_3, k58_3, hi, ixi, Rec.o_len hk, rect_val, lit_two, ap, hw, trim_le, -List.append_assoc]
  exact ih
theorem ints_spec (l r : List Int) (hl : l.length ≤ 1000000) : pureCall E.P (L E) 61 [iT l, iT r] = some (.bool (decide (l = r))) := by
 rw [pureCall_fn F61 rfl]
 simp -implicitDefEqProofs [r61, padS, iT_len]
 by_cases hlen : l.length = r.length
 ·simp -implicitDefEqProofs [hlen]
  rw [LL_for (γ := Unit) l () (fun i _ => [(5, .int .i64 i)]) (fun _ _ => []) (fun i rest _ => if eqL rest (r.drop i) then (.exit 0, [(5, undef)], []) else (.ret, [(4, .bool false), (5, undef)], [])) (fun _ _ => True) (by omega) trivial]
  ·cases h : eqL l r
   ·have : ¬ l = r := of_decide_eq_false h
    simp -implicitDefEqProofs [this, k61_4, h]
   ·have : l = r := of_decide_eq_true h
    simp -implicitDefEqProofs [this, k61_4, eqL]
  ·simp -implicitDefEqProofs [k61_4]
  ·rfl
  ·intro nx i c hi _
   have hd0 : eqL [] (r.drop i) = true := by rw [List.drop_eq_nil_of_le (by omega)]; rfl
   rw [hd0]
   simp -implicitDefEqProofs [r61_4, k61_4, iT_len, hi, hlen, trim_le]
  ·intro nx i v rest c hi hv hd hw _ ih
   have ih := ih () trivial
   have hi' : i < r.length := by omega
   have hrd : r.drop i = r[i] :: r.drop (i + 1) := List.drop_eq_getElem_cons hi'
   have ixl := iT_index hi
   have ixr := iT_index hi'
   rw [hv] at ixl
   rw [hrd, eqL_cons]
   simp -implicitDefEqProofs [k61_4] at ih
   by_cases he : v = r[i]
   ·rw [he] at ixl
    simp -implicitDefEqProofs [r61_4, k61_4, iT_len, hi', hlen, ixl, ixr, hw, he, trim_le]
    exact ih
   ·simp -implicitDefEqProofs [r61_4, k61_4, iT_len, hi', hlen, ixl, ixr, he, trim_le]
 ·have : ¬ l = r := fun e => hlen (by rw [e])
  have hlen' : ¬ ((l.length : Int) = r.length) := by omega
  simp -implicitDefEqProofs [hlen', this]
open Rg (Rect scan scan_le putAt sortU edgesX own own_cons colC colF gstep ends)
def insC (c : List (Int × Int)) (s : Int × Int) : List (Int × Int) := putAt c (scan (fun j => decide (s.1 < (c.map (·.1)).getD j 0)) c.length) s
theorem insC_fold : ∀ (l c : List (Int × Int)), c.Pairwise (fun a b => a.1 ≤ b.1) → (l.foldl insC c).Pairwise (fun a b => a.1 ≤ b.1) ∧ (l.foldl insC c).Perm (l ++ c)
 | [], c, h => ⟨h, .refl _⟩
 | s :: l, c, h => by
  obtain ⟨h1, h2⟩ := insC_fold l (insC c s) (Rg.putAt_sorted (key := fun p : Int × Int => p.1) h)
  refine ⟨h1, h2.trans ?_⟩
  exact ((Rg.putAt_perm c _ s).append_left l).trans List.perm_middle
theorem insC_len (c : List (Int × Int)) (s : Int × Int) : (insC c s).length = c.length + 1 := Rg.putAt_len _ _ _
theorem putAt_map {α β : Type} (f : α → β) (c : List α) (k : Nat) (s : α) : (putAt c k s).map f = putAt (c.map f) k (f s) := by
 unfold putAt
 rw [List.map_append, List.map_take, List.map_cons, List.map_drop]
theorem ref_col {l : List Rect} (hl : ∀ r ∈ l, r.y0 < r.y1) (x : Int) : ((own l x).foldl insC []).foldl gstep [] = colC l x := by
 obtain ⟨h1, h2⟩ := insC_fold (own l x) [] .nil
 rw [List.append_nil] at h2
 have hs : ∀ u ∈ (own l x).foldl insC [], u.1 < u.2 := fun u hu => by
  have hu := h2.mem_iff.1 hu
  unfold own at hu
  obtain ⟨r, hr, rfl⟩ := List.mem_map.1 hu
  exact hl r (List.mem_filter.1 hr).1
 rw [Rg.gstep_col]
 refine (Rg.colF_can h1 hs).unique (Rg.colC_ok hl x).1 fun y => ?_
 rw [Rg.colF_has h1 hs, Rg.hasS_perm h2, Rg.own_has, (Rg.colC_ok hl x).2]
theorem ends_snoc (d : List (Int × Int)) (u : Int × Int) : ends (d ++ [u]) = ends d ++ [u.1, u.2] := by
 unfold ends; rw [List.flatMap_append]; rfl
theorem ends_last {d : List (Int × Int)} {u : Int × Int} (z : Int) : (ends (d ++ [u])).set (2 * d.length + 1) z = ends (d ++ [(u.1, z)]) := by
 rw [ends_snoc, ends_snoc, List.set_append_right _ _ (by rw [Rg.ends_len]; omega), Rg.ends_len]
 rw [show 2 * d.length + 1 - 2 * d.length = 1 by omega]; rfl
theorem ends_get {d : List (Int × Int)} {u : Int × Int} (h : 2 * d.length + 1 < (ends (d ++ [u])).length) : (ends (d ++ [u]))[2 * d.length + 1] = u.2 := by
 have e := ends_snoc d u
 have : (ends (d ++ [u]))[2 * d.length + 1]? = some u.2 := by
  rw [e, List.getElem?_append_right (by rw [Rg.ends_len]; omega), Rg.ends_len, show 2 * d.length + 1 - 2 * d.length = 1 by omega]; rfl
 rw [List.getElem?_eq_getElem h] at this
 exact Option.some.inj this
theorem rcolumn_spec (k : Option Bool) (l : List Rect) (x : Int) (hk : Rec.Ok k l) (hl : l.length ≤ 1000) : pureCall E.P (L E) 60 [rectR.o k l, .int .i64 x] = some (iT (ends (((own l x).foldl insC []).foldl gstep []))) := by
 rw [pureCall_fn F60 rfl]
 simp -implicitDefEqProofs [r60, p60, prep_new, newK_nil s3]
 rw [LL_for (γ := List (Int × Int)) l [] (fun i c => [(5, intR.sl 0 (c.map (·.1))), (6, intR.sl 1 (c.map (·.2))), (7, .int .i64 i)]) (fun _ c => [intR.row 3 (c.map (·.1)), intR.row 3 (c.map (·.2))])
  (fun _ rest c => (.exit 0, [(5, intR.sl 0 (((own rest x).foldl insC c).map (·.1))), (6, intR.sl 1 (((own rest x).foldl insC c).map (·.2))), (7, undef)], [intR.row 3 (((own rest x).foldl insC c).map (·.1)), intR.row 3 (((own rest x).foldl insC c).map (·.2))])) (fun i c => c.length ≤ i) (by omega) (Nat.le_refl _)]
 ·have hcl : ((own l x).foldl insC []).length ≤ 1000 := by
   rw [(insC_fold (own l x) [] .nil).2.length_eq, List.append_nil]
   have := own_len l x; omega
  generalize (own l x).foldl insC [] = c at hcl ⊢
  simp -implicitDefEqProofs [k60_4, prep_new, newK_nil s3]
  rw [LL_for (γ := List (Int × Int)) c [] (fun i d => [(9, intR.sl 2 (ends d)), (10, .int .i64 i)]) (fun _ d => [intR.row 3 (c.map (·.1)), intR.row 3 (c.map (·.2)), intR.row 3 (ends d)])
   (fun _ rest d => (.exit 4, [(9, intR.sl 2 (ends (rest.foldl gstep d))), (10, undef)], [intR.row 3 (c.map (·.1)), intR.row 3 (c.map (·.2)), intR.row 3 (ends (rest.foldl gstep d))])) (fun i d => d.length ≤ i) (by omega) (Nat.le_refl _)]
  ·have rr := int_reifyR (h := [intR.row 3 (c.map (·.1)), intR.row 3 (c.map (·.2)), intR.row 3 (ends (c.foldl gstep []))]) (b := 2) (l := ends (c.foldl gstep [])) rfl
   simp -implicitDefEqProofs [k60_18, rr]
  ·simp -implicitDefEqProofs [k60_18, ends, Rec.sl_nil]
  ·rfl
  ·intro nx i d hi _
   simp -implicitDefEqProofs [r60_18, k60_18, hi, Rec.sl_len, trim_le]
  ·intro nx i s rest d hi hv hd hw hdl ih
   have ih := ih (gstep d s) (by have := gstep_len d s; omega)
   simp -implicitDefEqProofs [k60_18] at ih
   rw [List.foldl_cons]
   have hi1 : i < (c.map (·.1)).length := by simpa using hi
   have hi2 : i < (c.map (·.2)).length := by simpa using hi
   have e1 : (c.map (·.1))[i] = s.1 := by rw [List.getElem_map, hv]
   have e2 : (c.map (·.2))[i] = s.2 := by rw [List.getElem_map, hv]
   have ix1 := int_index (g := some false) (b := 0) (l := c.map (·.1)) hi1
   have ix2 := int_index (g := some false) (b := 1) (l := c.map (·.2)) hi2
   have ld1 := int_load (h := [intR.row 3 (c.map (·.1)), intR.row 3 (c.map (·.2)), intR.row 3 (ends d)]) (b := 0) (l := c.map (·.1)) (sz := some 1) rfl hi1
   have ld2 := int_load (h := [intR.row 3 (c.map (·.1)), intR.row 3 (c.map (·.2)), intR.row 3 (ends d)]) (b := 1) (l := c.map (·.2)) (sz := some 1) rfl hi2
   rw [e1] at ld1
   rw [e2] at ld2
   have ap := app_two' (h := [intR.row 3 (c.map (·.1)), intR.row 3 (c.map (·.2)), intR.row 3 (ends d)]) (b := 2) (lo := 0) (c := ends d) s.1 s.2 rfl (Nat.zero_le _) (by rw [Rg.ends_len]; omega)
   rcases List.eq_nil_or_concat d with h0 | ⟨d', u, h0⟩
   ·subst h0
    have e : gstep [] s = [(s.1, s.2)] := rfl
    have en : ends [(s.1, s.2)] = [s.1, s.2] := rfl
    have e0 : ends ([] : List (Int × Int)) = [] := rfl
    rw [e, en] at ih
    rw [e]
    rw [e0] at ap ld1 ld2
    simp -implicitDefEqProofs [r60_18, k60_18, hi, ix1, ix2, ld1, ld2, e0, Rec.sl_len, lit_two, ap, hw, trim_le]
    exact ih
   ·rw [List.concat_eq_append] at h0
    subst h0
    have hel : (ends (d' ++ [u])).length = 2 * d'.length + 2 := by rw [Rg.ends_len, List.length_append]; show 2 * (d'.length + 1) = _; omega
    have hn : 2 * d'.length + 1 < (ends (d' ++ [u])).length := by omega
    have wl : IntKind.i64.wrap (((ends (d' ++ [u])).length : Int) - 1) = ((2 * d'.length + 1 : Nat) : Int) := by
     rw [hel]; exact (wrap64 (by rw [List.length_append] at hdl; omega) (by rw [List.length_append] at hdl; omega)).trans (by omega)
    have hpos : (0 : Int) < ((ends (d' ++ [u])).length : Int) := by omega
    have hposN : 0 < (ends (d' ++ [u])).length := by omega
    have ix3 := int_index (g := some false) (b := 2) (l := ends (d' ++ [u])) hn
    have ld3 := int_load (h := [intR.row 3 (c.map (·.1)), intR.row 3 (c.map (·.2)), intR.row 3 (ends (d' ++ [u]))]) (b := 2) (l := ends (d' ++ [u])) (sz := some 1) rfl hn
    rw [ends_get hn] at ld3
    have st3 := int_store (h := [intR.row 3 (c.map (·.1)), intR.row 3 (c.map (·.2)), intR.row 3 (ends (d' ++ [u]))]) (b := 2) (lo := 0) (l := ends (d' ++ [u])) (max u.2 s.2) rfl (Nat.zero_le _) hn
    rw [ends_last] at st3
    generalize hpn : ((2 * d'.length + 1 : Nat) : Int) = pn at *
    rw [Rg.gstep_snoc] at ih ⊢
    by_cases hs : s.1 ≤ u.2
    ·rw [if_pos hs] at ih ⊢
     have esl : intR.sl 2 (ends (d' ++ [(u.1, max u.2 s.2)])) = intR.sl 2 (ends (d' ++ [u])) := int_sl (by rw [Rg.ends_len, Rg.ends_len]; simp)
     rw [esl] at ih
     simp -implicitDefEqProofs [r60_18, k60_18, hi, ix1, ix2, ld1, ld2, Rec.sl_len, hposN, wl, ix3, ld3, hs, max_int, st3, hw, trim_le]
     exact ih
    ·rw [if_neg hs] at ih ⊢
     have ea : d' ++ [u, s] = (d' ++ [u]) ++ [s] := by rw [List.append_assoc]; rfl
     rw [ea, ends_snoc (d' ++ [u]) s] at ih
     rw [ea]
     simp -implicitDefEqProofs [r60_18, k60_18, hi, ix1, ix2, ld1, ld2, Rec.sl_len, hposN, wl, ix3, ld3, hs, lit_two, ap, hw, trim_le, -List.append_assoc]
     exact ih
 ·simp -implicitDefEqProofs [k60_4, Rec.sl_nil]
 ·rfl
 ·intro nx i c hi _
  simp -implicitDefEqProofs [r60_4, k60_4, hi, Rec.o_len hk, trim_le, own]
 ·intro nx i r rest c hi hv hd hw hc ih
  have ixi := Rec.o_index (R := rectR) (t := 41) (kk := .i64) (s := 4) rfl hk hi
  rw [hv] at ixi
  rw [own_cons]
  by_cases h1 : r.x0 ≤ x
  case neg =>
   have h1' : x < r.x0 := by omega
   have ih := ih c (by omega)
   rw [if_neg (fun e => h1 e.1), List.nil_append]
   simp -implicitDefEqProofs [k60_4] at ih
   simp -implicitDefEqProofs [r60_4, k60_4, hi, ixi, Rec.o_len hk, rect_val, h1', hw, trim_le]
   exact ih
  have h1' : ¬ (x < r.x0) := by omega
  by_cases h2 : x < r.x1
  case neg =>
   have h2' : r.x1 ≤ x := by omega
   have ih := ih c (by omega)
   rw [if_neg (fun e => h2 e.2), List.nil_append]
   simp -implicitDefEqProofs [k60_4] at ih
   simp -implicitDefEqProofs [r60_4, k60_4, hi, ixi, Rec.o_len hk, rect_val, h1', h2', hw, trim_le]
   exact ih
  have h2' : ¬ (r.x1 ≤ x) := by omega
  rw [if_pos ⟨h1, h2⟩]
  have ih := ih (insC c (r.y0, r.y1)) (by rw [insC_len]; omega)
  simp -implicitDefEqProofs [k60_4] at ih
  have ap1 := app_num (h := [intR.row 3 (c.map (·.1)), intR.row 3 (c.map (·.2))]) (b := 0) (lo := 0) (c := c.map (·.1)) 0 rfl (Nat.le_refl _) (by simp; omega)
  have ap2 := app_num (h := [intR.row 3 (c.map (·.1) ++ [0]), intR.row 3 (c.map (·.2))]) (b := 1) (lo := 0) (c := c.map (·.2)) 0 rfl (Nat.zero_le _) (by simp; omega)
  have hf : (c.map (·.1)).length = c.length := List.length_map _
  have ht : (c.map (·.2)).length = c.length := List.length_map _
  have ec1 : (insC c (r.y0, r.y1)).map (·.1) = putAt (c.map (·.1)) (scan (fun j => decide (r.y0 < (c.map (·.1)).getD j 0)) c.length) r.y0 := putAt_map _ _ _ _
  have ec2 : (insC c (r.y0, r.y1)).map (·.2) = putAt (c.map (·.2)) (scan (fun j => decide (r.y0 < (c.map (·.1)).getD j 0)) c.length) r.y1 := putAt_map _ _ _ _
  rw [ec1, ec2] at ih
  rw [List.singleton_append, List.foldl_cons]
  generalize (own rest x).foldl insC (insC c (r.y0, r.y1)) = C at ih ⊢
  clear ec1 ec2
  have hcl : c.length ≤ 1000 := by omega
  generalize c.map (·.1) = f at *
  generalize c.map (·.2) = t at *
  generalize c.length = n at *
  have gd : ∀ j (hj : j < f.length), f.getD j 0 = f[j] := fun j hj => by rw [List.getD_eq_getElem?_getD, List.getElem?_eq_getElem hj]; rfl
  have hsc := scan_le (fun j => decide (r.y0 < f.getD j 0)) n
  have esf : ∀ m, m ≤ n → intR.sl 0 (shiftRow f m) = intR.sl 0 (f ++ [0]) := fun m hm => int_sl (by rw [shiftRow_len (by omega)]; simp)
  have est : ∀ m, m ≤ n → intR.sl 1 (shiftRow t m) = intR.sl 1 (t ++ [0]) := fun m hm => int_sl (by rw [shiftRow_len (by omega)]; simp)
  have ixf := fun (m : Nat) (hm : m ≤ n) (j : Nat) (hj : j < n + 1) => (esf m hm) ▸ int_index (g := some false) (b := 0) (l := shiftRow f m) (i := j) (by rw [shiftRow_len (by omega)]; omega)
  have ixt := fun (m : Nat) (hm : m ≤ n) (j : Nat) (hj : j < n + 1) => (est m hm) ▸ int_index (g := some false) (b := 1) (l := shiftRow t m) (i := j) (by rw [shiftRow_len (by omega)]; omega)
  have top1 : shiftRow f n = f ++ [0] := by rw [← hf]; exact shiftRow_top f
  have top2 : shiftRow t n = t ++ [0] := by rw [← ht]; exact shiftRow_top t
  simp -implicitDefEqProofs [r60_4, k60_4, hi, ixi, Rec.o_len hk, rect_val, h1', h2', Rec.sl_len, hf, lit_num, ap1, ap2]
  rw [LL_rec (α := Nat) n (fun m => [(8, .int .i64 (m : Int))]) (fun m => [intR.row 3 (shiftRow f m), intR.row 3 (shiftRow t m)])
   (fun m => (.exit 2, [(8, .int .i64 ((scan (fun j => decide (r.y0 < f.getD j 0)) m : Nat) : Int))], [intR.row 3 (shiftRow f (scan (fun j => decide (r.y0 < f.getD j 0)) m)), intR.row 3 (shiftRow t (scan (fun j => decide (r.y0 < f.getD j 0)) m))])) (fun m => m ≤ n) (fun m => m)]
  ·generalize scan (fun j => decide (r.y0 < f.getD j 0)) n = k at hsc ih ⊢
   have sp1 : intR.sl 0 (putAt f k r.y0) = intR.sl 0 (f ++ [0]) := int_sl (by rw [Rg.putAt_len]; simp)
   have sp2 : intR.sl 1 (putAt t k r.y1) = intR.sl 1 (t ++ [0]) := int_sl (by rw [Rg.putAt_len]; simp)
   rw [sp1, sp2] at ih
   have ix1 := ixf k hsc k (by omega)
   have ix2 := ixt k hsc k (by omega)
   have st1 := int_store (h := [intR.row 3 (shiftRow f k), intR.row 3 (shiftRow t k)]) (b := 0) (lo := 0) (l := shiftRow f k) (i := k) r.y0 rfl (Nat.le_refl _) (by rw [shiftRow_len (by omega)]; omega)
   rw [shiftRow_set (by omega)] at st1
   have st2 := int_store (h := [intR.row 3 (putAt f k r.y0), intR.row 3 (shiftRow t k)]) (b := 1) (lo := 0) (l := shiftRow t k) (i := k) r.y1 rfl (Nat.zero_le _) (by rw [shiftRow_len (by omega)]; omega)
   rw [shiftRow_set (by omega)] at st2
   simp -implicitDefEqProofs [k60_10, ix1, ix2, ixi, rect_val, st1, st2, hw, trim_le]
   exact ih
  ·exact Nat.le_refl _
  ·simp -implicitDefEqProofs [k60_10]
  ·simp only [top1, top2]
  ·intro nx m hm ih
   cases m with
   | zero => simp -implicitDefEqProofs [r60_10, k60_10, scan, trim_le]
   | succ m =>
    have hmf : m < f.length := by omega
    have hmt : m < t.length := by omega
    have w3 : IntKind.i64.wrap ((m : Int) + 1 - 1) = (m : Int) := (wrap64 (by omega) (by omega)).trans (by omega)
    have w4 : IntKind.i64.wrap (m : Int) = (m : Int) := wrap64 (by omega) (by omega)
    have hpos : (0 : Int) < (m : Int) + 1 := by omega
    have e : scan (fun j => decide (r.y0 < f.getD j 0)) (m + 1) = if decide (r.y0 < f.getD m 0) then scan (fun j => decide (r.y0 < f.getD j 0)) m else m + 1 := rfl
    rw [e, gd m hmf]
    have ixa := ixf (m + 1) (by omega) m (by omega)
    have ixb := ixf (m + 1) (by omega) (m + 1) (by omega)
    have iya := ixt (m + 1) (by omega) m (by omega)
    have iyb := ixt (m + 1) (by omega) (m + 1) (by omega)
    have lda := int_load (h := [intR.row 3 (shiftRow f (m + 1)), intR.row 3 (shiftRow t (m + 1))]) (b := 0) (l := shiftRow f (m + 1)) (i := m) (sz := some 1) rfl (by rw [shiftRow_len (by omega)]; omega)
    rw [shiftRow_get (by omega) (by omega)] at lda
    have sta := int_store (h := [intR.row 3 (shiftRow f (m + 1)), intR.row 3 (shiftRow t (m + 1))]) (b := 0) (lo := 0) (l := shiftRow f (m + 1)) (i := m + 1) f[m] rfl (Nat.le_refl _) (by rw [shiftRow_len (by omega)]; omega)
    rw [shiftRow_down (by omega)] at sta
    have ldb := int_load (h := [intR.row 3 (shiftRow f m), intR.row 3 (shiftRow t (m + 1))]) (b := 1) (l := shiftRow t (m + 1)) (i := m) (sz := some 1) rfl (by rw [shiftRow_len (by omega)]; omega)
    rw [shiftRow_get (by omega) (by omega)] at ldb
    have stb := int_store (h := [intR.row 3 (shiftRow f m), intR.row 3 (shiftRow t (m + 1))]) (b := 1) (lo := 0) (l := shiftRow t (m + 1)) (i := m + 1) t[m] rfl (Nat.zero_le _) (by rw [shiftRow_len (by omega)]; omega)
    rw [shiftRow_down (by omega)] at stb
    push_cast at ixb iyb
    have ih := ih m (by omega) (by omega)
    simp -implicitDefEqProofs [k60_10] at ih
    by_cases hz : r.y0 < f[m]
    ·simp -implicitDefEqProofs [r60_10, k60_10, hpos, w4, ixa, ixb, iya, iyb, lda, ldb, sta, stb, ixi, rect_val, hz, trim_le]
     exact ih
    ·simp -implicitDefEqProofs [r60_10, k60_10, hpos, w4, ixa, lda, ixi, rect_val, hz, trim_le]
section
variable {P : Program} {t : TypeId}
theorem rem_nat {m n : Nat} (hn : 0 < n) : aBin P .rem t (.int .i64 (m : Int)) (.int .i64 (n : Int)) = some (.int .i64 ((m % n : Nat) : Int)) := by
 show (if (n : Int) = 0 then none else some (Value.int .i64 ((m : Int).tmod n))) = _
 rw [if_neg (by omega), Int.tmod_eq_emod_of_nonneg (by omega)]
 rfl
end
open Rg (swp)
theorem min_int (a b : Int) : aMinMax false [.int .i64 a, .int .i64 b] = some (.int .i64 (min a b)) := by
 show some (Value.int .i64 (if b < a then b else a)) = _
 congr 2
 omega
def odd (i : Nat) : Bool := decide (((i % 2 : Nat) : Int) = 1)
theorem odd_succ (i : Nat) : odd (i + 1) = !odd i := by
 unfold odd
 by_cases h : i % 2 = 1
 ·have h' : (i + 1) % 2 = 0 := by omega
  rw [h, h']; rfl
 ·have h0 : i % 2 = 0 := by omega
  have h' : (i + 1) % 2 = 1 := by omega
  rw [h0, h']; rfl
theorem swp_left (f : Bool → Bool → Bool) {a b : List Int} {i k : Nat} (hi : i < a.length) (hk : b.length ≤ k ∨ ∃ h : k < b.length, a[i] < b[k]) (w : Bool) :
  swp f (a.drop i) (b.drop k) (odd i) (odd k) w = (if f (odd (i + 1)) (odd k) = w then [] else [a[i]]) ++ swp f (a.drop (i + 1)) (b.drop k) (odd (i + 1)) (odd k) (f (odd (i + 1)) (odd k)) := by
 rw [List.drop_eq_getElem_cons hi, odd_succ]
 rcases hk with hk | ⟨hk, hlt⟩
 ·rw [List.drop_of_length_le hk, swp]
 ·rw [List.drop_eq_getElem_cons hk, swp, if_pos hlt]
theorem swp_right (f : Bool → Bool → Bool) {a b : List Int} {i k : Nat} (hk : k < b.length) (hi : a.length ≤ i ∨ ∃ h : i < a.length, b[k] < a[i]) (w : Bool) :
  swp f (a.drop i) (b.drop k) (odd i) (odd k) w = (if f (odd i) (odd (k + 1)) = w then [] else [b[k]]) ++ swp f (a.drop i) (b.drop (k + 1)) (odd i) (odd (k + 1)) (f (odd i) (odd (k + 1))) := by
 rw [List.drop_eq_getElem_cons hk, odd_succ]
 rcases hi with hi | ⟨hi, hlt⟩
 ·rw [List.drop_of_length_le hi, swp]
 ·rw [List.drop_eq_getElem_cons hi, swp, if_neg (by omega), if_pos hlt]
theorem swp_both (f : Bool → Bool → Bool) {a b : List Int} {i k : Nat} (hi : i < a.length) (hk : k < b.length) (he : a[i] = b[k]) (w : Bool) :
  swp f (a.drop i) (b.drop k) (odd i) (odd k) w = (if f (odd (i + 1)) (odd (k + 1)) = w then [] else [a[i]]) ++ swp f (a.drop (i + 1)) (b.drop (k + 1)) (odd (i + 1)) (odd (k + 1)) (f (odd (i + 1)) (odd (k + 1))) := by
 rw [List.drop_eq_getElem_cons hi, List.drop_eq_getElem_cons hk, odd_succ, odd_succ, swp, if_neg (by omega), if_neg (by omega)]
set_option maxHeartbeats 4000000 in
theorem rcombine_spec (a b : List Int) (z : Int) (f : Bool → Bool → Bool) (hz : (z = 0 ∧ f = orF) ∨ (z = 1 ∧ f = andF) ∨ (z = 2 ∧ f = subF)) (ha : a.length ≤ 100000) (hb : b.length ≤ 100000) :
  pureCall E.P (L E) 59 [iT a, iT b, .int .i64 z] = some (iT (swp f a b false false false)) := by
 have ub : E.P.underlying 4 = some .bool := by kernel_rfl
 have bne : ∀ p q, aBin E.P .neq 4 (.bool p) (.bool q) = some (.bool (!(p == q))) := fun p q => bin_neq_bool ub
 rw [pureCall_fn F59 rfl]
 simp -implicitDefEqProofs [r59, p59, prep_new, newK_nil s3]
 rw [LL_rec (α := Nat × Nat × Bool × List Int) (0, 0, false, []) (fun s => [(7, intR.sl 0 s.2.2.2), (8, .int .i64 (s.1 : Int)), (9, .int .i64 (s.2.1 : Int)), (10, .bool s.2.2.1)]) (fun s => [intR.row 3 s.2.2.2])
  (fun s => (.exit 0, [(7, intR.sl 0 (s.2.2.2 ++ swp f (a.drop s.1) (b.drop s.2.1) (odd s.1) (odd s.2.1) s.2.2.1)), (8, undef), (9, undef), (10, undef)], [intR.row 3 (s.2.2.2 ++ swp f (a.drop s.1) (b.drop s.2.1) (odd s.1) (odd s.2.1) s.2.2.1)]))
  (fun s => s.1 ≤ a.length ∧ s.2.1 ≤ b.length ∧ s.2.2.2.length ≤ s.1 + s.2.1) (fun s => (a.length - s.1) + (b.length - s.2.1))]
 ·have rr := int_reifyR (h := [intR.row 3 (swp f a b false false false)]) (b := 0) (l := swp f a b false false false) rfl
  have o0 : odd 0 = false := rfl
  simp -implicitDefEqProofs [k59_5, o0, rr]
 ·exact ⟨Nat.zero_le _, Nat.zero_le _, Nat.zero_le _⟩
 ·simp -implicitDefEqProofs [k59_5, Rec.sl_nil]
 ·rfl
 ·intro nx s hI ih
  obtain ⟨i, k, w, out⟩ := s
  obtain ⟨h1, h2, h3⟩ := hI
  simp only at h1 h2 h3 ih ⊢
  have wi : IntKind.i64.wrap ((i : Int) + 1) = ((i + 1 : Nat) : Int) := wrap64 (by omega) (by omega)
  have wk : IntKind.i64.wrap ((k : Int) + 1) = ((k + 1 : Nat) : Int) := wrap64 (by omega) (by omega)
  have rem2 : ∀ m : Nat, aBin E.P .rem 3 (.int .i64 (m : Int)) (.int .i64 2) = some (.int .i64 ((m % 2 : Nat) : Int)) := fun m => rem_nat (m := m) (n := 2) (by omega)
  have ap := fun (y : Int) => app_num (h := [intR.row 3 out]) (b := 0) (lo := 0) (c := out) y rfl (Nat.le_refl _) (by omega)
  have wl : 0 < b.length → IntKind.i64.wrap ((b.length : Int) - 1) = ((b.length - 1 : Nat) : Int) := fun h => (wrap64 (by omega) (by omega)).trans (by omega)
  by_cases hi : i < a.length
  ·have hii : (i : Int) < (a.length : Int) := by omega
   have ixi := iT_index hi
   by_cases hk : k < b.length
   ·have hkk : (k : Int) < (b.length : Int) := by omega
    have ixk := iT_index hk
    have hkn : ¬ ((b.length : Int) ≤ (k : Int)) := by omega
    have mn : min (k : Int) ((b.length - 1 : Nat) : Int) = (k : Int) := by omega
    have wl := wl (by omega)
    rcases Int.lt_trichotomy a[i] b[k] with hab | hab | hab
    ·skip
     rw [swp_left f hi (.inr ⟨hk, hab⟩) w]
     have ih := fun out' (hl : out'.length ≤ out.length + 1) => ih (i + 1, k, f (odd (i + 1)) (odd (k)), out') (by simp only; omega) (by simp only; omega)
     simp only at ih
     have ri := rem2 (i + 1)
     have rk := rem2 (k)
     have oi : decide ((((i + 1) % 2 : Nat) : Int) = 1) = odd (i + 1) := rfl
     have ok : decide ((((k) % 2 : Nat) : Int) = 1) = odd (k) := rfl
     generalize ((((i + 1) % 2 : Nat)) : Int) = mi at ri oi
     generalize ((((k) % 2 : Nat)) : Int) = mk at rk ok
     generalize odd (i + 1) = p at *
     generalize odd (k) = q at *
     have hle : a[i] ≤ b[k] := by omega
     have hne : ¬ (b[k] = a[i]) := by omega
     simp -implicitDefEqProofs [k59_5, -List.append_assoc, -Int.natCast_add] at ih
     rw [← List.append_assoc]
     rcases hz with ⟨rfl, rfl⟩ | ⟨rfl, rfl⟩ | ⟨rfl, rfl⟩
     ·cases p <;> cases q <;> cases w <;>
       simp -implicitDefEqProofs [r59_5, k59_5, orF, iT_len, hii, hkk, hkn, wl, mn, min_int, ixi, ixk, hle, hne, wi, ri, rk, oi, ok, bne, lit_num, ap, trim_le, -Int.natCast_add, -List.append_assoc] <;>
       first
       | exact ih out (Nat.le_succ _)
       | exact ih (out ++ [a[i]]) (by simp)
     ·cases p <;> cases q <;> cases w <;>
       simp -implicitDefEqProofs [r59_5, k59_5, andF, iT_len, hii, hkk, hkn, wl, mn, min_int, ixi, ixk, hle, hne, wi, ri, rk, oi, ok, bne, lit_num, ap, trim_le, -Int.natCast_add, -List.append_assoc] <;>
       first
       | exact ih out (Nat.le_succ _)
       | exact ih (out ++ [a[i]]) (by simp)
     ·cases p <;> cases q <;> cases w <;>
       simp -implicitDefEqProofs [r59_5, k59_5, subF, iT_len, hii, hkk, hkn, wl, mn, min_int, ixi, ixk, hle, hne, wi, ri, rk, oi, ok, bne, lit_num, ap, trim_le, -Int.natCast_add, -List.append_assoc] <;>
       first
       | exact ih out (Nat.le_succ _)
       | exact ih (out ++ [a[i]]) (by simp)
    ·skip
     rw [swp_both f hi hk hab w]
     have ih := fun out' (hl : out'.length ≤ out.length + 1) => ih (i + 1, k + 1, f (odd (i + 1)) (odd (k + 1)), out') (by simp only; omega) (by simp only; omega)
     simp only at ih
     have ri := rem2 (i + 1)
     have rk := rem2 (k + 1)
     have oi : decide ((((i + 1) % 2 : Nat) : Int) = 1) = odd (i + 1) := rfl
     have ok : decide ((((k + 1) % 2 : Nat) : Int) = 1) = odd (k + 1) := rfl
     generalize ((((i + 1) % 2 : Nat)) : Int) = mi at ri oi
     generalize ((((k + 1) % 2 : Nat)) : Int) = mk at rk ok
     generalize odd (i + 1) = p at *
     generalize odd (k + 1) = q at *
     have hle : b[k] ≤ b[k] := Int.le_refl _
     rw [hab] at ixi ⊢
     simp -implicitDefEqProofs [k59_5, -List.append_assoc, -Int.natCast_add] at ih
     rw [← List.append_assoc]
     rcases hz with ⟨rfl, rfl⟩ | ⟨rfl, rfl⟩ | ⟨rfl, rfl⟩
     ·cases p <;> cases q <;> cases w <;>
       simp -implicitDefEqProofs [r59_5, k59_5, orF, iT_len, hii, hkk, hkn, wl, mn, min_int, ixi, ixk, wi, wk, ri, rk, oi, ok, bne, lit_num, ap, trim_le, -Int.natCast_add, -List.append_assoc] <;>
       first
       | exact ih out (Nat.le_succ _)
       | exact ih (out ++ [b[k]]) (by simp)
     ·cases p <;> cases q <;> cases w <;>
       simp -implicitDefEqProofs [r59_5, k59_5, andF, iT_len, hii, hkk, hkn, wl, mn, min_int, ixi, ixk, wi, wk, ri, rk, oi, ok, bne, lit_num, ap, trim_le, -Int.natCast_add, -List.append_assoc] <;>
       first
       | exact ih out (Nat.le_succ _)
       | exact ih (out ++ [b[k]]) (by simp)
     ·cases p <;> cases q <;> cases w <;>
       simp -implicitDefEqProofs [r59_5, k59_5, subF, iT_len, hii, hkk, hkn, wl, mn, min_int, ixi, ixk, wi, wk, ri, rk, oi, ok, bne, lit_num, ap, trim_le, -Int.natCast_add, -List.append_assoc] <;>
       first
       | exact ih out (Nat.le_succ _)
       | exact ih (out ++ [b[k]]) (by simp)
    ·skip
     rw [swp_right f hk (.inr ⟨hi, hab⟩) w]
     have ih := fun out' (hl : out'.length ≤ out.length + 1) => ih (i, k + 1, f (odd (i)) (odd (k + 1)), out') (by simp only; omega) (by simp only; omega)
     simp only at ih
     have ri := rem2 (i)
     have rk := rem2 (k + 1)
     have oi : decide ((((i) % 2 : Nat) : Int) = 1) = odd (i) := rfl
     have ok : decide ((((k + 1) % 2 : Nat) : Int) = 1) = odd (k + 1) := rfl
     generalize ((((i) % 2 : Nat)) : Int) = mi at ri oi
     generalize ((((k + 1) % 2 : Nat)) : Int) = mk at rk ok
     generalize odd (i) = p at *
     generalize odd (k + 1) = q at *
     have hle : ¬ (a[i] ≤ b[k]) := by omega
     have hne : ¬ (a[i] = b[k]) := by omega
     simp -implicitDefEqProofs [k59_5, -List.append_assoc, -Int.natCast_add] at ih
     rw [← List.append_assoc]
     rcases hz with ⟨rfl, rfl⟩ | ⟨rfl, rfl⟩ | ⟨rfl, rfl⟩
     ·cases p <;> cases q <;> cases w <;>
       simp -implicitDefEqProofs [r59_5, k59_5, orF, iT_len, hii, hkk, hkn, wl, mn, min_int, ixi, ixk, hle, hne, wk, ri, rk, oi, ok, bne, lit_num, ap, trim_le, -Int.natCast_add, -List.append_assoc] <;>
       first
       | exact ih out (Nat.le_succ _)
       | exact ih (out ++ [b[k]]) (by simp)
     ·cases p <;> cases q <;> cases w <;>
       simp -implicitDefEqProofs [r59_5, k59_5, andF, iT_len, hii, hkk, hkn, wl, mn, min_int, ixi, ixk, hle, hne, wk, ri, rk, oi, ok, bne, lit_num, ap, trim_le, -Int.natCast_add, -List.append_assoc] <;>
       first
       | exact ih out (Nat.le_succ _)
       | exact ih (out ++ [b[k]]) (by simp)
     ·cases p <;> cases q <;> cases w <;>
       simp -implicitDefEqProofs [r59_5, k59_5, subF, iT_len, hii, hkk, hkn, wl, mn, min_int, ixi, ixk, hle, hne, wk, ri, rk, oi, ok, bne, lit_num, ap, trim_le, -Int.natCast_add, -List.append_assoc] <;>
       first
       | exact ih out (Nat.le_succ _)
       | exact ih (out ++ [b[k]]) (by simp)
   ·have hkn : (b.length : Int) ≤ (k : Int) := by omega
    have hkn' : b.length ≤ k := by omega
    ·skip
     rw [swp_left f hi (.inl hkn') w]
     have ih := fun out' (hl : out'.length ≤ out.length + 1) => ih (i + 1, k, f (odd (i + 1)) (odd (k)), out') (by simp only; omega) (by simp only; omega)
     simp only at ih
     have ri := rem2 (i + 1)
     have rk := rem2 (k)
     have oi : decide ((((i + 1) % 2 : Nat) : Int) = 1) = odd (i + 1) := rfl
     have ok : decide ((((k) % 2 : Nat) : Int) = 1) = odd (k) := rfl
     generalize ((((i + 1) % 2 : Nat)) : Int) = mi at ri oi
     generalize ((((k) % 2 : Nat)) : Int) = mk at rk ok
     generalize odd (i + 1) = p at *
     generalize odd (k) = q at *
     have hkk : ¬ ((k : Int) < (b.length : Int)) := by omega
     simp -implicitDefEqProofs [k59_5, -List.append_assoc, -Int.natCast_add] at ih
     rw [← List.append_assoc]
     rcases hz with ⟨rfl, rfl⟩ | ⟨rfl, rfl⟩ | ⟨rfl, rfl⟩
     ·cases p <;> cases q <;> cases w <;>
       simp -implicitDefEqProofs [r59_5, k59_5, orF, iT_len, hii, hkk, hkn, ixi, wi, ri, rk, oi, ok, bne, lit_num, ap, trim_le, -Int.natCast_add, -List.append_assoc] <;>
       first
       | exact ih out (Nat.le_succ _)
       | exact ih (out ++ [a[i]]) (by simp)
     ·cases p <;> cases q <;> cases w <;>
       simp -implicitDefEqProofs [r59_5, k59_5, andF, iT_len, hii, hkk, hkn, ixi, wi, ri, rk, oi, ok, bne, lit_num, ap, trim_le, -Int.natCast_add, -List.append_assoc] <;>
       first
       | exact ih out (Nat.le_succ _)
       | exact ih (out ++ [a[i]]) (by simp)
     ·cases p <;> cases q <;> cases w <;>
       simp -implicitDefEqProofs [r59_5, k59_5, subF, iT_len, hii, hkk, hkn, ixi, wi, ri, rk, oi, ok, bne, lit_num, ap, trim_le, -Int.natCast_add, -List.append_assoc] <;>
       first
       | exact ih out (Nat.le_succ _)
       | exact ih (out ++ [a[i]]) (by simp)
  ·have hii : ¬ ((i : Int) < (a.length : Int)) := by omega
   by_cases hk : k < b.length
   ·have hkk : (k : Int) < (b.length : Int) := by omega
    have ixk := iT_index hk
    ·skip
     rw [swp_right f hk (.inl (by omega)) w]
     have ih := fun out' (hl : out'.length ≤ out.length + 1) => ih (i, k + 1, f (odd (i)) (odd (k + 1)), out') (by simp only; omega) (by simp only; omega)
     simp only at ih
     have ri := rem2 (i)
     have rk := rem2 (k + 1)
     have oi : decide ((((i) % 2 : Nat) : Int) = 1) = odd (i) := rfl
     have ok : decide ((((k + 1) % 2 : Nat) : Int) = 1) = odd (k + 1) := rfl
     generalize ((((i) % 2 : Nat)) : Int) = mi at ri oi
     generalize ((((k + 1) % 2 : Nat)) : Int) = mk at rk ok
     generalize odd (i) = p at *
     generalize odd (k + 1) = q at *
     skip
     simp -implicitDefEqProofs [k59_5, -List.append_assoc, -Int.natCast_add] at ih
     rw [← List.append_assoc]
     rcases hz with ⟨rfl, rfl⟩ | ⟨rfl, rfl⟩ | ⟨rfl, rfl⟩
     ·cases p <;> cases q <;> cases w <;>
       simp -implicitDefEqProofs [r59_5, k59_5, orF, iT_len, hii, hkk, ixk, wk, ri, rk, oi, ok, bne, lit_num, ap, trim_le, -Int.natCast_add, -List.append_assoc] <;>
       first
       | exact ih out (Nat.le_succ _)
       | exact ih (out ++ [b[k]]) (by simp)
     ·cases p <;> cases q <;> cases w <;>
       simp -implicitDefEqProofs [r59_5, k59_5, andF, iT_len, hii, hkk, ixk, wk, ri, rk, oi, ok, bne, lit_num, ap, trim_le, -Int.natCast_add, -List.append_assoc] <;>
       first
       | exact ih out (Nat.le_succ _)
       | exact ih (out ++ [b[k]]) (by simp)
     ·cases p <;> cases q <;> cases w <;>
       simp -implicitDefEqProofs [r59_5, k59_5, subF, iT_len, hii, hkk, ixk, wk, ri, rk, oi, ok, bne, lit_num, ap, trim_le, -Int.natCast_add, -List.append_assoc] <;>
       first
       | exact ih out (Nat.le_succ _)
       | exact ih (out ++ [b[k]]) (by simp)
   ·have e1 : a.drop i = [] := List.drop_of_length_le (by omega)
    have e2 : b.drop k = [] := List.drop_of_length_le (by omega)
    rw [e1, e2]
    simp -implicitDefEqProofs [r59_5, k59_5, iT_len, hi, hk, swp, trim_le]
end Go.Proofs.Ythkddpgnhaeooaa.Bm
