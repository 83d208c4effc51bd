/-
 Shared caps, plain: greatest prefix sums, the states that rights can reach, and loads. Conditions: none. No program in sight.
-/
import Derived.Test.YtjkemccfcabhgaaGreatQB17
import Derived.Test.YtjkemccfcabhgaaGreatQB18
import Derived.Test.YtjkemccfcabhgaaGreatQB13
import Derived.Test.YtjkemccfcabhgaaGreatQB01
namespace Go.Proofs.YtjkemccfcabhgaaGreat.Bm
open Go Go.RowKit
open Rg (Rect scan scan_le putAt insN sortU edgesX)
def iT (l : List Int) : Value := lst false (l.map (.int .i64))
theorem iT_len {h : Heap} {l : List Int} : lenT .sl h (iT l) = some (.int .i64 l.length) := by unfold iT; rw [len_lst]; simp
theorem iT_index {l : List Int} {i : Nat} (hi : i < l.length) : indexAddrT (.sl 3 ⟨some false, some 1⟩) (iT l) (.int .i64 (i : Int)) = some (cptr (.int .i64 l[i])) := by
 unfold iT
 have e : (l.map (Value.int .i64))[i]? = some (.int .i64 l[i]) := by simp [hi]
 rw [index_lst, if_pos (by omega), show ((i : Int)).toNat = i by omega, e, Option.bind_some, if_pos (by rfl)]
theorem iT_set (l : List Int) : settled depth (iT l) = true := rfl
theorem iT_reify (h : Heap) (l : List Int) : reify E.P 8 h (iT l) = some (iT l) := rfl
theorem iT_bel {d n : Nat} {l : List Int} : below (d + 1) n (iT l) = true := rfl
theorem g3 : aggT E.P 3 = some false := by kernel_rfl
theorem int_reifyR {h : Heap} {b : Nat} {l : List Int} (hob : h[b]? = some (intR.row 3 l)) : reifyR E.P h (intR.sl b l) = some (iT l) := by
 have e0 : intR.sl b l = .slice (some ⟨b, 0, some l.length⟩) l.length l.length := by unfold Rec.sl; simp [intR]
 show reify E.P 8 h (intR.sl b l) = _
 rw [e0, reify_slice]
 by_cases h0 : l.length = 0
 ·have : l = [] := List.eq_nil_of_length_eq_zero h0
  subst this; rfl
 ·rw [if_neg h0, hob]
  unfold Rec.row
  rw [int_flat]
  show reifyS E.P 7 h (some (.cells 3 (l.map (.int .i64)) 1)) _ _ = _
  rw [reifyS_cells, s3, Option.bind_some, if_pos ⟨by simp [stampOk], Nat.one_pos, by simp⟩]
  have e : ((l.map (Value.int .i64)).drop 0).take (l.length * 1) = l.map (.int .i64) := by rw [List.drop_zero, Nat.mul_one, List.take_of_length_le (by simp)]
  rw [e, reifyC_set (by simp [List.all_eq_true]), Option.bind_some, elems_one g3 s3]; rfl
theorem int_freeze {h : Heap} {lo b : Nat} {l : List Int} (hob : h[b]? = some (intR.row 3 l)) (hlo : lo ≤ b) : ∃ g, freezeV E.P depth lo h (intR.sl b l) = some (iT l, g) := by
 have e0 : intR.sl b l = .slice (some ⟨b, 0, some l.length⟩) l.length l.length := by unfold Rec.sl; simp [intR]
 have hob' : h[b]? = some (.cells 3 (l.map (.int .i64)) 1) := by rw [hob]; unfold Rec.row; rw [int_flat]; rfl
 rw [e0]
 exact ⟨_, frz_one8 hob' s3 g3 hlo (List.length_map _).symm (List.length_map _).symm (by simp [List.all_eq_true])⟩
theorem int_sl {b : Nat} {c d : List Int} (h : c.length = d.length) : intR.sl b c = intR.sl b d := by unfold Rec.sl; rw [h]
theorem int_index {g : Option Bool} {b : Nat} {l : List Int} {i : Nat} (h1 : i < l.length) : indexAddrT (.sl 3 ⟨g, some 1⟩) (intR.sl b l) (.int .i64 (i : Int)) = some (intR.at_ b l i 0) := Rec.index_row (R := intR) rfl h1
theorem int_load {h : Heap} {b : Nat} {l : List Int} {i : Nat} {sz : Option Nat} (hob : h[b]? = some (intR.row 3 l)) (h1 : i < l.length) : loadT ⟨some false, sz⟩ h (intR.at_ b l i 0) = some (.int .i64 l[i]) := Rec.load_cell (R := intR) (j := 0) hob h1 (by decide)
theorem int_store {h : Heap} {b lo : Nat} {l : List Int} {i : Nat} (z : Int) (hob : h[b]? = some (intR.row 3 l)) (hlo : lo ≤ b) (h1 : i < l.length) : storeT (some 1) h lo (.int .i64 z) (intR.at_ b l i 0) = some (h.set b (intR.row 3 (l.set i z))) :=
 Rec.store_cell (R := intR) (j := 0) rfl hob hlo h1 (by decide) rfl
theorem lit_num (h : Heap) (z : Int) : buildSliceT (some ⟨3, 1, 8, .int .i64 0, ⟨some false, some 1⟩⟩) false h 1 #[(0, .int .i64 z)] = some (lst true [.int .i64 z], h) :=
 (build_lit' (n := 1) (l := [(0, .int .i64 z)]) rfl rfl (by decide) (by decide) (by decide)).trans rfl
theorem app_num {h : Heap} {b lo : Nat} {c : List Int} (z : Int) (hob : h[b]? = some (intR.row 3 c)) (hlo : lo ≤ b) (hc : c.length ≤ 1000000) :
  appendT (some ⟨3, 1, 8, .int .i64 0, ⟨some false, some 1⟩⟩) h lo false (intR.sl b c) (lst true [.int .i64 z]) = some (intR.sl b (c ++ [z]), h.set b (intR.row 3 (c ++ [z]))) :=
 Rec.app (R := intR) (m := [z]) rfl hob (cells_lst (by rfl)) hlo (by show (c.length + 1) * 8 ≤ 2 ^ 47; omega)
def shiftRow (o : List Int) (m : Nat) : List Int := (o ++ [0]).take (m + 1) ++ o.drop m
theorem shiftRow_len {o : List Int} {m : Nat} (h : m ≤ o.length) : (shiftRow o m).length = o.length + 1 := by
 unfold shiftRow
 rw [List.length_append, List.length_take, List.length_drop, List.length_append]
 show min (m + 1) (o.length + 1) + (o.length - m) = _
 omega
theorem shiftRow_top (o : List Int) : shiftRow o o.length = o ++ [0] := by
 unfold shiftRow
 rw [List.drop_length, List.append_nil, List.take_of_length_le (by simp)]
theorem shiftRow_get {o : List Int} {m j : Nat} (h : m ≤ o.length) (hj : j < m) : (shiftRow o m)[j]'(by rw [shiftRow_len h]; omega) = o[j] := by
 unfold shiftRow
 rw [List.getElem_append_left (by rw [List.length_take, List.length_append]; simp; omega), List.getElem_take, List.getElem_append_left (by omega)]
theorem shiftRow_split {o : List Int} {m : Nat} (h : m ≤ o.length) : ∃ x, shiftRow o m = o.take m ++ x :: o.drop m := by
 refine ⟨(o ++ [0])[m]'(by simp; omega), ?_⟩
 unfold shiftRow
 rw [List.take_succ_eq_append_getElem (by simp; omega), List.take_append_of_le_length h, List.append_assoc]; rfl
theorem shiftRow_set {o : List Int} {m : Nat} (h : m ≤ o.length) (z : Int) : (shiftRow o m).set m z = putAt o m z := by
 obtain ⟨x, e⟩ := shiftRow_split h
 have hl : (o.take m).length = m := by rw [List.length_take]; omega
 rw [e, List.set_append_right _ _ (by omega), hl, Nat.sub_self]; rfl
theorem shiftRow_down {o : List Int} {m : Nat} (h : m + 1 ≤ o.length) : (shiftRow o (m + 1)).set (m + 1) (o[m]'(by omega)) = shiftRow o m := by
 rw [shiftRow_set h]
 unfold putAt shiftRow
 rw [List.take_append_of_le_length (by omega), List.drop_eq_getElem_cons (show m < o.length by omega)]
theorem sorted_spec (l : List Int) (hl : l.length ≤ 10000) : pureCall E.P (L E) 87 [iT l] = some (iT (sortU l)) := by
 rw [← Rg.insN_sortU, pureCall_fn F87 rfl]
 simp -implicitDefEqProofs [r87, p87, prep_new, newK_nil s3]
 rw [LL_for (γ := List Int) l [] (fun i o => [(3, intR.sl 0 o), (4, .int .i64 i)]) (fun _ o => [intR.row 3 o])
  (fun _ rest o => (.exit 0, [(3, intR.sl 0 (rest.foldl insN o)), (4, undef)], [intR.row 3 (rest.foldl insN o)])) (fun i o => o.length ≤ i) (by omega) (Nat.le_refl _)]
 ·have rr := int_reifyR (h := [intR.row 3 (l.foldl insN [])]) (b := 0) (l := l.foldl insN []) rfl
  simp -implicitDefEqProofs [k87_3, rr]
 ·simp -implicitDefEqProofs [k87_3, Rec.sl_nil]
 ·rfl
 ·intro nx i o hi _
  simp -implicitDefEqProofs [r87_3, k87_3, hi, iT_len, trim_le]
 ·intro nx i z rest o hi hv hd hw ho ih
  have ixl := iT_index hi
  rw [hv] at ixl
  have hle := scan_le (fun j => decide (z < o.getD j 0)) o.length
  have gd : ∀ j (hj : j < o.length), o.getD j 0 = o[j] := fun j hj => by rw [List.getD_eq_getElem?_getD, List.getElem?_eq_getElem hj]; rfl
  have ei : insN o z = if 0 < scan (fun j => decide (z < o.getD j 0)) o.length ∧ o.getD (scan (fun j => decide (z < o.getD j 0)) o.length - 1) 0 = z then o else putAt o (scan (fun j => decide (z < o.getD j 0)) o.length) z := rfl
  have ixo := fun (j : Nat) (hj : j < o.length) => int_index (g := some false) (b := 0) (l := o) hj
  have ldo := fun (j : Nat) (hj : j < o.length) => int_load (h := [intR.row 3 o]) (b := 0) (l := o) (sz := some 1) rfl hj
  rw [List.foldl_cons]
  simp -implicitDefEqProofs [r87_3, k87_3, hi, iT_len, Rec.sl_len]
  rw [LL_rec (α := Nat) o.length (fun k => [(5, .int .i64 (k : Int))]) (fun _ => [intR.row 3 o]) (fun k => (.exit 2, [(5, .int .i64 ((scan (fun j => decide (z < o.getD j 0)) k : Nat) : Int))], [intR.row 3 o])) (fun k => k ≤ o.length) (fun k => k)]
  ·generalize scan (fun j => decide (z < o.getD j 0)) o.length = k at hle ei ⊢
   have hk := hle
   have ap := app_num (h := [intR.row 3 o]) (b := 0) (lo := 0) (c := o) 0 rfl (Nat.le_refl _) (by omega)
   have wl : IntKind.i64.wrap (((o ++ [0]).length : Int) - 1) = (o.length : Int) := by
    have : (o ++ [0]).length = o.length + 1 := by simp
    rw [this]; exact (wrap64 (by omega) (by omega)).trans (by omega)
   by_cases hc : 0 < k ∧ o.getD (k - 1) 0 = z
   ·rw [ei, if_pos hc]
    obtain ⟨hk0, hkz⟩ := hc
    have hko : k - 1 < o.length := by omega
    rw [gd _ hko] at hkz
    have hpos : (0 : Int) < (k : Int) := by omega
    have w1 : IntKind.i64.wrap ((k : Int) - 1) = ((k - 1 : Nat) : Int) := (wrap64 (by omega) (by omega)).trans (by omega)
    have ih := ih o (by omega)
    simp -implicitDefEqProofs [k87_3] at ih
    simp -implicitDefEqProofs [k87_6, hk0, w1, ixo _ hko, ldo _ hko, ixl, hkz, hw, trim_le]
    exact ih
   ·rw [ei, if_neg hc]
    have ih := ih (putAt o k z) (by rw [Rg.putAt_len]; omega)
    simp -implicitDefEqProofs [k87_3] at ih
    have es : ∀ m, m ≤ o.length → intR.sl 0 (shiftRow o m) = intR.sl 0 (o ++ [0]) := fun m hm => int_sl (by rw [shiftRow_len hm]; simp)
    have ixs := fun (m : Nat) (hm : m ≤ o.length) (j : Nat) (hj : j < o.length + 1) => (es m hm) ▸ int_index (g := some false) (b := 0) (l := shiftRow o m) (i := j) (by rw [shiftRow_len hm]; exact hj)
    have esp : intR.sl 0 (putAt o k z) = intR.sl 0 (o ++ [0]) := int_sl (by rw [Rg.putAt_len]; simp)
    rw [esp] at ih
    have two : (¬ (0 : Int) < (k : Int)) ∨ ((0 : Int) < (k : Int) ∧ ∃ hko : k - 1 < o.length, ¬ o[k - 1] = z) := by
     by_cases h0 : 0 < k
     ·have hko : k - 1 < o.length := by omega
      exact .inr ⟨by omega, hko, fun e => hc ⟨h0, by rw [gd _ hko]; exact e⟩⟩
     ·exact .inl (by omega)
    have w1 : 0 < k → IntKind.i64.wrap ((k : Int) - 1) = ((k - 1 : Nat) : Int) := fun h => (wrap64 (by omega) (by omega)).trans (by omega)
    have ixk := ixs k hk k (by omega)
    have stk := int_store (h := [intR.row 3 (shiftRow o k)]) (b := 0) (lo := 0) (l := shiftRow o k) (i := k) z rfl (Nat.le_refl _) (by rw [shiftRow_len hk]; omega)
    rw [shiftRow_set hk] at stk
    rcases two with h0 | ⟨h0, hko, hne⟩
    ·have h0n : ¬ (0 < k) := by omega
     simp -implicitDefEqProofs [k87_6, h0n, lit_num, ap, Rec.sl_len, wl, -List.length_append]
     rw [LL_rec (α := Nat) o.length (fun m => [(6, .int .i64 (m : Int))]) (fun m => [intR.row 3 (shiftRow o m)]) (fun m => (.exit 4, [(6, undef)], [intR.row 3 (shiftRow o k)])) (fun m => k ≤ m ∧ m ≤ o.length) (fun m => m)]
     ·simp -implicitDefEqProofs [k87_11, ixk, stk, ixl, hw, trim_le]
      exact ih
     ·exact ⟨hk, Nat.le_refl _⟩
     ·simp -implicitDefEqProofs [k87_11]
     ·simp only [shiftRow_top]
     ·intro nx m hm ih
      by_cases hkm : k < m
      ·obtain ⟨m, rfl⟩ : ∃ m', m = m' + 1 := ⟨m - 1, by omega⟩
       have hmo : m < o.length := by omega
       have ih := ih m (by omega) ⟨by omega, by omega⟩
       have w3 : IntKind.i64.wrap ((m : Int) + 1 - 1) = (m : Int) := (wrap64 (by omega) (by omega)).trans (by omega)
       have w4 : IntKind.i64.wrap (m : Int) = (m : Int) := wrap64 (by omega) (by omega)
       have hkm' : (k : Int) < (m : Int) + 1 := by omega
       have ixa := ixs (m + 1) (by omega) m (by omega)
       have ixb := ixs (m + 1) (by omega) (m + 1) (by omega)
       have lda := int_load (h := [intR.row 3 (shiftRow o (m + 1))]) (b := 0) (l := shiftRow o (m + 1)) (i := m) (sz := some 1) rfl (by rw [shiftRow_len (by omega)]; omega)
       rw [shiftRow_get (by omega) (by omega)] at lda
       have sta := int_store (h := [intR.row 3 (shiftRow o (m + 1))]) (b := 0) (lo := 0) (l := shiftRow o (m + 1)) (i := m + 1) o[m] rfl (Nat.le_refl _) (by rw [shiftRow_len (by omega)]; omega)
       rw [shiftRow_down hmo] at sta
       push_cast at ixb
       simp -implicitDefEqProofs [k87_11] at ih
       simp -implicitDefEqProofs [r87_11, k87_11, hkm', w4, ixa, ixb, lda, sta, trim_le]
       exact ih
      ·have e : m = k := by omega
       subst e
       simp -implicitDefEqProofs [r87_11, k87_11, trim_le]
    ·have h0' : 0 < k := by omega
     simp -implicitDefEqProofs [k87_6, h0', w1 h0', ixo _ hko, ldo _ hko, ixl, hne, lit_num, ap, Rec.sl_len, wl, -List.length_append]
     rw [LL_rec (α := Nat) o.length (fun m => [(6, .int .i64 (m : Int))]) (fun m => [intR.row 3 (shiftRow o m)]) (fun m => (.exit 4, [(6, undef)], [intR.row 3 (shiftRow o k)])) (fun m => k ≤ m ∧ m ≤ o.length) (fun m => m)]
     ·simp -implicitDefEqProofs [k87_11, ixk, stk, ixl, hw, trim_le]
      exact ih
     ·exact ⟨hk, Nat.le_refl _⟩
     ·simp -implicitDefEqProofs [k87_11]
     ·simp only [shiftRow_top]
     ·intro nx m hm ih
      by_cases hkm : k < m
      ·obtain ⟨m, rfl⟩ : ∃ m', m = m' + 1 := ⟨m - 1, by omega⟩
       have hmo : m < o.length := by omega
       have ih := ih m (by omega) ⟨by omega, by omega⟩
       have w3 : IntKind.i64.wrap ((m : Int) + 1 - 1) = (m : Int) := (wrap64 (by omega) (by omega)).trans (by omega)
       have w4 : IntKind.i64.wrap (m : Int) = (m : Int) := wrap64 (by omega) (by omega)
       have hkm' : (k : Int) < (m : Int) + 1 := by omega
       have ixa := ixs (m + 1) (by omega) m (by omega)
       have ixb := ixs (m + 1) (by omega) (m + 1) (by omega)
       have lda := int_load (h := [intR.row 3 (shiftRow o (m + 1))]) (b := 0) (l := shiftRow o (m + 1)) (i := m) (sz := some 1) rfl (by rw [shiftRow_len (by omega)]; omega)
       rw [shiftRow_get (by omega) (by omega)] at lda
       have sta := int_store (h := [intR.row 3 (shiftRow o (m + 1))]) (b := 0) (lo := 0) (l := shiftRow o (m + 1)) (i := m + 1) o[m] rfl (Nat.le_refl _) (by rw [shiftRow_len (by omega)]; omega)
       rw [shiftRow_down hmo] at sta
       push_cast at ixb
       simp -implicitDefEqProofs [k87_11] at ih
       simp -implicitDefEqProofs [r87_11, k87_11, hkm', w4, ixa, ixb, lda, sta, trim_le]
       exact ih
      ·have e : m = k := by omega
       subst e
       simp -implicitDefEqProofs [r87_11, k87_11, trim_le]
  ·exact Nat.le_refl _
  ·simp -implicitDefEqProofs [k87_6]
  ·rfl
  ·intro nx k hk ih
   cases k with
   | zero => simp -implicitDefEqProofs [r87_6, k87_6, scan, trim_le]
   | succ k =>
    have hko : k < o.length := by omega
    have w1 : IntKind.i64.wrap ((k : Int) + 1 - 1) = (k : Int) := (wrap64 (by omega) (by omega)).trans (by omega)
    have w2 : IntKind.i64.wrap (k : Int) = (k : Int) := wrap64 (by omega) (by omega)
    have hpos : (0 : Int) < (k : Int) + 1 := by omega
    have ih := ih k (by omega) (by omega)
    have e : scan (fun j => decide (z < o.getD j 0)) (k + 1) = if decide (z < o.getD k 0) then scan (fun j => decide (z < o.getD j 0)) k else k + 1 := rfl
    rw [e, gd k hko]
    simp -implicitDefEqProofs [k87_6] at ih
    by_cases hz : z < o[k]
    ·simp -implicitDefEqProofs [r87_6, k87_6, hpos, w2, ixo k hko, ldo k hko, ixl, hz, trim_le]
     exact ih
    ·simp -implicitDefEqProofs [r87_6, k87_6, hpos, w2, ixo k hko, ldo k hko, ixl, hz, trim_le]
end Go.Proofs.YtjkemccfcabhgaaGreat.Bm
namespace Go.Proofs.YtjkemccfcabhgaaGreat.Bm
open Go Go.RowKit
open Rg (Rect Slab Pt sidesP upS hB ysP colY polyL rightP sortU stripL outT emit pairs ends)
def polyX (p : List Pt) : Except Int (List Rect) := if rightP p then (if 200 < (polyL p).length then .error 6 else .ok (polyL p)) else .error 10
theorem ends_even7 : ∀ {c : List (Int × Int)} {j : Nat} (hj : j < c.length), (ends c)[2 * j]? = some c[j].1 ∧ (ends c)[2 * j + 1]? = some c[j].2
 | [], j, hj => by simp at hj
 | s :: c, 0, _ => ⟨rfl, rfl⟩
 | s :: c, j + 1, hj => ends_even7 (c := c) (j := j) (by simpa using hj)
theorem ends_at7 {c : List (Int × Int)} {j : Nat} (hj : j < c.length) : ∃ (h1 : 2 * j < (ends c).length) (h2 : 2 * j + 1 < (ends c).length), (ends c)[2 * j] = c[j].1 ∧ (ends c)[2 * j + 1] = c[j].2 := by
 have hl := Rg.ends_len c
 obtain ⟨e1, e2⟩ := ends_even7 hj
 refine ⟨by omega, by omega, ?_, ?_⟩
 ·rw [List.getElem?_eq_getElem (by omega)] at e1; exact Option.some.inj e1
 ·rw [List.getElem?_eq_getElem (by omega)] at e2; exact Option.some.inj e2
theorem emit_cons7 (x0 x1 : Int) (s : Int × Int) (c : List (Int × Int)) : emit ⟨x0, x1, s :: c⟩ = [⟨x0, s.1, x1, s.2⟩] ++ emit ⟨x0, x1, c⟩ := rfl
theorem strip_step {c : Int → List (Int × Int)} {U : List Int} {i : Nat} (h : i + 1 < U.length) : outT (stripL c (U.drop i)) = emit ⟨U[i], U[i + 1], c U[i]⟩ ++ outT (stripL c (U.drop (i + 1))) := by
 rw [List.drop_eq_getElem_cons (show i < U.length by omega), List.drop_eq_getElem_cons h]; rfl
theorem strip_end {c : Int → List (Int × Int)} {U : List Int} {i : Nat} (h : ¬ i + 1 < U.length) : outT (stripL c (U.drop i)) = [] := by
 have hl : (U.drop i).length ≤ 1 := by rw [List.length_drop]; omega
 match U.drop i, hl with
 | [], _ => rfl
 | [_], _ => rfl
theorem hB_up {x : Int} {s : Pt × Pt} (h : upS s = true) : hB x s = false := by
 unfold upS at h
 rw [decide_eq_true_eq] at h
 cases q : hB x s
 ·rfl
 ·rw [Rg.hB_iff] at q; omega
theorem sett (z : Int) : settled depth (.int .i64 z) = true := rfl
set_option maxHeartbeats 4000000 in
theorem pregion_spec (x : Bool) (p : List Pt) (hp : p.length ≤ 1000000) : pureCall E.P (L E) 37 [lst x (spanR.vals p)] = some (resL (polyX p)) := by
 have ln : ∀ h, lenT .sl h (lst x (spanR.vals p)) = some (.int .i64 p.length) := fun h => Rec.tree_len
 have hR := pright_spec x p hp
 have rf : ∀ h, reify E.P 8 h (lst x (spanR.vals p)) = some (lst x (spanR.vals p)) := fun _ => rfl
 have sv0 : settled depth (lst x (spanR.vals p)) = true := rfl
 have bP : ∀ d n, below (d + 1) n (lst x (spanR.vals p)) = true := fun d n => rfl
 have pix : ∀ (j : Nat) (hj : j < p.length), indexAddrT (.sl 67 ⟨some true, some 2⟩) (lst x (spanR.vals p)) (.int .i64 (j : Int)) = some (cptr (spanR.val p[j])) := fun j hj => Rec.index_tree rfl hj
 rw [pureCall_fn F37 rfl]
 unfold polyX
 generalize hPV : lst x (spanR.vals p) = PV at *
 cases hr : rightP p
 ·rw [hr] at hR
  simp -implicitDefEqProofs [r37, p37, ret0 m53, rf, hR, resL]
 rw [hr] at hR
 obtain ⟨hp4, hp60⟩ := Rg.rightP_len hr
 simp -implicitDefEqProofs [r37, p37, ret0 m53, rf, hR, prep_new, newK_nil s3, ln]
 rw [LL_for (γ := List Int) p [] (fun i c => [(4, intR.sl 0 c), (19, .int .i64 i)]) (fun _ c => [intR.row 3 c])
  (fun _ rest c => (.exit 0, [(4, intR.sl 0 (c ++ rest.map (·.1))), (19, undef)], [intR.row 3 (c ++ rest.map (·.1))])) (fun i c => c.length = i) (by omega) rfl]
 ·rw [List.nil_append]
  have hxl : (p.map (·.1)).length = p.length := List.length_map _
  have hU : (sortU (p.map (·.1))).length ≤ p.length := by
   have := Rg.sortU_le (p.map (·.1)); omega
  have so := sortInts (h := [intR.row 3 (p.map (·.1))]) (b := 0) (lo := 0) (d := p.map (·.1)) rfl (Nat.le_refl _) (by omega)
  obtain ⟨r, co, hrl⟩ := compInts (h := [intR.row 3 (sortI (p.map (·.1)))]) (b := 0) (lo := 0) (d := sortI (p.map (·.1))) rfl (Nat.le_refl _) (by rw [sortI_len]; omega)
  rw [Rg.comp_sort] at co hrl
  have e1 : intR.sl 0 (sortI (p.map (·.1))) = intR.sl 0 (p.map (·.1)) := by unfold Rec.sl; rw [sortI_len]
  rw [e1, sortI_len, hxl] at co
  rw [sortI_len, hxl] at hrl
  have ar : pureCall E.P (L E) 56 [PV] = some (lst false (sideR.vals (sidesP p))) := by rw [← hPV]; exact around_spec x p (by omega)
  have sln := sides_lenT p
  have bS : ∀ d n, below (d + 1) n (lst false (sideR.vals (sidesP p))) = true := fun d n => rfl
  have six : ∀ (j : Nat) (hj : j < (sidesP p).length), indexAddrT (.sl 108 ⟨some true, some 4⟩) (lst false (sideR.vals (sidesP p))) (.int .i64 (j : Int)) = some (cptr (sideR.val (sidesP p)[j])) := fun j hj => Rec.index_tree rfl hj
  have hsl := Rg.sides_len p
  have ePL : polyL p = outT (stripL (colY p) (sortU (p.map (·.1)))) := rfl
  rw [ePL]
  have hev : ∀ x, (sortI (ysP p x)).length % 2 = 0 := fun x => by rw [sortI_len]; exact Rg.ys_even p x
  have hyl : ∀ x, (ysP p x).length ≤ p.length := fun x => Rg.ys_len p x
  have wl : IntKind.i64.wrap (((sortU (p.map (·.1))).length : Int) - 1) = ((sortU (p.map (·.1))).length : Int) - 1 := wrap64 (by omega) (by omega)
  simp -implicitDefEqProofs [k37_5, wl, ret2 (E := E) (f := 54) rfl, ret2 (E := E) (f := 55) rfl, so, co, ret1 m56, sv0, ar, prep_new, newK_nil s32, pre_len]
  generalize hSV : lst false (sideR.vals (sidesP p)) = SV at *
  generalize sortU (p.map (·.1)) = U at *
  clear so co e1 ePL hxl hR
  rw [LL_rec (α := Nat × List Rect) (0, []) (fun c => [(8, rectR.sl 1 c.2), (38, .int .i64 (c.1 : Int))]) (fun c => [intR.row 3 (U ++ r), rectR.row 71 c.2])
   (fun c => (.exit 2, [(8, rectR.sl 1 (c.2 ++ outT (stripL (colY p) (U.drop c.1)))), (38, undef)], [intR.row 3 (U ++ r), rectR.row 71 (c.2 ++ outT (stripL (colY p) (U.drop c.1)))])) (fun c => c.1 ≤ U.length ∧ c.2.length ≤ 100 * c.1) (fun c => U.length - c.1)]
  ·rw [List.drop_zero, List.nil_append]
   generalize outT (stripL (colY p) U) = F
   have rr := Rec.reify_row (R := rectR) (P := E.P) (h := [intR.row 3 (U ++ r), rectR.row 71 F]) (b := 1) (n := 7) (t := 71) (l := F) rfl s32 a32
   by_cases h2 : 200 < F.length
   ·have h2' : 200 < (F.length : Int) := by omega
    simp -implicitDefEqProofs [k37_14, Rec.sl_len, h2, h2', resL]
   ·have h2' : ¬ (200 < (F.length : Int)) := by omega
    simp -implicitDefEqProofs [k37_14, Rec.sl_len, h2, h2', rr, resL]
  ·exact ⟨Nat.zero_le _, Nat.zero_le _⟩
  ·simp -implicitDefEqProofs [k37_14, Rec.sl_nil]
  ·rfl
  ·intro nx c hc ih
   obtain ⟨i, o⟩ := c
   obtain ⟨h1, h2⟩ := hc
   simp only at h1 h2
   by_cases hi : i + 1 < U.length
   ·have hi' : (i : Int) < (U.length : Int) - 1 := by omega
    have wi : IntKind.i64.wrap ((i : Int) + 1) = ((i + 1 : Nat) : Int) := (wrap64 (by omega) (by omega)).trans (by omega)
    have px := pre_index (t := 3) (g := some false) (b := 0) (n := p.length) (k := .i64) (e := U) (i := i) (by omega)
    have px1 := pre_index (t := 3) (g := some false) (b := 0) (n := p.length) (k := .i64) (e := U) hi
    have pl := fun a b => pre_load (h := [intR.row 3 (U ++ r), a, b]) (b := 0) (n := p.length) (sz := some 1) (e := U) (i := i) rfl hrl (by omega)
    have pl2 := fun a b c => pre_load (h := [intR.row 3 (U ++ r), a, b, c]) (b := 0) (n := p.length) (sz := some 1) (e := U) (i := i) rfl hrl (by omega)
    have pl1 := fun a b => pre_load (h := [intR.row 3 (U ++ r), a, b]) (b := 0) (n := p.length) (sz := some 1) (e := U) rfl hrl hi
    have hcl : 2 * (colY p U[i]).length ≤ p.length := Rg.colY_len p U[i]
    have ih := ih (i + 1, o ++ emit ⟨U[i], U[i + 1], colY p U[i]⟩) (by show U.length - (i + 1) < U.length - i; omega) ⟨by show i + 1 ≤ U.length; omega, by
     show (o ++ emit ⟨U[i], U[i + 1], colY p U[i]⟩).length ≤ 100 * (i + 1)
     have e : (emit ⟨U[i], U[i + 1], colY p U[i]⟩).length = (colY p U[i]).length := List.length_map _
     rw [List.length_append, e]; omega⟩
    rw [strip_step hi, ← List.append_assoc]
    have ecol : colY p U[i] = pairs (sortI (ysP p U[i])) := rfl
    have eys : ysP p U[i] = ((sidesP p).filter (hB U[i])).map (fun s => s.1.2) := rfl
    have hev := hev U[i]
    have hyl := hyl U[i]
    have ee := Rg.ends_pairs hev
    rw [ecol] at ih ⊢
    generalize hx0 : U[i] = x0 at *
    generalize hx1 : U[i + 1] = x1 at *
    generalize outT (stripL (colY p) (U.drop (i + 1))) = F at *
    simp -implicitDefEqProofs [k37_14, -List.append_assoc] at ih
    simp -implicitDefEqProofs [r37_14, k37_14, pre_len, wl, hi, hi', prep_new, newK_nil s3, sln, -List.append_assoc]
    rw [LL_for (γ := List Int) (sidesP p) [] (fun j c => [(10, intR.sl 2 c), (43, .int .i64 j)]) (fun _ c => [intR.row 3 (U ++ r), rectR.row 71 o, intR.row 3 c])
     (fun _ rest c => (.exit 4, [(10, intR.sl 2 (c ++ (rest.filter (hB x0)).map (fun s => s.1.2))), (43, undef)], [intR.row 3 (U ++ r), rectR.row 71 o, intR.row 3 (c ++ (rest.filter (hB x0)).map (fun s => s.1.2))])) (fun j c => c.length ≤ j) (by omega) (Nat.le_refl _)]
    ·rw [List.nil_append, ← eys]
     have so2 := sortInts (h := [intR.row 3 (U ++ r), rectR.row 71 o, intR.row 3 (ysP p x0)]) (b := 2) (lo := 0) (d := ysP p x0) rfl (Nat.zero_le _) (by omega)
     have hLl : (sortI (ysP p x0)).length = (ysP p x0).length := sortI_len _
     have esl : intR.sl 2 (sortI (ysP p x0)) = intR.sl 2 (ysP p x0) := int_sl hLl
     generalize ysP p x0 = Y at *
     generalize sortI Y = Lq at *
     have hel := Rg.ends_len (pairs Lq)
     rw [ee] at hel
     have ixL := fun (j : Nat) (hj : j < Lq.length) => int_index (g := some false) (b := 2) (l := Lq) hj
     rw [esl] at ixL
     simp -implicitDefEqProofs [k37_18, ret2 (E := E) (f := 54) rfl, so2, -List.append_assoc]
     rw [LL_for (γ := List Rect) (pairs Lq) o (fun j o' => [(8, rectR.sl 1 o'), (13, .int .i64 ((2 * j : Nat) : Int))]) (fun _ o' => [intR.row 3 (U ++ r), rectR.row 71 o', intR.row 3 Lq])
      (fun _ rest o' => (.exit 6, [(8, rectR.sl 1 (o' ++ emit ⟨x0, x1, rest⟩)), (13, undef)], [intR.row 3 (U ++ r), rectR.row 71 (o' ++ emit ⟨x0, x1, rest⟩), intR.row 3 Lq])) (fun j o' => o'.length = o.length + j) (by omega) rfl]
     ·simp -implicitDefEqProofs [k37_25, wi, trim_cut, bP, bS, Rec.sl_bel, Rec.row_bel, pre_bel, -List.append_assoc, -Int.natCast_add]
      exact ih
     ·simp -implicitDefEqProofs [k37_25]
     ·rfl
     ·intro nx j o' hj _
      have w2 : IntKind.i64.wrap (((2 * j : Nat) : Int) + 1) = ((2 * j + 1 : Nat) : Int) := wrap64 (by omega) (by omega)
      have hjn : ¬ (((2 * j + 1 : Nat) : Int) < (Y.length : Int)) := by omega
      have hjn' : ¬ (2 * j + 1 < Y.length) := by omega
      have e0 : emit ⟨x0, x1, []⟩ = [] := rfl
      simp -implicitDefEqProofs [r37_25, k37_25, Rec.sl_len, w2, hjn, hjn', e0, trim_le, -Int.natCast_add, -Int.natCast_mul]
     ·intro nx j s rest o' hj hv hd hw ho ih
      obtain ⟨g1, g2, g3, g4⟩ := ends_at7 hj
      simp only [ee] at g1 g2 g3 g4
      rw [hv] at g3 g4
      have st := app_rect (h := [intR.row 3 (U ++ r), rectR.row 71 o', intR.row 3 Lq]) (b := 1) (lo := 0) (c := o') ⟨x0, s.1, x1, s.2⟩ rfl (Nat.zero_le _) (by omega)
      have w2 : IntKind.i64.wrap (((2 * j : Nat) : Int) + 1) = ((2 * j + 1 : Nat) : Int) := wrap64 (by omega) (by omega)
      have w3 : IntKind.i64.wrap (((2 * j : Nat) : Int) + 2) = ((2 * (j + 1) : Nat) : Int) := (wrap64 (by omega) (by omega)).trans (by omega)
      have hjn : ((2 * j + 1 : Nat) : Int) < (Y.length : Int) := by omega
      have hjn' : 2 * j + 1 < Y.length := by omega
      have ixa := ixL (2 * j) g1
      have ixb := ixL (2 * j + 1) g2
      have lda := int_load (h := [intR.row 3 (U ++ r), rectR.row 71 o', intR.row 3 Lq]) (b := 2) (l := Lq) (i := 2 * j) (sz := some 1) rfl g1
      have ldb := int_load (h := [intR.row 3 (U ++ r), rectR.row 71 o', intR.row 3 Lq]) (b := 2) (l := Lq) (i := 2 * j + 1) (sz := some 1) rfl g2
      rw [g3] at lda
      rw [g4] at ldb
      have ih := ih (o' ++ [⟨x0, s.1, x1, s.2⟩]) (by rw [List.length_append]; show o'.length + 1 = _; omega)
      rw [emit_cons7, ← List.append_assoc]
      simp -implicitDefEqProofs [k37_25, -List.append_assoc, -Int.natCast_add, -Int.natCast_mul] at ih
      simp -implicitDefEqProofs [r37_25, k37_25, Rec.sl_len, wi, w2, w3, hjn, hjn', px, pl, px1, pl1, ixa, ixb, lda, ldb, b4_all, lit_rect, st, trim_le, -List.append_assoc, -Int.natCast_add, -Int.natCast_mul]
      exact ih
    ·simp -implicitDefEqProofs [k37_18, Rec.sl_nil]
    ·rfl
    ·intro nx j c hj _
     simp -implicitDefEqProofs [r37_18, k37_18, hj, sln, hsl, trim_le]
    ·intro nx j s rest c hj hv hd hw hc ih
     have sj := six j hj
     rw [hv, side_val] at sj
     have us := up_spec s
     have hjp : j < p.length := by omega
     have ap := fun q => app_num (h := [intR.row 3 (U ++ r), rectR.row 71 o, intR.row 3 c, q]) (b := 2) (lo := 0) (c := c) s.1.2 rfl (Nat.zero_le _) (by omega)
     cases hu : upS s
     ·rw [hu] at us
      by_cases m1 : min s.1.1 s.2.1 ≤ x0
      ·by_cases m2 : x0 < max s.1.1 s.2.1
       ·have ih := ih (c ++ [s.1.2]) (by simp; omega)
        rw [List.filter_cons_of_pos (Rg.hB_iff.2 ⟨m1, m2⟩), List.map_cons, show c ++ s.1.2 :: (rest.filter (hB x0)).map (fun s => s.1.2) = c ++ [s.1.2] ++ (rest.filter (hB x0)).map (fun s => s.1.2) by rw [List.append_assoc]; rfl]
        simp -implicitDefEqProofs [k37_18, -List.append_assoc] at ih
        simp -implicitDefEqProofs [r37_18, k37_18, hj, hjp, sln, hsl, sj, ret0 m57, us, px, pl2, min_int, max_int, m1, m2, lit_num, ap, hw, trim_cut, bP, bS, Rec.sl_bel, Rec.row_bel, pre_bel, -List.append_assoc]
        exact ih
       ·have ih := ih c (by omega)
        rw [List.filter_cons_of_neg (by rw [Rg.hB_iff]; omega)]
        simp -implicitDefEqProofs [k37_18, -List.append_assoc] at ih
        simp -implicitDefEqProofs [r37_18, k37_18, hj, hjp, sln, hsl, sj, ret0 m57, us, px, pl2, min_int, max_int, m1, m2, hw, trim_cut, bP, bS, Rec.sl_bel, Rec.row_bel, pre_bel, -List.append_assoc]
        exact ih
      ·have ih := ih c (by omega)
       rw [List.filter_cons_of_neg (by rw [Rg.hB_iff]; omega)]
       simp -implicitDefEqProofs [k37_18, -List.append_assoc] at ih
       simp -implicitDefEqProofs [r37_18, k37_18, hj, hjp, sln, hsl, sj, ret0 m57, us, px, pl2, min_int, max_int, m1, hw, trim_cut, bP, bS, Rec.sl_bel, Rec.row_bel, pre_bel, -List.append_assoc]
       exact ih
     ·rw [hu] at us
      have ih := ih c (by omega)
      rw [List.filter_cons_of_neg (by rw [hB_up hu]; decide)]
      simp -implicitDefEqProofs [k37_18, -List.append_assoc] at ih
      simp -implicitDefEqProofs [r37_18, k37_18, hj, hjp, sln, hsl, sj, ret0 m57, us, px, pl2, min_int, max_int, hw, trim_cut, bP, bS, Rec.sl_bel, Rec.row_bel, pre_bel, -List.append_assoc]
      exact ih
   ·have hi' : ¬ ((i : Int) < (U.length : Int) - 1) := by omega
    rw [strip_end hi, List.append_nil]
    simp -implicitDefEqProofs [r37_14, k37_14, pre_len, wl, hi, hi', trim_le]
 ·simp -implicitDefEqProofs [k37_5, Rec.sl_nil]
 ·rfl
 ·intro nx i c hi _
  simp -implicitDefEqProofs [r37_5, k37_5, hi, ln, trim_le]
 ·intro nx i v rest c hi hv hd hw hc ih
  have pi := pix i hi
  rw [hv, span_val] at pi
  have ap := fun q => app_num (h := [intR.row 3 c, q]) (b := 0) (lo := 0) (c := c) v.1 rfl (Nat.le_refl _) (by omega)
  have ih := ih (c ++ [v.1]) (by simp; omega)
  have em : (v :: rest).map (·.1) = [v.1] ++ rest.map (·.1) := rfl
  rw [em, ← List.append_assoc]
  simp -implicitDefEqProofs [k37_5, -List.append_assoc] at ih
  simp -implicitDefEqProofs [r37_5, k37_5, hi, ln, pi, lit_num, ap, hw, trim_cut, bP, Rec.sl_bel, Rec.row_bel, -List.append_assoc]
  exact ih
end Go.Proofs.YtjkemccfcabhgaaGreat.Bm
namespace Go.Proofs.YtjkemccfcabhgaaGreat.Rg
def mult : List Rect → Int → Int → Int
 | [], _, _ => 0
 | r :: l, x, y => bi (r.has x y) + mult l x y
theorem mult_append : ∀ (l m : List Rect) (x y : Int), mult (l ++ m) x y = mult l x y + mult m x y
 | [], m, x, y => by show _ = 0 + _; rw [Int.zero_add]; rfl
 | r :: l, m, x, y => by
  show bi (r.has x y) + mult (l ++ m) x y = bi (r.has x y) + mult l x y + mult m x y
  rw [mult_append]; omega
theorem mult_col (x0 x1 x y : Int) : ∀ {c : List (Int × Int)} {b : Int}, canS b c → mult (c.map fun s => (⟨x0, s.1, x1, s.2⟩ : Rect)) x y = bi (decide (x0 ≤ x) && decide (x < x1) && hasS c y)
 | [], _, _ => by rw [hasS_nil, Bool.and_false]; rfl
 | (f, t) :: c, b, h => by
  have ih := mult_col x0 x1 x y h.2.2
  show bi (decide (x0 ≤ x) && decide (x < x1) && (decide (f ≤ y) && decide (y < t))) + mult (c.map _) x y = _
  rw [ih, hasS_cons]
  by_cases q : y ≤ t
  ·rw [canS_low h.2.2 q, Bool.and_false, Bool.or_false]
   show _ + 0 = _
   rw [Int.add_zero]
  ·rw [decide_eq_false (show ¬ y < t by omega), Bool.and_false, Bool.and_false, Bool.false_or]
   show 0 + _ = _
   rw [Int.zero_add]
theorem mult_out : ∀ {T : List Slab} {b : Int} {c : List (Int × Int)} (x y : Int), canT b c T → mult (outT T) x y = bi (cellT T x y)
 | [], _, _, _, _, _ => rfl
 | s :: T, b, c, x, y, h => by
  have ih := mult_out x y h.2.2.2.2.2
  have e0 : outT (s :: T) = emit s ++ outT T := rfl
  obtain ⟨b', hb'⟩ := Can.canS h.2.2.2.1
  rw [e0, mult_append, ih, cellT_cons, show mult (emit s) x y = _ from mult_col s.x0 s.x1 x y hb']
  by_cases q : x < s.x1
  ·rw [canT_low h.2.2.2.2.2 q, Bool.or_false]
   show _ + 0 = _
   rw [Int.add_zero]
  ·rw [decide_eq_false q, Bool.and_false, Bool.false_and, Bool.false_or]
   show 0 + _ = _
   rw [Int.zero_add]
def Once (l : List Rect) : Prop := ∀ x y, mult l x y = bi (cell l x y)
theorem Form.once {l : List Rect} (h : Form l) : Once l := by
 obtain ⟨b, T, h1, rfl⟩ := h
 intro x y
 rw [mult_out x y h1, cell_outT]
def capR (r s : Rect) : Rect := ⟨max r.x0 s.x0, max r.y0 s.y0, min r.x1 s.x1, min r.y1 s.y1⟩
def meetB (r s : Rect) : Bool := decide (max r.x0 s.x0 < min r.x1 s.x1) && decide (max r.y0 s.y0 < min r.y1 s.y1)
def capA (r s : Rect) : Int := if meetB r s then (capR r s).area else 0
theorem meet_iff {r s : Rect} : meetB r s = true ↔ max r.x0 s.x0 < min r.x1 s.x1 ∧ max r.y0 s.y0 < min r.y1 s.y1 := by
 unfold meetB; rw [Bool.and_eq_true, decide_eq_true_eq, decide_eq_true_eq]
theorem has_iff {r : Rect} {x y : Int} : r.has x y = true ↔ r.x0 ≤ x ∧ x < r.x1 ∧ r.y0 ≤ y ∧ y < r.y1 := by
 unfold Rect.has
 simp only [Bool.and_eq_true, decide_eq_true_eq]
 omega
theorem cap_has (r s : Rect) (x y : Int) : (capR r s).has x y = (r.has x y && s.has x y) := by
 rw [Bool.eq_iff_iff, Bool.and_eq_true, has_iff, has_iff, has_iff]
 unfold capR
 simp only
 omega
def comR (r : Rect) : List Rect → Int
 | [] => 0
 | s :: l => capA r s + comR r l
def comA : List Rect → List Rect → Int
 | [], _ => 0
 | r :: a, b => comR r b + comA a b
def leP (p q : Pt) : Prop := p.1 < q.1 ∨ (p.1 = q.1 ∧ p.2 ≤ q.2)
def corn (r s : Rect) : Pt := ((capR r s).x0, (capR r s).y0)
def stepP (r : Rect) (p : Pt) (s : Rect) : Pt := if meetB r s && ltP (corn r s) p then corn r s else p
def rowP (r : Rect) (p : Pt) (b : List Rect) : Pt := b.foldl (stepP r) p
def comP : List Rect → List Rect → Pt → Pt
 | [], _, p => p
 | r :: a, b, p => comP a b (rowP r p b)
structure Least (S : Int → Int → Bool) (p : Pt) : Prop where
 has : S p.1 p.2 = true
 le : ∀ x y, S x y = true → leP p (x, y)
theorem Least.congr {S T : Int → Int → Bool} {p : Pt} (h : Least S p) (e : ∀ x y, S x y = T x y) : Least T p := ⟨by rw [← e]; exact h.has, fun x y q => h.le x y (by rw [e]; exact q)⟩
theorem corn_has {r s : Rect} (h : meetB r s = true) : (r.has (corn r s).1 (corn r s).2 && s.has (corn r s).1 (corn r s).2) = true := by
 rw [← cap_has, has_iff]
 rw [meet_iff] at h
 unfold corn capR
 simp only
 omega
theorem corn_le {r s : Rect} {x y : Int} (h1 : r.has x y = true) (h2 : s.has x y = true) : meetB r s = true ∧ leP (corn r s) (x, y) := by
 have h : (capR r s).has x y = true := by rw [cap_has, h1, h2]; rfl
 rw [has_iff] at h h1 h2
 refine ⟨meet_iff.2 (by omega), ?_⟩
 unfold leP corn
 simp only
 omega
theorem form_least {r : Rect} {l : List Rect} (h : Form (r :: l)) : Least (cell (r :: l)) (r.x0, r.y0) := by
 obtain ⟨b, T, h1, e⟩ := h
 cases T with
 | nil => exact absurd e (by intro h; cases h)
 | cons s T =>
  obtain ⟨a1, a2, a3, a4, a5, a6⟩ := h1
  have e0 : outT (s :: T) = emit s ++ outT T := rfl
  have e1 := cell_outT (s :: T)
  rw [← e] at e1
  obtain ⟨x0, x1, col⟩ := s
  cases col with
  | nil => exact absurd rfl a3
  | cons f c =>
   simp only at a1 a2 a4 a5 a6
   have er : r = ⟨x0, f.1, x1, f.2⟩ := by rw [e0] at e; exact (List.cons.inj e).1
   have hf : f.1 < f.2 := a4.1
   refine ⟨?_, fun x y q => ?_⟩
   ·rw [e1, cellT_cons, er]
    show (decide (x0 ≤ x0) && decide (x0 < x1) && hasS (f :: c) f.1 || _) = true
    rw [decide_eq_true (Int.le_refl _), decide_eq_true a2, show hasS (f :: c) f.1 = _ from hasS_cons, decide_eq_true (Int.le_refl _), decide_eq_true hf]; rfl
   ·rw [e1, cellT_cons] at q
    rw [er]
    simp only at q ⊢
    unfold leP
    simp only
    by_cases hx : x < x1
    ·rw [canT_low a6 hx, Bool.or_false, Bool.and_eq_true, Bool.and_eq_true, decide_eq_true_eq] at q
     by_cases hy : y < f.1
     ·have : hasS (f :: c) y = false := canS_low (b := f.1 - 1) ⟨by omega, hf, a4.2⟩ (by omega)
      rw [this] at q
      exact absurd q.2 (by decide)
     ·omega
    ·omega
end Go.Proofs.YtjkemccfcabhgaaGreat.Rg
namespace Go.Proofs.YtjkemccfcabhgaaGreat.Rg
structure Zn where
 nm : ByteArray
 ov : Bool
 cs : List Pt
end Go.Proofs.YtjkemccfcabhgaaGreat.Rg
namespace Go.Proofs.YtjkemccfcabhgaaGreat.Rg
end Go.Proofs.YtjkemccfcabhgaaGreat.Rg
namespace Go.Proofs.YtjkemccfcabhgaaGreat.Bm
open Go Go.RowKit
open Rg (Rect Pt rightP polyL capR meetB capA comR comA corn stepP rowP comP ltP)
theorem cap_ok {r s : Rect} (hr : okR r = true) (hs : okR s = true) : okR (capR r s) = meetB r s := by
 rw [okR_iff] at hr hs
 rw [Bool.eq_iff_iff, okR_iff, Rg.meet_iff]
 unfold Rg.Rect.inBox capR at *
 simp only
 omega
theorem intersect_spec (r s : Rect) (hr : okR r = true) (hs : okR s = true) : pureCall E.P (L E) 39 [rectR.val r, rectR.val s] = some (.tuple ⟨[if meetB r s then rectR.val (capR r s) else rectR.val zeroR, .bool (meetB r s)]⟩) := by
 have h1 := right_s r
 have h2 := right_s s
 have h3 := checked_s (capR r s)
 rw [hr] at h1
 rw [hs] at h2
 rw [cap_ok hr hs] at h3
 have e : capR r s = ⟨max r.x0 s.x0, max r.y0 s.y0, min r.x1 s.x1, min r.y1 s.y1⟩ := rfl
 rw [pureCall_fn F39 rfl]
 rw [rect_val, rect_val]
 rw [e] at h3 ⊢
 cases hm : meetB r s
 ·rw [hm] at h3
  simp -implicitDefEqProofs [r39, padS, ret0 m52, h1, h2, min_int, max_int, b4_all, ret0 m58, h3, rect_val]
 ·rw [hm] at h3
  simp -implicitDefEqProofs [r39, padS, ret0 m52, h1, h2, min_int, max_int, b4_all, ret0 m58, h3, rect_val]
end Go.Proofs.YtjkemccfcabhgaaGreat.Bm
namespace Go.Proofs.YtjkemccfcabhgaaGreat.Bm
open Go Go.RowKit
open Rg (Rect Pt Zn rightP polyL comA comP)
def kR : Except Int (List Rect) → Option Bool
 | .error _ => none
 | .ok _ => some false
def lR : Except Int (List Rect) → List Rect
 | .error _ => []
 | .ok l => l
def eR : Except Int (List Rect) → Int
 | .error e => e
 | .ok _ => 0
theorem resL_eq (r : Except Int (List Rect)) : resL r = .tuple ⟨[rectR.o (kR r) (lR r), .int .i64 (eR r)]⟩ := by cases r <;> rfl
theorem kR_ok (r : Except Int (List Rect)) : Rec.Ok (kR r) (lR r) := by
 cases r
 ·exact fun _ => rfl
 ·exact Rec.ok_some
theorem poly_reg {p : List Pt} (h : rightP p = true) (hl : (polyL p).length ≤ 200) : regB (polyL p) = true := by
 have hp := Rg.rightP_poly h
 obtain ⟨hf, hc⟩ := hp.form
 exact regB_iff.2 ⟨List.all_eq_true.2 fun r hr => okR_iff.2 (hf.box (fun x y hxy => hp.inGrid (by rw [← hc]; exact hxy)) r hr), hl, hf⟩
theorem pregion_o (x : Bool) (p : List Pt) (hp : p.length ≤ 1000000) : pureCall E.P (L E) 37 [lst x (spanR.vals p)] = some (.tuple ⟨[rectR.o (kR (polyX p)) (lR (polyX p)), .int .i64 (eR (polyX p))]⟩) := by
 rw [← resL_eq]; exact pregion_spec x p hp
theorem polyX_reg (p : List Pt) : regB (lR (polyX p)) = true := by
 unfold polyX
 cases hr : rightP p
 ·exact regB_iff.2 ⟨rfl, by show 0 ≤ 200; omega, Rg.Form.nil⟩
 ·rw [if_pos rfl]
  by_cases h : 200 < (polyL p).length
  ·rw [if_pos h]; exact regB_iff.2 ⟨rfl, by show 0 ≤ 200; omega, Rg.Form.nil⟩
  ·rw [if_neg h]; exact poly_reg hr (by omega)
abbrev Op := Option (Bool × List Value)
def opV : Op → Value
 | none => .slice none 0 0
 | some (b, l) => lst b l
theorem op_set {n : Nat} {o : Op} : settled (n + 1) (opV o) = true := by cases o <;> rfl
theorem op_bel {d n : Nat} {o : Op} : below (d + 1) n (opV o) = true := by cases o <;> rfl
structure Pl where
 d : Op
 t : Op
 r : Op
 c : Op
 v : Op
 s : Op
 h : Int
 x : Bool
 y : Bool
 zs : List Zn
def znE (y : Bool) (z : Zn) : List Value := [.string z.nm, .bool z.ov, lst y (spanR.vals z.cs)]
def znR (y : Bool) : Rec Zn where
 enc z := znE y z
 m := 2
 len _ := rfl
 set _ := rfl
 bel _ _ := rfl
def Pl.zv (p : Pl) : Value := lst p.x ((znR p.y).vals p.zs)
def Pl.cells (p : Pl) : List Value := [opV p.d, opV p.t, p.zv, opV p.r, opV p.c, opV p.v, opV p.s, .int .i64 p.h]
def Pl.val (p : Pl) : Value := .agg ⟨p.cells⟩
theorem Pl.zv_set {n : Nat} (p : Pl) : settled (n + 1) p.zv = true := rfl
theorem Pl.set (p : Pl) : settled depth p.val = true := by
 show [opV p.d, opV p.t, p.zv, opV p.r, opV p.c, opV p.v, opV p.s, .int .i64 p.h].all (settled 7) = true
 simp only [List.all_cons, List.all_nil, op_set, Pl.zv_set, Bool.and_true, Bool.true_and]; rfl
theorem Pl.cset (p : Pl) : p.cells.all (settled depth) = true := by
 show [opV p.d, opV p.t, p.zv, opV p.r, opV p.c, opV p.v, opV p.s, .int .i64 p.h].all (settled 8) = true
 simp only [List.all_cons, List.all_nil, op_set, Pl.zv_set, Bool.and_true, Bool.true_and]; rfl
theorem Pl.reify (h : Heap) (p : Pl) : Bm.reify E.P 8 h p.val = some p.val := by
 show ((if p.cells.all (settled depth) = true then some p.cells else p.cells.mapM (Bm.reify E.P 7 h)).map fun cs => Value.agg ⟨cs⟩) = _
 rw [if_pos p.cset]; rfl
theorem Pl.bel {d n : Nat} (p : Pl) : below (d + 2) n p.val = true := by
 show [opV p.d, opV p.t, p.zv, opV p.r, opV p.c, opV p.v, opV p.s, .int .i64 p.h].all (below (d + 1) n) = true
 simp only [List.all_cons, List.all_nil, op_bel, Bool.and_true, Bool.true_and]; rfl
end Go.Proofs.YtjkemccfcabhgaaGreat.Bm
namespace Go.Proofs.YtjkemccfcabhgaaGreat.Bm
open Go Go.RowKit
structure Enc (α : Type) where
 e : α → Value
 one : ∀ a, one (e a) = true
 set : ∀ a n, settled (n + 1) (e a) = true
 bel : ∀ a d n, below (d + 1) n (e a) = true
 fits : ∀ a sz, fitsTT ⟨some false, sz⟩ (e a) = true
namespace Enc
variable {α : Type} {O : Enc α} {h : Heap} {l m : List α} {P : Program}
def vals (O : Enc α) (l : List α) : List Value := l.map O.e
def o (O : Enc α) (k : Option Bool) (l : List α) : Value := match k with | none => .slice none 0 0 | some b => lst b (O.vals l)
def Ok (k : Option Bool) (l : List α) : Prop := k = none → l = []
theorem ok_some {b : Bool} : Ok (some b) l := fun h => by cases h
def row (O : Enc α) (t : TypeId) (l : List α) : AObj := .cells t (O.vals l) 1
def part (b n : Nat) (l : List α) : Value := .slice (some ⟨b, 0, some l.length⟩) n l.length
def sl (b : Nat) (l : List α) : Value := .slice (some ⟨b, 0, some l.length⟩) l.length l.length
def at_ (b : Nat) (l : List α) (i : Nat) : Value := .pointer (some ⟨b, i, some l.length⟩)
theorem vals_len : (O.vals l).length = l.length := List.length_map _
theorem vals_app : O.vals (l ++ m) = O.vals l ++ O.vals m := List.map_append
theorem e_cells (a : α) : cellsL (O.e a) = [O.e a] := by
 have := O.one a
 unfold cellsL
 split
 ·rename_i h; rw [h] at this; cases this
 ·rfl
theorem vals_all (l : List α) : (O.vals l).all (fun v => (cellsL v).length == 1) = true := by
 rw [List.all_eq_true]
 intro v hv
 obtain ⟨a, _, rfl⟩ := List.mem_map.1 hv
 rw [e_cells]; rfl
theorem vals_set (l : List α) : (O.vals l).all (settled 8) = true := by
 rw [List.all_eq_true]
 intro v hv
 obtain ⟨a, _, rfl⟩ := List.mem_map.1 hv
 exact O.set a 7
theorem vals_flat : ∀ l : List α, (O.vals l).flatMap cellsL = O.vals l
 | [] => rfl
 | a :: l => by
  show cellsL (O.e a) ++ (O.vals l).flatMap cellsL = O.e a :: O.vals l
  rw [e_cells, vals_flat l]; rfl
theorem vals_get {i : Nat} (hi : i < l.length) : (O.vals l)[i]? = some (O.e l[i]) := by
 unfold vals; rw [List.getElem?_map, List.getElem?_eq_getElem hi]; rfl
theorem vals_take (n : Nat) : (O.vals l).take n = O.vals (l.take n) := by unfold vals; rw [List.map_take]
theorem o_len {k : Option Bool} (hk : Ok k l) : lenT .sl h (O.o k l) = some (.int .i64 l.length) := by
 cases k with
 | none => rw [hk rfl]; rfl
 | some b => show lenT .sl h (lst b (O.vals l)) = _; rw [len_lst, vals_len]
theorem o_one {k : Option Bool} : Bm.one (O.o k l) = true := by cases k <;> rfl
theorem o_set {k : Option Bool} {n : Nat} : settled (n + 1) (O.o k l) = true := by cases k <;> rfl
theorem o_bel {k : Option Bool} {d n : Nat} : below (d + 1) n (O.o k l) = true := by cases k <;> rfl
theorem o_fits {k : Option Bool} {sz : Option Nat} : fitsTT ⟨some false, sz⟩ (O.o k l) = true := by cases k <;> rfl
theorem o_reify {k : Option Bool} {n : Nat} : reify P (n + 1) h (O.o k l) = some (O.o k l) := by cases k <;> rfl
theorem o_reifyR {k : Option Bool} : reifyR P h (O.o k l) = some (O.o k l) := by cases k <;> rfl
theorem cells_tree {x : Bool} : sliceCells h 1 (lst x (O.vals l)) = some (O.vals l, l.length) := by
 rw [cells_lst (vals_all l), vals_flat, vals_len]
theorem index_tree {x : Bool} {t : TypeId} {i : Nat} {k : IntKind} (hi : i < l.length) : indexAddrT (.sl t ⟨some false, some 1⟩) (lst x (O.vals l)) (.int k (i : Int)) = some (cptr (O.e l[i])) := by
 rw [index_lst, if_pos (by omega), Int.toNat_natCast, vals_get hi, Option.bind_some, O.fits, e_cells]; rfl
theorem index_o {x : Option Bool} {t : TypeId} {i : Nat} {k : IntKind} (hx : Ok x l) (hi : i < l.length) : indexAddrT (.sl t ⟨some false, some 1⟩) (O.o x l) (.int k (i : Int)) = some (cptr (O.e l[i])) := by
 cases x with
 | none => rw [hx rfl] at hi; exact absurd hi (Nat.not_lt_zero i)
 | some b => exact index_tree hi
theorem row_bel {n : Nat} {t : TypeId} : belowO n (O.row t l) = true := by
 show (O.vals l).all (below 8 n) = true
 rw [List.all_eq_true]
 intro v hv
 obtain ⟨a, _, rfl⟩ := List.mem_map.1 hv
 exact O.bel a 7 n
theorem sl_bel {n d b : Nat} (hb : b < n) : below (d + 1) n (sl b l) = true := decide_eq_true hb
theorem sl_len {b : Nat} : lenT .sl h (sl b l) = some (.int .i64 l.length) := rfl
theorem part_index {b n i : Nat} {t : TypeId} {g : Option Bool} {k : IntKind} (hi : i < n) : indexAddrT (.sl t ⟨g, some 1⟩) (part b n l) (.int k (i : Int)) = some (at_ b l i) := by
 unfold part
 rw [index_slice, if_pos ⟨by omega, by omega⟩]
 show some (Value.pointer (some ⟨b, 0 + (i : Int).toNat * 1, some l.length⟩)) = _
 rw [Int.toNat_natCast, Nat.mul_one, Nat.zero_add]; rfl
theorem sl_index {b i : Nat} {t : TypeId} {g : Option Bool} {k : IntKind} (hi : i < l.length) : indexAddrT (.sl t ⟨g, some 1⟩) (sl b l) (.int k (i : Int)) = some (at_ b l i) := part_index hi
theorem row_of {b n : Nat} {t : TypeId} (hob : h[b]? = some (O.row t l)) (hn : n = l.length) {off : Nat} : rowOf h ⟨b, off, some n⟩ = some (O.vals l) := by
 subst hn
 unfold rowOf
 show (match h[b]? with | some (.cells _ c g) => _ | _ => none) = _
 rw [hob]
 show (if stampOk _ 1 (O.vals l).length = true then some (O.vals l) else none) = _
 rw [if_pos (by unfold stampOk; rw [vals_len]; simp)]
theorem fits_row {b n : Nat} {t : TypeId} (hob : h[b]? = some (O.row t l)) (hn : n = l.length) {off : Nat} : fitsRow h ⟨b, off, some n⟩ 1 = true := by
 subst hn
 unfold fitsRow
 show (match h[b]? with | some (.cells _ c g) => _ | _ => false) = true
 rw [hob]
 show (stampOk _ 1 (O.vals l).length && _) = true
 unfold stampOk; rw [vals_len]; simp
theorem load_at {b i : Nat} {t : TypeId} {sz : Option Nat} (hob : h[b]? = some (O.row t l)) (hi : i < l.length) : loadT ⟨some false, sz⟩ h (at_ b l i) = some (O.e l[i]) := by
 unfold at_
 rw [load_one, row_of hob rfl, Option.bind_some]
 exact vals_get hi
theorem reify_part {b n d : Nat} {t : TypeId} (hob : h[b]? = some (O.row t l)) (hn : n ≤ l.length) (hs : szOf P t = some 1) (ha : aggT P t = some false) : reify P (d + 1) h (part b n l) = some (lst false (O.vals (l.take n))) := by
 unfold part
 rw [reify_slice]
 by_cases h0 : n = 0
 ·subst h0; rfl
 ·rw [if_neg h0]
  show reifyS P d h h[b]? _ _ = _
  rw [hob]
  show reifyS P d h (some (.cells t (O.vals l) 1)) _ _ = _
  rw [reifyS_cells, hs, Option.bind_some, if_pos ⟨by unfold stampOk; rw [vals_len]; simp, Nat.one_pos, by rw [vals_len]; simp; omega⟩, List.drop_zero, Nat.mul_one, vals_take,
   reifyC_set (vals_set _), Option.bind_some, elems_one ha hs]; rfl
theorem reify_sl {b d : Nat} {t : TypeId} (hob : h[b]? = some (O.row t l)) (hs : szOf P t = some 1) (ha : aggT P t = some false) : reify P (d + 1) h (sl b l) = some (lst false (O.vals l)) := by
 have := reify_part (P := P) (d := d) hob (Nat.le_refl l.length) hs ha
 rw [List.take_length] at this
 exact this
theorem reifyR_sl {b : Nat} {t : TypeId} (hob : h[b]? = some (O.row t l)) (hs : szOf P t = some 1) (ha : aggT P t = some false) : reifyR P h (sl b l) = some (lst false (O.vals l)) := reify_sl hob hs ha
theorem frz_part {b n lo : Nat} {t : TypeId} (hob : h[b]? = some (O.row t l)) (hn : n ≤ l.length) (hs : szOf P t = some 1) (ha : aggT P t = some false) (hlo : lo ≤ b) :
  freezeV P depth lo h (part b n l) = some (lst false (O.vals (l.take n)), if n = 0 then h else h.set b .dead) := by
 have e : ((O.vals l).drop 0).take (n * 1) = O.vals (l.take n) := by rw [List.drop_zero, Nat.mul_one, vals_take]
 exact frz_row1 (a := ⟨b, 0, some l.length⟩) (t := t) (c := O.vals l) (g := 1) hob hs hlo (by unfold stampOk; rw [vals_len]; simp) Nat.one_pos (by rw [vals_len]; simp; omega) (by rw [e]; exact vals_set _)
  (by rw [e]; exact elems_one ha hs) (by rw [vals_len, List.length_take]; omega)
theorem frz_sl {b lo : Nat} {t : TypeId} (hob : h[b]? = some (O.row t l)) (hs : szOf P t = some 1) (ha : aggT P t = some false) (hlo : lo ≤ b) :
  freezeV P depth lo h (sl b l) = some (lst false (O.vals l), if l.length = 0 then h else h.set b .dead) := by
 have := frz_part (P := P) (lo := lo) hob (Nat.le_refl l.length) hs ha hlo
 rw [List.take_length] at this
 exact this
theorem app {el : El} {lo b : Nat} {t : TypeId} {u : Value} (hel : el.size = 1) (hob : h[b]? = some (O.row t l)) (hu : sliceCells h 1 u = some (O.vals m, m.length)) (hlo : lo ≤ b) (hb : (l.length + m.length) * el.bytes ≤ 2 ^ 47) :
  appendT (some el) h lo false (sl b l) u = some (sl b (l ++ m), h.set b (O.row t (l ++ m))) := by
 have hob' : h[b]? = some (.cells t (O.vals l) 1) := hob
 unfold sl
 rw [append_slice, hel, hu]
 show appS el h lo false _ _ _ h[b]? _ = _
 by_cases hm : m.length = 0
 ·have : m = [] := List.eq_nil_of_length_eq_zero hm
  subst this
  have hf : fitsRow h ⟨b, 0, some l.length⟩ el.size = true := by rw [hel]; exact fits_row hob rfl
  unfold appS
  simp only [List.append_nil, List.length_nil, Nat.add_zero, Nat.le_refl, if_true, hf, Option.bind_some]
  congr 2
  refine (List.ext_getElem? fun i => ?_)
  rw [List.getElem?_set]
  split
  ·rename_i e; subst e
   split
   ·exact hob
   ·rename_i hlt; rw [List.getElem?_eq_none (by omega)]
  ·rfl
 ·rw [hob']
  refine (appS_grown (m := m.length) hm vals_len.symm rfl hel (by rw [vals_len]; omega) hlo hb).trans ?_
  unfold row
  rw [vals_app, List.length_append, vals_len, vals_len, List.length_append]
theorem lit {el : El} (a : α) (hel : el.size = 1) (hz : el.z.cells.size = 1) (hk : el.k = ⟨some false, some 1⟩) : buildSliceT (some el) false h 1 #[(0, O.e a)] = some (lst true (O.vals [a]), h) := by
 rw [build_one' (O.one a) hel hz, if_neg (by simp), if_pos (O.set a 7), hk]; rfl
end Enc
def intE : Enc Int := ⟨.int .i64, fun _ => rfl, fun _ _ => rfl, fun _ _ _ => rfl, fun _ _ => rfl⟩
end Go.Proofs.YtjkemccfcabhgaaGreat.Bm
namespace Go.Proofs.YtjkemccfcabhgaaGreat.Cw
def top : List Int → Int
 | [] => 0
 | a :: l => max 0 (a + top l)
theorem top_nil : top [] = 0 := rfl
theorem top_cons (a : Int) (l : List Int) : top (a :: l) = max 0 (a + top l) := rfl
theorem top_ge : ∀ l : List Int, 0 ≤ top l
 | [] => Int.le_refl _
 | a :: l => by rw [top_cons]; omega
def pre (n : Int) : List Int → List Int
 | [] => []
 | a :: l => (n + a) :: pre (n + a) l
theorem pre_le : ∀ (l : List Int) (n x : Int), x ∈ pre n l → x ≤ n + top l
 | [], _, _, h => by cases h
 | a :: l, n, x, h => by
  have ht := top_ge l
  rw [top_cons]
  rcases List.mem_cons.1 h with rfl | h
  ·omega
  ·have := pre_le l (n + a) x h; omega
theorem pre_top : ∀ (l : List Int) (n : Int), top l = 0 ∨ n + top l ∈ pre n l
 | [], _ => .inl rfl
 | a :: l, n => by
  rw [top_cons]
  by_cases h : a + top l ≤ 0
  ·left; omega
  ·right
   rw [show n + max 0 (a + top l) = (n + a) + top l by omega]
   rcases pre_top l (n + a) with h0 | h1
   ·rw [h0, Int.add_zero]; exact List.mem_cons_self
   ·exact List.mem_cons_of_mem _ h1
theorem pre_len : ∀ (l : List Int) (n : Int), (pre n l).length = l.length
 | [], _ => rfl
 | a :: l, n => by show (pre (n + a) l).length + 1 = l.length + 1; rw [pre_len]
def stp (S l : List Int) : List Int := S ++ S.flatMap fun n => pre n l
def IsMax (S : List Int) (m : Int) : Prop := m ∈ S ∧ ∀ x ∈ S, x ≤ m
theorem stp_max {S l : List Int} {m : Int} (h : IsMax S m) : IsMax (stp S l) (m + top l) := by
 have ht := top_ge l
 refine ⟨?_, fun x hx => ?_⟩
 ·unfold stp
  rcases pre_top l m with h0 | h1
  ·rw [h0, Int.add_zero]; exact List.mem_append_left _ h.1
  ·exact List.mem_append_right _ (List.mem_flatMap.2 ⟨m, h.1, h1⟩)
 ·rcases List.mem_append.1 hx with hx | hx
  ·have := h.2 x hx; omega
  ·obtain ⟨n, hn, hx⟩ := List.mem_flatMap.1 hx
   have := h.2 n hn
   have := pre_le l n x hx
   omega
theorem max_unique {S : List Int} {m n : Int} (h : IsMax S m) (k : IsMax S n) : m = n := by
 have h1 := h.2 n k.1
 have h2 := k.2 m h.1
 omega
theorem stp_len (S l : List Int) : (stp S l).length = S.length * (l.length + 1) := by
 unfold stp
 have key : ∀ S : List Int, (S.flatMap fun n => pre n l).length = S.length * l.length := by
  intro S
  induction S with
  | nil => simp
  | cons a S ih => rw [List.flatMap_cons, List.length_append, pre_len, ih, List.length_cons, Nat.add_mul]; omega
 rw [List.length_append, key, Nat.mul_add]; omega
def allS : List Int → List (List Int) → Option (List Int)
 | S, [] => some S
 | S, l :: ls => if 4096 ≤ l.length ∨ 4096 < S.length * (l.length + 1) then none else allS (stp S l) ls
def limited (n : Int) : Int := min (max n (-1099511627776)) 1099511627776
theorem limited_in (n : Int) : -1099511627776 ≤ limited n ∧ limited n ≤ 1099511627776 := by unfold limited; omega
def nam (c : ByteArray) (l : List (ByteArray × Int)) : Int := (l.map fun e => if e.1 = c then limited e.2 else 0).sum
theorem nam_nil (c : ByteArray) : nam c [] = 0 := rfl
theorem nam_cons (c : ByteArray) (e : ByteArray × Int) (l : List (ByteArray × Int)) : nam c (e :: l) = (if e.1 = c then limited e.2 else 0) + nam c l := by simp [nam]
theorem nam_in (c : ByteArray) : ∀ l : List (ByteArray × Int), -((l.length : Int) * 1099511627776) ≤ nam c l ∧ nam c l ≤ (l.length : Int) * 1099511627776
 | [] => by simp [nam]
 | e :: l => by
  have h1 := nam_in c l
  have h2 := limited_in e.2
  rw [nam_cons, List.length_cons]
  split <;> omega
theorem sum_in {α : Type} (f : α → Int) (b : Int) (hf : ∀ a, 0 ≤ f a ∧ f a ≤ b) : ∀ l : List α, 0 ≤ (l.map f).sum ∧ (l.map f).sum ≤ (l.length : Int) * b
 | [] => by simp
 | a :: l => by
  have h1 := sum_in f b hf l
  have h2 := hf a
  rw [List.map_cons, List.sum_cons, List.length_cons, Int.natCast_add, Int.add_mul]
  simp only [Int.natCast_one, Int.one_mul]
  omega
end Go.Proofs.YtjkemccfcabhgaaGreat.Cw
