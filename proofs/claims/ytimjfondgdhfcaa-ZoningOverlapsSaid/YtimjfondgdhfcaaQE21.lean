/-
  Chapter 18: what two regions have in common, walked. Conditions: rectangles on the grid, lists that are not too long.
-/
import Derived.Test.YtimjfondgdhfcaaQE19
import Derived.Test.YtimjfondgdhfcaaQE20
namespace Go.Proofs.Ytimjfondgdhfcaa.Bm
open Go Go.RowKit
open Rg (Rect scan scan_le putAt insN sortU edgesX)
def iT (l : List Int) : Value := lst false (l.map (.int .i64))
theorem iT_len {h : Heap} {l : List Int} : lenT .sl h (iT l) = some (.int .i64 l.length) := by unfold iT; rw [len_lst]; simp
theorem iT_index {l : List Int} {i : Nat} (hi : i < l.length) : indexAddrT (.sl 3 ⟨some false, some 1⟩) (iT l) (.int .i64 (i : Int)) = some (cptr (.int .i64 l[i])) := by
  unfold iT
  have e : (l.map (Value.int .i64))[i]? = some (.int .i64 l[i]) := by simp [hi]
  rw [index_lst, if_pos (by omega), show ((i : Int)).toNat = i by omega, e, Option.bind_some, if_pos (by rfl)]
theorem iT_set (l : List Int) : settled depth (iT l) = true := rfl
theorem iT_reify (h : Heap) (l : List Int) : reify E.P 8 h (iT l) = some (iT l) := rfl
theorem iT_bel {d n : Nat} {l : List Int} : below (d + 1) n (iT l) = true := rfl
theorem g3 : aggT E.P 3 = some false := by kernel_rfl
theorem int_reifyR {h : Heap} {b : Nat} {l : List Int} (hob : h[b]? = some (intR.row 3 l)) : reifyR E.P h (intR.sl b l) = some (iT l) := by
  have e0 : intR.sl b l = .slice (some ⟨b, 0, some l.length⟩) l.length l.length := by unfold Rec.sl; simp [intR]
  show reify E.P 8 h (intR.sl b l) = _
  rw [e0, reify_slice]
  by_cases h0 : l.length = 0
  · have : l = [] := List.eq_nil_of_length_eq_zero h0
    subst this; rfl
  · rw [if_neg h0, hob]
    unfold Rec.row
    rw [int_flat]
    show reifyS E.P 7 h (some (.cells 3 (l.map (.int .i64)) 1)) _ _ = _
    rw [reifyS_cells, s3, Option.bind_some, if_pos ⟨by simp [stampOk], Nat.one_pos, by simp⟩]
    have e : ((l.map (Value.int .i64)).drop 0).take (l.length * 1) = l.map (.int .i64) := by rw [List.drop_zero, Nat.mul_one, List.take_of_length_le (by simp)]
    rw [e, reifyC_set (by simp [List.all_eq_true]), Option.bind_some, elems_one g3 s3]; rfl
theorem int_freeze {h : Heap} {lo b : Nat} {l : List Int} (hob : h[b]? = some (intR.row 3 l)) (hlo : lo ≤ b) : ∃ g, freezeV E.P depth lo h (intR.sl b l) = some (iT l, g) := by
  have e0 : intR.sl b l = .slice (some ⟨b, 0, some l.length⟩) l.length l.length := by unfold Rec.sl; simp [intR]
  have hob' : h[b]? = some (.cells 3 (l.map (.int .i64)) 1) := by rw [hob]; unfold Rec.row; rw [int_flat]; rfl
  rw [e0]
  exact ⟨_, frz_one8 hob' s3 g3 hlo (List.length_map _).symm (List.length_map _).symm (by simp [List.all_eq_true])⟩
theorem int_sl {b : Nat} {c d : List Int} (h : c.length = d.length) : intR.sl b c = intR.sl b d := by unfold Rec.sl; rw [h]
theorem int_index {g : Option Bool} {b : Nat} {l : List Int} {i : Nat} (h1 : i < l.length) : indexAddrT (.sl 3 ⟨g, some 1⟩) (intR.sl b l) (.int .i64 (i : Int)) = some (intR.at_ b l i 0) := Rec.index_row (R := intR) rfl h1
theorem int_load {h : Heap} {b : Nat} {l : List Int} {i : Nat} {sz : Option Nat} (hob : h[b]? = some (intR.row 3 l)) (h1 : i < l.length) : loadT ⟨some false, sz⟩ h (intR.at_ b l i 0) = some (.int .i64 l[i]) := Rec.load_cell (R := intR) (j := 0) hob h1 (by decide)
theorem int_store {h : Heap} {b lo : Nat} {l : List Int} {i : Nat} (z : Int) (hob : h[b]? = some (intR.row 3 l)) (hlo : lo ≤ b) (h1 : i < l.length) : storeT (some 1) h lo (.int .i64 z) (intR.at_ b l i 0) = some (h.set b (intR.row 3 (l.set i z))) :=
  Rec.store_cell (R := intR) (j := 0) rfl hob hlo h1 (by decide) rfl
theorem lit_num (h : Heap) (z : Int) : buildSliceT (some ⟨3, 1, 8, .int .i64 0, ⟨some false, some 1⟩⟩) false h 1 #[(0, .int .i64 z)] = some (lst true [.int .i64 z], h) :=
  (build_lit' (n := 1) (l := [(0, .int .i64 z)]) rfl rfl (by decide) (by decide) (by decide)).trans rfl
theorem app_num {h : Heap} {b lo : Nat} {c : List Int} (z : Int) (hob : h[b]? = some (intR.row 3 c)) (hlo : lo ≤ b) (hc : c.length ≤ 1000000) :
    appendT (some ⟨3, 1, 8, .int .i64 0, ⟨some false, some 1⟩⟩) h lo false (intR.sl b c) (lst true [.int .i64 z]) = some (intR.sl b (c ++ [z]), h.set b (intR.row 3 (c ++ [z]))) :=
  Rec.app (R := intR) (m := [z]) rfl hob (cells_lst (by rfl)) hlo (by show (c.length + 1) * 8 ≤ 2 ^ 47; omega)
def shiftRow (o : List Int) (m : Nat) : List Int := (o ++ [0]).take (m + 1) ++ o.drop m
theorem shiftRow_len {o : List Int} {m : Nat} (h : m ≤ o.length) : (shiftRow o m).length = o.length + 1 := by
  unfold shiftRow
  rw [List.length_append, List.length_take, List.length_drop, List.length_append]
  show min (m + 1) (o.length + 1) + (o.length - m) = _
  omega
theorem shiftRow_top (o : List Int) : shiftRow o o.length = o ++ [0] := by
  unfold shiftRow
  rw [List.drop_length, List.append_nil, List.take_of_length_le (by simp)]
theorem shiftRow_get {o : List Int} {m j : Nat} (h : m ≤ o.length) (hj : j < m) : (shiftRow o m)[j]'(by rw [shiftRow_len h]; omega) = o[j] := by
  unfold shiftRow
  rw [List.getElem_append_left (by rw [List.length_take, List.length_append]; simp; omega), List.getElem_take, List.getElem_append_left (by omega)]
theorem shiftRow_split {o : List Int} {m : Nat} (h : m ≤ o.length) : ∃ x, shiftRow o m = o.take m ++ x :: o.drop m := by
  refine ⟨(o ++ [0])[m]'(by simp; omega), ?_⟩
  unfold shiftRow
  rw [List.take_succ_eq_append_getElem (by simp; omega), List.take_append_of_le_length h, List.append_assoc]; rfl
theorem shiftRow_set {o : List Int} {m : Nat} (h : m ≤ o.length) (z : Int) : (shiftRow o m).set m z = putAt o m z := by
  obtain ⟨x, e⟩ := shiftRow_split h
  have hl : (o.take m).length = m := by rw [List.length_take]; omega
  rw [e, List.set_append_right _ _ (by omega), hl, Nat.sub_self]; rfl
theorem shiftRow_down {o : List Int} {m : Nat} (h : m + 1 ≤ o.length) : (shiftRow o (m + 1)).set (m + 1) (o[m]'(by omega)) = shiftRow o m := by
  rw [shiftRow_set h]
  unfold putAt shiftRow
  rw [List.take_append_of_le_length (by omega), List.drop_eq_getElem_cons (show m < o.length by omega)]
theorem sorted_spec (l : List Int) (hl : l.length ≤ 10000) : pureCall E.P (L E) 68 [iT l] = some (iT (sortU l)) := by
  rw [← Rg.insN_sortU, pureCall_fn F68 rfl]
  simp -implicitDefEqProofs [r68, p68, prep_new, newK_nil s3]
  rw [LL_for (γ := List Int) l [] (fun i o => [(3, intR.sl 0 o), (4, .int .i64 i)]) (fun _ o => [intR.row 3 o])
    (fun _ rest o => (.exit 0, [(3, intR.sl 0 (rest.foldl insN o)), (4, undef)], [intR.row 3 (rest.foldl insN o)])) (fun i o => o.length ≤ i) (by omega) (Nat.le_refl _)]
  · have rr := int_reifyR (h := [intR.row 3 (l.foldl insN [])]) (b := 0) (l := l.foldl insN []) rfl
    simp -implicitDefEqProofs [k68_3, rr]
  · simp -implicitDefEqProofs [k68_3, Rec.sl_nil]
  · rfl
  · intro nx i o hi _
    simp -implicitDefEqProofs [r68_3, k68_3, hi, iT_len, trim_le]
  · intro nx i z rest o hi hv hd hw ho ih
    have ixl := iT_index hi
    rw [hv] at ixl
    have hle := scan_le (fun j => decide (z < o.getD j 0)) o.length
    have gd : ∀ j (hj : j < o.length), o.getD j 0 = o[j] := fun j hj => by rw [List.getD_eq_getElem?_getD, List.getElem?_eq_getElem hj]; rfl
    have ei : insN o z = if 0 < scan (fun j => decide (z < o.getD j 0)) o.length ∧ o.getD (scan (fun j => decide (z < o.getD j 0)) o.length - 1) 0 = z then o else putAt o (scan (fun j => decide (z < o.getD j 0)) o.length) z := rfl
    have ixo := fun (j : Nat) (hj : j < o.length) => int_index (g := some false) (b := 0) (l := o) hj
    have ldo := fun (j : Nat) (hj : j < o.length) => int_load (h := [intR.row 3 o]) (b := 0) (l := o) (sz := some 1) rfl hj
    rw [List.foldl_cons]
    simp -implicitDefEqProofs [r68_3, k68_3, hi, iT_len, Rec.sl_len]
    rw [LL_rec (α := Nat) o.length (fun k => [(5, .int .i64 (k : Int))]) (fun _ => [intR.row 3 o]) (fun k => (.exit 2, [(5, .int .i64 ((scan (fun j => decide (z < o.getD j 0)) k : Nat) : Int))], [intR.row 3 o])) (fun k => k ≤ o.length) (fun k => k)]
    · generalize scan (fun j => decide (z < o.getD j 0)) o.length = k at hle ei ⊢
      have hk := hle
      have ap := app_num (h := [intR.row 3 o]) (b := 0) (lo := 0) (c := o) 0 rfl (Nat.le_refl _) (by omega)
      have wl : IntKind.i64.wrap (((o ++ [0]).length : Int) - 1) = (o.length : Int) := by
        have : (o ++ [0]).length = o.length + 1 := by simp
        rw [this]; exact (wrap64 (by omega) (by omega)).trans (by omega)
      by_cases hc : 0 < k ∧ o.getD (k - 1) 0 = z
      · rw [ei, if_pos hc]
        obtain ⟨hk0, hkz⟩ := hc
        have hko : k - 1 < o.length := by omega
        rw [gd _ hko] at hkz
        have hpos : (0 : Int) < (k : Int) := by omega
        have w1 : IntKind.i64.wrap ((k : Int) - 1) = ((k - 1 : Nat) : Int) := (wrap64 (by omega) (by omega)).trans (by omega)
        have ih := ih o (by omega)
        simp -implicitDefEqProofs [k68_3] at ih
        simp -implicitDefEqProofs [k68_6, hk0, w1, ixo _ hko, ldo _ hko, ixl, hkz, hw, trim_le]
        exact ih
      · rw [ei, if_neg hc]
        have ih := ih (putAt o k z) (by rw [Rg.putAt_len]; omega)
        simp -implicitDefEqProofs [k68_3] at ih
        have es : ∀ m, m ≤ o.length → intR.sl 0 (shiftRow o m) = intR.sl 0 (o ++ [0]) := fun m hm => int_sl (by rw [shiftRow_len hm]; simp)
        have ixs := fun (m : Nat) (hm : m ≤ o.length) (j : Nat) (hj : j < o.length + 1) => (es m hm) ▸ int_index (g := some false) (b := 0) (l := shiftRow o m) (i := j) (by rw [shiftRow_len hm]; exact hj)
        have esp : intR.sl 0 (putAt o k z) = intR.sl 0 (o ++ [0]) := int_sl (by rw [Rg.putAt_len]; simp)
        rw [esp] at ih
        have two : (¬ (0 : Int) < (k : Int)) ∨ ((0 : Int) < (k : Int) ∧ ∃ hko : k - 1 < o.length, ¬ o[k - 1] = z) := by
          by_cases h0 : 0 < k
          · have hko : k - 1 < o.length := by omega
            exact .inr ⟨by omega, hko, fun e => hc ⟨h0, by rw [gd _ hko]; exact e⟩⟩
          · exact .inl (by omega)
        have w1 : 0 < k → IntKind.i64.wrap ((k : Int) - 1) = ((k - 1 : Nat) : Int) := fun h => (wrap64 (by omega) (by omega)).trans (by omega)
        have ixk := ixs k hk k (by omega)
        have stk := int_store (h := [intR.row 3 (shiftRow o k)]) (b := 0) (lo := 0) (l := shiftRow o k) (i := k) z rfl (Nat.le_refl _) (by rw [shiftRow_len hk]; omega)
        rw [shiftRow_set hk] at stk
        rcases two with h0 | ⟨h0, hko, hne⟩
        · have h0n : ¬ (0 < k) := by omega
          simp -implicitDefEqProofs [k68_6, h0n, lit_num, ap, Rec.sl_len, wl, -List.length_append]
          rw [LL_rec (α := Nat) o.length (fun m => [(6, .int .i64 (m : Int))]) (fun m => [intR.row 3 (shiftRow o m)]) (fun m => (.exit 4, [(6, undef)], [intR.row 3 (shiftRow o k)])) (fun m => k ≤ m ∧ m ≤ o.length) (fun m => m)]
          · simp -implicitDefEqProofs [k68_11, ixk, stk, ixl, hw, trim_le]
            exact ih
          · exact ⟨hk, Nat.le_refl _⟩
          · simp -implicitDefEqProofs [k68_11]
          · simp only [shiftRow_top]
          · intro nx m hm ih
            by_cases hkm : k < m
            · obtain ⟨m, rfl⟩ : ∃ m', m = m' + 1 := ⟨m - 1, by omega⟩
              have hmo : m < o.length := by omega
              have ih := ih m (by omega) ⟨by omega, by omega⟩
              have w3 : IntKind.i64.wrap ((m : Int) + 1 - 1) = (m : Int) := (wrap64 (by omega) (by omega)).trans (by omega)
              have w4 : IntKind.i64.wrap (m : Int) = (m : Int) := wrap64 (by omega) (by omega)
              have hkm' : (k : Int) < (m : Int) + 1 := by omega
              have ixa := ixs (m + 1) (by omega) m (by omega)
              have ixb := ixs (m + 1) (by omega) (m + 1) (by omega)
              have lda := int_load (h := [intR.row 3 (shiftRow o (m + 1))]) (b := 0) (l := shiftRow o (m + 1)) (i := m) (sz := some 1) rfl (by rw [shiftRow_len (by omega)]; omega)
              rw [shiftRow_get (by omega) (by omega)] at lda
              have sta := int_store (h := [intR.row 3 (shiftRow o (m + 1))]) (b := 0) (lo := 0) (l := shiftRow o (m + 1)) (i := m + 1) o[m] rfl (Nat.le_refl _) (by rw [shiftRow_len (by omega)]; omega)
              rw [shiftRow_down hmo] at sta
              push_cast at ixb
              simp -implicitDefEqProofs [k68_11] at ih
              simp -implicitDefEqProofs [r68_11, k68_11, hkm', w4, ixa, ixb, lda, sta, trim_le]
              exact ih
            · have e : m = k := by omega
              subst e
              simp -implicitDefEqProofs [r68_11, k68_11, trim_le]
        · have h0' : 0 < k := by omega
          simp -implicitDefEqProofs [k68_6, h0', w1 h0', ixo _ hko, ldo _ hko, ixl, hne, lit_num, ap, Rec.sl_len, wl, -List.length_append]
          rw [LL_rec (α := Nat) o.length (fun m => [(6, .int .i64 (m : Int))]) (fun m => [intR.row 3 (shiftRow o m)]) (fun m => (.exit 4, [(6, undef)], [intR.row 3 (shiftRow o k)])) (fun m => k ≤ m ∧ m ≤ o.length) (fun m => m)]
          · simp -implicitDefEqProofs [k68_11, ixk, stk, ixl, hw, trim_le]
            exact ih
          · exact ⟨hk, Nat.le_refl _⟩
          · simp -implicitDefEqProofs [k68_11]
          · simp only [shiftRow_top]
          · intro nx m hm ih
            by_cases hkm : k < m
            · obtain ⟨m, rfl⟩ : ∃ m', m = m' + 1 := ⟨m - 1, by omega⟩
              have hmo : m < o.length := by omega
              have ih := ih m (by omega) ⟨by omega, by omega⟩
              have w3 : IntKind.i64.wrap ((m : Int) + 1 - 1) = (m : Int) := (wrap64 (by omega) (by omega)).trans (by omega)
              have w4 : IntKind.i64.wrap (m : Int) = (m : Int) := wrap64 (by omega) (by omega)
              have hkm' : (k : Int) < (m : Int) + 1 := by omega
              have ixa := ixs (m + 1) (by omega) m (by omega)
              have ixb := ixs (m + 1) (by omega) (m + 1) (by omega)
              have lda := int_load (h := [intR.row 3 (shiftRow o (m + 1))]) (b := 0) (l := shiftRow o (m + 1)) (i := m) (sz := some 1) rfl (by rw [shiftRow_len (by omega)]; omega)
              rw [shiftRow_get (by omega) (by omega)] at lda
              have sta := int_store (h := [intR.row 3 (shiftRow o (m + 1))]) (b := 0) (lo := 0) (l := shiftRow o (m + 1)) (i := m + 1) o[m] rfl (Nat.le_refl _) (by rw [shiftRow_len (by omega)]; omega)
              rw [shiftRow_down hmo] at sta
              push_cast at ixb
              simp -implicitDefEqProofs [k68_11] at ih
              simp -implicitDefEqProofs [r68_11, k68_11, hkm', w4, ixa, ixb, lda, sta, trim_le]
              exact ih
            · have e : m = k := by omega
              subst e
              simp -implicitDefEqProofs [r68_11, k68_11, trim_le]
    · exact Nat.le_refl _
    · simp -implicitDefEqProofs [k68_6]
    · rfl
    · intro nx k hk ih
      cases k with
      | zero => simp -implicitDefEqProofs [r68_6, k68_6, scan, trim_le]
      | succ k =>
        have hko : k < o.length := by omega
        have w1 : IntKind.i64.wrap ((k : Int) + 1 - 1) = (k : Int) := (wrap64 (by omega) (by omega)).trans (by omega)
        have w2 : IntKind.i64.wrap (k : Int) = (k : Int) := wrap64 (by omega) (by omega)
        have hpos : (0 : Int) < (k : Int) + 1 := by omega
        have ih := ih k (by omega) (by omega)
        have e : scan (fun j => decide (z < o.getD j 0)) (k + 1) = if decide (z < o.getD k 0) then scan (fun j => decide (z < o.getD j 0)) k else k + 1 := rfl
        rw [e, gd k hko]
        simp -implicitDefEqProofs [k68_6] at ih
        by_cases hz : z < o[k]
        · simp -implicitDefEqProofs [r68_6, k68_6, hpos, w2, ixo k hko, ldo k hko, ixl, hz, trim_le]
          exact ih
        · simp -implicitDefEqProofs [r68_6, k68_6, hpos, w2, ixo k hko, ldo k hko, ixl, hz, trim_le]
end Go.Proofs.Ytimjfondgdhfcaa.Bm
namespace Go.Proofs.Ytimjfondgdhfcaa.Bm
open Go Go.RowKit
open Rg (Rect Slab Pt sidesP upS hB ysP colY polyL rightP sortU stripL outT emit pairs ends)
def polyX (p : List Pt) : Except Int (List Rect) := if rightP p then (if 200 < (polyL p).length then .error 6 else .ok (polyL p)) else .error 10
theorem ends_even7 : ∀ {c : List (Int × Int)} {j : Nat} (hj : j < c.length), (ends c)[2 * j]? = some c[j].1 ∧ (ends c)[2 * j + 1]? = some c[j].2
  | [], j, hj => by simp at hj
  | s :: c, 0, _ => ⟨rfl, rfl⟩
  | s :: c, j + 1, hj => ends_even7 (c := c) (j := j) (by simpa using hj)
theorem ends_at7 {c : List (Int × Int)} {j : Nat} (hj : j < c.length) : ∃ (h1 : 2 * j < (ends c).length) (h2 : 2 * j + 1 < (ends c).length), (ends c)[2 * j] = c[j].1 ∧ (ends c)[2 * j + 1] = c[j].2 := by
  have hl := Rg.ends_len c
  obtain ⟨e1, e2⟩ := ends_even7 hj
  refine ⟨by omega, by omega, ?_, ?_⟩
  · rw [List.getElem?_eq_getElem (by omega)] at e1; exact Option.some.inj e1
  · rw [List.getElem?_eq_getElem (by omega)] at e2; exact Option.some.inj e2
theorem emit_cons7 (x0 x1 : Int) (s : Int × Int) (c : List (Int × Int)) : emit ⟨x0, x1, s :: c⟩ = [⟨x0, s.1, x1, s.2⟩] ++ emit ⟨x0, x1, c⟩ := rfl
theorem strip_step {c : Int → List (Int × Int)} {U : List Int} {i : Nat} (h : i + 1 < U.length) : outT (stripL c (U.drop i)) = emit ⟨U[i], U[i + 1], c U[i]⟩ ++ outT (stripL c (U.drop (i + 1))) := by
  rw [List.drop_eq_getElem_cons (show i < U.length by omega), List.drop_eq_getElem_cons h]; rfl
theorem strip_end {c : Int → List (Int × Int)} {U : List Int} {i : Nat} (h : ¬ i + 1 < U.length) : outT (stripL c (U.drop i)) = [] := by
  have hl : (U.drop i).length ≤ 1 := by rw [List.length_drop]; omega
  match U.drop i, hl with
  | [], _ => rfl
  | [_], _ => rfl
theorem hB_up {x : Int} {s : Pt × Pt} (h : upS s = true) : hB x s = false := by
  unfold upS at h
  rw [decide_eq_true_eq] at h
  cases q : hB x s
  · rfl
  · rw [Rg.hB_iff] at q; omega
theorem sett (z : Int) : settled depth (.int .i64 z) = true := rfl
set_option maxHeartbeats 4000000 in
theorem pregion_spec (x : Bool) (p : List Pt) (hp : p.length ≤ 1000000) : pureCall E.P (L E) 21 [lst x (spanR.vals p)] = some (resL (polyX p)) := by
  have ln : ∀ h, lenT .sl h (lst x (spanR.vals p)) = some (.int .i64 p.length) := fun h => Rec.tree_len
  have hR := pright_spec x p hp
  have rf : ∀ h, reify E.P 8 h (lst x (spanR.vals p)) = some (lst x (spanR.vals p)) := fun _ => rfl
  have sv0 : settled depth (lst x (spanR.vals p)) = true := rfl
  have bP : ∀ d n, below (d + 1) n (lst x (spanR.vals p)) = true := fun d n => rfl
  have pix : ∀ (j : Nat) (hj : j < p.length), indexAddrT (.sl 36 ⟨some true, some 2⟩) (lst x (spanR.vals p)) (.int .i64 (j : Int)) = some (cptr (spanR.val p[j])) := fun j hj => Rec.index_tree rfl hj
  rw [pureCall_fn F21 rfl]
  unfold polyX
  generalize hPV : lst x (spanR.vals p) = PV at *
  cases hr : rightP p
  · rw [hr] at hR
    simp -implicitDefEqProofs [r21, p21, ret0 m38, rf, hR, resL]
  rw [hr] at hR
  obtain ⟨hp4, hp60⟩ := Rg.rightP_len hr
  simp -implicitDefEqProofs [r21, p21, ret0 m38, rf, hR, prep_new, newK_nil s3, ln]
  rw [LL_for (γ := List Int) p [] (fun i c => [(4, intR.sl 0 c), (19, .int .i64 i)]) (fun _ c => [intR.row 3 c])
    (fun _ rest c => (.exit 0, [(4, intR.sl 0 (c ++ rest.map (·.1))), (19, undef)], [intR.row 3 (c ++ rest.map (·.1))])) (fun i c => c.length = i) (by omega) rfl]
  · rw [List.nil_append]
    have hxl : (p.map (·.1)).length = p.length := List.length_map _
    have hU : (sortU (p.map (·.1))).length ≤ p.length := by
      have := Rg.sortU_le (p.map (·.1)); omega
    have so := sortInts (h := [intR.row 3 (p.map (·.1))]) (b := 0) (lo := 0) (d := p.map (·.1)) rfl (Nat.le_refl _) (by omega)
    obtain ⟨r, co, hrl⟩ := compInts (h := [intR.row 3 (sortI (p.map (·.1)))]) (b := 0) (lo := 0) (d := sortI (p.map (·.1))) rfl (Nat.le_refl _) (by rw [sortI_len]; omega)
    rw [Rg.comp_sort] at co hrl
    have e1 : intR.sl 0 (sortI (p.map (·.1))) = intR.sl 0 (p.map (·.1)) := by unfold Rec.sl; rw [sortI_len]
    rw [e1, sortI_len, hxl] at co
    rw [sortI_len, hxl] at hrl
    have ar : pureCall E.P (L E) 41 [PV] = some (lst false (sideR.vals (sidesP p))) := by rw [← hPV]; exact around_spec x p (by omega)
    have sln := sides_lenT p
    have bS : ∀ d n, below (d + 1) n (lst false (sideR.vals (sidesP p))) = true := fun d n => rfl
    have six : ∀ (j : Nat) (hj : j < (sidesP p).length), indexAddrT (.sl 77 ⟨some true, some 4⟩) (lst false (sideR.vals (sidesP p))) (.int .i64 (j : Int)) = some (cptr (sideR.val (sidesP p)[j])) := fun j hj => Rec.index_tree rfl hj
    have hsl := Rg.sides_len p
    have ePL : polyL p = outT (stripL (colY p) (sortU (p.map (·.1)))) := rfl
    rw [ePL]
    have hev : ∀ x, (sortI (ysP p x)).length % 2 = 0 := fun x => by rw [sortI_len]; exact Rg.ys_even p x
    have hyl : ∀ x, (ysP p x).length ≤ p.length := fun x => Rg.ys_len p x
    have wl : IntKind.i64.wrap (((sortU (p.map (·.1))).length : Int) - 1) = ((sortU (p.map (·.1))).length : Int) - 1 := wrap64 (by omega) (by omega)
    simp -implicitDefEqProofs [k21_5, wl, ret2 (E := E) (f := 39) rfl, ret2 (E := E) (f := 40) rfl, so, co, ret1 m41, sv0, ar, prep_new, newK_nil s32, pre_len]
    generalize hSV : lst false (sideR.vals (sidesP p)) = SV at *
    generalize sortU (p.map (·.1)) = U at *
    clear so co e1 ePL hxl hR
    rw [LL_rec (α := Nat × List Rect) (0, []) (fun c => [(8, rectR.sl 1 c.2), (38, .int .i64 (c.1 : Int))]) (fun c => [intR.row 3 (U ++ r), rectR.row 55 c.2])
      (fun c => (.exit 2, [(8, rectR.sl 1 (c.2 ++ outT (stripL (colY p) (U.drop c.1)))), (38, undef)], [intR.row 3 (U ++ r), rectR.row 55 (c.2 ++ outT (stripL (colY p) (U.drop c.1)))])) (fun c => c.1 ≤ U.length ∧ c.2.length ≤ 100 * c.1) (fun c => U.length - c.1)]
    · rw [List.drop_zero, List.nil_append]
      generalize outT (stripL (colY p) U) = F
      have rr := Rec.reify_row (R := rectR) (P := E.P) (h := [intR.row 3 (U ++ r), rectR.row 55 F]) (b := 1) (n := 7) (t := 55) (l := F) rfl s32 a32
      by_cases h2 : 200 < F.length
      · have h2' : 200 < (F.length : Int) := by omega
        simp -implicitDefEqProofs [k21_14, Rec.sl_len, h2, h2', resL]
      · have h2' : ¬ (200 < (F.length : Int)) := by omega
        simp -implicitDefEqProofs [k21_14, Rec.sl_len, h2, h2', rr, resL]
    · exact ⟨Nat.zero_le _, Nat.zero_le _⟩
    · simp -implicitDefEqProofs [k21_14, Rec.sl_nil]
    · rfl
    · intro nx c hc ih
      obtain ⟨i, o⟩ := c
      obtain ⟨h1, h2⟩ := hc
      simp only at h1 h2
      by_cases hi : i + 1 < U.length
      · have hi' : (i : Int) < (U.length : Int) - 1 := by omega
        have wi : IntKind.i64.wrap ((i : Int) + 1) = ((i + 1 : Nat) : Int) := (wrap64 (by omega) (by omega)).trans (by omega)
        have px := pre_index (t := 3) (g := some false) (b := 0) (n := p.length) (k := .i64) (e := U) (i := i) (by omega)
        have px1 := pre_index (t := 3) (g := some false) (b := 0) (n := p.length) (k := .i64) (e := U) hi
        have pl := fun a b => pre_load (h := [intR.row 3 (U ++ r), a, b]) (b := 0) (n := p.length) (sz := some 1) (e := U) (i := i) rfl hrl (by omega)
        have pl2 := fun a b c => pre_load (h := [intR.row 3 (U ++ r), a, b, c]) (b := 0) (n := p.length) (sz := some 1) (e := U) (i := i) rfl hrl (by omega)
        have pl1 := fun a b => pre_load (h := [intR.row 3 (U ++ r), a, b]) (b := 0) (n := p.length) (sz := some 1) (e := U) rfl hrl hi
        have hcl : 2 * (colY p U[i]).length ≤ p.length := Rg.colY_len p U[i]
        have ih := ih (i + 1, o ++ emit ⟨U[i], U[i + 1], colY p U[i]⟩) (by show U.length - (i + 1) < U.length - i; omega) ⟨by show i + 1 ≤ U.length; omega, by
          show (o ++ emit ⟨U[i], U[i + 1], colY p U[i]⟩).length ≤ 100 * (i + 1)
          have e : (emit ⟨U[i], U[i + 1], colY p U[i]⟩).length = (colY p U[i]).length := List.length_map _
          rw [List.length_append, e]; omega⟩
        rw [strip_step hi, ← List.append_assoc]
        have ecol : colY p U[i] = pairs (sortI (ysP p U[i])) := rfl
        have eys : ysP p U[i] = ((sidesP p).filter (hB U[i])).map (fun s => s.1.2) := rfl
        have hev := hev U[i]
        have hyl := hyl U[i]
        have ee := Rg.ends_pairs hev
        rw [ecol] at ih ⊢
        generalize hx0 : U[i] = x0 at *
        generalize hx1 : U[i + 1] = x1 at *
        generalize outT (stripL (colY p) (U.drop (i + 1))) = F at *
        simp -implicitDefEqProofs [k21_14, -List.append_assoc] at ih
        simp -implicitDefEqProofs [r21_14, k21_14, pre_len, wl, hi, hi', prep_new, newK_nil s3, sln, -List.append_assoc]
        rw [LL_for (γ := List Int) (sidesP p) [] (fun j c => [(10, intR.sl 2 c), (43, .int .i64 j)]) (fun _ c => [intR.row 3 (U ++ r), rectR.row 55 o, intR.row 3 c])
          (fun _ rest c => (.exit 4, [(10, intR.sl 2 (c ++ (rest.filter (hB x0)).map (fun s => s.1.2))), (43, undef)], [intR.row 3 (U ++ r), rectR.row 55 o, intR.row 3 (c ++ (rest.filter (hB x0)).map (fun s => s.1.2))])) (fun j c => c.length ≤ j) (by omega) (Nat.le_refl _)]
        · rw [List.nil_append, ← eys]
          have so2 := sortInts (h := [intR.row 3 (U ++ r), rectR.row 55 o, intR.row 3 (ysP p x0)]) (b := 2) (lo := 0) (d := ysP p x0) rfl (Nat.zero_le _) (by omega)
          have hLl : (sortI (ysP p x0)).length = (ysP p x0).length := sortI_len _
          have esl : intR.sl 2 (sortI (ysP p x0)) = intR.sl 2 (ysP p x0) := int_sl hLl
          generalize ysP p x0 = Y at *
          generalize sortI Y = Lq at *
          have hel := Rg.ends_len (pairs Lq)
          rw [ee] at hel
          have ixL := fun (j : Nat) (hj : j < Lq.length) => int_index (g := some false) (b := 2) (l := Lq) hj
          rw [esl] at ixL
          simp -implicitDefEqProofs [k21_18, ret2 (E := E) (f := 39) rfl, so2, -List.append_assoc]
          rw [LL_for (γ := List Rect) (pairs Lq) o (fun j o' => [(8, rectR.sl 1 o'), (13, .int .i64 ((2 * j : Nat) : Int))]) (fun _ o' => [intR.row 3 (U ++ r), rectR.row 55 o', intR.row 3 Lq])
            (fun _ rest o' => (.exit 6, [(8, rectR.sl 1 (o' ++ emit ⟨x0, x1, rest⟩)), (13, undef)], [intR.row 3 (U ++ r), rectR.row 55 (o' ++ emit ⟨x0, x1, rest⟩), intR.row 3 Lq])) (fun j o' => o'.length = o.length + j) (by omega) rfl]
          · simp -implicitDefEqProofs [k21_25, wi, trim_cut, bP, bS, Rec.sl_bel, Rec.row_bel, pre_bel, -List.append_assoc, -Int.natCast_add]
            exact ih
          · simp -implicitDefEqProofs [k21_25]
          · rfl
          · intro nx j o' hj _
            have w2 : IntKind.i64.wrap (((2 * j : Nat) : Int) + 1) = ((2 * j + 1 : Nat) : Int) := wrap64 (by omega) (by omega)
            have hjn : ¬ (((2 * j + 1 : Nat) : Int) < (Y.length : Int)) := by omega
            have hjn' : ¬ (2 * j + 1 < Y.length) := by omega
            have e0 : emit ⟨x0, x1, []⟩ = [] := rfl
            simp -implicitDefEqProofs [r21_25, k21_25, Rec.sl_len, w2, hjn, hjn', e0, trim_le, -Int.natCast_add, -Int.natCast_mul]
          · intro nx j s rest o' hj hv hd hw ho ih
            obtain ⟨g1, g2, g3, g4⟩ := ends_at7 hj
            simp only [ee] at g1 g2 g3 g4
            rw [hv] at g3 g4
            have st := app_rect (h := [intR.row 3 (U ++ r), rectR.row 55 o', intR.row 3 Lq]) (b := 1) (lo := 0) (c := o') ⟨x0, s.1, x1, s.2⟩ rfl (Nat.zero_le _) (by omega)
            have w2 : IntKind.i64.wrap (((2 * j : Nat) : Int) + 1) = ((2 * j + 1 : Nat) : Int) := wrap64 (by omega) (by omega)
            have w3 : IntKind.i64.wrap (((2 * j : Nat) : Int) + 2) = ((2 * (j + 1) : Nat) : Int) := (wrap64 (by omega) (by omega)).trans (by omega)
            have hjn : ((2 * j + 1 : Nat) : Int) < (Y.length : Int) := by omega
            have hjn' : 2 * j + 1 < Y.length := by omega
            have ixa := ixL (2 * j) g1
            have ixb := ixL (2 * j + 1) g2
            have lda := int_load (h := [intR.row 3 (U ++ r), rectR.row 55 o', intR.row 3 Lq]) (b := 2) (l := Lq) (i := 2 * j) (sz := some 1) rfl g1
            have ldb := int_load (h := [intR.row 3 (U ++ r), rectR.row 55 o', intR.row 3 Lq]) (b := 2) (l := Lq) (i := 2 * j + 1) (sz := some 1) rfl g2
            rw [g3] at lda
            rw [g4] at ldb
            have ih := ih (o' ++ [⟨x0, s.1, x1, s.2⟩]) (by rw [List.length_append]; show o'.length + 1 = _; omega)
            rw [emit_cons7, ← List.append_assoc]
            simp -implicitDefEqProofs [k21_25, -List.append_assoc, -Int.natCast_add, -Int.natCast_mul] at ih
            simp -implicitDefEqProofs [r21_25, k21_25, Rec.sl_len, wi, w2, w3, hjn, hjn', px, pl, px1, pl1, ixa, ixb, lda, ldb, b4_all, lit_rect, st, trim_le, -List.append_assoc, -Int.natCast_add, -Int.natCast_mul]
            exact ih
        · simp -implicitDefEqProofs [k21_18, Rec.sl_nil]
        · rfl
        · intro nx j c hj _
          simp -implicitDefEqProofs [r21_18, k21_18, hj, sln, hsl, trim_le]
        · intro nx j s rest c hj hv hd hw hc ih
          have sj := six j hj
          rw [hv, side_val] at sj
          have us := up_spec s
          have hjp : j < p.length := by omega
          have ap := fun q => app_num (h := [intR.row 3 (U ++ r), rectR.row 55 o, intR.row 3 c, q]) (b := 2) (lo := 0) (c := c) s.1.2 rfl (Nat.zero_le _) (by omega)
          cases hu : upS s
          · rw [hu] at us
            by_cases m1 : min s.1.1 s.2.1 ≤ x0
            · by_cases m2 : x0 < max s.1.1 s.2.1
              · have ih := ih (c ++ [s.1.2]) (by simp; omega)
                rw [List.filter_cons_of_pos (Rg.hB_iff.2 ⟨m1, m2⟩), List.map_cons, show c ++ s.1.2 :: (rest.filter (hB x0)).map (fun s => s.1.2) = c ++ [s.1.2] ++ (rest.filter (hB x0)).map (fun s => s.1.2) by rw [List.append_assoc]; rfl]
                simp -implicitDefEqProofs [k21_18, -List.append_assoc] at ih
                simp -implicitDefEqProofs [r21_18, k21_18, hj, hjp, sln, hsl, sj, ret0 m42, us, px, pl2, min_int, max_int, m1, m2, lit_num, ap, hw, trim_cut, bP, bS, Rec.sl_bel, Rec.row_bel, pre_bel, -List.append_assoc]
                exact ih
              · have ih := ih c (by omega)
                rw [List.filter_cons_of_neg (by rw [Rg.hB_iff]; omega)]
                simp -implicitDefEqProofs [k21_18, -List.append_assoc] at ih
                simp -implicitDefEqProofs [r21_18, k21_18, hj, hjp, sln, hsl, sj, ret0 m42, us, px, pl2, min_int, max_int, m1, m2, hw, trim_cut, bP, bS, Rec.sl_bel, Rec.row_bel, pre_bel, -List.append_assoc]
                exact ih
            · have ih := ih c (by omega)
              rw [List.filter_cons_of_neg (by rw [Rg.hB_iff]; omega)]
              simp -implicitDefEqProofs [k21_18, -List.append_assoc] at ih
              simp -implicitDefEqProofs [r21_18, k21_18, hj, hjp, sln, hsl, sj, ret0 m42, us, px, pl2, min_int, max_int, m1, hw, trim_cut, bP, bS, Rec.sl_bel, Rec.row_bel, pre_bel, -List.append_assoc]
              exact ih
          · rw [hu] at us
            have ih := ih c (by omega)
            rw [List.filter_cons_of_neg (by rw [hB_up hu]; decide)]
            simp -implicitDefEqProofs [k21_18, -List.append_assoc] at ih
            simp -implicitDefEqProofs [r21_18, k21_18, hj, hjp, sln, hsl, sj, ret0 m42, us, px, pl2, min_int, max_int, hw, trim_cut, bP, bS, Rec.sl_bel, Rec.row_bel, pre_bel, -List.append_assoc]
            exact ih
      · have hi' : ¬ ((i : Int) < (U.length : Int) - 1) := by omega
        rw [strip_end hi, List.append_nil]
        simp -implicitDefEqProofs [r21_14, k21_14, pre_len, wl, hi, hi', trim_le]
  · simp -implicitDefEqProofs [k21_5, Rec.sl_nil]
  · rfl
  · intro nx i c hi _
    simp -implicitDefEqProofs [r21_5, k21_5, hi, ln, trim_le]
  · intro nx i v rest c hi hv hd hw hc ih
    have pi := pix i hi
    rw [hv, span_val] at pi
    have ap := fun q => app_num (h := [intR.row 3 c, q]) (b := 0) (lo := 0) (c := c) v.1 rfl (Nat.le_refl _) (by omega)
    have ih := ih (c ++ [v.1]) (by simp; omega)
    have em : (v :: rest).map (·.1) = [v.1] ++ rest.map (·.1) := rfl
    rw [em, ← List.append_assoc]
    simp -implicitDefEqProofs [k21_5, -List.append_assoc] at ih
    simp -implicitDefEqProofs [r21_5, k21_5, hi, ln, pi, lit_num, ap, hw, trim_cut, bP, Rec.sl_bel, Rec.row_bel, -List.append_assoc]
    exact ih
end Go.Proofs.Ytimjfondgdhfcaa.Bm
namespace Go.Proofs.Ytimjfondgdhfcaa.Rg
def mult : List Rect → Int → Int → Int
  | [], _, _ => 0
  | r :: l, x, y => bi (r.has x y) + mult l x y
theorem mult_append : ∀ (l m : List Rect) (x y : Int), mult (l ++ m) x y = mult l x y + mult m x y
  | [], m, x, y => by show _ = 0 + _; rw [Int.zero_add]; rfl
  | r :: l, m, x, y => by
    show bi (r.has x y) + mult (l ++ m) x y = bi (r.has x y) + mult l x y + mult m x y
    rw [mult_append]; omega
theorem mult_col (x0 x1 x y : Int) : ∀ {c : List (Int × Int)} {b : Int}, canS b c → mult (c.map fun s => (⟨x0, s.1, x1, s.2⟩ : Rect)) x y = bi (decide (x0 ≤ x) && decide (x < x1) && hasS c y)
  | [], _, _ => by rw [hasS_nil, Bool.and_false]; rfl
  | (f, t) :: c, b, h => by
    have ih := mult_col x0 x1 x y h.2.2
    show bi (decide (x0 ≤ x) && decide (x < x1) && (decide (f ≤ y) && decide (y < t))) + mult (c.map _) x y = _
    rw [ih, hasS_cons]
    by_cases q : y ≤ t
    · rw [canS_low h.2.2 q, Bool.and_false, Bool.or_false]
      show _ + 0 = _
      rw [Int.add_zero]
    · rw [decide_eq_false (show ¬ y < t by omega), Bool.and_false, Bool.and_false, Bool.false_or]
      show 0 + _ = _
      rw [Int.zero_add]
theorem mult_out : ∀ {T : List Slab} {b : Int} {c : List (Int × Int)} (x y : Int), canT b c T → mult (outT T) x y = bi (cellT T x y)
  | [], _, _, _, _, _ => rfl
  | s :: T, b, c, x, y, h => by
    have ih := mult_out x y h.2.2.2.2.2
    have e0 : outT (s :: T) = emit s ++ outT T := rfl
    obtain ⟨b', hb'⟩ := Can.canS h.2.2.2.1
    rw [e0, mult_append, ih, cellT_cons, show mult (emit s) x y = _ from mult_col s.x0 s.x1 x y hb']
    by_cases q : x < s.x1
    · rw [canT_low h.2.2.2.2.2 q, Bool.or_false]
      show _ + 0 = _
      rw [Int.add_zero]
    · rw [decide_eq_false q, Bool.and_false, Bool.false_and, Bool.false_or]
      show 0 + _ = _
      rw [Int.zero_add]
def Once (l : List Rect) : Prop := ∀ x y, mult l x y = bi (cell l x y)
theorem Form.once {l : List Rect} (h : Form l) : Once l := by
  obtain ⟨b, T, h1, rfl⟩ := h
  intro x y
  rw [mult_out x y h1, cell_outT]
def capR (r s : Rect) : Rect := ⟨max r.x0 s.x0, max r.y0 s.y0, min r.x1 s.x1, min r.y1 s.y1⟩
def meetB (r s : Rect) : Bool := decide (max r.x0 s.x0 < min r.x1 s.x1) && decide (max r.y0 s.y0 < min r.y1 s.y1)
def capA (r s : Rect) : Int := if meetB r s then (capR r s).area else 0
theorem meet_iff {r s : Rect} : meetB r s = true ↔ max r.x0 s.x0 < min r.x1 s.x1 ∧ max r.y0 s.y0 < min r.y1 s.y1 := by
  unfold meetB; rw [Bool.and_eq_true, decide_eq_true_eq, decide_eq_true_eq]
theorem has_iff {r : Rect} {x y : Int} : r.has x y = true ↔ r.x0 ≤ x ∧ x < r.x1 ∧ r.y0 ≤ y ∧ y < r.y1 := by
  unfold Rect.has
  simp only [Bool.and_eq_true, decide_eq_true_eq]
  omega
theorem cap_has (r s : Rect) (x y : Int) : (capR r s).has x y = (r.has x y && s.has x y) := by
  rw [Bool.eq_iff_iff, Bool.and_eq_true, has_iff, has_iff, has_iff]
  unfold capR
  simp only
  omega
def comR (r : Rect) : List Rect → Int
  | [] => 0
  | s :: l => capA r s + comR r l
def comA : List Rect → List Rect → Int
  | [], _ => 0
  | r :: a, b => comR r b + comA a b
theorem capA_nonneg {r s : Rect} : 0 ≤ capA r s := by
  unfold capA
  cases h : meetB r s
  · exact Int.le_refl _
  · rw [if_pos rfl]
    rw [meet_iff] at h
    unfold Rect.area capR
    exact Int.mul_nonneg (by simp only; omega) (by simp only; omega)
theorem comR_nonneg (r : Rect) : ∀ b : List Rect, 0 ≤ comR r b
  | [] => Int.le_refl _
  | s :: b => by
    have h1 := comR_nonneg r b
    have h2 : 0 ≤ capA r s := capA_nonneg
    show 0 ≤ capA r s + comR r b
    omega
theorem comA_nonneg : ∀ a b : List Rect, 0 ≤ comA a b
  | [], _ => Int.le_refl _
  | r :: a, b => by
    have h1 := comA_nonneg a b
    have h2 := comR_nonneg r b
    show 0 ≤ comR r b + comA a b
    omega
def leP (p q : Pt) : Prop := p.1 < q.1 ∨ (p.1 = q.1 ∧ p.2 ≤ q.2)
theorem ltP_iff {p q : Pt} : ltP p q = true ↔ p.1 < q.1 ∨ (p.1 = q.1 ∧ p.2 < q.2) := by
  unfold ltP; rw [Bool.or_eq_true, Bool.and_eq_true, decide_eq_true_eq, decide_eq_true_eq, decide_eq_true_eq]
theorem leP_refl (p : Pt) : leP p p := .inr ⟨rfl, Int.le_refl _⟩
theorem leP_trans {p q r : Pt} (h : leP p q) (k : leP q r) : leP p r := by unfold leP at *; omega
theorem leP_not {p q : Pt} (h : ltP p q = false) : leP q p := by
  have h : ¬ (p.1 < q.1 ∨ (p.1 = q.1 ∧ p.2 < q.2)) := fun k => by rw [ltP_iff.2 k] at h; exact absurd h (by decide)
  unfold leP; omega
theorem leP_lt {p q : Pt} (h : ltP p q = true) : leP p q := by rw [ltP_iff] at h; unfold leP; omega
theorem leP_anti {p q : Pt} (h : leP p q) (k : leP q p) : p = q := by
  unfold leP at *
  exact Prod.ext (by omega) (by omega)
def corn (r s : Rect) : Pt := ((capR r s).x0, (capR r s).y0)
def stepP (r : Rect) (p : Pt) (s : Rect) : Pt := if meetB r s && ltP (corn r s) p then corn r s else p
def rowP (r : Rect) (p : Pt) (b : List Rect) : Pt := b.foldl (stepP r) p
def comP : List Rect → List Rect → Pt → Pt
  | [], _, p => p
  | r :: a, b, p => comP a b (rowP r p b)
theorem rowP_ok (r : Rect) : ∀ (b : List Rect) (p : Pt), leP (rowP r p b) p ∧ (∀ s ∈ b, meetB r s = true → leP (rowP r p b) (corn r s)) ∧ (rowP r p b = p ∨ ∃ s ∈ b, meetB r s = true ∧ rowP r p b = corn r s)
  | [], p => ⟨leP_refl p, fun s hs => absurd hs List.not_mem_nil, .inl rfl⟩
  | s :: b, p => by
    obtain ⟨h1, h2, h3⟩ := rowP_ok r b (stepP r p s)
    have e : rowP r p (s :: b) = rowP r (stepP r p s) b := rfl
    rw [e]
    have hs : leP (stepP r p s) p ∧ (meetB r s = true → leP (stepP r p s) (corn r s)) ∧ (stepP r p s = p ∨ (meetB r s = true ∧ stepP r p s = corn r s)) := by
      unfold stepP
      cases hm : meetB r s
      · exact ⟨leP_refl p, fun h => absurd h (by decide), .inl rfl⟩
      · cases hl : ltP (corn r s) p
        · exact ⟨leP_refl p, fun _ => leP_not hl, .inl rfl⟩
        · exact ⟨leP_lt hl, fun _ => leP_refl _, .inr ⟨rfl, rfl⟩⟩
    refine ⟨leP_trans h1 hs.1, fun t ht hm => ?_, ?_⟩
    · rcases List.mem_cons.1 ht with rfl | ht
      · exact leP_trans h1 (hs.2.1 hm)
      · exact h2 t ht hm
    · rcases h3 with h3 | ⟨t, ht, hm, he⟩
      · rcases hs.2.2 with hp | ⟨hm, hp⟩
        · exact .inl (h3.trans hp)
        · exact .inr ⟨s, List.mem_cons_self .., hm, h3.trans hp⟩
      · exact .inr ⟨t, List.mem_cons_of_mem _ ht, hm, he⟩
theorem comP_ok : ∀ (a b : List Rect) (p : Pt), leP (comP a b p) p ∧ (∀ r ∈ a, ∀ s ∈ b, meetB r s = true → leP (comP a b p) (corn r s)) ∧ (comP a b p = p ∨ ∃ r ∈ a, ∃ s ∈ b, meetB r s = true ∧ comP a b p = corn r s)
  | [], b, p => ⟨leP_refl p, fun s hs => absurd hs List.not_mem_nil, .inl rfl⟩
  | r :: a, b, p => by
    obtain ⟨h1, h2, h3⟩ := comP_ok a b (rowP r p b)
    obtain ⟨g1, g2, g3⟩ := rowP_ok r b p
    have e : comP (r :: a) b p = comP a b (rowP r p b) := rfl
    rw [e]
    refine ⟨leP_trans h1 g1, fun t ht s hs hm => ?_, ?_⟩
    · rcases List.mem_cons.1 ht with rfl | ht
      · exact leP_trans h1 (g2 s hs hm)
      · exact h2 t ht s hs hm
    · rcases h3 with h3 | ⟨t, ht, s, hs, hm, he⟩
      · rcases g3 with g3 | ⟨s, hs, hm, he⟩
        · exact .inl (h3.trans g3)
        · exact .inr ⟨r, List.mem_cons_self .., s, hs, hm, h3.trans he⟩
      · exact .inr ⟨t, List.mem_cons_of_mem _ ht, s, hs, hm, he⟩
structure Least (S : Int → Int → Bool) (p : Pt) : Prop where
  has : S p.1 p.2 = true
  le : ∀ x y, S x y = true → leP p (x, y)
theorem Least.uniq {S : Int → Int → Bool} {p q : Pt} (h : Least S p) (k : Least S q) : p = q := leP_anti (h.le _ _ k.has) (k.le _ _ h.has)
theorem Least.congr {S T : Int → Int → Bool} {p : Pt} (h : Least S p) (e : ∀ x y, S x y = T x y) : Least T p := ⟨by rw [← e]; exact h.has, fun x y q => h.le x y (by rw [e]; exact q)⟩
theorem corn_has {r s : Rect} (h : meetB r s = true) : (r.has (corn r s).1 (corn r s).2 && s.has (corn r s).1 (corn r s).2) = true := by
  rw [← cap_has, has_iff]
  rw [meet_iff] at h
  unfold corn capR
  simp only
  omega
theorem corn_le {r s : Rect} {x y : Int} (h1 : r.has x y = true) (h2 : s.has x y = true) : meetB r s = true ∧ leP (corn r s) (x, y) := by
  have h : (capR r s).has x y = true := by rw [cap_has, h1, h2]; rfl
  rw [has_iff] at h h1 h2
  refine ⟨meet_iff.2 (by omega), ?_⟩
  unfold leP corn
  simp only
  omega
theorem com_least {a b : List Rect} (ha : ∀ r ∈ a, r.inBox 1048576) (h : ∃ x y, (cell a x y && cell b x y) = true) : Least (fun x y => cell a x y && cell b x y) (comP a b (1048576, 0)) := by
  obtain ⟨h1, h2, h3⟩ := comP_ok a b (1048576, 0)
  have le : ∀ x y, (cell a x y && cell b x y) = true → leP (comP a b (1048576, 0)) (x, y) := fun x y q => by
    rw [Bool.and_eq_true] at q
    obtain ⟨r, hr, hrx⟩ := List.any_eq_true.1 q.1
    obtain ⟨s, hs, hsx⟩ := List.any_eq_true.1 q.2
    obtain ⟨hm, hl⟩ := corn_le hrx hsx
    exact leP_trans (h2 r hr s hs hm) hl
  refine ⟨?_, le⟩
  rcases h3 with h3 | ⟨r, hr, s, hs, hm, he⟩
  · obtain ⟨x, y, q⟩ := h
    have hl := le x y q
    rw [h3] at hl
    rw [Bool.and_eq_true] at q
    obtain ⟨r, hr, hrx⟩ := List.any_eq_true.1 q.1
    have hb := ha r hr
    have hrx : r.has x y = true := hrx
    rw [has_iff] at hrx
    unfold Rect.inBox at hb
    unfold leP at hl
    simp only at hl
    omega
  · rw [he]
    have := corn_has hm
    rw [Bool.and_eq_true] at this ⊢
    exact ⟨List.any_eq_true.2 ⟨r, hr, this.1⟩, List.any_eq_true.2 ⟨s, hs, this.2⟩⟩
theorem com_pos {a b : List Rect} (ha : ∀ r ∈ a, r.inBox 1048576) (hb : ∀ s ∈ b, s.inBox 1048576) : 0 < comA a b ↔ ∃ x y, (cell a x y && cell b x y) = true := by
  have key : ∀ (r : Rect) (b : List Rect), 0 < comR r b ↔ ∃ s ∈ b, meetB r s = true := fun r b => by
    induction b with
    | nil => exact ⟨fun h => absurd h (Int.lt_irrefl 0), fun ⟨s, hs, _⟩ => absurd hs List.not_mem_nil⟩
    | cons s b ih =>
      have n1 : 0 ≤ capA r s := capA_nonneg
      have n2 := comR_nonneg r b
      have e : comR r (s :: b) = capA r s + comR r b := rfl
      rw [e]
      cases hm : meetB r s
      · have e0 : capA r s = 0 := by unfold capA; rw [hm]; rfl
        rw [e0, Int.zero_add, ih]
        exact ⟨fun ⟨t, ht, h⟩ => ⟨t, List.mem_cons_of_mem _ ht, h⟩, fun ⟨t, ht, h⟩ => by
          rcases List.mem_cons.1 ht with rfl | ht
          · rw [hm] at h; exact absurd h (by decide)
          · exact ⟨t, ht, h⟩⟩
      · have : 0 < capA r s := by
          unfold capA
          rw [hm, if_pos rfl]
          have hm := meet_iff.1 hm
          unfold Rect.area capR
          exact Int.mul_pos (by simp only; omega) (by simp only; omega)
        exact ⟨fun _ => ⟨s, List.mem_cons_self .., hm⟩, fun _ => by omega⟩
  have k2 : 0 < comA a b ↔ ∃ r ∈ a, ∃ s ∈ b, meetB r s = true := by
    clear ha hb
    induction a with
    | nil => exact ⟨fun h => absurd h (Int.lt_irrefl 0), fun ⟨s, hs, _⟩ => absurd hs List.not_mem_nil⟩
    | cons r a ih =>
      have n1 := comR_nonneg r b
      have n2 := comA_nonneg a b
      have e : comA (r :: a) b = comR r b + comA a b := rfl
      rw [e]
      constructor
      · intro h
        by_cases q : 0 < comR r b
        · exact ⟨r, List.mem_cons_self .., (key r b).1 q⟩
        · obtain ⟨t, ht, h⟩ := ih.1 (by omega)
          exact ⟨t, List.mem_cons_of_mem _ ht, h⟩
      · rintro ⟨t, ht, h⟩
        rcases List.mem_cons.1 ht with rfl | ht
        · have := (key t b).2 h; omega
        · have := ih.2 ⟨t, ht, h⟩; omega
  rw [k2]
  constructor
  · rintro ⟨r, hr, s, hs, hm⟩
    have := corn_has hm
    rw [Bool.and_eq_true] at this
    exact ⟨_, _, by rw [Bool.and_eq_true]; exact ⟨List.any_eq_true.2 ⟨r, hr, this.1⟩, List.any_eq_true.2 ⟨s, hs, this.2⟩⟩⟩
  · rintro ⟨x, y, q⟩
    rw [Bool.and_eq_true] at q
    obtain ⟨r, hr, hrx⟩ := List.any_eq_true.1 q.1
    obtain ⟨s, hs, hsx⟩ := List.any_eq_true.1 q.2
    exact ⟨r, hr, s, hs, (corn_le hrx hsx).1⟩
theorem form_least {r : Rect} {l : List Rect} (h : Form (r :: l)) : Least (cell (r :: l)) (r.x0, r.y0) := by
  obtain ⟨b, T, h1, e⟩ := h
  cases T with
  | nil => exact absurd e (by intro h; cases h)
  | cons s T =>
    obtain ⟨a1, a2, a3, a4, a5, a6⟩ := h1
    have e0 : outT (s :: T) = emit s ++ outT T := rfl
    have e1 := cell_outT (s :: T)
    rw [← e] at e1
    obtain ⟨x0, x1, col⟩ := s
    cases col with
    | nil => exact absurd rfl a3
    | cons f c =>
      simp only at a1 a2 a4 a5 a6
      have er : r = ⟨x0, f.1, x1, f.2⟩ := by rw [e0] at e; exact (List.cons.inj e).1
      have hf : f.1 < f.2 := a4.1
      refine ⟨?_, fun x y q => ?_⟩
      · rw [e1, cellT_cons, er]
        show (decide (x0 ≤ x0) && decide (x0 < x1) && hasS (f :: c) f.1 || _) = true
        rw [decide_eq_true (Int.le_refl _), decide_eq_true a2, show hasS (f :: c) f.1 = _ from hasS_cons, decide_eq_true (Int.le_refl _), decide_eq_true hf]; rfl
      · rw [e1, cellT_cons] at q
        rw [er]
        simp only at q ⊢
        unfold leP
        simp only
        by_cases hx : x < x1
        · rw [canT_low a6 hx, Bool.or_false, Bool.and_eq_true, Bool.and_eq_true, decide_eq_true_eq] at q
          by_cases hy : y < f.1
          · have : hasS (f :: c) y = false := canS_low (b := f.1 - 1) ⟨by omega, hf, a4.2⟩ (by omega)
            rw [this] at q
            exact absurd q.2 (by decide)
          · omega
        · omega
end Go.Proofs.Ytimjfondgdhfcaa.Rg
namespace Go.Proofs.Ytimjfondgdhfcaa.Rg
structure Zn where
  nm : ByteArray
  ov : Bool
  cs : List Pt
def gtO (n : Int) : Option (Nat × Int) → Bool
  | none => true
  | some (_, m) => decide (m < n)
def bestW : Nat → Option (Nat × Int) → List (Zn × Int) → Option (Nat × Int)
  | _, o, [] => o
  | i, o, (z, n) :: W => bestW (i + 1) (if !z.ov && decide (0 < n) && gtO n o then some (i, n) else o) W
def isO (o : Option (Nat × Int)) (i : Nat) : Bool := match o with
  | none => false
  | some (b, _) => decide (i = b)
def namesF (o : Option (Nat × Int)) : Nat → List (Zn × Int) → List ByteArray
  | _, [] => []
  | i, (z, n) :: W => (if isO o i || (z.ov && decide (0 < n)) then [z.nm] else []) ++ namesF o (i + 1) W
def noBet (n : Int) (i : Nat) : Nat → List (Zn × Int) → Bool
  | _, [] => true
  | k, (z, m) :: W => (z.ov || !(decide (n < m) || (decide (m = n) && decide (k < i)))) && noBet n i (k + 1) W
def inL (W : List (Zn × Int)) (z : Zn) (n : Int) (i : Nat) : Bool := decide (0 < n) && (z.ov || noBet n i 0 W)
end Go.Proofs.Ytimjfondgdhfcaa.Rg
namespace Go.Proofs.Ytimjfondgdhfcaa.Rg
def comS (a : List Rect) : List (List Rect) → Int
  | [] => 0
  | z :: Z => comA a z + comS a Z
end Go.Proofs.Ytimjfondgdhfcaa.Rg
namespace Go.Proofs.Ytimjfondgdhfcaa.Bm
open Go Go.RowKit
open Rg (Rect Pt rightP polyL capR meetB capA comR comA corn stepP rowP comP ltP)
theorem cap_ok {r s : Rect} (hr : okR r = true) (hs : okR s = true) : okR (capR r s) = meetB r s := by
  rw [okR_iff] at hr hs
  rw [Bool.eq_iff_iff, okR_iff, Rg.meet_iff]
  unfold Rg.Rect.inBox capR at *
  simp only
  omega
theorem intersect_spec (r s : Rect) (hr : okR r = true) (hs : okR s = true) : pureCall E.P (L E) 52 [rectR.val r, rectR.val s] = some (.tuple ⟨[if meetB r s then rectR.val (capR r s) else rectR.val zeroR, .bool (meetB r s)]⟩) := by
  have h1 := right_s r
  have h2 := right_s s
  have h3 := checked_s (capR r s)
  rw [hr] at h1
  rw [hs] at h2
  rw [cap_ok hr hs] at h3
  have e : capR r s = ⟨max r.x0 s.x0, max r.y0 s.y0, min r.x1 s.x1, min r.y1 s.y1⟩ := rfl
  rw [pureCall_fn F52 rfl]
  rw [rect_val, rect_val]
  rw [e] at h3 ⊢
  cases hm : meetB r s
  · rw [hm] at h3
    simp -implicitDefEqProofs [r52, padS, ret0 m75, h1, h2, min_int, max_int, b4_all, ret0 m74, h3, rect_val]
  · rw [hm] at h3
    simp -implicitDefEqProofs [r52, padS, ret0 m75, h1, h2, min_int, max_int, b4_all, ret0 m74, h3, rect_val]
def ptO (p : Pt) : AObj := .cells 36 [.int .i64 p.1, .int .i64 p.2] 0
def boxO (r : Rect) : AObj := .cells 55 [.int .i64 r.x0, .int .i64 r.y0, .int .i64 r.x1, .int .i64 r.y1] 0
def bndR (n z : Int) (j : Nat) : Prop := n ≤ z ∧ z ≤ n + 1099511627776 * j
def bndA (z : Int) (i : Nat) : Prop := 0 ≤ z ∧ z ≤ 219902325555200 * i
theorem capA_le {r s : Rect} (hr : okR r = true) (hs : okR s = true) : capA r s ≤ 1099511627776 := by
  unfold capA
  cases h : meetB r s
  · exact (by decide : (0 : Int) ≤ 1099511627776)
  · rw [if_pos rfl]
    exact (area_bound (by rw [cap_ok hr hs, h])).2
theorem comR_le {r : Rect} (hr : okR r = true) : ∀ {b : List Rect}, (∀ s ∈ b, okR s = true) → comR r b ≤ 1099511627776 * b.length
  | [], _ => by show (0 : Int) ≤ _; simp
  | s :: b, h => by
    have h1 := capA_le hr (h s (List.mem_cons_self ..))
    have h2 := comR_le hr fun t ht => h t (List.mem_cons_of_mem s ht)
    show capA r s + comR r b ≤ 1099511627776 * ((b.length + 1 : Nat) : Int)
    omega
theorem comR_cons (r s : Rect) (l : List Rect) : comR r (s :: l) = capA r s + comR r l := rfl
theorem comA_cons (r : Rect) (a b : List Rect) : comA (r :: a) b = comR r b + comA a b := rfl
theorem rowP_cons (r s : Rect) (p : Pt) (l : List Rect) : rowP r p (s :: l) = rowP r (stepP r p s) l := rfl
theorem comP_cons (r : Rect) (a b : List Rect) (p : Pt) : comP (r :: a) b p = comP a b (rowP r p b) := rfl
set_option maxHeartbeats 4000000 in
theorem zcommon_spec (ka kb : Option Bool) (a b : List Rect) (ha : Rec.Ok ka a) (hb : Rec.Ok kb b) (la : a.length ≤ 200) (lb : b.length ≤ 200) (oa : ∀ r ∈ a, okR r = true) (ob : ∀ r ∈ b, okR r = true) :
    pureCall E.P (L E) 32 [rectR.o ka a, rectR.o kb b] = some (.tuple ⟨[.int .i64 (comA a b), .agg ⟨[.int .i64 (comP a b (1048576, 0)).1, .int .i64 (comP a b (1048576, 0)).2]⟩]⟩) := by
  have lna : ∀ h, lenT .sl h (rectR.o ka a) = some (.int .i64 a.length) := fun h => Rec.o_len ha
  have lnb : ∀ h, lenT .sl h (rectR.o kb b) = some (.int .i64 b.length) := fun h => Rec.o_len hb
  have xa : ∀ (i : Nat) (h : i < a.length), indexAddrT (.sl 55 ⟨some true, some 4⟩) (rectR.o ka a) (.int .i64 (i : Int)) = some (cptr (rectR.val a[i])) := fun i h => Rec.o_index (R := rectR) (s := 4) rfl ha h
  have xb : ∀ (i : Nat) (h : i < b.length), indexAddrT (.sl 55 ⟨some true, some 4⟩) (rectR.o kb b) (.int .i64 (i : Int)) = some (cptr (rectR.val b[i])) := fun i h => Rec.o_index (R := rectR) (s := 4) rfl hb h
  have bla : ∀ d n, below (d + 1) n (rectR.o ka a) = true := fun d n => Rec.o_bel
  have blb : ∀ d n, below (d + 1) n (rectR.o kb b) = true := fun d n => Rec.o_bel
  rw [pureCall_fn F32 rfl]
  generalize rectR.o ka a = VA at *
  generalize rectR.o kb b = VB at *
  have b1 : buildT (Bl.fs ⟨[.int .i64 0, .int .i64 0]⟩ ⟨[(0, 1), (1, 1)]⟩) #[(0, .int .i64 1048576)] = some (.agg ⟨[.int .i64 1048576, .int .i64 0]⟩) := rfl
  simp -implicitDefEqProofs [r32, p32, lna, b1]
  rw [LL_for (γ := Int × Pt) a (0, (1048576, 0)) (fun i c => [(6, .int .i64 c.1), (18, .int .i64 i)]) (fun _ c => [ptO (0, 0), ptO c.2])
    (fun _ rest c => (.exit 0, [(6, .int .i64 (c.1 + comA rest b)), (18, undef)], [ptO (0, 0), ptO (comP rest b c.2)])) (fun i c => bndA c.1 i) (by omega) ⟨Int.le_refl _, Int.le_refl _⟩]
  · rw [Int.zero_add]
    generalize comP a b (1048576, 0) = q
    simp -implicitDefEqProofs [k32_3, ptO]
  · simp -implicitDefEqProofs [k32_3]
  · rfl
  · intro nx i c hi _
    simp -implicitDefEqProofs [r32_3, k32_3, hi, trim_le, comA, comP]
  · intro nx i r rest c hi hv hd hw hc ih
    obtain ⟨n, p⟩ := c
    have xi := xa i hi
    rw [hv, rect_val] at xi
    have hr : okR r = true := oa r (hv ▸ List.getElem_mem hi)
    have h0 := Rg.comR_nonneg r b
    have ih := ih (n + comR r b, rowP r p b) (by
      have h1 := comR_le hr ob
      obtain ⟨g1, g2⟩ := hc
      refine ⟨?_, ?_⟩ <;> simp only at * <;> omega)
    simp -implicitDefEqProofs [k32_3] at ih
    rw [comA_cons, comP_cons, ← Int.add_assoc]
    simp -implicitDefEqProofs [r32_3, k32_3, hi, lnb, xi, ptO]
    rw [LL_for (γ := Int × Pt) b (n, p) (fun j c => [(6, .int .i64 c.1), (24, .int .i64 j)]) (fun _ c => [ptO (0, 0), ptO c.2, boxO r])
      (fun _ rest c => (.exit 2, [(6, .int .i64 (c.1 + comR r rest)), (24, undef)], [ptO (0, 0), ptO (rowP r c.2 rest), boxO r])) (fun j c => bndR n c.1 j) (by omega) ⟨Int.le_refl _, by simp⟩]
    · generalize rowP r p b = q at ih ⊢
      simp -implicitDefEqProofs [k32_6, ptO, boxO, hw, trim_cut, bla, blb]
      exact ih
    · simp -implicitDefEqProofs [k32_6]
    · rfl
    · intro nx2 j c hj _
      have e1 : rowP r c.2 [] = c.2 := rfl
      simp -implicitDefEqProofs [r32_6, k32_6, hj, trim_le, comR, e1, ptO, boxO]
    · intro nx2 j s rest2 c hj hv2 hd2 hw2 hc2 ih2
      obtain ⟨n2, p2⟩ := c
      have xj := xb j hj
      rw [hv2, rect_val] at xj
      have hs : okR s = true := ob s (hv2 ▸ List.getElem_mem hj)
      have isp := intersect_spec r s hr hs
      rw [rect_val, rect_val] at isp
      obtain ⟨g1, g2⟩ := hc2
      obtain ⟨g3, g4⟩ := hc
      simp only at g1 g2 g3 g4
      rw [comR_cons, rowP_cons, ← Int.add_assoc]
      cases hm : meetB r s
      · have ec : capA r s = 0 := by unfold capA; rw [hm]; rfl
        have es : stepP r p2 s = p2 := by unfold stepP; rw [hm]; rfl
        have ih2 := ih2 (n2, p2) ⟨g1, by simp only; omega⟩
        rw [ec, es, Int.add_zero]
        rw [hm] at isp
        simp -implicitDefEqProofs [k32_6, ptO, boxO] at ih2
        simp -implicitDefEqProofs [r32_6, k32_6, hj, xj, ptO, boxO, ret0 m52, isp, rect_val, zeroR, hw2, trim_cut, bla, blb]
        exact ih2
      · have ec : capA r s = (capR r s).area := by unfold capA; rw [hm, if_pos rfl]
        have hk := cap_ok hr hs
        rw [hm] at hk
        have ars := area_spec (capR r s) hk
        have abd := area_bound hk
        have c1 := cmp_spec (capR r s).x0 p2.1
        have c2 := cmp_spec (capR r s).y0 p2.2
        have c3 := cor_spec [cmpI (capR r s).x0 p2.1, cmpI (capR r s).y0 p2.2] (by show 2 ≤ 1000; omega)
        have rf : ∀ h (u v : Int), reify E.P 8 h (lst true [.int .i64 u, .int .i64 v]) = some (lst true [.int .i64 u, .int .i64 v]) := fun _ _ _ => rfl
        simp only [List.map_cons, List.map_nil] at c3
        have c4 := cmpP_lt (corn r s) p2
        have e4 : cmpP (corn r s) p2 = orL [cmpI (capR r s).x0 p2.1, cmpI (capR r s).y0 p2.2] := rfl
        rw [e4] at c4
        have es : stepP r p2 s = if ltP (corn r s) p2 = true then corn r s else p2 := by unfold stepP; rw [hm, Bool.true_and]
        have wn : IntKind.i64.wrap (n2 + (capR r s).area) = n2 + (capR r s).area := wrap64 (by omega) (by omega)
        have ih2 := ih2 (n2 + (capR r s).area, stepP r p2 s) ⟨by simp only; omega, by simp only; omega⟩
        have ecn : corn r s = ((capR r s).x0, (capR r s).y0) := rfl
        rw [es] at ih2 ⊢
        rw [ec]
        rw [hm] at isp
        rw [rect_val] at ars
        generalize capR r s = q at *
        by_cases hl : ltP (corn r s) p2 = true
        · have hlt := c4.2 hl
          rw [if_pos hl] at ih2 ⊢
          rw [ecn] at ih2 ⊢
          simp -implicitDefEqProofs [k32_6, ptO, boxO] at ih2
          simp -implicitDefEqProofs [r32_6, k32_6, hj, xj, ptO, boxO, ret0 m52, isp, rect_val, ret0 m50, ars, wn, b2_all, ret0 m54, c1, c2, lit_ints2, ret0 m53, rf, c3, hlt, hw2, trim_cut, bla, blb]
          exact ih2
        · have hlt : ¬ (orL [cmpI q.x0 p2.1, cmpI q.y0 p2.2] < 0) := fun h => hl (c4.1 h)
          rw [if_neg hl] at ih2 ⊢
          simp -implicitDefEqProofs [k32_6, ptO, boxO] at ih2
          simp -implicitDefEqProofs [r32_6, k32_6, hj, xj, ptO, boxO, ret0 m52, isp, rect_val, ret0 m50, ars, wn, b2_all, ret0 m54, c1, c2, lit_ints2, ret0 m53, rf, c3, hlt, hw2, trim_cut, bla, blb]
          exact ih2
end Go.Proofs.Ytimjfondgdhfcaa.Bm
