/-
  Chapter 18: pairs of zones and names that come twice, for the statement on overlaps. Conditions: none.
-/
import Derived.Test.YtimjfondgdhfcaaQD25
import Derived.Test.YtimjfondgdhfcaaQD22
namespace Go.Proofs.Ytimjfondgdhfcaa.Bm
open Go Go.RowKit
open Rg (Rect Slab Pt sidesP upS hB ysP colY polyL rightP sortU stripL outT emit pairs ends lowN lowN_le ins7 putAt in7 rows7)
def iO (o : List Int) : Value := match o with
  | [] => .slice none 0 0
  | o => iT o
theorem iO_len {h : Heap} {o : List Int} : lenT .sl h (iO o) = some (.int .i64 o.length) := by
  cases o
  · rfl
  · exact iT_len
theorem iO_index {o : List Int} {i : Nat} (hi : i < o.length) : indexAddrT (.sl 3 ⟨some false, some 1⟩) (iO o) (.int .i64 (i : Int)) = some (cptr (.int .i64 o[i])) := by
  cases o
  · exact absurd hi (Nat.not_lt_zero _)
  · exact iT_index hi
theorem iO_reifyR {P : Program} (h : Heap) (o : List Int) : reifyR P h (iO o) = some (iO o) := by cases o <;> rfl
theorem iO_bel {d n : Nat} {o : List Int} : below (d + 1) n (iO o) = true := by cases o <;> rfl
theorem int_all (o : List Int) : (o.map (Value.int .i64)).all (fun v => (cellsL v).length == 1) = true := by simp [List.all_eq_true]
theorem int_cells {h : Heap} (x : Bool) (o : List Int) : sliceCells h 1 (lst x (o.map (.int .i64))) = some (intR.flat o, o.length) := by
  rw [cells_lst (int_all o), int_flat]
  congr 2
  · induction o with
    | nil => rfl
    | cons z o ih => rw [List.map_cons, List.flatMap_cons, ih]; rfl
  · simp
theorem iO_take {h : Heap} {o : List Int} {k : Nat} (hk : k ≤ o.length) : ∃ v, sliceT (.sl 3 ⟨some false, some 1⟩) h (iO o) none (some (.int .i64 (k : Int))) none = some v ∧ ∀ h', sliceCells h' 1 v = some (intR.flat (o.take k), (o.take k).length) := by
  cases o with
  | nil =>
    have : k = 0 := by simpa using hk
    subst this
    exact ⟨.slice none 0 0, rfl, fun _ => rfl⟩
  | cons z o =>
    refine ⟨_, slice_take (int_all _) (by simpa using hk), fun h' => ?_⟩
    rw [← List.map_take]
    exact int_cells _ _
theorem iO_drop {h : Heap} {o : List Int} {k : Nat} (hk : k ≤ o.length) : ∃ v, sliceT (.sl 3 ⟨some false, some 1⟩) h (iO o) (some (.int .i64 (k : Int))) none none = some v ∧ ∀ h', sliceCells h' 1 v = some (intR.flat (o.drop k), (o.drop k).length) := by
  cases o with
  | nil =>
    have : k = 0 := by simpa using hk
    subst this
    exact ⟨.slice none 0 0, rfl, fun _ => rfl⟩
  | cons z o =>
    refine ⟨_, slice_drop (int_all _) rfl (by simpa using hk), fun h' => ?_⟩
    rw [← List.map_drop]
    exact int_cells _ _
theorem app_ints {h : Heap} {b lo : Nat} {c m : List Int} {v : Value} (hob : h[b]? = some (intR.row 3 c)) (hv : sliceCells h 1 v = some (intR.flat m, m.length)) (hlo : lo ≤ b) (hc : c.length + m.length ≤ 1000000) :
    appendT (some ⟨3, 1, 8, .int .i64 0, ⟨some false, some 1⟩⟩) h lo false (intR.sl b c) v = some (intR.sl b (c ++ m), h.set b (intR.row 3 (c ++ m))) :=
  Rec.app (R := intR) (m := m) rfl hob hv hlo (by show (c.length + m.length) * 8 ≤ 2 ^ 47; omega)
theorem int_freezeE {h : Heap} {lo b : Nat} {l : List Int} (hob : h[b]? = some (intR.row 3 l)) (hlo : lo ≤ b) : freezeV E.P depth lo h (intR.sl b l) = some (iT l, if l.length = 0 then h else h.set b .dead) := by
  have e0 : intR.sl b l = .slice (some ⟨b, 0, some l.length⟩) l.length l.length := by unfold Rec.sl; simp [intR]
  have hob' : h[b]? = some (.cells 3 (l.map (.int .i64)) 1) := by rw [hob]; unfold Rec.row; rw [int_flat]; rfl
  rw [e0]
  exact frz_one8 hob' s3 g3 hlo (List.length_map _).symm (List.length_map _).symm (by simp [List.all_eq_true])
theorem rop_loadT {C : Callee} {lo : Nat} {k : TI} {x : Operand} {ρ : Operand → Value} {h : Heap} : ropR E C lo true (.load k x) ρ h = if isCp (ρ x) then (loadT k h (ρ x)).map (·, h) else none := by
  show (if (true && !isCp (ρ x)) = true then none else _) = _
  cases isCp (ρ x) <;> rfl
theorem isCp_cptr {v : Value} : isCp (cptr v) = true := rfl
theorem iO_tr (o : List Int) : isTr (iO o) = true := by cases o <;> rfl
theorem app_start {h : Heap} {m : List Int} {v : Value} (z : Int) (hv : ∀ h, sliceCells h 1 v = some (intR.flat m, m.length)) (hm : m.length ≤ 100000) : ∃ w g, appendT (some ⟨3, 1, 8, .int .i64 0, ⟨some false, some 1⟩⟩) h h.length true (.slice none 0 0) v = some (w, g) ∧
    appendT (some ⟨3, 1, 8, .int .i64 0, ⟨some false, some 1⟩⟩) g h.length false w (lst true [.int .i64 z]) = some (intR.sl h.length (m ++ [z]), h ++ [intR.row 3 (m ++ [z])]) := by
  by_cases h0 : m = []
  · subst h0
    refine ⟨.slice none 0 0, h, ?_, ?_⟩
    · unfold appendT
      simp only [Option.bind_some, hv]
      rfl
    · unfold appendT
      simp only [Option.bind_some]
      rw [show sliceCells h 1 (lst true [.int .i64 z]) = some (intR.flat [z], 1) from cells_lst (by rfl)]
      simp [Rec.sl, Rec.row, intR, Rec.flat]
  · refine ⟨intR.sl h.length m, h ++ [intR.row 3 m], ?_, ?_⟩
    · have hl : m.length ≠ 0 := fun e => h0 (List.eq_nil_of_length_eq_zero e)
      unfold appendT
      simp only [Option.bind_some, hv]
      rw [if_neg hl, if_pos (by omega)]
      unfold Rec.sl Rec.row
      rw [Rec.flat_len]; rfl
    · have := app_num (h := h ++ [intR.row 3 m]) (b := h.length) (lo := h.length) (c := m) z (by simp) (Nat.le_refl _) (by omega)
      rw [this]
      simp
set_option maxHeartbeats 2000000 in
theorem sorted7_spec (l : List Int) (hl : l.length ≤ 10000) : pureCall E.P (L E) 56 [iT l] = some (iO (sortU l)) := by
  rw [← Rg.ins7_sortU, pureCall_fn F56 rfl]
  simp -implicitDefEqProofs [r56, p56]
  rw [LL_for (γ := List Int) l [] (fun i o => [(3, iO o), (4, .int .i64 i)]) (fun _ _ => [])
    (fun _ rest o => (.exit 0, [(3, iO (rest.foldl ins7 o)), (4, undef)], [])) (fun i o => o.length ≤ i) (by omega) (Nat.le_refl _)]
  · have rr : reifyR E.P [] (iO (l.foldl ins7 [])) = some (iO (l.foldl ins7 [])) := iO_reifyR [] _
    generalize iO (l.foldl ins7 []) = RV at *
    simp -implicitDefEqProofs [k56_3, rr]
  · simp -implicitDefEqProofs [k56_3, iO]
  · rfl
  · intro nx i o hi _
    simp -implicitDefEqProofs [r56_3, k56_3, hi, iT_len, trim_le]
  · intro nx i z rest o hi hv hd hw ho ih
    have ixl := iT_index hi
    rw [hv] at ixl
    have oln : ∀ h, lenT .sl h (iO o) = some (.int .i64 o.length) := fun h => iO_len
    have oix : ∀ (j : Nat) (hj : j < o.length), indexAddrT (.sl 3 ⟨some false, some 1⟩) (iO o) (.int .i64 (j : Int)) = some (cptr (.int .i64 o[j])) := fun j hj => iO_index hj
    have hle := lowN_le o z
    have gd : ∀ j (hj : j < o.length), o.getD j 0 = o[j] := fun j hj => by rw [List.getD_eq_getElem?_getD, List.getElem?_eq_getElem hj]; rfl
    have ei : ins7 o z = if lowN o z < o.length ∧ o.getD (lowN o z) 0 = z then o else putAt o (lowN o z) z := rfl
    have tk := fun (h : Heap) (k : Nat) (hk : k ≤ o.length) => iO_take (h := h) hk
    have dr := fun (h : Heap) (k : Nat) (hk : k ≤ o.length) => iO_drop (h := h) hk
    have obl : ∀ d n, below (d + 1) n (iO o) = true := fun _ _ => iO_bel
    have otr := iO_tr o
    rw [List.foldl_cons]
    generalize hOV : iO o = OV at *
    simp -implicitDefEqProofs [r56_3, k56_3, hi, iT_len]
    rw [LL_rec (α := Nat) 0 (fun k => [(5, .int .i64 (k : Int))]) (fun _ => []) (fun k => (.exit 2, [(5, .int .i64 ((k + lowN (o.drop k) z : Nat) : Int))], [])) (fun k => k ≤ o.length) (fun k => o.length - k)]
    · rw [List.drop_zero, Nat.zero_add]
      generalize lowN o z = k at hle ei ⊢
      by_cases hc : k < o.length ∧ o.getD k 0 = z
      · rw [ei, if_pos hc]
        obtain ⟨hk, hkz⟩ := hc
        rw [gd _ hk] at hkz
        have hk' : (k : Int) < (o.length : Int) := by omega
        have ih := ih o (by omega)
        rw [hOV] at ih
        simp -implicitDefEqProofs [k56_3] at ih
        simp -implicitDefEqProofs [k56_6, oln, hk, hk', oix k hk, ixl, hkz, hw, trim_le]
        exact ih
      · rw [ei, if_neg hc]
        have ih := ih (putAt o k z) (by rw [Rg.putAt_len]; omega)
        obtain ⟨tv, t1, t2⟩ := tk [] k hle
        obtain ⟨dv, d1, d2⟩ := dr [intR.row 3 (o.take k ++ [z])] k hle
        obtain ⟨wv, g1, a1, a2⟩ := app_start (h := []) (v := tv) z t2 (by rw [List.length_take]; omega)
        simp only [List.length_nil, List.nil_append] at a1 a2
        have a3 := app_ints (h := [intR.row 3 (o.take k ++ [z])]) (b := 0) (lo := 0) (c := o.take k ++ [z]) (m := o.drop k) rfl (d2 _) (Nat.le_refl _) (by simp; omega)
        have ep : o.take k ++ [z] ++ o.drop k = putAt o k z := by rw [List.append_assoc]; rfl
        rw [ep] at a3
        have fz := int_freezeE (h := [intR.row 3 (putAt o k z)]) (lo := 0) (b := 0) (l := putAt o k z) rfl (Nat.le_refl _)
        rw [if_neg (by rw [Rg.putAt_len]; omega)] at fz
        have eO : iO (putAt o k z) = iT (putAt o k z) := by
          have hl : (putAt o k z).length = o.length + 1 := Rg.putAt_len ..
          cases hq : putAt o k z with
          | nil => rw [hq] at hl; exact absurd hl (by simp)
          | cons a q => rfl
        rw [eO] at ih
        simp -implicitDefEqProofs [k56_3] at ih
        by_cases hk : k < o.length
        · have hk' : (k : Int) < (o.length : Int) := by omega
          have hne : ¬ o[k] = z := fun q => hc ⟨hk, by rw [gd _ hk, q]⟩
          simp -implicitDefEqProofs [k56_6, oln, hk, hk', oix k hk, ixl, hne, prep_frz, prep_still, rop_loadT, isCp_cptr, otr, t1, d1, a1, a2, a3, lit_num, fz, hw, trim_cut, iT_bel, obl]
          exact ih
        · have hk' : ¬ ((k : Int) < (o.length : Int)) := by omega
          simp -implicitDefEqProofs [k56_6, oln, hk, hk', ixl, prep_frz, prep_still, rop_loadT, isCp_cptr, otr, t1, d1, a1, a2, a3, lit_num, fz, hw, trim_cut, iT_bel, obl]
          exact ih
    · exact Nat.zero_le _
    · simp -implicitDefEqProofs [k56_6]
    · rfl
    · intro nx k hk ih
      by_cases hko : k < o.length
      · have hk' : (k : Int) < (o.length : Int) := by omega
        have e : o.drop k = o[k] :: o.drop (k + 1) := List.drop_eq_getElem_cons hko
        have wk : IntKind.i64.wrap ((k : Int) + 1) = ((k + 1 : Nat) : Int) := (wrap64 (by omega) (by omega)).trans (by omega)
        have ih := ih (k + 1) (by omega) (by omega)
        rw [e]
        simp -implicitDefEqProofs [k56_6, -Int.natCast_add] at ih
        by_cases hz : o[k] < z
        · have el : k + lowN (o[k] :: o.drop (k + 1)) z = k + 1 + lowN (o.drop (k + 1)) z := by
            show k + (if o[k] < z then _ else _) = _
            rw [if_pos hz]; omega
          rw [el]
          simp -implicitDefEqProofs [r56_6, k56_6, oln, hko, hk', oix k hko, ixl, hz, wk, trim_le, -Int.natCast_add]
          exact ih
        · have el : k + lowN (o[k] :: o.drop (k + 1)) z = k := by
            show k + (if o[k] < z then _ else _) = _
            rw [if_neg hz]; rfl
          rw [el]
          simp -implicitDefEqProofs [r56_6, k56_6, oln, hko, hk', oix k hko, ixl, hz, trim_le]
      · have hk' : ¬ ((k : Int) < (o.length : Int)) := by omega
        have e : k + lowN (o.drop k) z = k := by rw [List.drop_eq_nil_of_le (by omega)]; rfl
        rw [e]
        simp -implicitDefEqProofs [r56_6, k56_6, oln, hko, hk', trim_le]
end Go.Proofs.Ytimjfondgdhfcaa.Bm
namespace Go.Proofs.Ytimjfondgdhfcaa.Bm
open Go Go.RowKit
open Rg (Rect Slab Pt sidesP upS hB ysP colY polyL rightP sortU stripL outT emit pairs ends in7 rows7)
set_option maxHeartbeats 4000000 in
theorem rows7_spec (x : Bool) (p : List Pt) (v : Int) (hp : p.length ≤ 1000) : pureCall E.P (L E) 57 [lst x (spanR.vals p), .int .i64 v] = some (iO (sortU (rows7 p v))) := by
  have ln : ∀ h, lenT .sl h (lst x (spanR.vals p)) = some (.int .i64 p.length) := fun h => Rec.tree_len
  have bP : ∀ d n, below (d + 1) n (lst x (spanR.vals p)) = true := fun d n => rfl
  have pix := fun j hj => pt_index x p j hj
  rw [pureCall_fn F57 rfl]
  generalize hPV : lst x (spanR.vals p) = PV at *
  have hsl := Rg.sides_len p
  have hrl : (rows7 p v).length ≤ p.length := by
    unfold rows7
    rw [List.length_map, ← hsl]
    exact List.length_filter_le _ _
  simp -implicitDefEqProofs [r57, p57, prep_new, newK_nil s3]
  rw [LL_for (γ := List Int) (sidesP p) [] (fun i c => [(5, intR.sl 0 c), (6, .int .i64 i)]) (fun _ c => [intR.row 3 c])
    (fun _ rest c => (.exit 0, [(5, intR.sl 0 (c ++ (rest.filter (in7 v)).map (fun s => s.1.2))), (6, undef)], [intR.row 3 (c ++ (rest.filter (in7 v)).map (fun s => s.1.2))])) (fun i c => c.length ≤ i) (by omega) (Nat.le_refl _)]
  · have er : ((sidesP p).filter (in7 v)).map (fun s => s.1.2) = rows7 p v := rfl
    rw [List.nil_append, er]
    have fz := int_freezeE (h := [intR.row 3 (rows7 p v)]) (lo := 0) (b := 0) (l := rows7 p v) rfl (Nat.le_refl _)
    have so := sorted7_spec (rows7 p v) (by omega)
    generalize rows7 p v = l at *
    have rr : reifyR E.P (if l.length = 0 then [intR.row 3 l] else [intR.row 3 l].set 0 .dead) (iO (sortU l)) = some (iO (sortU l)) := iO_reifyR _ _
    generalize (if l.length = 0 then [intR.row 3 l] else [intR.row 3 l].set 0 .dead) = G at *
    simp -implicitDefEqProofs [k57_3, prep_frz, fz, ret1 m56, iT_set, so, rr]
  · simp -implicitDefEqProofs [k57_3, Rec.sl_nil]
  · rfl
  · intro nx i c hi _
    rw [hsl] at hi
    simp -implicitDefEqProofs [r57_3, k57_3, hi, ln, trim_le]
  · intro nx i s rest c hi hv hd hw hc ih
    have hip : i < p.length := by omega
    have hip' : (i : Int) < (p.length : Int) := by omega
    have hm : (i + 1) % p.length < p.length := Nat.mod_lt _ (by omega)
    have es := Rg.sides_get hip
    rw [hv] at es
    have e1 : p.getD i (0, 0) = s.1 := by rw [es, List.getD_eq_getElem?_getD, List.getElem?_eq_getElem hip]; rfl
    have e2 : p.getD ((i + 1) % p.length) (0, 0) = s.2 := by rw [es, List.getD_eq_getElem?_getD, List.getElem?_eq_getElem hm]; rfl
    have i1 := pix i hip
    have i2 := pix _ hm
    rw [e1, span_val] at i1
    rw [e2, span_val] at i2
    have wi : IntKind.i64.wrap ((i : Int) + 1) = ((i + 1 : Nat) : Int) := (wrap64 (by omega) (by omega)).trans (by omega)
    have rm := rem_nat (P := E.P) (t := 3) (m := i + 1) (n := p.length) (by omega)
    clear es e1 e2 hm
    generalize (i + 1) % p.length = j at i2 rm
    have keep : in7 v s = false → c ++ ((s :: rest).filter (in7 v)).map (fun s => s.1.2) = c ++ (rest.filter (in7 v)).map (fun s => s.1.2) := fun h => by rw [List.filter_cons_of_neg (by rw [h]; exact Bool.false_ne_true)]
    have take : in7 v s = true → c ++ ((s :: rest).filter (in7 v)).map (fun s => s.1.2) = c ++ [s.1.2] ++ (rest.filter (in7 v)).map (fun s => s.1.2) := fun h => by rw [List.filter_cons_of_pos h, List.map_cons, List.append_assoc]; rfl
    have ein : in7 v s = (decide (s.1.2 = s.2.2) && (decide (min s.1.1 s.2.1 ≤ v) && decide (v < max s.1.1 s.2.1))) := rfl
    obtain ⟨⟨a, b⟩, u, w⟩ := s
    simp only at i1 i2 ein take
    have ihc := ih c (by omega)
    have ihs := ih (c ++ [b]) (by rw [List.length_append]; show c.length + 1 ≤ _; omega)
    simp -implicitDefEqProofs [k57_3, -Int.natCast_add, -List.append_assoc] at ihc ihs
    by_cases q1 : b = w
    case neg =>
      rw [keep (by rw [ein, decide_eq_false q1]; rfl)]
      simp -implicitDefEqProofs [r57_3, k57_3, hip, hip', ln, i1, i2, wi, rm, q1, trim_cut, bP, Rec.sl_bel, Rec.row_bel, -Int.natCast_add, -List.append_assoc]
      exact ihc
    subst q1
    by_cases q2 : min a u ≤ v
    case neg =>
      rw [keep (by rw [ein, decide_eq_false q2, Bool.false_and, Bool.and_false])]
      simp -implicitDefEqProofs [r57_3, k57_3, hip, hip', ln, i1, i2, wi, rm, min_int, q2, trim_cut, bP, Rec.sl_bel, Rec.row_bel, -Int.natCast_add, -List.append_assoc]
      exact ihc
    by_cases q3 : v < max a u
    case neg =>
      rw [keep (by rw [ein, decide_eq_false q3, Bool.and_false, Bool.and_false])]
      simp -implicitDefEqProofs [r57_3, k57_3, hip, hip', ln, i1, i2, wi, rm, min_int, max_int, q2, q3, trim_cut, bP, Rec.sl_bel, Rec.row_bel, -Int.natCast_add, -List.append_assoc]
      exact ihc
    have ap := fun h (hob : h[0]? = some (intR.row 3 c)) => app_num (h := h) (b := 0) (lo := 0) (c := c) b hob (Nat.zero_le _) (by omega)
    rw [take (by rw [ein, decide_eq_true rfl, decide_eq_true q2, decide_eq_true q3]; rfl)]
    simp -implicitDefEqProofs [r57_3, k57_3, hip, hip', ln, i1, i2, wi, rm, min_int, max_int, q2, q3, lit_num, ap, trim_cut, bP, Rec.sl_bel, Rec.row_bel, -Int.natCast_add, -List.append_assoc]
    exact ihs
set_option maxHeartbeats 4000000 in
theorem region7_spec (x : Bool) (p : List Pt) (hp : p.length ≤ 1000000) : pureCall E.P (L E) 33 [lst x (spanR.vals p)] = some (resL (polyX p)) := by
  have ln : ∀ h, lenT .sl h (lst x (spanR.vals p)) = some (.int .i64 p.length) := fun h => Rec.tree_len
  have hR := right7_spec x p hp
  have rf : ∀ h, reify E.P 8 h (lst x (spanR.vals p)) = some (lst x (spanR.vals p)) := fun _ => rfl
  have sv0 : settled depth (lst x (spanR.vals p)) = true := rfl
  have bP : ∀ d n, below (d + 1) n (lst x (spanR.vals p)) = true := fun d n => rfl
  have pix : ∀ (j : Nat) (hj : j < p.length), indexAddrT (.sl 36 ⟨some true, some 2⟩) (lst x (spanR.vals p)) (.int .i64 (j : Int)) = some (cptr (spanR.val p[j])) := fun j hj => Rec.index_tree rfl hj
  have rw7 := fun v (h : p.length ≤ 1000) => rows7_spec x p v h
  rw [pureCall_fn F33 rfl]
  unfold polyX
  generalize hPV : lst x (spanR.vals p) = PV at *
  cases hr : rightP p
  · rw [hr] at hR
    simp -implicitDefEqProofs [r33, p33, ret0 m55, rf, hR, resL]
  rw [hr] at hR
  obtain ⟨hp4, hp60⟩ := Rg.rightP_len hr
  have hpo := Rg.rightP_poly hr
  have rw7 := fun v => rw7 v (by omega)
  simp -implicitDefEqProofs [r33, p33, ret0 m55, rf, hR, prep_new, newK_nil s3]
  rw [LL_for (γ := List Int) p [] (fun i c => [(4, intR.sl 0 c), (5, .int .i64 i)]) (fun _ c => [intR.row 3 c])
    (fun _ rest c => (.exit 0, [(4, intR.sl 0 (c ++ rest.map (·.1))), (5, undef)], [intR.row 3 (c ++ rest.map (·.1))])) (fun i c => c.length = i) (by omega) rfl]
  · rw [List.nil_append]
    have hxl : (p.map (·.1)).length = p.length := List.length_map _
    have hU : (sortU (p.map (·.1))).length ≤ p.length := by
      have := Rg.sortU_le (p.map (·.1)); omega
    have fz := int_freezeE (h := [intR.row 3 (p.map (·.1))]) (lo := 0) (b := 0) (l := p.map (·.1)) rfl (Nat.le_refl _)
    rw [if_neg (by omega)] at fz
    have so := sorted7_spec (p.map (·.1)) (by omega)
    have ePL : polyL p = outT (stripL (colY p) (sortU (p.map (·.1)))) := rfl
    rw [ePL]
    have hev : ∀ x, (sortI (ysP p x)).length % 2 = 0 := fun x => by rw [sortI_len]; exact Rg.ys_even p x
    have hyl : ∀ x, (sortI (ysP p x)).length ≤ p.length := fun x => by rw [sortI_len]; exact Rg.ys_len p x
    have rw7 : ∀ v, pureCall E.P (L E) 57 [PV, .int .i64 v] = some (iO (sortI (ysP p v))) := fun v => by rw [rw7, Rg.rows7_sort hpo]
    have Uln : ∀ h, lenT .sl h (iO (sortU (p.map (·.1)))) = some (.int .i64 (sortU (p.map (·.1))).length) := fun h => iO_len
    have Uix : ∀ (i : Nat) (hi : i < (sortU (p.map (·.1))).length), indexAddrT (.sl 3 ⟨some false, some 1⟩) (iO (sortU (p.map (·.1)))) (.int .i64 (i : Int)) = some (cptr (.int .i64 (sortU (p.map (·.1)))[i])) := fun i hi => iO_index hi
    have Ubl : ∀ d n, below (d + 1) n (iO (sortU (p.map (·.1)))) = true := fun d n => iO_bel
    have iTs := iT_set (p.map (·.1))
    have iTb : ∀ d n, below (d + 1) n (iT (p.map (·.1))) = true := fun d n => iT_bel
    generalize sortU (p.map (·.1)) = U at *
    generalize iO U = UV at *
    generalize iT (p.map (·.1)) = XV at *
    simp -implicitDefEqProofs [k33_5, prep_frz, fz, ret1 m56, iTs, so, prep_new, newK_nil s32]
    rw [LL_rec (α := Nat × List Rect) (0, []) (fun a => [(7, rectR.sl 1 a.2), (8, .int .i64 (a.1 : Int))]) (fun a => [.dead, rectR.row 55 a.2])
      (fun a => (.exit 2, [(7, rectR.sl 1 (a.2 ++ outT (stripL (colY p) (U.drop a.1)))), (8, undef)], [.dead, rectR.row 55 (a.2 ++ outT (stripL (colY p) (U.drop a.1)))])) (fun a => a.1 ≤ U.length ∧ a.2.length ≤ 100 * a.1) (fun a => U.length - a.1)]
    · rw [List.drop_zero, List.nil_append]
      generalize outT (stripL (colY p) U) = F
      have rr := Rec.reify_row (R := rectR) (P := E.P) (h := [.dead, rectR.row 55 F]) (b := 1) (n := 7) (t := 55) (l := F) rfl s32 a32
      by_cases h2 : 200 < F.length
      · have h2' : 200 < (F.length : Int) := by omega
        simp -implicitDefEqProofs [k33_11, Rec.sl_len, h2, h2', resL]
      · have h2' : ¬ (200 < (F.length : Int)) := by omega
        simp -implicitDefEqProofs [k33_11, Rec.sl_len, h2, h2', rr, resL]
    · exact ⟨Nat.zero_le _, Nat.zero_le _⟩
    · simp -implicitDefEqProofs [k33_11, Rec.sl_nil]
    · rfl
    · intro nx c hc ih
      obtain ⟨i, o⟩ := c
      obtain ⟨h1, h2⟩ := hc
      simp only at h1 h2
      by_cases hi : i + 1 < U.length
      · have wi : IntKind.i64.wrap ((i : Int) + 1) = ((i + 1 : Nat) : Int) := (wrap64 (by omega) (by omega)).trans (by omega)
        have hi' : ((i + 1 : Nat) : Int) < (U.length : Int) := by omega
        have px := Uix i (by omega)
        have px1 := Uix (i + 1) hi
        have hcl : 2 * (colY p U[i]).length ≤ p.length := Rg.colY_len p U[i]
        have ih := ih (i + 1, o ++ emit ⟨U[i], U[i + 1], colY p U[i]⟩) (by show U.length - (i + 1) < U.length - i; omega) ⟨by show i + 1 ≤ U.length; omega, by
          show (o ++ emit ⟨U[i], U[i + 1], colY p U[i]⟩).length ≤ 100 * (i + 1)
          have e : (emit ⟨U[i], U[i + 1], colY p U[i]⟩).length = (colY p U[i]).length := List.length_map _
          rw [List.length_append, e]; omega⟩
        rw [strip_step hi, ← List.append_assoc]
        have hev := hev U[i]
        have hyl := hyl U[i]
        have hrw := rw7 U[i]
        have ecol : colY p U[i] = pairs (sortI (ysP p U[i])) := rfl
        obtain ⟨Y, hY⟩ : ∃ Y, sortI (ysP p U[i]) = Y := ⟨_, rfl⟩
        rw [ecol, hY] at hcl ih
        rw [ecol, hY]
        rw [hY] at hev hyl hrw
        have ee := Rg.ends_pairs hev
        have Yln : ∀ h, lenT .sl h (iO Y) = some (.int .i64 Y.length) := fun h => iO_len
        have Yix : ∀ (j : Nat) (hj : j < Y.length), indexAddrT (.sl 3 ⟨some false, some 1⟩) (iO Y) (.int .i64 (j : Int)) = some (cptr (.int .i64 Y[j])) := fun j hj => iO_index hj
        have Ybl : ∀ d n, below (d + 1) n (iO Y) = true := fun d n => iO_bel
        clear ecol hY
        generalize iO Y = YV at *
        generalize U[i] = x0 at *
        generalize U[i + 1] = x1 at *
        have hel := Rg.ends_len (pairs Y)
        rw [ee] at hel
        simp -implicitDefEqProofs [k33_11, -List.append_assoc, -Int.natCast_add] at ih
        simp -implicitDefEqProofs [r33_11, k33_11, Uln, hi, hi', wi, px, px1, ret1 m57, sv0, sett, hrw, -List.append_assoc, -Int.natCast_add]
        rw [LL_for (γ := List Rect) (pairs Y) o (fun j o' => [(7, rectR.sl 1 o'), (10, .int .i64 ((2 * j : Nat) : Int))]) (fun _ o' => [.dead, rectR.row 55 o'])
          (fun _ rest o' => (.exit 4, [(7, rectR.sl 1 (o' ++ emit ⟨x0, x1, rest⟩)), (10, undef)], [.dead, rectR.row 55 (o' ++ emit ⟨x0, x1, rest⟩)])) (fun j o' => o'.length = o.length + j) (by omega) rfl]
        · simp -implicitDefEqProofs [k33_15, wi, trim_le, bP, -List.append_assoc, -Int.natCast_add]
          exact ih
        · simp -implicitDefEqProofs [k33_15]
        · rfl
        · intro nx2 j o' hj _
          have w2 : IntKind.i64.wrap (((2 * j : Nat) : Int) + 1) = ((2 * j + 1 : Nat) : Int) := wrap64 (by omega) (by omega)
          have hjn : ¬ (((2 * j + 1 : Nat) : Int) < (Y.length : Int)) := by omega
          have hjn' : ¬ (2 * j + 1 < Y.length) := by omega
          have e0 : emit ⟨x0, x1, []⟩ = [] := rfl
          simp -implicitDefEqProofs [r33_15, k33_15, Yln, w2, hjn, hjn', e0, trim_le, -Int.natCast_add, -Int.natCast_mul]
        · intro nx2 j s rest o' hj hv hd hw ho ih2
          obtain ⟨g1, g2, g3, g4⟩ := ends_at7 hj
          simp only [ee] at g1 g2 g3 g4
          rw [hv] at g3 g4
          have st := fun h (hob : h[1]? = some (rectR.row 55 o')) => app_rect (h := h) (b := 1) (lo := 0) (c := o') ⟨x0, s.1, x1, s.2⟩ hob (Nat.zero_le _) (by omega)
          have w2 : IntKind.i64.wrap (((2 * j : Nat) : Int) + 1) = ((2 * j + 1 : Nat) : Int) := wrap64 (by omega) (by omega)
          have w3 : IntKind.i64.wrap (((2 * j : Nat) : Int) + 2) = ((2 * (j + 1) : Nat) : Int) := (wrap64 (by omega) (by omega)).trans (by omega)
          have hjn : ((2 * j + 1 : Nat) : Int) < (Y.length : Int) := by omega
          have hjn' : 2 * j + 1 < Y.length := by omega
          have ya := Yix (2 * j) g1
          have yb := Yix (2 * j + 1) g2
          rw [g3] at ya
          rw [g4] at yb
          have ih2 := ih2 (o' ++ [⟨x0, s.1, x1, s.2⟩]) (by rw [List.length_append]; show o'.length + 1 = _; omega)
          rw [emit_cons7, ← List.append_assoc]
          simp -implicitDefEqProofs [k33_15, -List.append_assoc, -Int.natCast_add, -Int.natCast_mul] at ih2
          simp -implicitDefEqProofs [r33_15, k33_15, Yln, wi, w2, w3, hjn, hjn', px, px1, ya, yb, b4_all, lit_rect, st, trim_le, -List.append_assoc, -Int.natCast_add, -Int.natCast_mul]
          exact ih2
      · have wi : IntKind.i64.wrap ((i : Int) + 1) = ((i + 1 : Nat) : Int) := (wrap64 (by omega) (by omega)).trans (by omega)
        have hi' : ¬ (((i + 1 : Nat) : Int) < (U.length : Int)) := by omega
        rw [strip_end hi, List.append_nil]
        simp -implicitDefEqProofs [r33_11, k33_11, Uln, wi, hi, hi', trim_le, -Int.natCast_add]
  · simp -implicitDefEqProofs [k33_5, Rec.sl_nil]
  · rfl
  · intro nx i c hi _
    simp -implicitDefEqProofs [r33_5, k33_5, hi, ln, trim_le]
  · intro nx i v rest c hi hv hd hw hc ih
    have hi' : (i : Int) < (p.length : Int) := by omega
    have pi := pix i hi
    rw [hv, span_val] at pi
    have ap := fun h (hob : h[0]? = some (intR.row 3 c)) => app_num (h := h) (b := 0) (lo := 0) (c := c) v.1 hob (Nat.le_refl _) (by omega)
    have ih := ih (c ++ [v.1]) (by simp; omega)
    have em : (v :: rest).map (·.1) = [v.1] ++ rest.map (·.1) := rfl
    rw [em, ← List.append_assoc]
    simp -implicitDefEqProofs [k33_5, -List.append_assoc] at ih
    simp -implicitDefEqProofs [r33_5, k33_5, hi, hi', ln, pi, lit_num, ap, hw, trim_le, -List.append_assoc]
    exact ih
end Go.Proofs.Ytimjfondgdhfcaa.Bm
namespace Go.Proofs.Ytimjfondgdhfcaa.Bm
open Go Go.RowKit
open Rg (Rect Pt Zn rightP polyL comA comP comS Once cell bestW isO namesF inL areaL baseS ovF)
theorem region7_o (x : Bool) (p : List Pt) (hp : p.length ≤ 1000000) : pureCall E.P (L E) 33 [lst x (spanR.vals p)] = some (.tuple ⟨[rectR.o (kR (polyX p)) (lR (polyX p)), .int .i64 (eR (polyX p))]⟩) := by
  rw [← resL_eq]; exact region7_spec x p hp
theorem rcells_spec (y : Bool) (z : Zn) (hz : z.cs.length ≤ 64) : pureCall E.P (L E) 23 [(znR y).val z] = some (rectR.o (kR (polyX z.cs)) (cellsZ z)) := by
  have hG := region7_o y z.cs (by omega)
  have sv : settled depth (lst y (spanR.vals z.cs)) = true := rfl
  rw [zn_val, pureCall_fn F23 rfl]
  unfold cellsZ
  by_cases he : eR (polyX z.cs) = 0
  · rw [he] at hG
    rw [polyX_ok he] at hG ⊢
    simp -implicitDefEqProofs [r23, padS, ret1 m33, sv, hG, Rec.o]
  · obtain ⟨e1, e2⟩ := polyX_err he
    rw [e1, e2] at hG ⊢
    simp -implicitDefEqProofs [r23, padS, ret1 m33, sv, hG, Rec.o, he]
end Go.Proofs.Ytimjfondgdhfcaa.Bm
namespace Go.Proofs.Ytimjfondgdhfcaa.Bm
open Go Go.RowKit
open Rg (Rect Pt Zn rightP polyL comA comP comS Once cell bestW isO namesF inL areaL baseS ovF)
theorem wZ_share {zs : List Zn} {a : List Rect} (ra : regB a = true) {i : Nat} (h : i < (wZ zs a).length) : ((wZ zs a)[i]).2 = comA a (cellsZ ((wZ zs a)[i]).1) := by
  have hl := wZ_leng (zs := zs) ra
  obtain ⟨_, e⟩ := wZ_get (zs := zs) ra (i := i) (by omega)
  rw [e]
end Go.Proofs.Ytimjfondgdhfcaa.Bm
namespace Go.Proofs.Ytimjfondgdhfcaa.Bm
open Go Go.RowKit
open Rg (Rect Pt Zn rightP polyL comA comP comR capR meetB capA corn)
theorem span5 (a b : Int) : pureCall E.P (L E) 99 [.int .i64 a, .int .i64 b] = some (.bool (decide (0 ≤ a) && decide (a < b) && decide (b ≤ 1048576))) := by
  rw [pureCall_fn F99 rfl]
  by_cases h1 : 0 ≤ a
  case neg => simp -implicitDefEqProofs [r99, padS, h1]
  by_cases h2 : a < b
  case neg => simp -implicitDefEqProofs [r99, padS, h1, h2]
  simp -implicitDefEqProofs [r99, padS, h1, h2]
theorem right5 (r : Rect) : pureCall E.P (L E) 80 [.agg ⟨[.int .i64 r.x0, .int .i64 r.y0, .int .i64 r.x1, .int .i64 r.y1]⟩] = some (.bool (okR r)) := by
  have e : okR r = ((decide (0 ≤ r.x0) && decide (r.x0 < r.x1) && decide (r.x1 ≤ 1048576)) && (decide (0 ≤ r.y0) && decide (r.y0 < r.y1) && decide (r.y1 ≤ 1048576))) := by
    unfold okR
    cases decide (0 ≤ r.x0) <;> cases decide (r.x0 < r.x1) <;> cases decide (r.x1 ≤ 1048576) <;> cases decide (0 ≤ r.y0) <;> cases decide (r.y0 < r.y1) <;> cases decide (r.y1 ≤ 1048576) <;> rfl
  have s1 := span5 r.x0 r.x1
  have s2 := span5 r.y0 r.y1
  rw [e, pureCall_fn F80 rfl]
  generalize (decide (0 ≤ r.x0) && decide (r.x0 < r.x1) && decide (r.x1 ≤ 1048576)) = p at *
  generalize (decide (0 ≤ r.y0) && decide (r.y0 < r.y1) && decide (r.y1 ≤ 1048576)) = q at *
  cases p <;> cases q <;> simp -implicitDefEqProofs [r80, padS, ret0 m99, s1, s2]
theorem b4_none' : buildT (Bl.fs ⟨[.int .i64 0, .int .i64 0, .int .i64 0, .int .i64 0]⟩ ⟨[(0, 1), (1, 1), (2, 1), (3, 1)]⟩) #[] = some (.agg ⟨[.int .i64 0, .int .i64 0, .int .i64 0, .int .i64 0]⟩) := rfl
theorem intersect5 (r s : Rect) (hr : okR r = true) (hs : okR s = true) : pureCall E.P (L E) 60 [rectR.val r, rectR.val s] = some (.tuple ⟨[if meetB r s then rectR.val (capR r s) else rectR.val zeroR, .bool (meetB r s)]⟩) := by
  have h1 := right5 r
  have h2 := right5 s
  have h3 := right5 (capR r s)
  rw [hr] at h1
  rw [hs] at h2
  rw [cap_ok hr hs] at h3
  have e : capR r s = ⟨max r.x0 s.x0, max r.y0 s.y0, min r.x1 s.x1, min r.y1 s.y1⟩ := rfl
  rw [pureCall_fn F60 rfl]
  rw [rect_val, rect_val]
  rw [e] at h3 ⊢
  cases hm : meetB r s
  · rw [hm] at h3
    simp -implicitDefEqProofs [r60, p60, ret0 m80, h1, h2, h3, min_int, max_int, b4_none', b4_all, rect_val, zeroR]
  · rw [hm] at h3
    simp -implicitDefEqProofs [r60, p60, ret0 m80, h1, h2, h3, min_int, max_int, b4_none', b4_all, rect_val]
theorem area5 (r : Rect) (hr : okR r = true) : pureCall E.P (L E) 61 [.agg ⟨[.int .i64 r.x0, .int .i64 r.y0, .int .i64 r.x1, .int .i64 r.y1]⟩] = some (.int .i64 r.area) := by
  have h1 := right5 r
  rw [hr] at h1
  have ab := area_bound hr
  have hb := okR_iff.1 hr
  unfold Rg.Rect.inBox at hb
  unfold Rg.Rect.area at ab ⊢
  have w1 : IntKind.i64.wrap (r.x1 - r.x0) = r.x1 - r.x0 := wrap64 (by omega) (by omega)
  have w2 : IntKind.i64.wrap (r.y1 - r.y0) = r.y1 - r.y0 := wrap64 (by omega) (by omega)
  have w3 : IntKind.i64.wrap ((r.x1 - r.x0) * (r.y1 - r.y0)) = (r.x1 - r.x0) * (r.y1 - r.y0) := wrap64 (by omega) (by omega)
  rw [pureCall_fn F61 rfl]
  simp -implicitDefEqProofs [r61, p61, ret0 m80, h1, w1, w2, w3]
set_option maxHeartbeats 4000000 in
theorem rcommon_spec (ka kb : Option Bool) (a b : List Rect) (ha : Rec.Ok ka a) (hb : Rec.Ok kb b) (ra : regB a = true) (rb : regB b = true) :
    pureCall E.P (L E) 35 [rectR.o ka a, rectR.o kb b] = some (.int .i64 (comA a b)) := by
  obtain ⟨oa, la⟩ := reg_ok ra
  obtain ⟨ob, lb⟩ := reg_ok rb
  have lna : ∀ h, lenT .sl h (rectR.o ka a) = some (.int .i64 a.length) := fun h => Rec.o_len ha
  have lnb : ∀ h, lenT .sl h (rectR.o kb b) = some (.int .i64 b.length) := fun h => Rec.o_len hb
  have xa : ∀ (i : Nat) (h : i < a.length), indexAddrT (.sl 55 ⟨some true, some 4⟩) (rectR.o ka a) (.int .i64 (i : Int)) = some (cptr (rectR.val a[i])) := fun i h => Rec.o_index (R := rectR) (s := 4) rfl ha h
  have xb : ∀ (i : Nat) (h : i < b.length), indexAddrT (.sl 55 ⟨some true, some 4⟩) (rectR.o kb b) (.int .i64 (i : Int)) = some (cptr (rectR.val b[i])) := fun i h => Rec.o_index (R := rectR) (s := 4) rfl hb h
  have bla : ∀ d n, below (d + 1) n (rectR.o ka a) = true := fun d n => Rec.o_bel
  have blb : ∀ d n, below (d + 1) n (rectR.o kb b) = true := fun d n => Rec.o_bel
  rw [pureCall_fn F35 rfl]
  generalize rectR.o ka a = VA at *
  generalize rectR.o kb b = VB at *
  simp -implicitDefEqProofs [r35, p35]
  rw [LL_for (γ := Int) a 0 (fun i c => [(5, .int .i64 c), (6, .int .i64 i)]) (fun _ _ => []) (fun _ rest c => (.exit 0, [(5, .int .i64 (c + comA rest b)), (6, undef)], [])) (fun i c => bndA c i) (by omega) ⟨Int.le_refl _, Int.le_refl _⟩]
  · rw [Int.zero_add]
    simp -implicitDefEqProofs [k35_3]
  · simp -implicitDefEqProofs [k35_3]
  · rfl
  · intro nx i c hi _
    have e1 : c + comA [] b = c := Int.add_zero c
    simp -implicitDefEqProofs [r35_3, k35_3, hi, lna, trim_le, e1]
  · intro nx i r rest n hi hv hd hw hc ih
    have hi' : (i : Int) < (a.length : Int) := by omega
    have xi := xa i hi
    rw [hv] at xi
    have hr : okR r = true := oa r (hv ▸ List.getElem_mem hi)
    have h0 := Rg.comR_nonneg r b
    have ih := ih (n + comR r b) (by
      have h1 := comR_le hr ob
      obtain ⟨g1, g2⟩ := hc
      refine ⟨?_, ?_⟩ <;> omega)
    simp -implicitDefEqProofs [k35_3] at ih
    rw [comA_cons, ← Int.add_assoc]
    simp -implicitDefEqProofs [r35_3, k35_3, hi, hi', lna]
    rw [LL_for (γ := Int) b n (fun j c => [(5, .int .i64 c), (7, .int .i64 j)]) (fun _ _ => []) (fun _ rest c => (.exit 2, [(5, .int .i64 (c + comR r rest)), (7, undef)], [])) (fun j c => bndR n c j) (by omega) ⟨Int.le_refl _, by simp⟩]
    · simp -implicitDefEqProofs [k35_6, hw, trim_le]
      exact ih
    · simp -implicitDefEqProofs [k35_6]
    · rfl
    · intro nx2 j c hj _
      have e1 : c + comR r [] = c := Int.add_zero c
      simp -implicitDefEqProofs [r35_6, k35_6, hj, lnb, trim_le, e1]
    · intro nx2 j s rest2 n2 hj hv2 hd2 hw2 hc2 ih2
      have hj' : (j : Int) < (b.length : Int) := by omega
      have xj := xb j hj
      rw [hv2] at xj
      have hs : okR s = true := ob s (hv2 ▸ List.getElem_mem hj)
      have isp := intersect5 r s hr hs
      have rv : ∀ h (q : Rect), reify E.P 8 h (rectR.val q) = some (rectR.val q) := fun _ _ => rfl
      obtain ⟨g1, g2⟩ := hc2
      obtain ⟨g3, g4⟩ := hc
      rw [comR_cons, ← Int.add_assoc]
      cases hm : meetB r s
      · have ec : capA r s = 0 := by unfold capA; rw [hm]; rfl
        have ih2 := ih2 n2 ⟨g1, by omega⟩
        rw [ec, Int.add_zero]
        rw [hm] at isp
        rw [rect_val] at xi xj isp
        rw [rect_val] at isp
        simp -implicitDefEqProofs [k35_6] at ih2
        simp -implicitDefEqProofs [r35_6, k35_6, hj, hj', hi, hi', lnb, xi, xj, ret0 m60, isp, rect_val, zeroR, hw2, trim_cut, bla, blb]
        exact ih2
      · have ec : capA r s = (capR r s).area := by unfold capA; rw [hm, if_pos rfl]
        have hk := cap_ok hr hs
        rw [hm] at hk
        have ars := area5 (capR r s) hk
        have abd := area_bound hk
        have wn : IntKind.i64.wrap (n2 + (capR r s).area) = n2 + (capR r s).area := wrap64 (by omega) (by omega)
        have ih2 := ih2 (n2 + (capR r s).area) ⟨by omega, by omega⟩
        rw [ec]
        rw [hm] at isp
        rw [rect_val] at xi xj isp
        rw [rect_val] at isp
        generalize capR r s = q at *
        simp -implicitDefEqProofs [k35_6] at ih2
        simp -implicitDefEqProofs [r35_6, k35_6, hj, hj', hi, hi', lnb, xi, xj, ret0 m60, isp, rect_val, ret0 m61, ars, wn, hw2, trim_cut, bla, blb]
        exact ih2
end Go.Proofs.Ytimjfondgdhfcaa.Bm
namespace Go.Proofs.Ytimjfondgdhfcaa.Rg
def mostF : Int → List (Zn × Int) → Int
  | c, [] => c
  | c, (z, n) :: W => mostF (if z.ov then c else max c n) W
theorem mostF_ok : ∀ (W : List (Zn × Int)) (c : Int), c ≤ mostF c W ∧ (∀ j (h : j < W.length), W[j].1.ov = false → W[j].2 ≤ mostF c W) ∧ (mostF c W = c ∨ ∃ j, ∃ h : j < W.length, W[j].1.ov = false ∧ W[j].2 = mostF c W)
  | [], c => ⟨Int.le_refl _, fun j h => absurd h (Nat.not_lt_zero j), .inl rfl⟩
  | (z, n) :: W, c => by
    obtain ⟨h1, h2, h3⟩ := mostF_ok W (if z.ov then c else max c n)
    have e : mostF c ((z, n) :: W) = mostF (if z.ov then c else max c n) W := rfl
    rw [e]
    generalize mostF (if z.ov then c else max c n) W = M at *
    cases ho : z.ov
    · rw [ho, if_neg Bool.false_ne_true] at h1 h3
      refine ⟨by omega, fun j h hj => ?_, ?_⟩
      · cases j with
        | zero => show n ≤ M; omega
        | succ j => exact h2 j (by simpa using h) hj
      · rcases h3 with h3 | ⟨j, h, h4, h5⟩
        · by_cases q : n ≤ c
          · exact .inl (by omega)
          · exact .inr ⟨0, Nat.zero_lt_succ _, ho, by show n = M; omega⟩
        · exact .inr ⟨j + 1, by simpa using h, h4, h5⟩
    · rw [ho, if_pos rfl] at h1 h3
      refine ⟨h1, fun j h hj => ?_, ?_⟩
      · cases j with
        | zero => rw [show (((z, n) :: W)[0]).1.ov = true from ho] at hj; exact absurd hj (by decide)
        | succ j => exact h2 j (by simpa using h) hj
      · rcases h3 with h3 | ⟨j, h, h4, h5⟩
        · exact .inl h3
        · exact .inr ⟨j + 1, by simpa using h, h4, h5⟩
def refN (most : Int) : Bool → List (Zn × Int) → List ByteArray
  | _, [] => []
  | ch, (z, n) :: W => if n = 0 then refN most ch W else if z.ov then z.nm :: refN most ch W else if n = most ∧ ch = false then z.nm :: refN most true W else refN most ch W
def Ahead (W : List (Zn × Int)) (most : Int) (i : Nat) : Prop := ∃ j, ∃ h : j < W.length, j < i ∧ W[j].1.ov = false ∧ W[j].2 = most ∧ W[j].2 ≠ 0
theorem refN_ok {W : List (Zn × Int)} (h0 : ∀ j (h : j < W.length), 0 ≤ W[j].2) : ∀ (d i : Nat) (ch : Bool), W.length - i = d → i ≤ W.length → (ch = true ↔ Ahead W (mostF 0 W) i) → refN (mostF 0 W) ch (W.drop i) = namesF (bestW 0 none W) i (W.drop i)
  | 0, i, ch, hd, hi, _ => by
    rw [List.drop_eq_nil_of_le (by omega)]; rfl
  | d + 1, i, ch, hd, hi, hc => by
    have hl : i < W.length := by omega
    have hd1 : W.length - (i + 1) = d := by omega
    have hi1 : i + 1 ≤ W.length := hl
    obtain ⟨m1, m2, m3⟩ := mostF_ok W 0
    rw [List.drop_eq_getElem_cons hl]
    have hch := chosen_eq hl
    have hn := h0 i hl
    have keep : ¬ (W[i].1.ov = false ∧ W[i].2 = mostF 0 W ∧ W[i].2 ≠ 0) → refN (mostF 0 W) ch (W.drop (i + 1)) = namesF (bestW 0 none W) (i + 1) (W.drop (i + 1)) := fun hne =>
      refN_ok h0 d (i + 1) ch hd1 hi1 ⟨fun q => by
        obtain ⟨j, h, h1, h2⟩ := hc.1 q
        exact ⟨j, h, by omega, h2⟩, fun ⟨j, h, h1, h2⟩ => hc.2 ⟨j, h, by
          by_cases e : j = i
          · subst e; exact absurd h2 hne
          · omega, h2⟩⟩
    have take : W[i].1.ov = false ∧ W[i].2 = mostF 0 W ∧ W[i].2 ≠ 0 → refN (mostF 0 W) true (W.drop (i + 1)) = namesF (bestW 0 none W) (i + 1) (W.drop (i + 1)) := fun he =>
      refN_ok h0 d (i + 1) true hd1 hi1 ⟨fun _ => ⟨i, hl, Nat.lt_succ_self _, he⟩, fun _ => rfl⟩
    have step : namesF (bestW 0 none W) i (W[i] :: W.drop (i + 1)) = (if inL W W[i].1 W[i].2 i then [W[i].1.nm] else []) ++ namesF (bestW 0 none W) (i + 1) (W.drop (i + 1)) := by
      rw [← hch]; rfl
    rw [step]
    have estep : refN (mostF 0 W) ch (W[i] :: W.drop (i + 1)) = if W[i].2 = 0 then refN (mostF 0 W) ch (W.drop (i + 1)) else if W[i].1.ov then W[i].1.nm :: refN (mostF 0 W) ch (W.drop (i + 1)) else if W[i].2 = mostF 0 W ∧ ch = false then W[i].1.nm :: refN (mostF 0 W) true (W.drop (i + 1)) else refN (mostF 0 W) ch (W.drop (i + 1)) := rfl
    rw [estep]
    have ein : inL W W[i].1 W[i].2 i = (decide (0 < W[i].2) && (W[i].1.ov || noBet W[i].2 i 0 W)) := rfl
    rw [ein]
    by_cases hz : W[i].2 = 0
    · rw [if_pos hz, decide_eq_false (by omega), Bool.false_and, keep fun q => q.2.2 hz]; rfl
    · rw [if_neg hz, decide_eq_true (by omega), Bool.true_and]
      cases ho : W[i].1.ov
      · rw [Bool.false_or, if_neg Bool.false_ne_true]
        by_cases hm : W[i].2 = mostF 0 W ∧ ch = false
        · have nb : noBet W[i].2 i 0 W = true := by
            rw [noBet_iff]
            intro j hj
            cases hjo : W[j].1.ov
            · refine .inr fun q => ?_
              have := m2 j hj hjo
              rcases q with q | ⟨q1, q2⟩
              · omega
              · have : ch = true := hc.2 ⟨j, hj, by omega, hjo, by omega, by omega⟩
                rw [hm.2] at this; exact absurd this (by decide)
            · exact .inl rfl
          rw [if_pos hm, nb, take ⟨ho, hm.1, hz⟩]; rfl
        · have nb : noBet W[i].2 i 0 W = false := by
            rw [Bool.eq_false_iff]
            intro q
            rw [noBet_iff] at q
            by_cases he : W[i].2 = mostF 0 W
            · have hct : ch = true := by
                cases hcc : ch
                · exact absurd ⟨he, hcc⟩ hm
                · rfl
              obtain ⟨j, hj, h1, h2, h3, _⟩ := hc.1 hct
              rcases q j hj with q | q
              · rw [h2] at q; exact absurd q (by decide)
              · exact q (.inr ⟨by omega, by omega⟩)
            · have h1 := m2 i hl ho
              rcases m3 with m3 | ⟨j, hj, h2, h3⟩
              · omega
              · rcases q j hj with q | q
                · rw [h2] at q; exact absurd q (by decide)
                · exact q (.inl (by omega))
          rw [if_neg hm, nb]
          by_cases he : W[i].2 = mostF 0 W
          · have hct : ch = true := by
              cases hcc : ch
              · exact absurd ⟨he, hcc⟩ hm
              · rfl
            have := take ⟨ho, he, hz⟩
            rw [hct, this]; rfl
          · rw [keep fun q => he q.2.1]; rfl
      · rw [Bool.true_or, if_pos rfl, if_pos rfl, keep fun q => by rw [ho] at q; exact absurd q.1 (by decide)]; rfl
theorem refN_names {W : List (Zn × Int)} (h0 : ∀ j (h : j < W.length), 0 ≤ W[j].2) : refN (mostF 0 W) false W = namesF (bestW 0 none W) 0 W := by
  have := refN_ok h0 W.length 0 false rfl (Nat.zero_le _) ⟨fun h => absurd h Bool.false_ne_true, fun ⟨j, _, h, _⟩ => absurd h (Nat.not_lt_zero j)⟩
  rw [List.drop_zero] at this
  exact this
end Go.Proofs.Ytimjfondgdhfcaa.Rg
namespace Go.Proofs.Ytimjfondgdhfcaa.Bm
open Go Go.RowKit
open Rg (Rect Pt Zn rightP polyL comA comP mostF refN bestW namesF)
set_option maxHeartbeats 2000000 in
theorem rshares_spec (p : Pl) (hp : PlOk p) (k : Option Bool) (a : List Rect) (hk : Rec.Ok k a) (ha : a.length ≤ 1000) : pureCall E.P (L E) 16 [p.val, rectR.o k a] = some (sharesV p.zs a) := by
  have hR := rright2_spec k a hk (by omega)
  have rfa : ∀ n h, reify E.P (n + 1) h (rectR.o k a) = some (rectR.o k a) := fun n h => Rec.o_reify
  have bla : ∀ d n, below (d + 1) n (rectR.o k a) = true := fun d n => Rec.o_bel
  have lz : ∀ h, lenT .sl h p.zv = some (.int .i64 p.zs.length) := fun h => Rec.tree_len
  have iz : ∀ (j : Nat) (hj : j < p.zs.length), indexAddrT (.sl 49 ⟨some true, some 3⟩) p.zv (.int .i64 (j : Int)) = some (cptr ((znR p.y).val p.zs[j])) := fun j hj => Rec.index_tree rfl hj
  have blz : ∀ d n, below (d + 1) n p.zv = true := fun d n => rfl
  have op0 := @op_bel
  rw [pureCall_fn F16 rfl]
  unfold sharesV
  cases hr : regB a
  · rw [hr] at hR
    generalize rectR.o k a = VA at *
    simp -implicitDefEqProofs [r16, p16, Pl.val, Pl.cells, ret0 m20, rfa, hR]
  · rw [hr] at hR
    have hC := fun (z : Zn) => rcommon_spec k (kR (polyX z.cs)) a (cellsZ z) hk (kR_ok _) hr (cellsZ_reg z)
    have rfz : ∀ n h (z : Zn), reify E.P (n + 1) h (rectR.o (kR (polyX z.cs)) (cellsZ z)) = some (rectR.o (kR (polyX z.cs)) (cellsZ z)) := fun n h z => Rec.o_reify
    have hl := hp.len
    have hcz := hp.cor
    generalize rectR.o k a = VA at *
    generalize hZV : p.zv = ZV at *
    simp -implicitDefEqProofs [r16, p16, Pl.val, Pl.cells, hZV, ret0 m20, rfa, hR, prep_new, newK_nil s3]
    rw [LL_for (γ := List Int) p.zs [] (fun i c => [(5, intR.sl 1 c), (6, .int .i64 i)]) (fun _ c => [plO p ZV, intR.row 3 c])
      (fun _ rest c => (.exit 0, [(5, intR.sl 1 (c ++ sharesL rest a)), (6, undef)], [plO p ZV, intR.row 3 (c ++ sharesL rest a)])) (fun i c => c.length = i) (by omega) rfl]
    · have rr := int_reifyR (h := [plO p ZV, intR.row 3 (sharesL p.zs a)]) (b := 1) (l := sharesL p.zs a) rfl
      unfold plO iT at rr
      simp -implicitDefEqProofs [k16_5, plO, rr]
    · simp -implicitDefEqProofs [k16_5, Rec.sl_nil]
    · rfl
    · intro nx i c hi _
      simp -implicitDefEqProofs [r16_5, k16_5, hi, lz, trim_le, sharesL, plO]
    · intro nx i z rest c hi hv hd hw hc ih
      have hi' : (i : Int) < (p.zs.length : Int) := by omega
      have xi := iz i hi
      rw [hv] at xi
      have hz := rcells_spec p.y z (hcz z (hv ▸ List.getElem_mem hi))
      have hCz := hC z
      have ih := ih (c ++ [comA a (cellsZ z)]) (by rw [List.length_append, hc]; rfl)
      have e1 : c ++ sharesL (z :: rest) a = c ++ [comA a (cellsZ z)] ++ sharesL rest a := by rw [List.append_assoc]; rfl
      have zset : settled depth ((znR p.y).val z) = true := rfl
      rw [e1]
      rw [zn_val] at xi hz zset
      have rz := fun n h => rfz n h z
      generalize rectR.o (kR (polyX z.cs)) (cellsZ z) = CZ at *
      simp -implicitDefEqProofs [k16_5, plO] at ih
      have ap := fun h (hob : h[1]? = some (intR.row 3 c)) => app_num (h := h) (b := 1) (lo := 0) (c := c) (comA a (cellsZ z)) hob (Nat.zero_le _) (by omega)
      simp -implicitDefEqProofs [r16_5, k16_5, hi, hi', lz, xi, plO, ret1 m23, zset, hz, ret0 m35, rfa, rz, hCz, lit_num, ap, hw, trim_le]
      exact ih
theorem wZ_nonneg (zs : List Zn) (a : List Rect) (j : Nat) (h : j < (wZ zs a).length) : 0 ≤ ((wZ zs a)[j]).2 := by
  cases ra : regB a
  · have e : wZ zs a = [] := by unfold wZ; rw [ra]; rfl
    rw [e] at h; exact absurd h (Nat.not_lt_zero _)
  · rw [wZ_share ra h]
    exact Rg.comA_nonneg _ _
set_option maxHeartbeats 2000000 in
theorem rnames_spec (p : Pl) (hp : PlOk p) (k : Option Bool) (a : List Rect) (hk : Rec.Ok k a) (ha : a.length ≤ 200) : pureCall E.P (L E) 19 [p.val, rectR.o k a] = some (lst false ((namesZ p.zs a).map .string)) := by
  have hS := rshares_spec p hp k a hk (by omega)
  have sp := p.set
  have sa : settled depth (rectR.o k a) = true := Rec.o_set
  have bla : ∀ d n, below (d + 1) n (rectR.o k a) = true := fun d n => Rec.o_bel
  have ln := sharesV_len p.zs a
  have ix : ∀ (i : Nat) (hi : i < (wZ p.zs a).length), _ := fun i hi => sharesV_index (zs := p.zs) (a := a) hi
  have blS : ∀ d n, below (d + 1) n (sharesV p.zs a) = true := fun d n => sharesV_bel _ _
  have hl := wZ_len p.zs a
  have hl6 := hp.len
  have iz : ∀ (j : Nat) (hj : j < (wZ p.zs a).length), indexAddrT (.sl 49 ⟨some true, some 3⟩) p.zv (.int .i64 (j : Int)) = some (cptr ((znR p.y).val ((wZ p.zs a)[j]).1)) := fun j hj => by
    obtain ⟨h, e⟩ := wZ_zone hj
    rw [e]
    exact Rec.index_tree rfl h
  have blz : ∀ d n, below (d + 1) n p.zv = true := fun d n => rfl
  have op0 := @op_bel
  rw [pureCall_fn F19 rfl]
  unfold namesZ
  rw [← Rg.refN_names (wZ_nonneg p.zs a)]
  generalize rectR.o k a = VA at *
  generalize sharesV p.zs a = LV at *
  generalize wZ p.zs a = W at *
  unfold Pl.val Pl.cells at *
  generalize p.zv = ZV at *
  simp -implicitDefEqProofs [r19, p19, ret1 m16, sp, sa, hS]
  rw [LL_for (γ := Int) W 0 (fun i c => [(6, .int .i64 c), (7, .int .i64 i)]) (fun _ _ => [plO p ZV]) (fun i rest c => (.exit 0, [(6, .int .i64 (mostF c rest)), (7, undef)], [plO p ZV])) (fun _ _ => True) (by omega) trivial]
  · generalize mostF 0 W = M
    simp -implicitDefEqProofs [k19_4, prep_new, newK_nil sS1, plO]
    rw [LL_for (γ := List ByteArray × Bool) W ([], false) (fun i c => [(8, strR.sl 1 c.1), (9, .bool c.2), (10, .int .i64 i)]) (fun _ c => [plO p ZV, strR.row 9 c.1])
      (fun i rest c => (.exit 2, [(8, strR.sl 1 (c.1 ++ refN M c.2 rest)), (9, undef), (10, undef)], [plO p ZV, strR.row 9 (c.1 ++ refN M c.2 rest)])) (fun i c => c.1.length ≤ i) (by omega) (Nat.le_refl _)]
    · have e0 : ∀ l : List ByteArray, [] ++ l = l := fun l => rfl
      simp only [e0]
      have rr := str_reifyR (h := [plO p ZV, strR.row 9 (refN M false W)]) (b := 1) (l := refN M false W) rfl
      unfold plO at rr
      simp -implicitDefEqProofs [k19_11, plO, rr]
    · simp -implicitDefEqProofs [k19_11, Rec.sl_nil]
    · rfl
    · intro nx i c hi _
      have e1 : ∀ b, c.1 ++ refN M b [] = c.1 := fun b => List.append_nil c.1
      simp -implicitDefEqProofs [r19_11, k19_11, hi, ln, trim_le, e1, plO]
    · intro nx i v rest c hi hv hd hw hc ih
      obtain ⟨z, n⟩ := v
      obtain ⟨c, ch⟩ := c
      have xi := ix i hi
      have zi := iz i hi
      rw [hv] at xi zi
      rw [zn_val] at zi
      simp only at xi zi hc
      have hi' : (i : Int) < (W.length : Int) := by omega
      have ap := fun h (hob : h[1]? = some (strR.row 9 c)) => app_str (h := h) (b := 1) (lo := 0) (c := c) z.nm hob (Nat.zero_le _) (by omega)
      have er : refN M ch ((z, n) :: rest) = if n = 0 then refN M ch rest else if z.ov then z.nm :: refN M ch rest else if n = M ∧ ch = false then z.nm :: refN M true rest else refN M ch rest := rfl
      have ea : ∀ l : List ByteArray, c ++ z.nm :: l = c ++ [z.nm] ++ l := fun l => by rw [List.append_assoc]; rfl
      have keep := ih (c, ch) (by show c.length ≤ i + 1; omega)
      have add := ih (c ++ [z.nm], ch) (by show (c ++ [z.nm]).length ≤ i + 1; rw [List.length_append]; show c.length + 1 ≤ i + 1; omega)
      have take := ih (c ++ [z.nm], true) (by show (c ++ [z.nm]).length ≤ i + 1; rw [List.length_append]; show c.length + 1 ≤ i + 1; omega)
      simp only at keep add take ⊢
      simp -implicitDefEqProofs [k19_11, plO, -List.append_assoc] at keep add take
      rw [er]
      by_cases hn : n = 0
      · rw [if_pos hn]
        simp -implicitDefEqProofs [r19_11, k19_11, hi, hi', ln, xi, zi, hn, plO, hw, trim_le, -List.append_assoc]
        exact keep
      rw [if_neg hn]
      cases hov : z.ov
      · rw [hov] at zi
        rw [if_neg Bool.false_ne_true]
        by_cases hm : n = M
        · subst hm
          cases ch
          · rw [if_pos ⟨rfl, rfl⟩, ea]
            simp -implicitDefEqProofs [r19_11, k19_11, hi, hi', ln, xi, zi, hn, lit_str, ap, plO, hw, trim_le, -List.append_assoc]
            exact take
          · rw [if_neg fun q => absurd q.2 (by decide)]
            simp -implicitDefEqProofs [r19_11, k19_11, hi, hi', ln, xi, zi, hn, plO, hw, trim_le, -List.append_assoc]
            exact keep
        · rw [if_neg fun q => hm q.1]
          simp -implicitDefEqProofs [r19_11, k19_11, hi, hi', ln, xi, zi, hn, hm, plO, hw, trim_le, -List.append_assoc]
          exact keep
      · rw [hov] at zi
        rw [if_pos rfl, ea]
        simp -implicitDefEqProofs [r19_11, k19_11, hi, hi', ln, xi, zi, hn, lit_str, ap, plO, hw, trim_le, -List.append_assoc]
        exact add
  · simp -implicitDefEqProofs [k19_4]
  · rfl
  · intro nx i c hi _
    have e1 : mostF c [] = c := rfl
    simp -implicitDefEqProofs [r19_4, k19_4, hi, ln, trim_le, e1, plO]
  · intro nx i v rest c hi hv hd hw hc ih
    obtain ⟨z, n⟩ := v
    have xi := ix i hi
    have zi := iz i hi
    rw [hv] at xi zi
    rw [zn_val] at zi
    simp only at xi zi
    have hi' : (i : Int) < (W.length : Int) := by omega
    have em : mostF c ((z, n) :: rest) = mostF (if z.ov then c else max c n) rest := rfl
    rw [em]
    cases hov : z.ov
    · rw [hov] at zi
      have ih := ih (max c n) trivial
      simp -implicitDefEqProofs [k19_4, plO] at ih
      simp -implicitDefEqProofs [r19_4, k19_4, hi, hi', ln, xi, zi, max_int, plO, hw, trim_le]
      exact ih
    · rw [hov] at zi
      have ih := ih c trivial
      simp -implicitDefEqProofs [k19_4, plO] at ih
      simp -implicitDefEqProofs [r19_4, k19_4, hi, hi', ln, zi, plO, hw, trim_le]
      exact ih
end Go.Proofs.Ytimjfondgdhfcaa.Bm
namespace Go.Proofs.Ytimjfondgdhfcaa.Bm
open Go Go.RowKit
open Rg (Rect Pt Zn rightP polyL comA comP comS Once cell areaL ovF)
theorem form_head {A B : List Rect} (ra : regB A = true) (rb : regB B = true) : (refL andF A B = [] ∧ ¬ 0 < comA A B) ∨ ∃ r l, refL andF A B = r :: l ∧ 0 < comA A B ∧ (r.x0, r.y0) = comP A B (1048576, 0) := by
  obtain ⟨h1, h2⟩ := refL_ok andF rfl (fun r hr => ((reg_form ra).pos r hr).2) (fun r hr => ((reg_form rb).pos r hr).2)
  have hp := Rg.com_pos (reg_box ra) (reg_box rb)
  have e : ∀ x y, cell (refL andF A B) x y = (cell A x y && cell B x y) := h2
  cases hF : refL andF A B with
  | nil =>
    refine .inl ⟨rfl, fun h => ?_⟩
    obtain ⟨x, y, hxy⟩ := hp.1 h
    rw [← e, hF] at hxy
    exact absurd hxy Bool.false_ne_true
  | cons r l =>
    rw [hF] at h1 e
    have hl := Rg.form_least h1
    have hx : ∃ x y, (cell A x y && cell B x y) = true := ⟨_, _, by rw [← e]; exact hl.has⟩
    exact .inr ⟨r, l, rfl, hp.2 hx, (hl.congr e).uniq (Rg.com_least (reg_box ra) hx)⟩
theorem reg_pos {a : List Rect} (h : regB a = true) : ∀ r ∈ a, r.y0 < r.y1 := fun r hr => ((reg_form h).pos r hr).2
theorem reg_le {a : List Rect} (h : regB a = true) : a.length ≤ 500 := by have := (reg_ok h).2; omega
theorem form_pair (z w : Zn) (h : Heap) (lo : Nat) (hlo : lo ≤ h.length) : retCall E (L E) lo false 22 [rectR.o (kR (polyX z.cs)) (cellsZ z), rectR.o (kR (polyX w.cs)) (cellsZ w), .int .i64 1] h = some (rectR.sl h.length (refL andF (cellsZ z) (cellsZ w)), h ++ [rectR.row 55 (refL andF (cellsZ z) (cellsZ w))]) :=
  form_spec _ _ _ _ 1 andF (.inr (.inl ⟨rfl, rfl⟩)) (kR_ok _) (kR_ok _) (reg_le (cellsZ_reg z)) (reg_le (cellsZ_reg w)) (reg_pos (cellsZ_reg z)) (reg_pos (cellsZ_reg w)) h lo hlo
structure Rep (zs : List Zn) (LV : Value) (fnd : Bool) (at_ : Pt) : Prop where
  is : (ovF 0 (allL zs)).isSome = fnd
  no : fnd = false → LV = .slice none 0 0 ∧ at_ = (0, 0)
  yes : fnd = true → ∃ a b : Nat, ∃ hb : b < zs.length, ∃ hab : a < b, LV = lst true [.int .i64 (a : Int), .int .i64 (b : Int)] ∧ 0 < comA (cellsZ (zs[a]'(by omega))) (cellsZ zs[b])
  pair : ∀ i k (hk : k < zs.length) (hik : i < k), (zs[i]'(by omega)).ov = false → zs[k].ov = false → 0 < comA (cellsZ (zs[i]'(by omega))) (cellsZ zs[k]) → fnd = true ∧ ∃ a b : Nat, LV = lst true [.int .i64 (a : Int), .int .i64 (b : Int)] ∧ ¬ i < a ∧ ¬ (i = a ∧ k < b) ∧ (i = a → k = b → at_ = comP (cellsZ (zs[i]'(by omega))) (cellsZ zs[k]) (1048576, 0))
end Go.Proofs.Ytimjfondgdhfcaa.Bm
