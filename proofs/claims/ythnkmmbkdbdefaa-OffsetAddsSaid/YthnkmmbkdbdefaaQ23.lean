/-
  Chapter 08: a form's slabs with their columns shrunk. Conditions: rectangles in bounds.
-/
import Derived.Test.YthnkmmbkdbdefaaQ22
import Derived.Test.YthnkmmbkdbdefaaQ15
namespace Go.Proofs.Ythnkmmbkdbdefaa.Bm
open Go Go.RowKit
open Rg (Rect cell growR growL gapR)

theorem max3_int (a b c : Int) : aMinMax true [.int .i64 a, .int .i64 b, .int .i64 c] = some (.int .i64 (max (max a b) c)) := by
  show some (Value.int .i64 (if c > (if b > a then b else a) then c else if b > a then b else a)) = _
  congr 2
  split <;> split <;> omega
theorem box_wrap {r : Rect} {d : Int} (hr : r.inBox 1048576) (h1 : 0 ≤ d) (h2 : d ≤ 1048576) : IntKind.i64.wrap (r.x0 - d) = r.x0 - d ∧ IntKind.i64.wrap (r.y0 - d) = r.y0 - d ∧ IntKind.i64.wrap (r.x1 + d) = r.x1 + d ∧ IntKind.i64.wrap (r.y1 + d) = r.y1 + d := by
  unfold Rect.inBox at hr
  exact ⟨wrap64 (by omega) (by omega), wrap64 (by omega) (by omega), wrap64 (by omega) (by omega), wrap64 (by omega) (by omega)⟩
theorem grow_r (r : Rect) (d : Int) (hr : okR r = true) (h1 : 0 ≤ d) (h2 : d ≤ 1048576) : pureCall E.P (L E) 27 [rectR.val r, .int .i64 d] = some (.tuple ⟨[rectR.val (growR d r), .bool true]⟩) := by
  have hb := okR_iff.1 hr
  obtain ⟨w1, w2, w3, w4⟩ := box_wrap hb h1 h2
  have hs := right_s r
  rw [hr] at hs
  have hd : ¬ (d < 0) := by omega
  have hm : min d 1048576 = d := by omega
  rw [pureCall_fn F27 rfl]
  simp -implicitDefEqProofs [r27, padS, rect_val, ret0 m46, hs, hd, min_int, max_int, hm, w1, w2, w3, w4, b4_all, growR]
theorem gaps_r (r s : Rect) (hr : okR r = true) (hs : okR s = true) : pureCall E.P (L E) 57 [rectR.val r, rectR.val s] = some (.tuple ⟨[.int .i64 (max r.x0 s.x0 - min r.x1 s.x1), .int .i64 (max r.y0 s.y0 - min r.y1 s.y1)]⟩) := by
  have hb := okR_iff.1 hr
  have hc := okR_iff.1 hs
  unfold Rect.inBox at hb hc
  have w1 : IntKind.i64.wrap (max r.x0 s.x0 - min r.x1 s.x1) = max r.x0 s.x0 - min r.x1 s.x1 := wrap64 (by omega) (by omega)
  have w2 : IntKind.i64.wrap (max r.y0 s.y0 - min r.y1 s.y1) = max r.y0 s.y0 - min r.y1 s.y1 := wrap64 (by omega) (by omega)
  rw [pureCall_fn F57 rfl]
  simp -implicitDefEqProofs [r57, padS, rect_val, min_int, max_int, w1, w2]
theorem gap_r (r s : Rect) (hr : okR r = true) (hs : okR s = true) : pureCall E.P (L E) 40 [rectR.val r, rectR.val s] = some (.int .i64 (gapR r s)) := by
  have q1 := right_s r
  have q2 := right_s s
  rw [hr] at q1
  rw [hs] at q2
  have q3 := gaps_r r s hr hs
  simp only [rect_val] at q3
  have e : gapR r s = max (max 0 (max r.x0 s.x0 - min r.x1 s.x1)) (max r.y0 s.y0 - min r.y1 s.y1) := by unfold gapR; omega
  rw [e, pureCall_fn F40 rfl]
  simp -implicitDefEqProofs [r40, padS, rect_val, ret0 m46, q1, q2, ret0 m57, q3, max3_int]
theorem valid_spec (k : Option Bool) (a : List Rect) (d : Int) (hk : Rec.Ok k a) (ha : a.length ≤ 1000000) : pureCall E.P (L E) 26 [rectR.o k a, .int .i64 d] = some (.bool (decide (0 ≤ d) && decide (d ≤ 1048576) && regB a)) := by
  have hr := right2_spec k a hk ha
  rw [pureCall_fn F26 rfl]
  by_cases h1 : 0 ≤ d
  case neg => simp -implicitDefEqProofs [r26, padS, h1]
  by_cases h2 : d ≤ 1048576
  case neg => simp -implicitDefEqProofs [r26, padS, h1, h2]
  cases h3 : regB a <;> simp -implicitDefEqProofs [r26, padS, h1, h2, ret0 m39, Rec.o_reify, hr, h3]
def validB (a : List Rect) (d : Int) : Bool := decide (0 ≤ d) && decide (d ≤ 1048576) && regB a
def growX (a : List Rect) (d : Int) : Except Int (List Rect) := if validB a d then ofR (growL d a) else .error 1
theorem growL_len (d : Int) (a : List Rect) : (growL d a).length = a.length := List.length_map _
theorem grow_spec (k : Option Bool) (a : List Rect) (d : Int) (hk : Rec.Ok k a) (ha : a.length ≤ 1000000) : pureCall E.P (L E) 11 [rectR.o k a, .int .i64 d] = some (resL (growX a d)) := by
  have hv := valid_spec k a d hk ha
  change pureCall _ _ _ _ = some (.bool (validB a d)) at hv
  rw [pureCall_fn F11 rfl]
  unfold growX
  cases h0 : validB a d
  · simp -implicitDefEqProofs [r11, p11, ret0 m26, Rec.o_reify, hv, h0, resL]
  have hvb := h0
  unfold validB at hvb
  simp only [Bool.and_eq_true, decide_eq_true_eq] at hvb
  obtain ⟨⟨h1, h2⟩, h3⟩ := hvb
  obtain ⟨g1, g2, _⟩ := regB_iff.1 h3
  have hok : ∀ r ∈ a, okR r = true := List.all_eq_true.1 g1
  simp -implicitDefEqProofs [r11, p11, ret0 m26, Rec.o_reify, hv, h0, Rec.o_len hk, prep_new, newK_nil s32]
  rw [LL_for (γ := List Rect) a [] (fun i c => [(6, rectR.sl 0 c), (17, .int .i64 i)]) (fun _ c => [rectR.row 39 c])
    (fun _ rest c => (.exit 0, [(6, rectR.sl 0 (c ++ growL d rest)), (17, undef)], [rectR.row 39 (c ++ growL d rest)])) (fun i c => c.length = i) (by omega) rfl]
  · rw [List.nil_append]
    have fz := Rec.freeze_row (R := rectR) (P := E.P) (h := [rectR.row 39 (growL d a)]) (lo := 0) (b := 0) (t := 39) (l := growL d a) rfl s32 a32 (Nat.le_refl _)
    have hf := frzAll_row fz
    generalize (if (growL d a).length = 0 then _ else _) = fh at hf
    have ho := of_spec (some false) (growL d a) Rec.ok_some (by rw [growL_len]; omega)
    rw [show rectR.o (some false) (growL d a) = lst false (rectR.vals (growL d a)) from rfl] at ho
    cases hx : ofR (growL d a) with
    | error e =>
      rw [hx] at ho
      simp only [resL] at ho
      simp -implicitDefEqProofs [k11_5, ret4 m28, hf, ho, resL]
    | ok m =>
      rw [hx] at ho
      simp only [resL] at ho
      simp -implicitDefEqProofs [k11_5, ret4 m28, hf, ho, resL]
  · simp -implicitDefEqProofs [k11_5, Rec.sl_nil]
  · rfl
  · intro nx i c hi _
    simp -implicitDefEqProofs [r11_5, k11_5, hi, Rec.o_len hk, trim_le, growL]
  · intro nx i r rest c hi hv hd hw hc ih
    have ixi := Rec.o_index (R := rectR) (t := 39) (kk := .i64) (s := 4) rfl hk hi
    rw [hv] at ixi
    have gr := grow_r r d (hok r (by rw [← hv]; exact List.getElem_mem hi)) h1 h2
    have ap := fun q q' => app_rect (h := [rectR.row 39 c, q, q']) (b := 0) (lo := 0) (c := c) (growR d r) rfl (Nat.le_refl _) (by omega)
    have ih := ih (c ++ [growR d r]) (by simp; omega)
    have eg : growL d (r :: rest) = [growR d r] ++ growL d rest := rfl
    rw [eg, ← List.append_assoc]
    generalize growR d r = g at *
    simp only [rect_val] at gr
    simp -implicitDefEqProofs [k11_5, -List.append_assoc] at ih
    simp -implicitDefEqProofs [r11_5, k11_5, hi, ixi, Rec.o_len hk, rect_val, ret0 m27, gr, lit_rect, ap, hw, trim_cut, Rec.sl_bel, Rec.row_bel, Rec.o_bel, -List.append_assoc]
    exact ih
end Go.Proofs.Ythnkmmbkdbdefaa.Bm

namespace Go.Proofs.Ythnkmmbkdbdefaa.Bm
open Go Go.RowKit
open Rg (Rect Slab comC comI comI_cons)

theorem so58 : szOf E.P 58 = some 2 := by kernel_rfl
theorem ao58 : aggT E.P 58 = some true := by kernel_rfl
theorem lit_ospan (h : Heap) (a b : Int) : buildSliceT (some ⟨58, 2, 16, .agg ⟨[.int .i64 0, .int .i64 0]⟩, ⟨some true, some 2⟩⟩) false h 1 #[(0, .agg ⟨[.int .i64 a, .int .i64 b]⟩)] = some (lst true [.agg ⟨[.int .i64 a, .int .i64 b]⟩], h) :=
  (build_lit' (n := 1) (l := [(0, .agg ⟨[.int .i64 a, .int .i64 b]⟩)]) rfl rfl (by decide) (by decide) (by decide)).trans rfl
theorem app_ospan {h : Heap} {b lo : Nat} {c : List (Int × Int)} (u v : Int) (hob : h[b]? = some (spanR.row 58 c)) (hlo : lo ≤ b) (hc : c.length ≤ 100000000) :
    appendT (some ⟨58, 2, 16, .agg ⟨[.int .i64 0, .int .i64 0]⟩, ⟨some true, some 2⟩⟩) h lo false (spanR.sl b c) (lst true [.agg ⟨[.int .i64 u, .int .i64 v]⟩]) = some (spanR.sl b (c ++ [(u, v)]), h.set b (spanR.row 58 (c ++ [(u, v)]))) :=
  Rec.app (R := spanR) (m := [(u, v)]) rfl hob (Rec.cells_tree (R := spanR) rfl [(u, v)]) hlo (by show (c.length + 1) * 16 ≤ 2 ^ 47; omega)
theorem comI_len (s : Int × Int) (b : List (Int × Int)) : (comI s b).length ≤ b.length := List.length_filterMap_le _ _

set_option maxHeartbeats 1000000 in
theorem common_cols (k m : Option Bool) (a b : List (Int × Int)) (hk : Rec.Ok k a) (hm : Rec.Ok m b) (ha : a.length ≤ 1000) (hb : b.length ≤ 1000) : pureCall E.P (L E) 55 [spanR.o k a, spanR.o m b] = some (lst false (spanR.vals (comC a b))) := by
  rw [pureCall_fn F55 rfl]
  simp -implicitDefEqProofs [r55, p55, prep_new, newK_nil so58, Rec.o_len hk]
  rw [LL_for (γ := List (Int × Int)) a [] (fun i c => [(5, spanR.sl 0 c), (13, .int .i64 i)]) (fun _ c => [spanR.row 58 c])
    (fun _ rest c => (.exit 0, [(5, spanR.sl 0 (c ++ comC rest b)), (13, undef)], [spanR.row 58 (c ++ comC rest b)])) (fun i c => c.length ≤ i * 1000) (by omega) (Nat.zero_le _)]
  · have rr := Rec.reifyR_row (R := spanR) (P := E.P) (h := [spanR.row 58 (comC a b)]) (b := 0) (t := 58) (l := comC a b) rfl so58 ao58
    simp -implicitDefEqProofs [k55_3, rr]
  · simp -implicitDefEqProofs [k55_3, Rec.sl_nil]
  · rfl
  · intro nx i c hi _
    simp -implicitDefEqProofs [r55_3, k55_3, hi, Rec.o_len hk, trim_le, comC]
  · intro nx i s rest c hi hv hd hw hc ih
    have ixi := Rec.o_index (R := spanR) (t := 58) (kk := .i64) (s := 2) rfl hk hi
    rw [hv] at ixi
    have hcl := comI_len s b
    have ih := ih (c ++ comI s b) (by rw [List.length_append]; omega)
    have ec : comC (s :: rest) b = comI s b ++ comC rest b := rfl
    rw [ec, ← List.append_assoc]
    simp -implicitDefEqProofs [k55_3, -List.append_assoc] at ih
    simp -implicitDefEqProofs [r55_3, k55_3, hi, ixi, Rec.o_len hk, Rec.o_len hm, span_val, -List.append_assoc]
    rw [LL_for (γ := List (Int × Int)) b c (fun j o => [(5, spanR.sl 0 o), (19, .int .i64 j)]) (fun _ o => [spanR.row 58 o, .cells 58 [.int .i64 s.1, .int .i64 s.2] 0])
      (fun _ rest o => (.exit 2, [(5, spanR.sl 0 (o ++ comI s rest)), (19, undef)], [spanR.row 58 (o ++ comI s rest), .cells 58 [.int .i64 s.1, .int .i64 s.2] 0])) (fun j o => o.length ≤ c.length + j) (by omega) (Nat.le_refl _)]
    · simp -implicitDefEqProofs [k55_6, hw, trim_cut, Rec.sl_bel, Rec.row_bel, Rec.o_bel, -List.append_assoc]
      exact ih
    · simp -implicitDefEqProofs [k55_6]
    · rfl
    · intro nx j o hj _
      have e0 : comI s [] = [] := rfl
      simp -implicitDefEqProofs [r55_6, k55_6, hj, Rec.o_len hm, e0, trim_le]
    · intro nx j u rest' o hj hv' hd' hw' ho ih
      have ixj := Rec.o_index (R := spanR) (t := 58) (kk := .i64) (s := 2) rfl hm hj
      rw [hv'] at ixj
      rw [comI_cons]
      by_cases hlt : max s.1 u.1 < min s.2 u.2
      · have ap := fun q q' q'' => app_ospan (h := [spanR.row 58 o, q, q', q'']) (b := 0) (lo := 0) (c := o) (max s.1 u.1) (min s.2 u.2) rfl (Nat.le_refl _) (by omega)
        have ih := ih (o ++ [(max s.1 u.1, min s.2 u.2)]) (by simp; omega)
        rw [if_pos hlt, ← List.append_assoc]
        simp -implicitDefEqProofs [k55_6, -List.append_assoc] at ih
        simp -implicitDefEqProofs [r55_6, k55_6, hj, ixj, Rec.o_len hm, span_val, max_int, min_int, b2_all, hlt, hw', lit_ospan, ap, trim_cut, Rec.sl_bel, Rec.row_bel, Rec.o_bel, -List.append_assoc]
        exact ih
      · have ih := ih o (by omega)
        rw [if_neg hlt, List.nil_append]
        simp -implicitDefEqProofs [k55_6] at ih
        simp -implicitDefEqProofs [r55_6, k55_6, hj, ixj, Rec.o_len hm, span_val, max_int, min_int, b2_all, hlt, hw', trim_cut, Rec.sl_bel, Rec.row_bel, Rec.o_bel]
        exact ih

/-! ### The window -/
def kc (c : List (Int × Int)) : Option Bool := if c = [] then none else some false
theorem kc_ok (c : List (Int × Int)) : Rec.Ok (kc c) c := fun h => by
  unfold kc at h
  split at h
  · assumption
  · cases h
def ocol (c : List (Int × Int)) : Value := spanR.o (kc c) c
theorem ocol_set {c : List (Int × Int)} {n : Nat} : settled (n + 1) (ocol c) = true := Rec.o_set
theorem ocol_bel {c : List (Int × Int)} {d n : Nat} : below (d + 1) n (ocol c) = true := Rec.o_bel
def oslabR : Rec Slab where
  enc s := [.int .i64 s.x0, .int .i64 s.x1, ocol s.col]
  m := 2
  len _ := rfl
  set s := by
    unfold ocol kc
    split <;> rfl
  bel s n := by
    unfold ocol kc
    split <;> rfl
theorem oslab_val {s : Slab} : oslabR.val s = .agg ⟨[.int .i64 s.x0, .int .i64 s.x1, ocol s.col]⟩ := rfl
theorem so52 : szOf E.P 52 = some 3 := by kernel_rfl
theorem ao52 : aggT E.P 52 = some true := by kernel_rfl
def wH (x d : Int) (w : Rg.Win) (k : Option Bool) : Heap := [.cells 3 [.int .i64 x] 0, .cells 3 [.int .i64 d] 0, .cells 3 [.int .i64 w.next] 0, .cells 4 [.bool w.gap] 0, .cells 4 [.bool w.first] 0, .cells 50 [spanR.o k w.out] 0]
def wP (b : Nat) : Value := .pointer (some ⟨b, 0, none⟩)
def wk (x d : Int) (w : Rg.Win) (k : Option Bool) (s : Slab) : Option Bool :=
  if w.gap = true ∨ s.x1 ≤ w.next ∨ x + d < s.x0 then k
  else if w.next < s.x0 then k
  else if w.first = true then kc s.col
  else some false
theorem isCp_cptr {v : Value} : isCp (cptr v) = true := rfl
theorem rop_loadT {E : Env} {C : Callee} {lo : Nat} {ρ : Operand → Value} {h : Heap} {k : TI} {x : Operand} : ropR E C lo true (.load k x) ρ h = if isCp (ρ x) = true then (loadT k h (ρ x)).map (·, h) else none := by
  show (if (true && !isCp (ρ x)) = true then none else (loadT k h (ρ x)).map (·, h)) = _
  cases isCp (ρ x) <;> rfl
theorem win1 (x d : Int) (w : Rg.Win) (k : Option Bool) (s : Slab) (q : AObj) (hw : IntKind.i64.wrap (x + d) = x + d) (hk : Rec.Ok k w.out) (ho : w.out.length ≤ 1000) (hs : s.col.length ≤ 1000) :
    ∃ z, L E 54 [oslabR.val s, wP 3, wP 2, wP 0, wP 1, wP 4, wP 5] (wH x d w k ++ [q]) 0 = some (.tuple #[], wH x d (Rg.wstep x d w s) (wk x d w k s) ++ [q, z]) := by
  obtain ⟨next, gap, first, out⟩ := w
  simp only at hk ho
  have hcm := common_cols k (kc s.col) out s.col hk (kc_ok _) ho hs
  change pureCall _ _ _ [_, ocol s.col] = _ at hcm
  have ofit : ∀ {sz : Option Nat} c, fitsTT ⟨some false, sz⟩ (ocol c) = true := fun c => Rec.o_fits
  have ocells : ∀ c, cellsOf (ocol c) = some [ocol c] := fun c => Rec.o_cellsOf
  have eoc : ∀ c, spanR.o (kc c) c = ocol c := fun _ => rfl
  have eo : ∀ l, spanR.o (some false) l = lst false (spanR.vals l) := fun _ => rfl
  have so1 : settled depth (spanR.o k out) = true := Rec.o_set
  have so2 : settled depth (ocol s.col) = true := ocol_set
  rw [L_fn F54 rfl]
  unfold Rg.wstep wk wH wP
  simp only
  have hc3 : ([Value.int .i64 s.x0, Value.int .i64 s.x1, ocol s.col] : List Value).all (settled 8) = true := oslabR.set s
  have fz := frz_ptr8 (P := E.P) (lo := 0) (h := [.cells 3 [.int .i64 x] 0, .cells 3 [.int .i64 d] 0, .cells 3 [.int .i64 next] 0, .cells 4 [.bool false] 0, .cells 4 [.bool true] 0, .cells 50 [spanR.o k out] 0, q, .cells 52 [.int .i64 s.x0, .int .i64 s.x1, ocol s.col] 0]) (b := 7) (t := 52) (c := [.int .i64 s.x0, .int .i64 s.x1, ocol s.col]) rfl so52 ao52 (Nat.zero_le _)
  rw [if_pos hc3] at fz
  simp only [Option.map_some] at fz
  cases gap
  case true => exact ⟨.cells 52 [.int .i64 s.x0, .int .i64 s.x1, ocol s.col] 0, by simp -implicitDefEqProofs [r54, padS, oslab_val]⟩
  by_cases c1 : s.x1 ≤ next
  · exact ⟨.cells 52 [.int .i64 s.x0, .int .i64 s.x1, ocol s.col] 0, by simp -implicitDefEqProofs [r54, padS, oslab_val, c1]⟩
  by_cases c2 : x + d < s.x0
  · exact ⟨.cells 52 [.int .i64 s.x0, .int .i64 s.x1, ocol s.col] 0, by simp -implicitDefEqProofs [r54, padS, oslab_val, c1, c2, hw]⟩
  by_cases c3 : next < s.x0
  · exact ⟨.cells 52 [.int .i64 s.x0, .int .i64 s.x1, ocol s.col] 0, by simp -implicitDefEqProofs [r54, padS, oslab_val, c1, c2, c3, hw]⟩
  cases first
  · refine ⟨.cells 52 [.int .i64 s.x0, .int .i64 s.x1, ocol s.col] 0, ?_⟩
    simp -implicitDefEqProofs [r54, padS, oslab_val, c1, c2, c3, hw, ret1 m55, so1, so2, hcm, eo]
  · refine ⟨.dead, ?_⟩
    simp -implicitDefEqProofs [r54, padS, oslab_val, c1, c2, c3, hw, prep_frz, prep_still, fz, rop_loadT, isCp_cptr, eoc, ofit, ocells]

/-- The window's states. -/
def wF (x d : Int) (c : Rg.Win × Option Bool) (s : Slab) : Rg.Win × Option Bool := (Rg.wstep x d c.1 s, wk x d c.1 c.2 s)
theorem wF_fst (x d : Int) : ∀ (T : List Slab) (c : Rg.Win × Option Bool), (T.foldl (wF x d) c).1 = T.foldl (Rg.wstep x d) c.1
  | [], _ => rfl
  | s :: T, c => by rw [List.foldl_cons, List.foldl_cons, wF_fst x d T]; rfl
theorem asc_len : ∀ {L M : List Int}, L.Pairwise (· < ·) → M.Pairwise (· < ·) → (∀ z ∈ L, z ∈ M) → L.length ≤ M.length
  | [], _, _, _, _ => Nat.zero_le _
  | z :: L, [], _, _, h => absurd (h z (by simp)) List.not_mem_nil
  | z :: L, m :: M, hL, hM, h => by
    rw [List.pairwise_cons] at hL hM
    by_cases e : z = m
    · have := asc_len hL.2 hM.2 fun y hy => by
        rcases List.mem_cons.1 (h y (by simp [hy])) with h1 | h1
        · have h2 := hL.1 y hy; omega
        · exact h1
      simpa using this
    · have hz : z ∈ M := (List.mem_cons.1 (h z (by simp))).resolve_left e
      have hzm := hM.1 z hz
      have := asc_len (L := z :: L) (List.pairwise_cons.2 hL) hM.2 fun y hy => by
        rcases List.mem_cons.1 (h y hy) with h1 | h1
        · rcases List.mem_cons.1 hy with h2 | h2
          · exact absurd (h2 ▸ h1) e
          · have := hL.1 y h2; omega
        · exact h1
      exact Nat.le_succ_of_le this
theorem canS_starts : ∀ {c : List (Int × Int)} {b : Int}, Rg.canS b c → (c.map (·.1)).Pairwise (· < ·) ∧ ∀ z ∈ c.map (·.1), b < z
  | [], _, _ => ⟨.nil, fun z hz => absurd hz List.not_mem_nil⟩
  | (f, t) :: c, b, h => by
    obtain ⟨i1, i2⟩ := canS_starts h.2.2
    have h1 := h.1
    have h2 := h.2.1
    refine ⟨List.pairwise_cons.2 ⟨fun z hz => by have := i2 z hz; show f < z; omega, i1⟩, fun z hz => ?_⟩
    rcases List.mem_cons.1 hz with rfl | hz
    · exact h1
    · have := i2 z hz; omega
theorem comC_len {a b : List (Int × Int)} (ha : Rg.Can a) (hb : Rg.Can b) : (comC a b).length ≤ a.length + b.length := by
  obtain ⟨m, hm⟩ := ha.canS
  obtain ⟨n, hn⟩ := hb.canS
  have h1 := (canS_starts (Rg.comC_can hm hn)).1
  have h2 := asc_len h1 (Rg.sortU_asc (a.map (·.1) ++ b.map (·.1))) fun z hz => by
    rw [Rg.sortU_mem, List.mem_append]
    obtain ⟨s, hs, rfl⟩ := List.mem_map.1 hz
    obtain ⟨u, hu, hs⟩ := List.mem_flatMap.1 hs
    obtain ⟨v, hv, e⟩ := List.mem_filterMap.1 hs
    split at e
    · cases e
      rcases Int.le_total u.1 v.1 with q | q
      · exact .inr (List.mem_map.2 ⟨v, hv, by show v.1 = max u.1 v.1; omega⟩)
      · exact .inl (List.mem_map.2 ⟨u, hu, by show u.1 = max u.1 v.1; omega⟩)
    · cases e
  have h3 := sortU_len (a.map (·.1) ++ b.map (·.1))
  simp only [List.length_map, List.length_append] at h2 h3
  omega
theorem wF_ok (x d : Int) (c : Rg.Win × Option Bool) (s : Slab) (h : Rec.Ok c.2 c.1.out) : Rec.Ok (wF x d c s).2 (wF x d c s).1.out := by
  obtain ⟨⟨next, gap, first, out⟩, k⟩ := c
  unfold wF wk Rg.wstep
  simp only at h ⊢
  split
  · exact h
  · split
    · exact h
    · split
      · exact kc_ok _
      · exact Rec.ok_some
theorem wF_len (x d : Int) (c : Rg.Win × Option Bool) (s : Slab) (hc : Rg.Can c.1.out) (hs : Rg.Can s.col) : Rg.Can (wF x d c s).1.out ∧ (wF x d c s).1.out.length ≤ c.1.out.length + s.col.length := by
  obtain ⟨⟨next, gap, first, out⟩, k⟩ := c
  unfold wF Rg.wstep
  simp only at hc ⊢
  split
  · exact ⟨hc, by simp only; omega⟩
  · split
    · exact ⟨hc, by simp only; omega⟩
    · split
      · exact ⟨hs, by simp only; omega⟩
      · obtain ⟨m, hm⟩ := hc.canS
        obtain ⟨n, hn⟩ := hs.canS
        exact ⟨Rg.Can.of (Rg.comC_can hm hn), comC_len hc hs⟩

theorem window_spec (T : List Slab) (x d : Int) (hT : T.length ≤ 1000) (hl : Rg.sumL (fun s => s.col.length) T ≤ 900) (hc : ∀ s ∈ T, Rg.Can s.col) (w1 : IntKind.i64.wrap (x + d) = x + d) (w2 : IntKind.i64.wrap (x - d) = x - d) :
    ∃ k, Rec.Ok k (Rg.winC T x d) ∧ pureCall E.P (L E) 35 [lst false (oslabR.vals T), .int .i64 x, .int .i64 d] = some (spanR.o k (Rg.winC T x d)) := by
  have ix : ∀ (i : Nat) (hi : i < T.length), indexAddrT (.sl 52 ⟨some true, some 3⟩) (lst false (oslabR.vals T)) (.int .i64 (i : Int)) = some (cptr (oslabR.val T[i])) := fun i hi => Rec.index_tree rfl hi
  have hwc : Rg.winC T x d = if (T.foldl (wF x d) (⟨x - d, false, true, []⟩, none)).1.gap = true ∨ (T.foldl (wF x d) (⟨x - d, false, true, []⟩, none)).1.next ≤ x + d then [] else (T.foldl (wF x d) (⟨x - d, false, true, []⟩, none)).1.out := by
    unfold Rg.winC
    rw [wF_fst]
  rw [hwc]
  have zs : (E.P.info? 50).bind (·.zero) = some (.slice none 0 0) := by kernel_rfl
  rw [pureCall_fn F35 rfl]
  simp -implicitDefEqProofs [r35, p35, w2, Rec.vals_len]
  generalize hw0 : ((⟨x - d, false, true, []⟩, none) : Rg.Win × Option Bool) = c0
  have heap0 : [AObj.cells 3 [.int .i64 x] 0, .cells 3 [.int .i64 d] 0, .cells 3 [.int .i64 (x - d)] 0, .cells 4 [.bool false] 0, .cells 4 [.bool true] 0, .cells 50 [.slice none 0 0] 0] = wH x d c0.1 c0.2 := by rw [← hw0]; rfl
  have inv0 : Rec.Ok c0.2 c0.1.out ∧ Rg.Can c0.1.out ∧ c0.1.out.length ≤ Rg.sumL (fun s => s.col.length) (T.take 0) := by rw [← hw0]; exact ⟨fun _ => rfl, trivial, Nat.zero_le _⟩
  rw [heap0]
  have sumT : ∀ i, Rg.sumL (fun s => s.col.length) (T.take i) ≤ Rg.sumL (fun s => s.col.length) T := fun i => by
    have : ∀ (l m : List Slab), Rg.sumL (fun s => s.col.length) (l ++ m) = Rg.sumL (fun s => s.col.length) l + Rg.sumL (fun s => s.col.length) m := by
      intro l m
      induction l with
      | nil => simp [Rg.sumL]
      | cons a l ih => show a.col.length + Rg.sumL _ (l ++ m) = a.col.length + Rg.sumL _ l + _; rw [ih]; omega
    have e := this (T.take i) (T.drop i)
    rw [List.take_append_drop] at e
    omega
  have sumS : ∀ i (hi : i < T.length), Rg.sumL (fun s => s.col.length) (T.take (i + 1)) = Rg.sumL (fun s => s.col.length) (T.take i) + T[i].col.length := fun i hi => by
    rw [List.take_succ_eq_append_getElem hi]
    generalize T.take i = l
    induction l with
    | nil => simp [Rg.sumL]
    | cons a l ih => show a.col.length + Rg.sumL _ (l ++ _) = a.col.length + Rg.sumL _ l + _; rw [ih]; omega
  refine ⟨if (T.foldl (wF x d) c0).1.gap = true ∨ (T.foldl (wF x d) c0).1.next ≤ x + d then none else (T.foldl (wF x d) c0).2, ?_, ?_⟩
  · split
    · exact fun _ => rfl
    · have key : ∀ (T : List Slab) (c : Rg.Win × Option Bool), Rec.Ok c.2 c.1.out → Rec.Ok (T.foldl (wF x d) c).2 (T.foldl (wF x d) c).1.out := by
        intro T
        induction T with
        | nil => intro c h; exact h
        | cons s T ih => intro c h; exact ih _ (wF_ok x d c s h)
      exact key T c0 inv0.1
  rw [LL_for (γ := Rg.Win × Option Bool) T c0 (fun i _ => [(20, .int .i64 i)]) (fun _ c => wH x d c.1 c.2)
    (fun _ rest c => (.exit 0, [(20, undef)], wH x d (rest.foldl (wF x d) c).1 (rest.foldl (wF x d) c).2)) (fun i c => Rec.Ok c.2 c.1.out ∧ Rg.Can c.1.out ∧ c.1.out.length ≤ Rg.sumL (fun s => s.col.length) (T.take i)) (by omega) inv0]
  · generalize T.foldl (wF x d) c0 = c
    obtain ⟨⟨next, gap, first, out⟩, k⟩ := c
    unfold wH
    simp only
    cases gap
    · by_cases hn : next ≤ x + d
      · simp -implicitDefEqProofs [k35_5, w1, hn, Rec.o]
      · simp -implicitDefEqProofs [k35_5, w1, hn, Rec.o_reifyR]
    · simp -implicitDefEqProofs [k35_5, Rec.o]
  · simp -implicitDefEqProofs [k35_5]
  · rfl
  · intro nx i c hi _
    simp -implicitDefEqProofs [r35_5, k35_5, hi, Rec.vals_len, trim_le]
  · intro nx i s rest c hi hv hd hw hI ih
    obtain ⟨I1, I2, I3⟩ := hI
    have hsum := sumT (i + 1)
    have hss := sumS i hi
    rw [hv] at hss
    have hcs : Rg.Can s.col := hc s (by rw [← hv]; exact List.getElem_mem hi)
    obtain ⟨z, hz⟩ := win1 x d c.1 c.2 s (.cells 52 [.int .i64 s.x0, .int .i64 s.x1, ocol s.col] 0) w1 I1 (by omega) (by omega)
    obtain ⟨l1, l2⟩ := wF_len x d c s I2 hcs
    have ih := ih (wF x d c s) ⟨wF_ok x d c s I1, l1, by omega⟩
    have ixi := ix i hi
    rw [hv, oslab_val] at ixi
    rw [oslab_val] at hz
    rw [List.foldl_cons]
    have ocells : ∀ c, cellsOf (ocol c) = some [ocol c] := fun c => Rec.o_cellsOf
    have hz2 : L E 54 [.agg #[.int .i64 s.x0, .int .i64 s.x1, ocol s.col], .pointer (some ⟨3, 0, none⟩), .pointer (some ⟨2, 0, none⟩), .pointer (some ⟨0, 0, none⟩), .pointer (some ⟨1, 0, none⟩), .pointer (some ⟨4, 0, none⟩), .pointer (some ⟨5, 0, none⟩)] (wH x d c.1 c.2 ++ [.cells 52 [.int .i64 s.x0, .int .i64 s.x1, ocol s.col] 0]) 0 =
      some (.tuple #[], wH x d (wF x d c s).1 (wF x d c s).2 ++ [.cells 52 [.int .i64 s.x0, .int .i64 s.x1, ocol s.col] 0, z]) := hz
    have hl : ∀ w k, (wH x d w k).length = 6 := fun _ _ => rfl
    have tk : ∀ w k q z, (wH x d w k ++ [q, z]).take 6 = wH x d w k := fun _ _ _ _ => rfl
    have bl : ∀ w k, (wH x d w k).all (belowO 6) = true := fun w k => by
      unfold wH
      simp only [List.all_cons, List.all_nil, belO_cells, bel_int, bel_bool, Rec.o_bel, Bool.and_self]
    generalize wF x d c s = c' at ih hz2 ⊢
    obtain ⟨w', k'⟩ := c'
    obtain ⟨w, k⟩ := c
    simp only at hz2 ih ⊢
    simp -implicitDefEqProofs [k35_5] at ih
    simp -implicitDefEqProofs [r35_5, k35_5, hi, ixi, Rec.vals_len, ret2 m54, hl, hz2, hw, trim_cut, tk, bl, -List.all_eq_true]
    exact ih
end Go.Proofs.Ythnkmmbkdbdefaa.Bm

namespace Go.Proofs.Ythnkmmbkdbdefaa.Bm
open Go Go.RowKit

/-- How records are laid. -/
structure Lay (α : Type) where
  enc : α → List Value
  m : Nat
  len : ∀ a, (enc a).length = m + 1
namespace Lay
variable {α : Type} (R : Lay α)
def flat (l : List α) : List Value := l.flatMap R.enc
def row (t : TypeId) (l : List α) : AObj := .cells t (R.flat l) (R.m + 1)
/-- A slice of the whole row. -/
def sl (b : Nat) (l : List α) : Value := .slice (some ⟨b, 0, some (l.length * (R.m + 1))⟩) l.length l.length
variable {R}
theorem flat_len : ∀ {l : List α}, (R.flat l).length = l.length * (R.m + 1)
  | [] => by simp [flat]
  | a :: l => by
    have := flat_len (l := l)
    show (R.enc a ++ R.flat l).length = (l.length + 1) * (R.m + 1)
    rw [List.length_append, R.len, this, Nat.add_mul]; omega
theorem flat_app {l m : List α} : R.flat (l ++ m) = R.flat l ++ R.flat m := List.flatMap_append
theorem flat_one {a : α} : R.flat [a] = R.enc a := by simp [flat]
theorem sl_bel {n d b : Nat} {l : List α} (h : b < n) : below (d + 1) n (R.sl b l) = true := decide_eq_true h
theorem sl_len {h : Heap} {b : Nat} {l : List α} : lenT .sl h (R.sl b l) = some (.int .i64 l.length) := rfl
theorem sl_nil {b : Nat} : R.sl b [] = .slice (some ⟨b, 0, some 0⟩) 0 0 := by unfold sl; simp
theorem row_nil {t : TypeId} : R.row t [] = .cells t [] (R.m + 1) := rfl
theorem app {el : El} {h : Heap} {lo b : Nat} {t : TypeId} {acc m : List α} {u : Value} (hel : el.size = R.m + 1) (hob : h[b]? = some (R.row t acc)) (hu : sliceCells h el.size u = some (R.flat m, m.length)) (hlo : lo ≤ b) (hb : (acc.length + m.length) * el.bytes ≤ 2 ^ 47) :
    appendT (some el) h lo false (R.sl b acc) u = some (R.sl b (acc ++ m), h.set b (R.row t (acc ++ m))) := by
  have hob' : h[b]? = some (.cells t (R.flat acc) (R.m + 1)) := hob
  unfold sl
  rw [append_slice, hu]
  show appS el h lo false _ _ _ h[b]? _ = _
  rw [hob']
  by_cases hm : m.length = 0
  · have : m = [] := List.eq_nil_of_length_eq_zero hm
    subst this
    have hf : fitsRow h ⟨b, 0, some (acc.length * (R.m + 1))⟩ el.size = true := by
      unfold fitsRow
      show (match h[b]? with | some (.cells _ c g) => _ | _ => false) = true
      rw [hob']
      simp [stampOk, flat_len, hel]
    unfold appS
    simp only [List.append_nil, List.length_nil, Nat.add_zero, Nat.le_refl, if_true, hf, Option.bind_some]
    congr 2
    refine (List.ext_getElem? fun i => ?_)
    rw [List.getElem?_set]
    split
    · rename_i e; subst e
      split
      · exact hob
      · rename_i hlt; rw [List.getElem?_eq_none (by omega)]
    · rfl
  · refine (appS_grown (m := m.length) hm flat_len.symm rfl hel flat_len.symm hlo hb).trans ?_
    unfold row
    rw [flat_app, ← flat_app, flat_len, List.length_append]
theorem flat_drop : ∀ {l : List α} {i : Nat}, (R.flat l).drop (i * (R.m + 1)) = R.flat (l.drop i)
  | [], i => by simp [flat]
  | a :: l, 0 => by simp
  | a :: l, i + 1 => by
    have := flat_drop (l := l) (i := i)
    show (R.enc a ++ R.flat l).drop _ = R.flat (l.drop i)
    rw [← this, List.drop_append, List.drop_of_length_le (by rw [R.len, Nat.add_mul]; omega), R.len, List.nil_append]
    congr 1
    rw [Nat.add_mul]; omega
theorem flat_at {l : List α} {i : Nat} (h : i < l.length) : ((R.flat l).drop (i * (R.m + 1))).take (R.m + 1) = R.enc l[i] := by
  rw [flat_drop, List.drop_eq_getElem_cons h]
  show (R.enc l[i] ++ R.flat _).take _ = _
  rw [List.take_append, List.take_of_length_le (by rw [R.len]; exact Nat.le_refl _), R.len, Nat.sub_self, List.take_zero, List.append_nil]
theorem flat_get {l : List α} {i j : Nat} (h : i < l.length) (hj : j < R.m + 1) : (R.flat l)[i * (R.m + 1) + j]? = (R.enc l[i])[j]? := by
  rw [← flat_at h, List.getElem?_take, if_pos hj, List.getElem?_drop]
theorem in_row {l : List α} {i : Nat} (h : i < l.length) : i * (R.m + 1) + (R.m + 1) ≤ l.length * (R.m + 1) := by
  have := Nat.mul_le_mul_right (R.m + 1) (show i + 1 ≤ l.length from h)
  rw [Nat.add_mul] at this; omega
def at_ (R : Lay α) (b : Nat) (l : List α) (i j : Nat) : Value := .pointer (some ⟨b, i * (R.m + 1) + j, some (l.length * (R.m + 1))⟩)
theorem index_row {h0 : Nat} {t : TypeId} {g : Option Bool} {b : Nat} {l : List α} {i : Nat} {k : IntKind} (hk : h0 = R.m + 1) (h1 : i < l.length) : indexAddrT (.sl t ⟨g, some h0⟩) (R.sl b l) (.int k (i : Int)) = some (R.at_ b l i 0) := by
  subst hk
  unfold sl
  rw [index_slice, if_pos ⟨by omega, by omega⟩]
  simp [shift, at_]
theorem field_row {b n f : Nat} {l : List α} {i : Nat} {k : TI} {g : Option Bool} : fieldAddrT k (some (f, ⟨g, some (n + 1)⟩)) (R.at_ b l i 0) = some (R.at_ b l i f) := by
  unfold at_
  rw [fieldAddr_ptr]
  simp [shift]
theorem load_cell {h : Heap} {b j : Nat} {t : TypeId} {l : List α} {i : Nat} {sz : Option Nat} (hob : h[b]? = some (R.row t l)) (h1 : i < l.length) (hj : j < R.m + 1) : loadT ⟨some false, sz⟩ h (R.at_ b l i j) = (R.enc l[i])[j]? := by
  unfold at_
  rw [load_one]
  have e : rowOf h ⟨b, i * (R.m + 1) + j, some (l.length * (R.m + 1))⟩ = some (R.flat l) := by
    unfold rowOf
    show (match h[b]? with | some (.cells _ c g) => _ | _ => none) = _
    rw [hob]
    show (if stampOk _ (R.m + 1) (R.flat l).length = true then some (R.flat l) else none) = _
    rw [if_pos (by unfold stampOk; rw [flat_len]; simp)]
  rw [e, Option.bind_some]
  exact flat_get h1 hj
theorem flat_put {l : List α} {i j : Nat} {v : Value} {a : α} (h : i < l.length) (hj : j < R.m + 1) (he : (R.enc l[i]).set j v = R.enc a) : (R.flat l).set (i * (R.m + 1) + j) v = R.flat (l.set i a) := by
  induction l generalizing i with
  | nil => simp at h
  | cons x l ih =>
    cases i with
    | zero =>
      show (R.enc x ++ R.flat l).set _ v = R.enc a ++ R.flat l
      rw [Nat.zero_mul, Nat.zero_add, List.set_append_left _ _ (by rw [R.len]; exact hj)]
      congr 1
    | succ i =>
      have h' : i < l.length := by simpa using h
      show (R.enc x ++ R.flat l).set _ v = R.enc x ++ R.flat (l.set i a)
      rw [List.set_append_right _ _ (by rw [R.len, Nat.add_mul]; omega), R.len]
      congr 1
      rw [← ih h' he]
      congr 1
      rw [Nat.add_mul]; omega
theorem store_cell {h : Heap} {b j lo : Nat} {t : TypeId} {l : List α} {i : Nat} {v : Value} {a : α} (hv : cellsOf v = some [v]) (hob : h[b]? = some (R.row t l)) (hlo : lo ≤ b) (h1 : i < l.length) (hj : j < R.m + 1) (he : (R.enc l[i]).set j v = R.enc a) :
    storeT (some 1) h lo v (R.at_ b l i j) = some (h.set b (R.row t (l.set i a))) := by
  unfold at_
  rw [store_ptr, hv, Option.bind_some]
  have hob' : h[b]? = some (.cells t (R.flat l) (R.m + 1)) := hob
  have hin := in_row (R := R) h1
  rw [if_pos (by rfl)]
  unfold wrN
  show (match h[b]? with | some (.cells t c g) => _ | _ => none) = _
  rw [hob']
  show (if _ then _ else none) = _
  rw [if_pos ⟨hlo, by unfold stampOk; rw [flat_len]; simp, by simp, by rw [flat_len]; simp; omega⟩]
  show some (h.set b (.cells t (splice (R.flat l) (i * (R.m + 1) + j) [v]) (R.m + 1))) = _
  rw [splice_one (by rw [flat_len]; omega), flat_put h1 hj he]; rfl
end Lay
end Go.Proofs.Ythnkmmbkdbdefaa.Bm

namespace Go.Proofs.Ythnkmmbkdbdefaa.Bm
open Go Go.RowKit
open Rg (Rect Slab)

def lay3 : Lay (Int × Int × Value) where
  enc p := [.int .i64 p.1, .int .i64 p.2.1, p.2.2]
  m := 2
  len _ := rfl
def scolV (b : Nat) (c : List (Int × Int)) : Value := if c = [] then .slice none 0 0 else spanR.sl (b + 1) c
def boxO (r : Rect) : AObj := .cells 39 [.int .i64 r.x0, .int .i64 r.y0, .int .i64 r.x1, .int .i64 r.y1] 0
def sT (p : Slab × Rect) : Heap := if p.1.col = [] then [] else [boxO p.2, spanR.row 58 p.1.col]
def sH (l : List (Slab × Rect)) : Heap := l.flatMap sT
def encA : Nat → List (Slab × Rect) → List (Int × Int × Value)
  | _, [] => []
  | b, p :: l => (p.1.x0, p.1.x1, scolV b p.1.col) :: encA (b + (sT p).length) l
def HL (l : List (Slab × Rect)) : Heap := lay3.row 52 (encA 1 l) :: sH l
theorem sH_app {l m : List (Slab × Rect)} : sH (l ++ m) = sH l ++ sH m := List.flatMap_append
theorem sH_one {p : Slab × Rect} : sH [p] = sT p := by simp [sH]
theorem encA_app : ∀ {l m : List (Slab × Rect)} {b : Nat}, encA b (l ++ m) = encA b l ++ encA (b + (sH l).length) m
  | [], m, b => by simp [encA, sH]
  | p :: l, m, b => by
    show _ :: encA _ (l ++ m) = (_ :: encA _ l) ++ _
    have e : sH (p :: l) = sT p ++ sH l := rfl
    rw [encA_app, e, List.length_append, Nat.add_assoc]
    rfl
theorem encA_len : ∀ {l : List (Slab × Rect)} {b : Nat}, (encA b l).length = l.length
  | [], _ => rfl
  | p :: l, b => by show (encA _ l).length + 1 = l.length + 1; rw [encA_len]

/-! ### What is said of it at the end -/
theorem reify_cols {P : Go.Program} {n : Nat} (so : szOf P 58 = some 2) (ao : aggT P 58 = some true) {h : Heap} : ∀ (l : List (Slab × Rect)) (pre : Heap), h = pre ++ sH l → mapR P (n + 1) h (lay3.flat (encA pre.length l)) = some (oslabR.flat (l.map (·.1)))
  | [], _, _ => rfl
  | p :: l, pre, e => by
    have e1 : sH (p :: l) = sT p ++ sH l := rfl
    have ih := reify_cols (n := n) (h := h) so ao l (pre ++ sT p) (by rw [List.append_assoc, e, e1])
    rw [List.length_append] at ih
    show mapR P (n + 1) h ([.int .i64 p.1.x0, .int .i64 p.1.x1, scolV pre.length p.1.col] ++ lay3.flat (encA (pre.length + (sT p).length) l)) = some ([.int .i64 p.1.x0, .int .i64 p.1.x1, ocol p.1.col] ++ oslabR.flat (l.map (·.1)))
    have hc : reify P (n + 1) h (scolV pre.length p.1.col) = some (ocol p.1.col) := by
      unfold scolV ocol kc
      by_cases hc : p.1.col = []
      · rw [if_pos hc, if_pos hc, hc]; rfl
      · rw [if_neg hc, if_neg hc]
        refine Rec.reify_row (t := 58) ?_ so ao
        rw [e, e1, List.getElem?_append_right (by omega)]
        unfold sT
        rw [if_neg hc]
        simp
    simp only [List.cons_append, List.nil_append, mapR_cons, ih, hc]
    rfl
theorem reify_settled : ∀ (l : List (Slab × Rect)) (b : Nat), (lay3.flat (encA b l)).all (settled 8) = true → lay3.flat (encA b l) = oslabR.flat (l.map (·.1))
  | [], _, _ => rfl
  | p :: l, b, h => by
    have h : ([.int .i64 p.1.x0, .int .i64 p.1.x1, scolV b p.1.col] ++ lay3.flat (encA (b + (sT p).length) l)).all (settled 8) = true := h
    rw [List.all_append, Bool.and_eq_true] at h
    have ih := reify_settled l _ h.2
    have hc : scolV b p.1.col = ocol p.1.col := by
      have h1 := h.1
      simp only [List.all_cons, Bool.and_eq_true] at h1
      have h2 := h1.2.2.1
      unfold scolV at h2 ⊢
      unfold ocol kc
      by_cases hc : p.1.col = []
      · rw [if_pos hc, if_pos hc, hc]; rfl
      · rw [if_neg hc] at h2
        cases h2
    show [.int .i64 p.1.x0, .int .i64 p.1.x1, scolV b p.1.col] ++ lay3.flat (encA (b + (sT p).length) l) = [.int .i64 p.1.x0, .int .i64 p.1.x1, ocol p.1.col] ++ oslabR.flat (l.map (·.1))
    rw [hc, ih]
theorem reify_HL {P : Go.Program} (so : szOf P 58 = some 2) (ao : aggT P 58 = some true) (sl : szOf P 52 = some 3) (al : aggT P 52 = some true) (l : List (Slab × Rect)) : reifyR P (HL l) (lay3.sl 0 (encA 1 l)) = some (lst false (oslabR.vals (l.map (·.1)))) := by
  show reify P 8 (HL l) (lay3.sl 0 (encA 1 l)) = _
  unfold Lay.sl
  rw [reify_slice]
  by_cases h0 : (encA 1 l).length = 0
  · have : l = [] := List.eq_nil_of_length_eq_zero (by rw [← h0, encA_len])
    subst this; rfl
  · rw [if_neg h0]
    show reifyS P 7 (HL l) (some (lay3.row 52 (encA 1 l))) _ _ = _
    unfold Lay.row
    rw [reifyS_cells, sl, Option.bind_some, if_pos ⟨by unfold stampOk; rw [Lay.flat_len]; simp, by omega, by rw [Lay.flat_len]; simp [lay3]⟩]
    have e : ((lay3.flat (encA 1 l)).drop 0).take ((encA 1 l).length * 3) = lay3.flat (encA 1 l) := by rw [List.drop_zero, List.take_of_length_le (by rw [Lay.flat_len]; exact Nat.le_refl _)]
    rw [e]
    have hR : reifyC P 7 (HL l) (lay3.flat (encA 1 l)) = some (oslabR.flat (l.map (·.1))) := by
      cases hs : (lay3.flat (encA 1 l)).all (settled 8)
      · rw [reifyC_map hs]
        exact reify_cols so ao l [lay3.row 52 (encA 1 l)] rfl
      · rw [reifyC_set hs, reify_settled l 1 hs]
    rw [hR, Option.bind_some, encA_len]
    have := Rec.elems (R := oslabR) (l := l.map (·.1)) sl al
    rw [List.length_map] at this
    rw [this]; rfl
end Go.Proofs.Ythnkmmbkdbdefaa.Bm
