/-
 The reference of regions: two columns combined. Conditions: lists that are not too long.
-/
import Derived.Test.YtjkemccfcabhgaaGreatQB23
import Derived.Test.YtjkemccfcabhgaaGreatQB19
import Derived.Test.YtjkemccfcabhgaaGreatQB17
namespace Go.Proofs.YtjkemccfcabhgaaGreat.Bm
open Go Go.RowKit
open Rg (Rect Slab Pt sidesP upS hB ysP colY polyL rightP sortU stripL outT emit pairs ends in7 rows7)
set_option maxHeartbeats 4000000 in
theorem rows7_spec (x : Bool) (p : List Pt) (v : Int) (hp : p.length ≤ 1000) : pureCall E.P (L E) 66 [lst x (spanR.vals p), .int .i64 v] = some (iO (sortU (rows7 p v))) := by
 have ln : ∀ h, lenT .sl h (lst x (spanR.vals p)) = some (.int .i64 p.length) := fun h => Rec.tree_len
 have bP : ∀ d n, below (d + 1) n (lst x (spanR.vals p)) = true := fun d n => rfl
 have pix := fun j hj => pt_index x p j hj
 rw [pureCall_fn F66 rfl]
 generalize hPV : lst x (spanR.vals p) = PV at *
 have hsl := Rg.sides_len p
 have hrl : (rows7 p v).length ≤ p.length := by
  unfold rows7
  rw [List.length_map, ← hsl]
  exact List.length_filter_le _ _
 simp -implicitDefEqProofs [r66, p66, prep_new, newK_nil s3]
 rw [LL_for (γ := List Int) (sidesP p) [] (fun i c => [(5, intR.sl 0 c), (6, .int .i64 i)]) (fun _ c => [intR.row 3 c])
  (fun _ rest c => (.exit 0, [(5, intR.sl 0 (c ++ (rest.filter (in7 v)).map (fun s => s.1.2))), (6, undef)], [intR.row 3 (c ++ (rest.filter (in7 v)).map (fun s => s.1.2))])) (fun i c => c.length ≤ i) (by omega) (Nat.le_refl _)]
 ·have er : ((sidesP p).filter (in7 v)).map (fun s => s.1.2) = rows7 p v := rfl
  rw [List.nil_append, er]
  have fz := int_freezeE (h := [intR.row 3 (rows7 p v)]) (lo := 0) (b := 0) (l := rows7 p v) rfl (Nat.le_refl _)
  have so := sorted7_spec (rows7 p v) (by omega)
  generalize rows7 p v = l at *
  have rr : reifyR E.P (if l.length = 0 then [intR.row 3 l] else [intR.row 3 l].set 0 .dead) (iO (sortU l)) = some (iO (sortU l)) := iO_reifyR _ _
  generalize (if l.length = 0 then [intR.row 3 l] else [intR.row 3 l].set 0 .dead) = G at *
  simp -implicitDefEqProofs [k66_3, prep_frz, fz, ret1 m65, iT_set, so, rr]
 ·simp -implicitDefEqProofs [k66_3, Rec.sl_nil]
 ·rfl
 ·intro nx i c hi _
  rw [hsl] at hi
  simp -implicitDefEqProofs [r66_3, k66_3, hi, ln, trim_le]
 ·intro nx i s rest c hi hv hd hw hc ih
  have hip : i < p.length := by omega
  have hip' : (i : Int) < (p.length : Int) := by omega
  have hm : (i + 1) % p.length < p.length := Nat.mod_lt _ (by omega)
  have es := Rg.sides_get hip
  rw [hv] at es
  have e1 : p.getD i (0, 0) = s.1 := by rw [es, List.getD_eq_getElem?_getD, List.getElem?_eq_getElem hip]; rfl
  have e2 : p.getD ((i + 1) % p.length) (0, 0) = s.2 := by rw [es, List.getD_eq_getElem?_getD, List.getElem?_eq_getElem hm]; rfl
  have i1 := pix i hip
  have i2 := pix _ hm
  rw [e1, span_val] at i1
  rw [e2, span_val] at i2
  have wi : IntKind.i64.wrap ((i : Int) + 1) = ((i + 1 : Nat) : Int) := (wrap64 (by omega) (by omega)).trans (by omega)
  have rm := rem_nat (P := E.P) (t := 3) (m := i + 1) (n := p.length) (by omega)
  clear es e1 e2 hm
  generalize (i + 1) % p.length = j at i2 rm
  have keep : in7 v s = false → c ++ ((s :: rest).filter (in7 v)).map (fun s => s.1.2) = c ++ (rest.filter (in7 v)).map (fun s => s.1.2) := fun h => by rw [List.filter_cons_of_neg (by rw [h]; exact Bool.false_ne_true)]
  have take : in7 v s = true → c ++ ((s :: rest).filter (in7 v)).map (fun s => s.1.2) = c ++ [s.1.2] ++ (rest.filter (in7 v)).map (fun s => s.1.2) := fun h => by rw [List.filter_cons_of_pos h, List.map_cons, List.append_assoc]; rfl
  have ein : in7 v s = (decide (s.1.2 = s.2.2) && (decide (min s.1.1 s.2.1 ≤ v) && decide (v < max s.1.1 s.2.1))) := rfl
  obtain ⟨⟨a, b⟩, u, w⟩ := s
  simp only at i1 i2 ein take
  have ihc := ih c (by omega)
  have ihs := ih (c ++ [b]) (by rw [List.length_append]; show c.length + 1 ≤ _; omega)
  simp -implicitDefEqProofs [k66_3, -Int.natCast_add, -List.append_assoc] at ihc ihs
  by_cases q1 : b = w
  case neg =>
   rw [keep (by rw [ein, decide_eq_false q1]; rfl)]
   simp -implicitDefEqProofs [r66_3, k66_3, hip, hip', ln, i1, i2, wi, rm, q1, trim_cut, bP, Rec.sl_bel, Rec.row_bel, -Int.natCast_add, -List.append_assoc]
   exact ihc
  subst q1
  by_cases q2 : min a u ≤ v
  case neg =>
   rw [keep (by rw [ein, decide_eq_false q2, Bool.false_and, Bool.and_false])]
   simp -implicitDefEqProofs [r66_3, k66_3, hip, hip', ln, i1, i2, wi, rm, min_int, q2, trim_cut, bP, Rec.sl_bel, Rec.row_bel, -Int.natCast_add, -List.append_assoc]
   exact ihc
  by_cases q3 : v < max a u
  case neg =>
   rw [keep (by rw [ein, decide_eq_false q3, Bool.and_false, Bool.and_false])]
   simp -implicitDefEqProofs [r66_3, k66_3, hip, hip', ln, i1, i2, wi, rm, min_int, max_int, q2, q3, trim_cut, bP, Rec.sl_bel, Rec.row_bel, -Int.natCast_add, -List.append_assoc]
   exact ihc
  have ap := fun h (hob : h[0]? = some (intR.row 3 c)) => app_num (h := h) (b := 0) (lo := 0) (c := c) b hob (Nat.zero_le _) (by omega)
  rw [take (by rw [ein, decide_eq_true rfl, decide_eq_true q2, decide_eq_true q3]; rfl)]
  simp -implicitDefEqProofs [r66_3, k66_3, hip, hip', ln, i1, i2, wi, rm, min_int, max_int, q2, q3, lit_num, ap, trim_cut, bP, Rec.sl_bel, Rec.row_bel, -Int.natCast_add, -List.append_assoc]
  exact ihs
set_option maxHeartbeats 4000000 in
theorem region7_spec (x : Bool) (p : List Pt) (hp : p.length ≤ 1000000) : pureCall E.P (L E) 44 [lst x (spanR.vals p)] = some (resL (polyX p)) := by
 have ln : ∀ h, lenT .sl h (lst x (spanR.vals p)) = some (.int .i64 p.length) := fun h => Rec.tree_len
 have hR := right7_spec x p hp
 have rf : ∀ h, reify E.P 8 h (lst x (spanR.vals p)) = some (lst x (spanR.vals p)) := fun _ => rfl
 have sv0 : settled depth (lst x (spanR.vals p)) = true := rfl
 have bP : ∀ d n, below (d + 1) n (lst x (spanR.vals p)) = true := fun d n => rfl
 have pix : ∀ (j : Nat) (hj : j < p.length), indexAddrT (.sl 67 ⟨some true, some 2⟩) (lst x (spanR.vals p)) (.int .i64 (j : Int)) = some (cptr (spanR.val p[j])) := fun j hj => Rec.index_tree rfl hj
 have rw7 := fun v (h : p.length ≤ 1000) => rows7_spec x p v h
 rw [pureCall_fn F44 rfl]
 unfold polyX
 generalize hPV : lst x (spanR.vals p) = PV at *
 cases hr : rightP p
 ·rw [hr] at hR
  simp -implicitDefEqProofs [r44, p44, ret0 m64, rf, hR, resL]
 rw [hr] at hR
 obtain ⟨hp4, hp60⟩ := Rg.rightP_len hr
 have hpo := Rg.rightP_poly hr
 have rw7 := fun v => rw7 v (by omega)
 simp -implicitDefEqProofs [r44, p44, ret0 m64, rf, hR, prep_new, newK_nil s3]
 rw [LL_for (γ := List Int) p [] (fun i c => [(4, intR.sl 0 c), (5, .int .i64 i)]) (fun _ c => [intR.row 3 c])
  (fun _ rest c => (.exit 0, [(4, intR.sl 0 (c ++ rest.map (·.1))), (5, undef)], [intR.row 3 (c ++ rest.map (·.1))])) (fun i c => c.length = i) (by omega) rfl]
 ·rw [List.nil_append]
  have hxl : (p.map (·.1)).length = p.length := List.length_map _
  have hU : (sortU (p.map (·.1))).length ≤ p.length := by
   have := Rg.sortU_le (p.map (·.1)); omega
  have fz := int_freezeE (h := [intR.row 3 (p.map (·.1))]) (lo := 0) (b := 0) (l := p.map (·.1)) rfl (Nat.le_refl _)
  rw [if_neg (by omega)] at fz
  have so := sorted7_spec (p.map (·.1)) (by omega)
  have ePL : polyL p = outT (stripL (colY p) (sortU (p.map (·.1)))) := rfl
  rw [ePL]
  have hev : ∀ x, (sortI (ysP p x)).length % 2 = 0 := fun x => by rw [sortI_len]; exact Rg.ys_even p x
  have hyl : ∀ x, (sortI (ysP p x)).length ≤ p.length := fun x => by rw [sortI_len]; exact Rg.ys_len p x
  have rw7 : ∀ v, pureCall E.P (L E) 66 [PV, .int .i64 v] = some (iO (sortI (ysP p v))) := fun v => by rw [rw7, Rg.rows7_sort hpo]
  have Uln : ∀ h, lenT .sl h (iO (sortU (p.map (·.1)))) = some (.int .i64 (sortU (p.map (·.1))).length) := fun h => iO_len
  have Uix : ∀ (i : Nat) (hi : i < (sortU (p.map (·.1))).length), indexAddrT (.sl 3 ⟨some false, some 1⟩) (iO (sortU (p.map (·.1)))) (.int .i64 (i : Int)) = some (cptr (.int .i64 (sortU (p.map (·.1)))[i])) := fun i hi => iO_index hi
  have Ubl : ∀ d n, below (d + 1) n (iO (sortU (p.map (·.1)))) = true := fun d n => iO_bel
  have iTs := iT_set (p.map (·.1))
  have iTb : ∀ d n, below (d + 1) n (iT (p.map (·.1))) = true := fun d n => iT_bel
  generalize sortU (p.map (·.1)) = U at *
  generalize iO U = UV at *
  generalize iT (p.map (·.1)) = XV at *
  simp -implicitDefEqProofs [k44_5, prep_frz, fz, ret1 m65, iTs, so, prep_new, newK_nil s32]
  rw [LL_rec (α := Nat × List Rect) (0, []) (fun a => [(7, rectR.sl 1 a.2), (8, .int .i64 (a.1 : Int))]) (fun a => [.dead, rectR.row 71 a.2])
   (fun a => (.exit 2, [(7, rectR.sl 1 (a.2 ++ outT (stripL (colY p) (U.drop a.1)))), (8, undef)], [.dead, rectR.row 71 (a.2 ++ outT (stripL (colY p) (U.drop a.1)))])) (fun a => a.1 ≤ U.length ∧ a.2.length ≤ 100 * a.1) (fun a => U.length - a.1)]
  ·rw [List.drop_zero, List.nil_append]
   generalize outT (stripL (colY p) U) = F
   have rr := Rec.reify_row (R := rectR) (P := E.P) (h := [.dead, rectR.row 71 F]) (b := 1) (n := 7) (t := 71) (l := F) rfl s32 a32
   by_cases h2 : 200 < F.length
   ·have h2' : 200 < (F.length : Int) := by omega
    simp -implicitDefEqProofs [k44_11, Rec.sl_len, h2, h2', resL]
   ·have h2' : ¬ (200 < (F.length : Int)) := by omega
    simp -implicitDefEqProofs [k44_11, Rec.sl_len, h2, h2', rr, resL]
  ·exact ⟨Nat.zero_le _, Nat.zero_le _⟩
  ·simp -implicitDefEqProofs [k44_11, Rec.sl_nil]
  ·rfl
  ·intro nx c hc ih
   obtain ⟨i, o⟩ := c
   obtain ⟨h1, h2⟩ := hc
   simp only at h1 h2
   by_cases hi : i + 1 < U.length
   ·have wi : IntKind.i64.wrap ((i : Int) + 1) = ((i + 1 : Nat) : Int) := (wrap64 (by omega) (by omega)).trans (by omega)
    have hi' : ((i + 1 : Nat) : Int) < (U.length : Int) := by omega
    have px := Uix i (by omega)
    have px1 := Uix (i + 1) hi
    have hcl : 2 * (colY p U[i]).length ≤ p.length := Rg.colY_len p U[i]
    have ih := ih (i + 1, o ++ emit ⟨U[i], U[i + 1], colY p U[i]⟩) (by show U.length - (i + 1) < U.length - i; omega) ⟨by show i + 1 ≤ U.length; omega, by
     show (o ++ emit ⟨U[i], U[i + 1], colY p U[i]⟩).length ≤ 100 * (i + 1)
     have e : (emit ⟨U[i], U[i + 1], colY p U[i]⟩).length = (colY p U[i]).length := List.length_map _
     rw [List.length_append, e]; omega⟩
    rw [strip_step hi, ← List.append_assoc]
    have hev := hev U[i]
    have hyl := hyl U[i]
    have hrw := rw7 U[i]
    have ecol : colY p U[i] = pairs (sortI (ysP p U[i])) := rfl
    obtain ⟨Y, hY⟩ : ∃ Y, sortI (ysP p U[i]) = Y := ⟨_, rfl⟩
    rw [ecol, hY] at hcl ih
    rw [ecol, hY]
    rw [hY] at hev hyl hrw
    have ee := Rg.ends_pairs hev
    have Yln : ∀ h, lenT .sl h (iO Y) = some (.int .i64 Y.length) := fun h => iO_len
    have Yix : ∀ (j : Nat) (hj : j < Y.length), indexAddrT (.sl 3 ⟨some false, some 1⟩) (iO Y) (.int .i64 (j : Int)) = some (cptr (.int .i64 Y[j])) := fun j hj => iO_index hj
    have Ybl : ∀ d n, below (d + 1) n (iO Y) = true := fun d n => iO_bel
    clear ecol hY
    generalize iO Y = YV at *
    generalize U[i] = x0 at *
    generalize U[i + 1] = x1 at *
    have hel := Rg.ends_len (pairs Y)
    rw [ee] at hel
    simp -implicitDefEqProofs [k44_11, -List.append_assoc, -Int.natCast_add] at ih
    simp -implicitDefEqProofs [r44_11, k44_11, Uln, hi, hi', wi, px, px1, ret1 m66, sv0, sett, hrw, -List.append_assoc, -Int.natCast_add]
    rw [LL_for (γ := List Rect) (pairs Y) o (fun j o' => [(7, rectR.sl 1 o'), (10, .int .i64 ((2 * j : Nat) : Int))]) (fun _ o' => [.dead, rectR.row 71 o'])
     (fun _ rest o' => (.exit 4, [(7, rectR.sl 1 (o' ++ emit ⟨x0, x1, rest⟩)), (10, undef)], [.dead, rectR.row 71 (o' ++ emit ⟨x0, x1, rest⟩)])) (fun j o' => o'.length = o.length + j) (by omega) rfl]
    ·simp -implicitDefEqProofs [k44_15, wi, trim_le, bP, -List.append_assoc, -Int.natCast_add]
     exact ih
    ·simp -implicitDefEqProofs [k44_15]
    ·rfl
    ·intro nx2 j o' hj _
     have w2 : IntKind.i64.wrap (((2 * j : Nat) : Int) + 1) = ((2 * j + 1 : Nat) : Int) := wrap64 (by omega) (by omega)
     have hjn : ¬ (((2 * j + 1 : Nat) : Int) < (Y.length : Int)) := by omega
     have hjn' : ¬ (2 * j + 1 < Y.length) := by omega
     have e0 : emit ⟨x0, x1, []⟩ = [] := rfl
     simp -implicitDefEqProofs [r44_15, k44_15, Yln, w2, hjn, hjn', e0, trim_le, -Int.natCast_add, -Int.natCast_mul]
    ·intro nx2 j s rest o' hj hv hd hw ho ih2
     obtain ⟨g1, g2, g3, g4⟩ := ends_at7 hj
     simp only [ee] at g1 g2 g3 g4
     rw [hv] at g3 g4
     have st := fun h (hob : h[1]? = some (rectR.row 71 o')) => app_rect (h := h) (b := 1) (lo := 0) (c := o') ⟨x0, s.1, x1, s.2⟩ hob (Nat.zero_le _) (by omega)
     have w2 : IntKind.i64.wrap (((2 * j : Nat) : Int) + 1) = ((2 * j + 1 : Nat) : Int) := wrap64 (by omega) (by omega)
     have w3 : IntKind.i64.wrap (((2 * j : Nat) : Int) + 2) = ((2 * (j + 1) : Nat) : Int) := (wrap64 (by omega) (by omega)).trans (by omega)
     have hjn : ((2 * j + 1 : Nat) : Int) < (Y.length : Int) := by omega
     have hjn' : 2 * j + 1 < Y.length := by omega
     have ya := Yix (2 * j) g1
     have yb := Yix (2 * j + 1) g2
     rw [g3] at ya
     rw [g4] at yb
     have ih2 := ih2 (o' ++ [⟨x0, s.1, x1, s.2⟩]) (by rw [List.length_append]; show o'.length + 1 = _; omega)
     rw [emit_cons7, ← List.append_assoc]
     simp -implicitDefEqProofs [k44_15, -List.append_assoc, -Int.natCast_add, -Int.natCast_mul] at ih2
     simp -implicitDefEqProofs [r44_15, k44_15, Yln, wi, w2, w3, hjn, hjn', px, px1, ya, yb, b4_all, lit_rect, st, trim_le, -List.append_assoc, -Int.natCast_add, -Int.natCast_mul]
     exact ih2
   ·have wi : IntKind.i64.wrap ((i : Int) + 1) = ((i + 1 : Nat) : Int) := (wrap64 (by omega) (by omega)).trans (by omega)
    have hi' : ¬ (((i + 1 : Nat) : Int) < (U.length : Int)) := by omega
    rw [strip_end hi, List.append_nil]
    simp -implicitDefEqProofs [r44_11, k44_11, Uln, wi, hi, hi', trim_le, -Int.natCast_add]
 ·simp -implicitDefEqProofs [k44_5, Rec.sl_nil]
 ·rfl
 ·intro nx i c hi _
  simp -implicitDefEqProofs [r44_5, k44_5, hi, ln, trim_le]
 ·intro nx i v rest c hi hv hd hw hc ih
  have hi' : (i : Int) < (p.length : Int) := by omega
  have pi := pix i hi
  rw [hv, span_val] at pi
  have ap := fun h (hob : h[0]? = some (intR.row 3 c)) => app_num (h := h) (b := 0) (lo := 0) (c := c) v.1 hob (Nat.le_refl _) (by omega)
  have ih := ih (c ++ [v.1]) (by simp; omega)
  have em : (v :: rest).map (·.1) = [v.1] ++ rest.map (·.1) := rfl
  rw [em, ← List.append_assoc]
  simp -implicitDefEqProofs [k44_5, -List.append_assoc] at ih
  simp -implicitDefEqProofs [r44_5, k44_5, hi, hi', ln, pi, lit_num, ap, hw, trim_le, -List.append_assoc]
  exact ih
end Go.Proofs.YtjkemccfcabhgaaGreat.Bm
namespace Go.Proofs.YtjkemccfcabhgaaGreat.Bm
open Go Go.RowKit
open Rg (Rect scan scan_le putAt sortU edgesX own colC colF gstep ends)
theorem xsL_app (a b : List Rect) : xsL a ++ xsL b = xsL (a ++ b) := List.flatMap_append.symm
theorem edges_spec (k m : Option Bool) (a b : List Rect) (hk : Rec.Ok k a) (hm : Rec.Ok m b) (ha : a.length ≤ 1000) (hb : b.length ≤ 1000) : pureCall E.P (L E) 67 [rectR.o k a, rectR.o m b] = some (iT (edgesX (a ++ b))) := by
 have sp := sorted_spec (xsL (a ++ b)) (by rw [xsL_len, List.length_append]; omega)
 rw [pureCall_fn F67 rfl]
 simp -implicitDefEqProofs [r67, p67, prep_new, newK_nil s3]
 rw [LL_for (γ := List Int) a [] (fun i c => [(5, intR.sl 0 c), (6, .int .i64 i)]) (fun _ c => [intR.row 3 c])
  (fun _ rest c => (.exit 0, [(5, intR.sl 0 (c ++ xsL rest)), (6, undef)], [intR.row 3 (c ++ xsL rest)])) (fun i c => c.length = 2 * i) (by omega) rfl]
 ·rw [List.nil_append]
  simp -implicitDefEqProofs [k67_3]
  rw [LL_for (γ := List Int) b (xsL a) (fun i c => [(5, intR.sl 0 c), (7, .int .i64 i)]) (fun _ c => [intR.row 3 c])
   (fun _ rest c => (.exit 2, [(5, intR.sl 0 (c ++ xsL rest)), (7, undef)], [intR.row 3 (c ++ xsL rest)])) (fun i c => c.length = 2 * a.length + 2 * i) (by omega) (xsL_len a)]
  ·obtain ⟨g, fz⟩ := int_freeze (h := [intR.row 3 (xsL (a ++ b))]) (b := 0) (lo := 0) (l := xsL (a ++ b)) rfl (Nat.le_refl _)
   have e : iT (sortU (xsL (a ++ b))) = iT (edgesX (a ++ b)) := rfl
   rw [xsL_app]
   simp -implicitDefEqProofs [k67_7, prep_frz, fz, ret1 m87, iT_set, sp, e]
   rfl
  ·simp -implicitDefEqProofs [k67_7]
  ·rfl
  ·intro nx i c hi _
   simp -implicitDefEqProofs [r67_7, k67_7, hi, Rec.o_len hm, trim_le, xsL]
  ·intro nx i r rest c hi hv hd hw hc ih
   have ixi := Rec.o_index (R := rectR) (t := 71) (kk := .i64) (s := 4) rfl hm hi
   rw [hv] at ixi
   have ap := app_two' (h := [intR.row 3 c]) (b := 0) (lo := 0) (c := c) r.x0 r.x1 rfl (Nat.le_refl _) (by omega)
   have ih := ih (c ++ [r.x0, r.x1]) (by simp; omega)
   rw [xsL_cons, ← List.append_assoc]
   simp -implicitDefEqProofs [k67_7, -List.append_assoc] at ih
   simp -implicitDefEqProofs [r67_7, k67_7, hi, ixi, Rec.o_len hm, rect_val, lit_two, ap, hw, trim_le, -List.append_assoc]
   exact ih
 ·simp -implicitDefEqProofs [k67_3, Rec.sl_nil]
 ·rfl
 ·intro nx i c hi _
  simp -implicitDefEqProofs [r67_3, k67_3, hi, Rec.o_len hk, trim_le, xsL]
 ·intro nx i r rest c hi hv hd hw hc ih
  have ixi := Rec.o_index (R := rectR) (t := 71) (kk := .i64) (s := 4) rfl hk hi
  rw [hv] at ixi
  have ap := app_two' (h := [intR.row 3 c]) (b := 0) (lo := 0) (c := c) r.x0 r.x1 rfl (Nat.le_refl _) (by omega)
  have ih := ih (c ++ [r.x0, r.x1]) (by simp; omega)
  rw [xsL_cons, ← List.append_assoc]
  simp -implicitDefEqProofs [k67_3, -List.append_assoc] at ih
  simp -implicitDefEqProofs [r67_3, k67_3, hi, ixi, Rec.o_len hk, rect_val, lit_two, ap, hw, trim_le, -List.append_assoc]
  exact ih
theorem ints_spec (l r : List Int) (hl : l.length ≤ 1000000) : pureCall E.P (L E) 70 [iT l, iT r] = some (.bool (decide (l = r))) := by
 rw [pureCall_fn F70 rfl]
 simp -implicitDefEqProofs [r70, padS, iT_len]
 by_cases hlen : l.length = r.length
 ·simp -implicitDefEqProofs [hlen]
  rw [LL_for (γ := Unit) l () (fun i _ => [(5, .int .i64 i)]) (fun _ _ => []) (fun i rest _ => if eqL rest (r.drop i) then (.exit 0, [(5, undef)], []) else (.ret, [(4, .bool false), (5, undef)], [])) (fun _ _ => True) (by omega) trivial]
  ·cases h : eqL l r
   ·have : ¬ l = r := of_decide_eq_false h
    simp -implicitDefEqProofs [this, k70_4, h]
   ·have : l = r := of_decide_eq_true h
    simp -implicitDefEqProofs [this, k70_4, eqL]
  ·simp -implicitDefEqProofs [k70_4]
  ·rfl
  ·intro nx i c hi _
   have hd0 : eqL [] (r.drop i) = true := by rw [List.drop_eq_nil_of_le (by omega)]; rfl
   rw [hd0]
   simp -implicitDefEqProofs [r70_4, k70_4, iT_len, hi, hlen, trim_le]
  ·intro nx i v rest c hi hv hd hw _ ih
   have ih := ih () trivial
   have hi' : i < r.length := by omega
   have hrd : r.drop i = r[i] :: r.drop (i + 1) := List.drop_eq_getElem_cons hi'
   have ixl := iT_index hi
   have ixr := iT_index hi'
   rw [hv] at ixl
   rw [hrd, eqL_cons]
   simp -implicitDefEqProofs [k70_4] at ih
   by_cases he : v = r[i]
   ·rw [he] at ixl
    simp -implicitDefEqProofs [r70_4, k70_4, iT_len, hi', hlen, ixl, ixr, hw, he, trim_le]
    exact ih
   ·simp -implicitDefEqProofs [r70_4, k70_4, iT_len, hi', hlen, ixl, ixr, he, trim_le]
 ·have : ¬ l = r := fun e => hlen (by rw [e])
  have hlen' : ¬ ((l.length : Int) = r.length) := by omega
  simp -implicitDefEqProofs [hlen', this]
end Go.Proofs.YtjkemccfcabhgaaGreat.Bm
namespace Go.Proofs.YtjkemccfcabhgaaGreat.Bm
open Go Go.RowKit
open Rg (Rect scan scan_le putAt sortU edgesX own own_cons colC colF gstep ends)
def insC (c : List (Int × Int)) (s : Int × Int) : List (Int × Int) := putAt c (scan (fun j => decide (s.1 < (c.map (·.1)).getD j 0)) c.length) s
theorem insC_fold : ∀ (l c : List (Int × Int)), c.Pairwise (fun a b => a.1 ≤ b.1) → (l.foldl insC c).Pairwise (fun a b => a.1 ≤ b.1) ∧ (l.foldl insC c).Perm (l ++ c)
 | [], c, h => ⟨h, .refl _⟩
 | s :: l, c, h => by
  obtain ⟨h1, h2⟩ := insC_fold l (insC c s) (Rg.putAt_sorted (key := fun p : Int × Int => p.1) h)
  refine ⟨h1, h2.trans ?_⟩
  exact ((Rg.putAt_perm c _ s).append_left l).trans List.perm_middle
theorem insC_len (c : List (Int × Int)) (s : Int × Int) : (insC c s).length = c.length + 1 := Rg.putAt_len _ _ _
theorem putAt_map {α β : Type} (f : α → β) (c : List α) (k : Nat) (s : α) : (putAt c k s).map f = putAt (c.map f) k (f s) := by
 unfold putAt
 rw [List.map_append, List.map_take, List.map_cons, List.map_drop]
theorem ref_col {l : List Rect} (hl : ∀ r ∈ l, r.y0 < r.y1) (x : Int) : ((own l x).foldl insC []).foldl gstep [] = colC l x := by
 obtain ⟨h1, h2⟩ := insC_fold (own l x) [] .nil
 rw [List.append_nil] at h2
 have hs : ∀ u ∈ (own l x).foldl insC [], u.1 < u.2 := fun u hu => by
  have hu := h2.mem_iff.1 hu
  unfold own at hu
  obtain ⟨r, hr, rfl⟩ := List.mem_map.1 hu
  exact hl r (List.mem_filter.1 hr).1
 rw [Rg.gstep_col]
 refine (Rg.colF_can h1 hs).unique (Rg.colC_ok hl x).1 fun y => ?_
 rw [Rg.colF_has h1 hs, Rg.hasS_perm h2, Rg.own_has, (Rg.colC_ok hl x).2]
theorem ends_snoc (d : List (Int × Int)) (u : Int × Int) : ends (d ++ [u]) = ends d ++ [u.1, u.2] := by
 unfold ends; rw [List.flatMap_append]; rfl
theorem ends_last {d : List (Int × Int)} {u : Int × Int} (z : Int) : (ends (d ++ [u])).set (2 * d.length + 1) z = ends (d ++ [(u.1, z)]) := by
 rw [ends_snoc, ends_snoc, List.set_append_right _ _ (by rw [Rg.ends_len]; omega), Rg.ends_len]
 rw [show 2 * d.length + 1 - 2 * d.length = 1 by omega]; rfl
theorem ends_get {d : List (Int × Int)} {u : Int × Int} (h : 2 * d.length + 1 < (ends (d ++ [u])).length) : (ends (d ++ [u]))[2 * d.length + 1] = u.2 := by
 have e := ends_snoc d u
 have : (ends (d ++ [u]))[2 * d.length + 1]? = some u.2 := by
  rw [e, List.getElem?_append_right (by rw [Rg.ends_len]; omega), Rg.ends_len, show 2 * d.length + 1 - 2 * d.length = 1 by omega]; rfl
 rw [List.getElem?_eq_getElem h] at this
 exact Option.some.inj this
theorem rcolumn_spec (k : Option Bool) (l : List Rect) (x : Int) (hk : Rec.Ok k l) (hl : l.length ≤ 1000) : pureCall E.P (L E) 69 [rectR.o k l, .int .i64 x] = some (iT (ends (((own l x).foldl insC []).foldl gstep []))) := by
 rw [pureCall_fn F69 rfl]
 simp -implicitDefEqProofs [r69, p69, prep_new, newK_nil s3]
 rw [LL_for (γ := List (Int × Int)) l [] (fun i c => [(5, intR.sl 0 (c.map (·.1))), (6, intR.sl 1 (c.map (·.2))), (7, .int .i64 i)]) (fun _ c => [intR.row 3 (c.map (·.1)), intR.row 3 (c.map (·.2))])
  (fun _ rest c => (.exit 0, [(5, intR.sl 0 (((own rest x).foldl insC c).map (·.1))), (6, intR.sl 1 (((own rest x).foldl insC c).map (·.2))), (7, undef)], [intR.row 3 (((own rest x).foldl insC c).map (·.1)), intR.row 3 (((own rest x).foldl insC c).map (·.2))])) (fun i c => c.length ≤ i) (by omega) (Nat.le_refl _)]
 ·have hcl : ((own l x).foldl insC []).length ≤ 1000 := by
   rw [(insC_fold (own l x) [] .nil).2.length_eq, List.append_nil]
   have := own_len l x; omega
  generalize (own l x).foldl insC [] = c at hcl ⊢
  simp -implicitDefEqProofs [k69_4, prep_new, newK_nil s3]
  rw [LL_for (γ := List (Int × Int)) c [] (fun i d => [(9, intR.sl 2 (ends d)), (10, .int .i64 i)]) (fun _ d => [intR.row 3 (c.map (·.1)), intR.row 3 (c.map (·.2)), intR.row 3 (ends d)])
   (fun _ rest d => (.exit 4, [(9, intR.sl 2 (ends (rest.foldl gstep d))), (10, undef)], [intR.row 3 (c.map (·.1)), intR.row 3 (c.map (·.2)), intR.row 3 (ends (rest.foldl gstep d))])) (fun i d => d.length ≤ i) (by omega) (Nat.le_refl _)]
  ·have rr := int_reifyR (h := [intR.row 3 (c.map (·.1)), intR.row 3 (c.map (·.2)), intR.row 3 (ends (c.foldl gstep []))]) (b := 2) (l := ends (c.foldl gstep [])) rfl
   simp -implicitDefEqProofs [k69_18, rr]
  ·simp -implicitDefEqProofs [k69_18, ends, Rec.sl_nil]
  ·rfl
  ·intro nx i d hi _
   simp -implicitDefEqProofs [r69_18, k69_18, hi, Rec.sl_len, trim_le]
  ·intro nx i s rest d hi hv hd hw hdl ih
   have ih := ih (gstep d s) (by have := gstep_len d s; omega)
   simp -implicitDefEqProofs [k69_18] at ih
   rw [List.foldl_cons]
   have hi1 : i < (c.map (·.1)).length := by simpa using hi
   have hi2 : i < (c.map (·.2)).length := by simpa using hi
   have e1 : (c.map (·.1))[i] = s.1 := by rw [List.getElem_map, hv]
   have e2 : (c.map (·.2))[i] = s.2 := by rw [List.getElem_map, hv]
   have ix1 := int_index (g := some false) (b := 0) (l := c.map (·.1)) hi1
   have ix2 := int_index (g := some false) (b := 1) (l := c.map (·.2)) hi2
   have ld1 := int_load (h := [intR.row 3 (c.map (·.1)), intR.row 3 (c.map (·.2)), intR.row 3 (ends d)]) (b := 0) (l := c.map (·.1)) (sz := some 1) rfl hi1
   have ld2 := int_load (h := [intR.row 3 (c.map (·.1)), intR.row 3 (c.map (·.2)), intR.row 3 (ends d)]) (b := 1) (l := c.map (·.2)) (sz := some 1) rfl hi2
   rw [e1] at ld1
   rw [e2] at ld2
   have ap := app_two' (h := [intR.row 3 (c.map (·.1)), intR.row 3 (c.map (·.2)), intR.row 3 (ends d)]) (b := 2) (lo := 0) (c := ends d) s.1 s.2 rfl (Nat.zero_le _) (by rw [Rg.ends_len]; omega)
   rcases List.eq_nil_or_concat d with h0 | ⟨d', u, h0⟩
   ·subst h0
    have e : gstep [] s = [(s.1, s.2)] := rfl
    have en : ends [(s.1, s.2)] = [s.1, s.2] := rfl
    have e0 : ends ([] : List (Int × Int)) = [] := rfl
    rw [e, en] at ih
    rw [e]
    rw [e0] at ap ld1 ld2
    simp -implicitDefEqProofs [r69_18, k69_18, hi, ix1, ix2, ld1, ld2, e0, Rec.sl_len, lit_two, ap, hw, trim_le]
    exact ih
   ·rw [List.concat_eq_append] at h0
    subst h0
    have hel : (ends (d' ++ [u])).length = 2 * d'.length + 2 := by rw [Rg.ends_len, List.length_append]; show 2 * (d'.length + 1) = _; omega
    have hn : 2 * d'.length + 1 < (ends (d' ++ [u])).length := by omega
    have wl : IntKind.i64.wrap (((ends (d' ++ [u])).length : Int) - 1) = ((2 * d'.length + 1 : Nat) : Int) := by
     rw [hel]; exact (wrap64 (by rw [List.length_append] at hdl; omega) (by rw [List.length_append] at hdl; omega)).trans (by omega)
    have hpos : (0 : Int) < ((ends (d' ++ [u])).length : Int) := by omega
    have hposN : 0 < (ends (d' ++ [u])).length := by omega
    have ix3 := int_index (g := some false) (b := 2) (l := ends (d' ++ [u])) hn
    have ld3 := int_load (h := [intR.row 3 (c.map (·.1)), intR.row 3 (c.map (·.2)), intR.row 3 (ends (d' ++ [u]))]) (b := 2) (l := ends (d' ++ [u])) (sz := some 1) rfl hn
    rw [ends_get hn] at ld3
    have st3 := int_store (h := [intR.row 3 (c.map (·.1)), intR.row 3 (c.map (·.2)), intR.row 3 (ends (d' ++ [u]))]) (b := 2) (lo := 0) (l := ends (d' ++ [u])) (max u.2 s.2) rfl (Nat.zero_le _) hn
    rw [ends_last] at st3
    generalize hpn : ((2 * d'.length + 1 : Nat) : Int) = pn at *
    rw [Rg.gstep_snoc] at ih ⊢
    by_cases hs : s.1 ≤ u.2
    ·rw [if_pos hs] at ih ⊢
     have esl : intR.sl 2 (ends (d' ++ [(u.1, max u.2 s.2)])) = intR.sl 2 (ends (d' ++ [u])) := int_sl (by rw [Rg.ends_len, Rg.ends_len]; simp)
     rw [esl] at ih
     simp -implicitDefEqProofs [r69_18, k69_18, hi, ix1, ix2, ld1, ld2, Rec.sl_len, hposN, wl, ix3, ld3, hs, max_int, st3, hw, trim_le]
     exact ih
    ·rw [if_neg hs] at ih ⊢
     have ea : d' ++ [u, s] = (d' ++ [u]) ++ [s] := by rw [List.append_assoc]; rfl
     rw [ea, ends_snoc (d' ++ [u]) s] at ih
     rw [ea]
     simp -implicitDefEqProofs [r69_18, k69_18, hi, ix1, ix2, ld1, ld2, Rec.sl_len, hposN, wl, ix3, ld3, hs, lit_two, ap, hw, trim_le, -List.append_assoc]
     exact ih
 ·simp -implicitDefEqProofs [k69_4, Rec.sl_nil]
 ·rfl
 ·intro nx i c hi _
  simp -implicitDefEqProofs [r69_4, k69_4, hi, Rec.o_len hk, trim_le, own]
 ·intro nx i r rest c hi hv hd hw hc ih
  have ixi := Rec.o_index (R := rectR) (t := 71) (kk := .i64) (s := 4) rfl hk hi
  rw [hv] at ixi
  rw [own_cons]
  by_cases h1 : r.x0 ≤ x
  case neg =>
   have h1' : x < r.x0 := by omega
   have ih := ih c (by omega)
   rw [if_neg (fun e => h1 e.1), List.nil_append]
   simp -implicitDefEqProofs [k69_4] at ih
   simp -implicitDefEqProofs [r69_4, k69_4, hi, ixi, Rec.o_len hk, rect_val, h1', hw, trim_le]
   exact ih
  have h1' : ¬ (x < r.x0) := by omega
  by_cases h2 : x < r.x1
  case neg =>
   have h2' : r.x1 ≤ x := by omega
   have ih := ih c (by omega)
   rw [if_neg (fun e => h2 e.2), List.nil_append]
   simp -implicitDefEqProofs [k69_4] at ih
   simp -implicitDefEqProofs [r69_4, k69_4, hi, ixi, Rec.o_len hk, rect_val, h1', h2', hw, trim_le]
   exact ih
  have h2' : ¬ (r.x1 ≤ x) := by omega
  rw [if_pos ⟨h1, h2⟩]
  have ih := ih (insC c (r.y0, r.y1)) (by rw [insC_len]; omega)
  simp -implicitDefEqProofs [k69_4] at ih
  have ap1 := app_num (h := [intR.row 3 (c.map (·.1)), intR.row 3 (c.map (·.2))]) (b := 0) (lo := 0) (c := c.map (·.1)) 0 rfl (Nat.le_refl _) (by simp; omega)
  have ap2 := app_num (h := [intR.row 3 (c.map (·.1) ++ [0]), intR.row 3 (c.map (·.2))]) (b := 1) (lo := 0) (c := c.map (·.2)) 0 rfl (Nat.zero_le _) (by simp; omega)
  have hf : (c.map (·.1)).length = c.length := List.length_map _
  have ht : (c.map (·.2)).length = c.length := List.length_map _
  have ec1 : (insC c (r.y0, r.y1)).map (·.1) = putAt (c.map (·.1)) (scan (fun j => decide (r.y0 < (c.map (·.1)).getD j 0)) c.length) r.y0 := putAt_map _ _ _ _
  have ec2 : (insC c (r.y0, r.y1)).map (·.2) = putAt (c.map (·.2)) (scan (fun j => decide (r.y0 < (c.map (·.1)).getD j 0)) c.length) r.y1 := putAt_map _ _ _ _
  rw [ec1, ec2] at ih
  rw [List.singleton_append, List.foldl_cons]
  generalize (own rest x).foldl insC (insC c (r.y0, r.y1)) = C at ih ⊢
  clear ec1 ec2
  have hcl : c.length ≤ 1000 := by omega
  generalize c.map (·.1) = f at *
  generalize c.map (·.2) = t at *
  generalize c.length = n at *
  have gd : ∀ j (hj : j < f.length), f.getD j 0 = f[j] := fun j hj => by rw [List.getD_eq_getElem?_getD, List.getElem?_eq_getElem hj]; rfl
  have hsc := scan_le (fun j => decide (r.y0 < f.getD j 0)) n
  have esf : ∀ m, m ≤ n → intR.sl 0 (shiftRow f m) = intR.sl 0 (f ++ [0]) := fun m hm => int_sl (by rw [shiftRow_len (by omega)]; simp)
  have est : ∀ m, m ≤ n → intR.sl 1 (shiftRow t m) = intR.sl 1 (t ++ [0]) := fun m hm => int_sl (by rw [shiftRow_len (by omega)]; simp)
  have ixf := fun (m : Nat) (hm : m ≤ n) (j : Nat) (hj : j < n + 1) => (esf m hm) ▸ int_index (g := some false) (b := 0) (l := shiftRow f m) (i := j) (by rw [shiftRow_len (by omega)]; omega)
  have ixt := fun (m : Nat) (hm : m ≤ n) (j : Nat) (hj : j < n + 1) => (est m hm) ▸ int_index (g := some false) (b := 1) (l := shiftRow t m) (i := j) (by rw [shiftRow_len (by omega)]; omega)
  have top1 : shiftRow f n = f ++ [0] := by rw [← hf]; exact shiftRow_top f
  have top2 : shiftRow t n = t ++ [0] := by rw [← ht]; exact shiftRow_top t
  simp -implicitDefEqProofs [r69_4, k69_4, hi, ixi, Rec.o_len hk, rect_val, h1', h2', Rec.sl_len, hf, lit_num, ap1, ap2]
  rw [LL_rec (α := Nat) n (fun m => [(8, .int .i64 (m : Int))]) (fun m => [intR.row 3 (shiftRow f m), intR.row 3 (shiftRow t m)])
   (fun m => (.exit 2, [(8, .int .i64 ((scan (fun j => decide (r.y0 < f.getD j 0)) m : Nat) : Int))], [intR.row 3 (shiftRow f (scan (fun j => decide (r.y0 < f.getD j 0)) m)), intR.row 3 (shiftRow t (scan (fun j => decide (r.y0 < f.getD j 0)) m))])) (fun m => m ≤ n) (fun m => m)]
  ·generalize scan (fun j => decide (r.y0 < f.getD j 0)) n = k at hsc ih ⊢
   have sp1 : intR.sl 0 (putAt f k r.y0) = intR.sl 0 (f ++ [0]) := int_sl (by rw [Rg.putAt_len]; simp)
   have sp2 : intR.sl 1 (putAt t k r.y1) = intR.sl 1 (t ++ [0]) := int_sl (by rw [Rg.putAt_len]; simp)
   rw [sp1, sp2] at ih
   have ix1 := ixf k hsc k (by omega)
   have ix2 := ixt k hsc k (by omega)
   have st1 := int_store (h := [intR.row 3 (shiftRow f k), intR.row 3 (shiftRow t k)]) (b := 0) (lo := 0) (l := shiftRow f k) (i := k) r.y0 rfl (Nat.le_refl _) (by rw [shiftRow_len (by omega)]; omega)
   rw [shiftRow_set (by omega)] at st1
   have st2 := int_store (h := [intR.row 3 (putAt f k r.y0), intR.row 3 (shiftRow t k)]) (b := 1) (lo := 0) (l := shiftRow t k) (i := k) r.y1 rfl (Nat.zero_le _) (by rw [shiftRow_len (by omega)]; omega)
   rw [shiftRow_set (by omega)] at st2
   simp -implicitDefEqProofs [k69_10, ix1, ix2, ixi, rect_val, st1, st2, hw, trim_le]
   exact ih
  ·exact Nat.le_refl _
  ·simp -implicitDefEqProofs [k69_10]
  ·simp only [top1, top2]
  ·intro nx m hm ih
   cases m with
   | zero => simp -implicitDefEqProofs [r69_10, k69_10, scan, trim_le]
   | succ m =>
    have hmf : m < f.length := by omega
    have hmt : m < t.length := by omega
    have w3 : IntKind.i64.wrap ((m : Int) + 1 - 1) = (m : Int) := (wrap64 (by omega) (by omega)).trans (by omega)
    have w4 : IntKind.i64.wrap (m : Int) = (m : Int) := wrap64 (by omega) (by omega)
    have hpos : (0 : Int) < (m : Int) + 1 := by omega
    have e : scan (fun j => decide (r.y0 < f.getD j 0)) (m + 1) = if decide (r.y0 < f.getD m 0) then scan (fun j => decide (r.y0 < f.getD j 0)) m else m + 1 := rfl
    rw [e, gd m hmf]
    have ixa := ixf (m + 1) (by omega) m (by omega)
    have ixb := ixf (m + 1) (by omega) (m + 1) (by omega)
    have iya := ixt (m + 1) (by omega) m (by omega)
    have iyb := ixt (m + 1) (by omega) (m + 1) (by omega)
    have lda := int_load (h := [intR.row 3 (shiftRow f (m + 1)), intR.row 3 (shiftRow t (m + 1))]) (b := 0) (l := shiftRow f (m + 1)) (i := m) (sz := some 1) rfl (by rw [shiftRow_len (by omega)]; omega)
    rw [shiftRow_get (by omega) (by omega)] at lda
    have sta := int_store (h := [intR.row 3 (shiftRow f (m + 1)), intR.row 3 (shiftRow t (m + 1))]) (b := 0) (lo := 0) (l := shiftRow f (m + 1)) (i := m + 1) f[m] rfl (Nat.le_refl _) (by rw [shiftRow_len (by omega)]; omega)
    rw [shiftRow_down (by omega)] at sta
    have ldb := int_load (h := [intR.row 3 (shiftRow f m), intR.row 3 (shiftRow t (m + 1))]) (b := 1) (l := shiftRow t (m + 1)) (i := m) (sz := some 1) rfl (by rw [shiftRow_len (by omega)]; omega)
    rw [shiftRow_get (by omega) (by omega)] at ldb
    have stb := int_store (h := [intR.row 3 (shiftRow f m), intR.row 3 (shiftRow t (m + 1))]) (b := 1) (lo := 0) (l := shiftRow t (m + 1)) (i := m + 1) t[m] rfl (Nat.zero_le _) (by rw [shiftRow_len (by omega)]; omega)
    rw [shiftRow_down (by omega)] at stb
    push_cast at ixb iyb
    have ih := ih m (by omega) (by omega)
    simp -implicitDefEqProofs [k69_10] at ih
    by_cases hz : r.y0 < f[m]
    ·simp -implicitDefEqProofs [r69_10, k69_10, hpos, w4, ixa, ixb, iya, iyb, lda, ldb, sta, stb, ixi, rect_val, hz, trim_le]
     exact ih
    ·simp -implicitDefEqProofs [r69_10, k69_10, hpos, w4, ixa, lda, ixi, rect_val, hz, trim_le]
end Go.Proofs.YtjkemccfcabhgaaGreat.Bm
namespace Go.Proofs.YtjkemccfcabhgaaGreat.Bm
open Go Go.RowKit
open Rg (swp)
def odd (i : Nat) : Bool := decide (((i % 2 : Nat) : Int) = 1)
theorem odd_succ (i : Nat) : odd (i + 1) = !odd i := by
 unfold odd
 by_cases h : i % 2 = 1
 ·have h' : (i + 1) % 2 = 0 := by omega
  rw [h, h']; rfl
 ·have h0 : i % 2 = 0 := by omega
  have h' : (i + 1) % 2 = 1 := by omega
  rw [h0, h']; rfl
theorem swp_left (f : Bool → Bool → Bool) {a b : List Int} {i k : Nat} (hi : i < a.length) (hk : b.length ≤ k ∨ ∃ h : k < b.length, a[i] < b[k]) (w : Bool) :
  swp f (a.drop i) (b.drop k) (odd i) (odd k) w = (if f (odd (i + 1)) (odd k) = w then [] else [a[i]]) ++ swp f (a.drop (i + 1)) (b.drop k) (odd (i + 1)) (odd k) (f (odd (i + 1)) (odd k)) := by
 rw [List.drop_eq_getElem_cons hi, odd_succ]
 rcases hk with hk | ⟨hk, hlt⟩
 ·rw [List.drop_of_length_le hk, swp]
 ·rw [List.drop_eq_getElem_cons hk, swp, if_pos hlt]
theorem swp_right (f : Bool → Bool → Bool) {a b : List Int} {i k : Nat} (hk : k < b.length) (hi : a.length ≤ i ∨ ∃ h : i < a.length, b[k] < a[i]) (w : Bool) :
  swp f (a.drop i) (b.drop k) (odd i) (odd k) w = (if f (odd i) (odd (k + 1)) = w then [] else [b[k]]) ++ swp f (a.drop i) (b.drop (k + 1)) (odd i) (odd (k + 1)) (f (odd i) (odd (k + 1))) := by
 rw [List.drop_eq_getElem_cons hk, odd_succ]
 rcases hi with hi | ⟨hi, hlt⟩
 ·rw [List.drop_of_length_le hi, swp]
 ·rw [List.drop_eq_getElem_cons hi, swp, if_neg (by omega), if_pos hlt]
theorem swp_both (f : Bool → Bool → Bool) {a b : List Int} {i k : Nat} (hi : i < a.length) (hk : k < b.length) (he : a[i] = b[k]) (w : Bool) :
  swp f (a.drop i) (b.drop k) (odd i) (odd k) w = (if f (odd (i + 1)) (odd (k + 1)) = w then [] else [a[i]]) ++ swp f (a.drop (i + 1)) (b.drop (k + 1)) (odd (i + 1)) (odd (k + 1)) (f (odd (i + 1)) (odd (k + 1))) := by
 rw [List.drop_eq_getElem_cons hi, List.drop_eq_getElem_cons hk, odd_succ, odd_succ, swp, if_neg (by omega), if_neg (by omega)]
set_option maxHeartbeats 4000000 in
theorem rcombine_spec (a b : List Int) (z : Int) (f : Bool → Bool → Bool) (hz : (z = 0 ∧ f = orF) ∨ (z = 1 ∧ f = andF) ∨ (z = 2 ∧ f = subF)) (ha : a.length ≤ 100000) (hb : b.length ≤ 100000) :
  pureCall E.P (L E) 68 [iT a, iT b, .int .i64 z] = some (iT (swp f a b false false false)) := by
 have ub : E.P.underlying 4 = some .bool := by kernel_rfl
 have bne : ∀ p q, aBin E.P .neq 4 (.bool p) (.bool q) = some (.bool (!(p == q))) := fun p q => bin_neq_bool ub
 rw [pureCall_fn F68 rfl]
 simp -implicitDefEqProofs [r68, p68, prep_new, newK_nil s3]
 rw [LL_rec (α := Nat × Nat × Bool × List Int) (0, 0, false, []) (fun s => [(7, intR.sl 0 s.2.2.2), (8, .int .i64 (s.1 : Int)), (9, .int .i64 (s.2.1 : Int)), (10, .bool s.2.2.1)]) (fun s => [intR.row 3 s.2.2.2])
  (fun s => (.exit 0, [(7, intR.sl 0 (s.2.2.2 ++ swp f (a.drop s.1) (b.drop s.2.1) (odd s.1) (odd s.2.1) s.2.2.1)), (8, undef), (9, undef), (10, undef)], [intR.row 3 (s.2.2.2 ++ swp f (a.drop s.1) (b.drop s.2.1) (odd s.1) (odd s.2.1) s.2.2.1)]))
  (fun s => s.1 ≤ a.length ∧ s.2.1 ≤ b.length ∧ s.2.2.2.length ≤ s.1 + s.2.1) (fun s => (a.length - s.1) + (b.length - s.2.1))]
 ·have rr := int_reifyR (h := [intR.row 3 (swp f a b false false false)]) (b := 0) (l := swp f a b false false false) rfl
  have o0 : odd 0 = false := rfl
  simp -implicitDefEqProofs [k68_5, o0, rr]
 ·exact ⟨Nat.zero_le _, Nat.zero_le _, Nat.zero_le _⟩
 ·simp -implicitDefEqProofs [k68_5, Rec.sl_nil]
 ·rfl
 ·intro nx s hI ih
  obtain ⟨i, k, w, out⟩ := s
  obtain ⟨h1, h2, h3⟩ := hI
  simp only at h1 h2 h3 ih ⊢
  have wi : IntKind.i64.wrap ((i : Int) + 1) = ((i + 1 : Nat) : Int) := wrap64 (by omega) (by omega)
  have wk : IntKind.i64.wrap ((k : Int) + 1) = ((k + 1 : Nat) : Int) := wrap64 (by omega) (by omega)
  have rem2 : ∀ m : Nat, aBin E.P .rem 3 (.int .i64 (m : Int)) (.int .i64 2) = some (.int .i64 ((m % 2 : Nat) : Int)) := fun m => rem_nat (m := m) (n := 2) (by omega)
  have ap := fun (y : Int) => app_num (h := [intR.row 3 out]) (b := 0) (lo := 0) (c := out) y rfl (Nat.le_refl _) (by omega)
  have wl : 0 < b.length → IntKind.i64.wrap ((b.length : Int) - 1) = ((b.length - 1 : Nat) : Int) := fun h => (wrap64 (by omega) (by omega)).trans (by omega)
  by_cases hi : i < a.length
  ·have hii : (i : Int) < (a.length : Int) := by omega
   have ixi := iT_index hi
   by_cases hk : k < b.length
   ·have hkk : (k : Int) < (b.length : Int) := by omega
    have ixk := iT_index hk
    have hkn : ¬ ((b.length : Int) ≤ (k : Int)) := by omega
    have mn : min (k : Int) ((b.length - 1 : Nat) : Int) = (k : Int) := by omega
    have wl := wl (by omega)
    rcases Int.lt_trichotomy a[i] b[k] with hab | hab | hab
    ·skip
     rw [swp_left f hi (.inr ⟨hk, hab⟩) w]
     have ih := fun out' (hl : out'.length ≤ out.length + 1) => ih (i + 1, k, f (odd (i + 1)) (odd (k)), out') (by simp only; omega) (by simp only; omega)
     simp only at ih
     have ri := rem2 (i + 1)
     have rk := rem2 (k)
     have oi : decide ((((i + 1) % 2 : Nat) : Int) = 1) = odd (i + 1) := rfl
     have ok : decide ((((k) % 2 : Nat) : Int) = 1) = odd (k) := rfl
     generalize ((((i + 1) % 2 : Nat)) : Int) = mi at ri oi
     generalize ((((k) % 2 : Nat)) : Int) = mk at rk ok
     generalize odd (i + 1) = p at *
     generalize odd (k) = q at *
     have hle : a[i] ≤ b[k] := by omega
     have hne : ¬ (b[k] = a[i]) := by omega
     simp -implicitDefEqProofs [k68_5, -List.append_assoc, -Int.natCast_add] at ih
     rw [← List.append_assoc]
     rcases hz with ⟨rfl, rfl⟩ | ⟨rfl, rfl⟩ | ⟨rfl, rfl⟩
     ·cases p <;> cases q <;> cases w <;>
       simp -implicitDefEqProofs [r68_5, k68_5, orF, iT_len, hii, hkk, hkn, wl, mn, min_int, ixi, ixk, hle, hne, wi, ri, rk, oi, ok, bne, lit_num, ap, trim_le, -Int.natCast_add, -List.append_assoc] <;>
       first
       | exact ih out (Nat.le_succ _)
       | exact ih (out ++ [a[i]]) (by simp)
     ·cases p <;> cases q <;> cases w <;>
       simp -implicitDefEqProofs [r68_5, k68_5, andF, iT_len, hii, hkk, hkn, wl, mn, min_int, ixi, ixk, hle, hne, wi, ri, rk, oi, ok, bne, lit_num, ap, trim_le, -Int.natCast_add, -List.append_assoc] <;>
       first
       | exact ih out (Nat.le_succ _)
       | exact ih (out ++ [a[i]]) (by simp)
     ·cases p <;> cases q <;> cases w <;>
       simp -implicitDefEqProofs [r68_5, k68_5, subF, iT_len, hii, hkk, hkn, wl, mn, min_int, ixi, ixk, hle, hne, wi, ri, rk, oi, ok, bne, lit_num, ap, trim_le, -Int.natCast_add, -List.append_assoc] <;>
       first
       | exact ih out (Nat.le_succ _)
       | exact ih (out ++ [a[i]]) (by simp)
    ·skip
     rw [swp_both f hi hk hab w]
     have ih := fun out' (hl : out'.length ≤ out.length + 1) => ih (i + 1, k + 1, f (odd (i + 1)) (odd (k + 1)), out') (by simp only; omega) (by simp only; omega)
     simp only at ih
     have ri := rem2 (i + 1)
     have rk := rem2 (k + 1)
     have oi : decide ((((i + 1) % 2 : Nat) : Int) = 1) = odd (i + 1) := rfl
     have ok : decide ((((k + 1) % 2 : Nat) : Int) = 1) = odd (k + 1) := rfl
     generalize ((((i + 1) % 2 : Nat)) : Int) = mi at ri oi
     generalize ((((k + 1) % 2 : Nat)) : Int) = mk at rk ok
     generalize odd (i + 1) = p at *
     generalize odd (k + 1) = q at *
     have hle : b[k] ≤ b[k] := Int.le_refl _
     rw [hab] at ixi ⊢
     simp -implicitDefEqProofs [k68_5, -List.append_assoc, -Int.natCast_add] at ih
     rw [← List.append_assoc]
     rcases hz with ⟨rfl, rfl⟩ | ⟨rfl, rfl⟩ | ⟨rfl, rfl⟩
     ·cases p <;> cases q <;> cases w <;>
       simp -implicitDefEqProofs [r68_5, k68_5, orF, iT_len, hii, hkk, hkn, wl, mn, min_int, ixi, ixk, wi, wk, ri, rk, oi, ok, bne, lit_num, ap, trim_le, -Int.natCast_add, -List.append_assoc] <;>
       first
       | exact ih out (Nat.le_succ _)
       | exact ih (out ++ [b[k]]) (by simp)
     ·cases p <;> cases q <;> cases w <;>
       simp -implicitDefEqProofs [r68_5, k68_5, andF, iT_len, hii, hkk, hkn, wl, mn, min_int, ixi, ixk, wi, wk, ri, rk, oi, ok, bne, lit_num, ap, trim_le, -Int.natCast_add, -List.append_assoc] <;>
       first
       | exact ih out (Nat.le_succ _)
       | exact ih (out ++ [b[k]]) (by simp)
     ·cases p <;> cases q <;> cases w <;>
       simp -implicitDefEqProofs [r68_5, k68_5, subF, iT_len, hii, hkk, hkn, wl, mn, min_int, ixi, ixk, wi, wk, ri, rk, oi, ok, bne, lit_num, ap, trim_le, -Int.natCast_add, -List.append_assoc] <;>
       first
       | exact ih out (Nat.le_succ _)
       | exact ih (out ++ [b[k]]) (by simp)
    ·skip
     rw [swp_right f hk (.inr ⟨hi, hab⟩) w]
     have ih := fun out' (hl : out'.length ≤ out.length + 1) => ih (i, k + 1, f (odd (i)) (odd (k + 1)), out') (by simp only; omega) (by simp only; omega)
     simp only at ih
     have ri := rem2 (i)
     have rk := rem2 (k + 1)
     have oi : decide ((((i) % 2 : Nat) : Int) = 1) = odd (i) := rfl
     have ok : decide ((((k + 1) % 2 : Nat) : Int) = 1) = odd (k + 1) := rfl
     generalize ((((i) % 2 : Nat)) : Int) = mi at ri oi
     generalize ((((k + 1) % 2 : Nat)) : Int) = mk at rk ok
     generalize odd (i) = p at *
     generalize odd (k + 1) = q at *
     have hle : ¬ (a[i] ≤ b[k]) := by omega
     have hne : ¬ (a[i] = b[k]) := by omega
     simp -implicitDefEqProofs [k68_5, -List.append_assoc, -Int.natCast_add] at ih
     rw [← List.append_assoc]
     rcases hz with ⟨rfl, rfl⟩ | ⟨rfl, rfl⟩ | ⟨rfl, rfl⟩
     ·cases p <;> cases q <;> cases w <;>
       simp -implicitDefEqProofs [r68_5, k68_5, orF, iT_len, hii, hkk, hkn, wl, mn, min_int, ixi, ixk, hle, hne, wk, ri, rk, oi, ok, bne, lit_num, ap, trim_le, -Int.natCast_add, -List.append_assoc] <;>
       first
       | exact ih out (Nat.le_succ _)
       | exact ih (out ++ [b[k]]) (by simp)
     ·cases p <;> cases q <;> cases w <;>
       simp -implicitDefEqProofs [r68_5, k68_5, andF, iT_len, hii, hkk, hkn, wl, mn, min_int, ixi, ixk, hle, hne, wk, ri, rk, oi, ok, bne, lit_num, ap, trim_le, -Int.natCast_add, -List.append_assoc] <;>
       first
       | exact ih out (Nat.le_succ _)
       | exact ih (out ++ [b[k]]) (by simp)
     ·cases p <;> cases q <;> cases w <;>
       simp -implicitDefEqProofs [r68_5, k68_5, subF, iT_len, hii, hkk, hkn, wl, mn, min_int, ixi, ixk, hle, hne, wk, ri, rk, oi, ok, bne, lit_num, ap, trim_le, -Int.natCast_add, -List.append_assoc] <;>
       first
       | exact ih out (Nat.le_succ _)
       | exact ih (out ++ [b[k]]) (by simp)
   ·have hkn : (b.length : Int) ≤ (k : Int) := by omega
    have hkn' : b.length ≤ k := by omega
    ·skip
     rw [swp_left f hi (.inl hkn') w]
     have ih := fun out' (hl : out'.length ≤ out.length + 1) => ih (i + 1, k, f (odd (i + 1)) (odd (k)), out') (by simp only; omega) (by simp only; omega)
     simp only at ih
     have ri := rem2 (i + 1)
     have rk := rem2 (k)
     have oi : decide ((((i + 1) % 2 : Nat) : Int) = 1) = odd (i + 1) := rfl
     have ok : decide ((((k) % 2 : Nat) : Int) = 1) = odd (k) := rfl
     generalize ((((i + 1) % 2 : Nat)) : Int) = mi at ri oi
     generalize ((((k) % 2 : Nat)) : Int) = mk at rk ok
     generalize odd (i + 1) = p at *
     generalize odd (k) = q at *
     have hkk : ¬ ((k : Int) < (b.length : Int)) := by omega
     simp -implicitDefEqProofs [k68_5, -List.append_assoc, -Int.natCast_add] at ih
     rw [← List.append_assoc]
     rcases hz with ⟨rfl, rfl⟩ | ⟨rfl, rfl⟩ | ⟨rfl, rfl⟩
     ·cases p <;> cases q <;> cases w <;>
       simp -implicitDefEqProofs [r68_5, k68_5, orF, iT_len, hii, hkk, hkn, ixi, wi, ri, rk, oi, ok, bne, lit_num, ap, trim_le, -Int.natCast_add, -List.append_assoc] <;>
       first
       | exact ih out (Nat.le_succ _)
       | exact ih (out ++ [a[i]]) (by simp)
     ·cases p <;> cases q <;> cases w <;>
       simp -implicitDefEqProofs [r68_5, k68_5, andF, iT_len, hii, hkk, hkn, ixi, wi, ri, rk, oi, ok, bne, lit_num, ap, trim_le, -Int.natCast_add, -List.append_assoc] <;>
       first
       | exact ih out (Nat.le_succ _)
       | exact ih (out ++ [a[i]]) (by simp)
     ·cases p <;> cases q <;> cases w <;>
       simp -implicitDefEqProofs [r68_5, k68_5, subF, iT_len, hii, hkk, hkn, ixi, wi, ri, rk, oi, ok, bne, lit_num, ap, trim_le, -Int.natCast_add, -List.append_assoc] <;>
       first
       | exact ih out (Nat.le_succ _)
       | exact ih (out ++ [a[i]]) (by simp)
  ·have hii : ¬ ((i : Int) < (a.length : Int)) := by omega
   by_cases hk : k < b.length
   ·have hkk : (k : Int) < (b.length : Int) := by omega
    have ixk := iT_index hk
    ·skip
     rw [swp_right f hk (.inl (by omega)) w]
     have ih := fun out' (hl : out'.length ≤ out.length + 1) => ih (i, k + 1, f (odd (i)) (odd (k + 1)), out') (by simp only; omega) (by simp only; omega)
     simp only at ih
     have ri := rem2 (i)
     have rk := rem2 (k + 1)
     have oi : decide ((((i) % 2 : Nat) : Int) = 1) = odd (i) := rfl
     have ok : decide ((((k + 1) % 2 : Nat) : Int) = 1) = odd (k + 1) := rfl
     generalize ((((i) % 2 : Nat)) : Int) = mi at ri oi
     generalize ((((k + 1) % 2 : Nat)) : Int) = mk at rk ok
     generalize odd (i) = p at *
     generalize odd (k + 1) = q at *
     skip
     simp -implicitDefEqProofs [k68_5, -List.append_assoc, -Int.natCast_add] at ih
     rw [← List.append_assoc]
     rcases hz with ⟨rfl, rfl⟩ | ⟨rfl, rfl⟩ | ⟨rfl, rfl⟩
     ·cases p <;> cases q <;> cases w <;>
       simp -implicitDefEqProofs [r68_5, k68_5, orF, iT_len, hii, hkk, ixk, wk, ri, rk, oi, ok, bne, lit_num, ap, trim_le, -Int.natCast_add, -List.append_assoc] <;>
       first
       | exact ih out (Nat.le_succ _)
       | exact ih (out ++ [b[k]]) (by simp)
     ·cases p <;> cases q <;> cases w <;>
       simp -implicitDefEqProofs [r68_5, k68_5, andF, iT_len, hii, hkk, ixk, wk, ri, rk, oi, ok, bne, lit_num, ap, trim_le, -Int.natCast_add, -List.append_assoc] <;>
       first
       | exact ih out (Nat.le_succ _)
       | exact ih (out ++ [b[k]]) (by simp)
     ·cases p <;> cases q <;> cases w <;>
       simp -implicitDefEqProofs [r68_5, k68_5, subF, iT_len, hii, hkk, ixk, wk, ri, rk, oi, ok, bne, lit_num, ap, trim_le, -Int.natCast_add, -List.append_assoc] <;>
       first
       | exact ih out (Nat.le_succ _)
       | exact ih (out ++ [b[k]]) (by simp)
   ·have e1 : a.drop i = [] := List.drop_of_length_le (by omega)
    have e2 : b.drop k = [] := List.drop_of_length_le (by omega)
    rw [e1, e2]
    simp -implicitDefEqProofs [r68_5, k68_5, iT_len, hi, hk, swp, trim_le]
end Go.Proofs.YtjkemccfcabhgaaGreat.Bm
