/-
 Chapter 06: lists of rectangles cut into strips. Conditions: lists that are not too long.
-/
import Derived.Test.YtibmcdmlpobanaaGreatQT21
import Derived.Test.YtibmcdmlpobanaaGreatQT20
namespace Go.Proofs.YtibmcdmlpobanaaGreat.Bm
open Go Go.RowKit
open Rg (ends keepS addS sortU)
def colP (a b : Option (List (Int × Int))) : List (Option Bool × List (Int × Int)) := [(a.map fun _ => false, colL a), (b.map fun _ => false, colL b)]
theorem colX_o (a : Option (List (Int × Int))) : colX a = spanR.o (a.map fun _ => false) (colL a) := by cases a <;> rfl
theorem colX_set (a : Option (List (Int × Int))) {n : Nat} : settled (n + 1) (colX a) = true := by cases a <;> rfl
theorem colX_bel (a : Option (List (Int × Int))) {d n : Nat} : below (d + 1) n (colX a) = true := by cases a <;> rfl
theorem colX_reify (a : Option (List (Int × Int))) {P : Program} {n : Nat} {h : Heap} : reify P (n + 1) h (colX a) = some (colX a) := by cases a <;> rfl
theorem lit_cols (h : Heap) (a b : Option (List (Int × Int))) : buildSliceT (some ⟨52, 1, 24, .slice none 0 0, ⟨some false, some 1⟩⟩) false h 2 #[(0, colX a), (1, colX b)] = some (lst true [colX a, colX b], h) := by
 cases a <;> cases b <;> exact (build_lit' (n := 2) (l := [(0, colX _), (1, colX _)]) rfl rfl (by decide) (by decide) (by decide)).trans rfl
theorem concat_cols (a b : Option (List (Int × Int))) (ha : (colL a).length ≤ 10000) (hb : (colL b).length ≤ 10000) :
  ∃ k, Rec.Ok k (colL a ++ colL b) ∧ pureCall E.P (L E) 72 [lst true [colX a, colX b]] = some (spanR.o k (colL a ++ colL b)) := by
 have ok : ∀ p ∈ colP a b, Rec.Ok p.1 p.2 := by
  intro p hp
  simp only [colP, List.mem_cons, List.not_mem_nil, or_false] at hp
  rcases hp with rfl | rfl
  ·cases a with
   | none => exact fun _ => rfl
   | some a => exact Rec.ok_some
  ·cases b with
   | none => exact fun _ => rfl
   | some b => exact Rec.ok_some
 have key := spans_concat true (colP a b) ok (by show 2 ≤ 1000; omega) (by show (colL a).length + ((colL b).length + 0) ≤ 1000000; omega)
 have e1 : (colP a b).map (fun p => spanR.o p.1 p.2) = [colX a, colX b] := by rw [colX_o a, colX_o b]; rfl
 have e2 : allP (colP a b) = colL a ++ colL b := by show colL a ++ (colL b ++ []) = _; rw [List.append_nil]
 rw [e1, e2] at key
 refine ⟨_, fun hk => ?_, key⟩
 split at hk
 ·rename_i h0
  have : (allP (colP a b)).length = 0 := by rw [tot_all, h0]
  rw [e2] at this
  exact List.eq_nil_of_length_eq_zero this
 ·cases hk
theorem ends_cons (s : Int × Int) (l : List (Int × Int)) : ends (s :: l) = [s.1, s.2] ++ ends l := rfl
theorem addS_set {o : List (Int × Int)} {m : Nat} (hm : o.length = m + 1) (x y : Int) (h : (o[m]'(by omega)).2 = x) : addS o x y = o.set m ((o[m]'(by omega)).1, y) := by
 have ho : o.getLast? = some (o[m]'(by omega)) := by
  have hl : o.length - 1 = m := by omega
  have hm' : m < o.length := by omega
  rw [List.getLast?_eq_getElem?, hl, List.getElem?_eq_getElem hm']
 unfold addS
 rw [ho]
 simp only
 rw [if_pos h]
 apply List.ext_getElem?
 intro i
 by_cases e : i = m
 ·subst e
  rw [List.getElem?_append_right (by simp [hm]), List.getElem?_set_self (by omega)]
  simp [hm]
 ·rw [List.getElem?_set_ne (Ne.symm e)]
  by_cases hi : i < m
  ·rw [List.getElem?_append_left (by simp [hm]; omega), List.getElem?_dropLast, if_pos (by omega)]
  ·rw [List.getElem?_eq_none (by simp [hm]; omega), List.getElem?_eq_none (by omega)]
theorem addS_new {o : List (Int × Int)} {m : Nat} (hm : o.length = m + 1) (x y : Int) (h : ¬ (o[m]'(by omega)).2 = x) : addS o x y = o ++ [(x, y)] := by
 have ho : o.getLast? = some (o[m]'(by omega)) := by
  have hl : o.length - 1 = m := by omega
  have hm' : m < o.length := by omega
  rw [List.getLast?_eq_getElem?, hl, List.getElem?_eq_getElem hm']
 unfold addS
 rw [ho]
 simp only
 rw [if_neg h]
theorem merge_spec (a b : Option (List (Int × Int))) (q : FuncId) (f : Bool → Bool → Bool) (hm : E.mode q = 0) (hq : ∀ x y, pureCall E.P (L E) q [.bool x, .bool y] = some (.bool (f x y))) (ha : (colL a).length ≤ 10000) (hb : (colL b).length ≤ 10000) :
  pureCall E.P (L E) 60 [colX a, colX b, .func (.func q) ⟨[]⟩ ⟨[]⟩] = some (colV (keepS (fun y => f (inB (colL a) y) (inB (colL b) y)) [] (sortU (ends (colL a ++ colL b))))) := by
 obtain ⟨k, hk, hcat⟩ := concat_cols a b ha hb
 have s3 : szOf E.P 3 = some 1 := by kernel_rfl
 have st : settled depth (lst true [colX a, colX b]) = true := by cases a <;> cases b <;> rfl
 have hcl : (colL a ++ colL b).length ≤ 20000 := by rw [List.length_append]; omega
 rw [pureCall_fn F60 rfl]
 simp -implicitDefEqProofs [r60, p60, prep_new, newK_nil s3, lit_cols, ret1 m72, hcat, st, Rec.o_len hk, -List.length_append]
 generalize hcc : colL a ++ colL b = cc at hk hcl ⊢
 rw [LL_for (γ := List Int) cc [] (fun i c => [(7, intR.sl 0 c), (19, .int .i64 i)]) (fun _ c => [intR.row 3 c])
  (fun _ rest c => (.exit 0, [(7, intR.sl 0 (c ++ ends rest)), (19, undef)], [intR.row 3 (c ++ ends rest)])) (fun i c => c.length = 2 * i) (by omega) rfl]
 ·rw [List.nil_append]
  have hel : (ends cc).length = 2 * cc.length := Rg.ends_len cc
  have so := sortInts (h := [intR.row 3 (ends cc)]) (b := 0) (lo := 0) (d := ends cc) rfl (Nat.le_refl _) (by omega)
  obtain ⟨r, co, hr⟩ := compInts (h := [intR.row 3 (sortI (ends cc))]) (b := 0) (lo := 0) (d := sortI (ends cc)) rfl (Nat.le_refl _) (by rw [sortI_len]; omega)
  have hsl : (sortI (ends cc)).length = (ends cc).length := sortI_len _
  rw [Rg.comp_sort] at co hr
  have e1 : intR.sl 0 (sortI (ends cc)) = intR.sl 0 (ends cc) := by unfold Rec.sl; rw [hsl]
  rw [e1] at co
  simp only [List.set_cons_zero] at so co
  simp -implicitDefEqProofs [k60_3, ret2 (E := E) (f := 44) rfl, ret2 (E := E) (f := 45) rfl, so, co, prep_new, newK_nil s59]
  rw [hsl] at hr ⊢
  generalize hys : sortU (ends cc) = ys at hr ⊢
  generalize (ends cc).length = n at hr hel ⊢
  have hyn : ys.length ≤ 40000 := by rw [List.length_append] at hr; omega
  generalize hkf : (fun y => f (inB (colL a) y) (inB (colL b) y)) = kf
  have hkf' : ∀ y, f (inB (colL a) y) (inB (colL b) y) = kf y := fun y => by rw [← hkf]
  rw [LL_rec (α := Nat × List (Int × Int)) (1, []) (fun c => [(10, spanR.sl 1 c.2), (11, .int .i64 c.1)]) (fun c => [intR.row 3 (ys ++ r), spanR.row 54 c.2])
   (fun c => (.exit 2, [(10, spanR.sl 1 (keepS kf c.2 (ys.drop (c.1 - 1)))), (11, undef)], [intR.row 3 (ys ++ r), spanR.row 54 (keepS kf c.2 (ys.drop (c.1 - 1)))])) (fun c => 1 ≤ c.1 ∧ c.1 ≤ ys.length + 1 ∧ c.2.length ≤ c.1) (fun c => ys.length + 1 - c.1)]
  ·have rr := Rec.reifyR_row (R := spanR) (P := E.P) (h := [intR.row 3 (ys ++ r), spanR.row 54 (keepS kf [] ys)]) (b := 1) (t := 54) (l := keepS kf [] ys) rfl s59 a59
   simp -implicitDefEqProofs [k60_11, rr, colV]
  ·exact ⟨Nat.le_refl _, by simp, by simp⟩
  ·simp -implicitDefEqProofs [k60_11, Rec.sl_nil]
  ·rfl
  ·intro nx c hc ih
   obtain ⟨i, o⟩ := c
   obtain ⟨h1, h2, h3⟩ := hc
   simp only at h1 h2 h3
   by_cases hi : i < ys.length
   ·obtain ⟨m, rfl⟩ : ∃ m, i = m + 1 := ⟨i - 1, by omega⟩
    have hm0 : m < ys.length := by omega
    have hd : ys.drop (m + 1 - 1) = ys[m] :: ys[m + 1] :: ys.drop (m + 2) := by
     rw [Nat.add_sub_cancel, List.drop_eq_getElem_cons hm0, List.drop_eq_getElem_cons hi]
    have hd2 : ys.drop (m + 1) = ys[m + 1] :: ys.drop (m + 2) := List.drop_eq_getElem_cons hi
    have ek : keepS kf o (ys[m] :: ys[m + 1] :: ys.drop (m + 2)) = keepS kf (if kf ys[m] then addS o ys[m] ys[m + 1] else o) (ys[m + 1] :: ys.drop (m + 2)) := rfl
    have w1 : IntKind.i64.wrap (m : Int) = m := wrap64 (by omega) (by omega)
    have w2 : IntKind.i64.wrap ((m : Int) + 1 + 1) = (m : Int) + 2 := (wrap64 (by omega) (by omega)).trans (by omega)
    have hlt : (m : Int) + 1 < (ys.length : Int) := by omega
    have px := pre_index (t := 3) (g := some false) (b := 0) (n := n) (k := .i64) hm0
    have px1 := pre_index (t := 3) (g := some false) (b := 0) (n := n) (k := .i64) hi
    have pl := pre_load (h := [intR.row 3 (ys ++ r), spanR.row 54 o]) (b := 0) (n := n) (sz := some 1) rfl hr hm0
    have pl1 := pre_load (h := [intR.row 3 (ys ++ r), spanR.row 54 o]) (b := 0) (n := n) (sz := some 1) rfl hr hi
    have insa := inside_spec a ys[m] (by omega)
    have insb := inside_spec b ys[m] (by omega)
    have ap := app_span (h := [intR.row 3 (ys ++ r), spanR.row 54 o]) (b := 1) (c := o) ys[m] ys[m + 1] rfl (by omega)
    have ih := fun o' => ih (m + 2, o')
    rw [hd, ek, ← hd2]
    push_cast at px1
    cases hkv : kf ys[m]
    ·have ih := ih o (by show ys.length + 1 - (m + 2) < ys.length + 1 - (m + 1); omega) ⟨by show 1 ≤ m + 2; omega, by show m + 2 ≤ ys.length + 1; omega, by show o.length ≤ m + 2; omega⟩
     simp -implicitDefEqProofs [k60_11] at ih
     simp -implicitDefEqProofs [r60_11, k60_11, hlt, pre_len, w1, w2, px, pl, ret0 m73, colX_reify, insa, insb, ret0 hm, hq, hkf', hkv, trim_le]
     exact ih
    ·rw [if_pos rfl]
     have ih2 := fun o' (hl : o'.length ≤ m + 2) => ih o' (by show ys.length + 1 - (m + 2) < ys.length + 1 - (m + 1); omega) ⟨by show 1 ≤ m + 2; omega, by show m + 2 ≤ ys.length + 1; omega, hl⟩
     by_cases h0 : o = []
     ·subst h0
      have ih := ih2 [(ys[m], ys[m + 1])] (by show 1 ≤ m + 2; omega)
      have e : addS [] ys[m] ys[m + 1] = [(ys[m], ys[m + 1])] := rfl
      rw [List.nil_append] at ap
      rw [e]
      simp -implicitDefEqProofs [k60_11] at ih
      simp -implicitDefEqProofs [r60_11, k60_11, hlt, pre_len, w1, w2, px, pl, px1, pl1, ret0 m73, colX_reify, insa, insb, ret0 hm, hq, hkf', hkv, Rec.sl_len, b2_all, lit_span, ap, trim_le]
      exact ih
     ·obtain ⟨t, ht⟩ : ∃ t, o.length = t + 1 := ⟨o.length - 1, by have := List.length_pos_iff.2 h0; omega⟩
      have ht' : t < o.length := by omega
      have w3 : IntKind.i64.wrap ((o.length : Int) - 1) = (t : Int) := (wrap64 (by omega) (by omega)).trans (by omega)
      have hpos : 0 < o.length := by omega
      have ixo := Rec.index_row (R := spanR) (h0 := 2) (t := 54) (g := some true) (b := 1) (l := o) (i := t) (k := .i64) rfl ht'
      have fdo := Rec.field_row (R := spanR) (b := 1) (n := 0) (f := 1) (l := o) (i := t) (k := ⟨some true, some 2⟩) (g := some false)
      have ldo := Rec.load_cell (R := spanR) (h := [intR.row 3 (ys ++ r), spanR.row 54 o]) (b := 1) (j := 1) (t := 54) (l := o) (i := t) (sz := some 1) rfl ht' (by decide)
      have e1 : (spanR.enc o[t])[1]? = some (.int .i64 o[t].2) := rfl
      simp only [e1] at ldo
      have sto := Rec.store_cell (R := spanR) (h := [intR.row 3 (ys ++ r), spanR.row 54 o]) (b := 1) (j := 1) (lo := 0) (t := 54) (l := o) (i := t) (v := .int .i64 ys[m + 1]) (a := (o[t].1, ys[m + 1])) rfl rfl (Nat.zero_le _) ht' (by decide) rfl
      by_cases hs : o[t].2 = ys[m]
      ·rw [addS_set ht _ _ hs]
       have ih := ih2 (o.set t (o[t].1, ys[m + 1])) (by simp; omega)
       have el : spanR.sl 1 (o.set t (o[t].1, ys[m + 1])) = spanR.sl 1 o := sl_eq (by simp)
       simp -implicitDefEqProofs [k60_11, el] at ih
       simp -implicitDefEqProofs [r60_11, k60_11, hlt, pre_len, w1, w2, px, pl, px1, pl1, ret0 m73, colX_reify, insa, insb, ret0 hm, hq, hkf', hkv, Rec.sl_len, hpos, w3, ixo, fdo, ldo, sto, hs, trim_le]
       exact ih
      ·rw [addS_new ht _ _ hs]
       have ih := ih2 (o ++ [(ys[m], ys[m + 1])]) (by simp; omega)
       simp -implicitDefEqProofs [k60_11] at ih
       simp -implicitDefEqProofs [r60_11, k60_11, hlt, pre_len, w1, w2, px, pl, px1, pl1, ret0 m73, colX_reify, insa, insb, ret0 hm, hq, hkf', hkv, Rec.sl_len, hpos, w3, ixo, fdo, ldo, hs, b2_all, lit_span, ap, trim_le]
       exact ih
   ·have e : keepS kf o (ys.drop (i - 1)) = o := by
     have hl : (ys.drop (i - 1)).length ≤ 1 := by rw [List.length_drop]; omega
     match hd : ys.drop (i - 1), hl with
     | [], _ => rfl
     | [z], _ => rfl
    rw [e]
    simp -implicitDefEqProofs [r60_11, k60_11, hi, pre_len, trim_le]
 ·simp -implicitDefEqProofs [k60_3, Rec.sl_nil]
 ·rfl
 ·intro nx i c hi _
  simp -implicitDefEqProofs [r60_3, k60_3, hi, trim_le, ends]
 ·intro nx i s rest c hi hv hd hw hc ih
  have ixi := Rec.o_index (R := spanR) (t := 54) (kk := .i64) (s := 2) rfl hk hi
  rw [hv] at ixi
  have ap := fun o => app_two (h := [intR.row 3 c, o]) (b := 0) (c := c) s.1 s.2 rfl (by omega)
  have ih := ih (c ++ [s.1, s.2]) (by simp; omega)
  rw [ends_cons, ← List.append_assoc]
  simp -implicitDefEqProofs [k60_3, -List.append_assoc] at ih
  simp -implicitDefEqProofs [r60_3, k60_3, hi, ixi, span_val, lit_two, ap, hw, trim_cut, Rec.sl_bel, Rec.row_bel, Rec.o_bel, colX_bel, -List.append_assoc]
  exact ih
end Go.Proofs.YtibmcdmlpobanaaGreat.Bm
namespace Go.Proofs.YtibmcdmlpobanaaGreat.Rg
open Bm (inB inB_has atO colL pslab bs bs_ok)
def edgesX (l : List Rect) : List Int := sortU (l.flatMap fun r => [r.x0, r.x1])
theorem edgesX_all (l : List Rect) : EdgesX l (edgesX l) := fun r hr => by
 unfold edgesX
 rw [sortU_mem, sortU_mem]
 exact ⟨List.mem_flatMap.2 ⟨r, hr, by simp⟩, List.mem_flatMap.2 ⟨r, hr, by simp⟩⟩
theorem EdgesX.mono {l m : List Rect} {xs : List Int} (h : EdgesX m xs) (hlm : ∀ r ∈ l, r ∈ m) : EdgesX l xs := fun r hr => h r (hlm r hr)
def stripsL (l : List Rect) : List Slab := stripL (colC l) (edgesX l)
def ofL (l : List Rect) : List Rect := outT (runsF (stripsL l))
theorem edgesX_len (l : List Rect) : (edgesX l).length ≤ 2 * l.length := by
 have h : ∀ (z : Int) (m : List Int), (insU z m).length ≤ m.length + 1 := by
  intro z m
  induction m with
  | nil => exact Nat.le_refl _
  | cons a m ih =>
   unfold insU
   split
   ·exact Nat.le_refl _
   ·split
    ·exact Nat.le_succ _
    ·exact Nat.succ_le_succ ih
 have k : ∀ (m : List Int), (sortU m).length ≤ m.length := by
  intro m
  induction m with
  | nil => exact Nat.le_refl _
  | cons a m ih => exact Nat.le_trans (h a _) (Nat.succ_le_succ ih)
 refine Nat.le_trans (k _) ?_
 induction l with
 | nil => exact Nat.le_refl _
 | cons r l ih =>
  have e : ((r :: l).flatMap fun r => [r.x0, r.x1]).length = 2 + (l.flatMap fun r => [r.x0, r.x1]).length := by
   rw [List.flatMap_cons, List.length_append]; rfl
  have e2 : (r :: l).length = l.length + 1 := rfl
  rw [e, e2]; omega
theorem stripL_len (c : Int → List (Int × Int)) : ∀ (xs : List Int), (stripL c xs).length = xs.length - 1
 | [] => rfl
 | [_] => rfl
 | a :: b :: xs => by
  show (stripL c (b :: xs)).length + 1 = _
  rw [stripL_len c (b :: xs)]; simp
theorem stripL_map (c c' : Int → List (Int × Int)) (g : Slab → List (Int × Int)) : ∀ (xs : List Int), (∀ s ∈ stripL c xs, g s = c' s.x0) → (stripL c xs).map (fun s => (⟨s.x0, s.x1, g s⟩ : Slab)) = stripL c' xs
 | [], _ => rfl
 | [_], _ => rfl
 | a :: b :: xs, h => by
  show (⟨a, b, g ⟨a, b, c a⟩⟩ : Slab) :: (stripL c (b :: xs)).map _ = ⟨a, b, c' a⟩ :: stripL c' (b :: xs)
  rw [stripL_map c c' g (b :: xs) fun s hs => h s (List.mem_cons_of_mem _ hs), h ⟨a, b, c a⟩ List.mem_cons_self]
theorem ofL_ok {l : List Rect} (hl : ∀ r ∈ l, r.y0 < r.y1) : Form (ofL l) ∧ ∀ x y, cell (ofL l) x y = cell l x y :=
 strips_form (cell_steps l) (sortU_asc _) (edgesX_all l) (colC l) (fun x => (colC_ok hl x).1) fun x _ y => (colC_ok hl x).2 y
theorem gapless_get : ∀ {T : List Slab} {b : Int}, gapless b T → ∀ i (hi : i < T.length), b ≤ T[i].x0 ∧ T[i].x0 < T[i].x1 ∧ Can T[i].col
 | [], _, _, i, hi => by simp at hi
 | s :: T, b, h, 0, _ => ⟨Int.le_of_eq h.1.symm, h.2.1, h.2.2.1⟩
 | s :: T, b, h, i + 1, hi => by
  have hi' : i < T.length := by simpa using hi
  have := gapless_get h.2.2.2 i hi'
  have h1 := h.1
  have h2 := h.2.1
  have h3 : b ≤ T[i].x0 := by omega
  exact ⟨h3, this.2⟩
theorem gapless_two : ∀ {T : List Slab} {b : Int}, gapless b T → ∀ i j (hj : j < T.length) (hij : i < j), (T[i]'(by omega)).x1 ≤ T[j].x0
 | [], _, _, _, j, hj, _ => by simp at hj
 | s :: T, b, h, 0, 0, _, hij => by omega
 | s :: T, b, h, 0, j + 1, hj, _ => (gapless_get h.2.2.2 j (by simpa using hj)).1
 | s :: T, b, h, i + 1, 0, _, hij => by omega
 | s :: T, b, h, i + 1, j + 1, hj, hij => gapless_two h.2.2.2 i j (by simpa using hj) (by omega)
theorem cellT_get {T : List Slab} {x y : Int} : cellT T x y = true ↔ ∃ i, ∃ hi : i < T.length, T[i].x0 ≤ x ∧ x < T[i].x1 ∧ hasS T[i].col y = true := by
 unfold cellT
 rw [List.any_eq_true]
 constructor
 ·rintro ⟨s, hs, h⟩
  obtain ⟨i, hi, rfl⟩ := List.mem_iff_getElem.1 hs
  simp only [Bool.and_eq_true, decide_eq_true_eq] at h
  exact ⟨i, hi, h.1.1, h.1.2, h.2⟩
 ·rintro ⟨i, hi, h1, h2, h3⟩
  exact ⟨T[i], List.getElem_mem hi, by simp [h1, h2, h3]⟩
theorem pslab_get {T : List Slab} {x : Int} {k : Nat} (hk : k < T.length) : pslab T x k = decide (T[k].x1 ≤ x) := by
 unfold pslab; rw [List.getD_eq_getElem?_getD, List.getElem?_eq_getElem hk]; rfl
theorem atO_ok {T : List Slab} {b : Int} (h : gapless b T) (x : Int) : Can (colL (atO T x)) ∧ ∀ y, hasS (colL (atO T x)) y = cellT T x y := by
 have ok := bs_ok (p := pslab T x) (n := T.length) fun i j hij hj hp => by
  rw [pslab_get hj, decide_eq_true_eq] at hp
  rw [pslab_get (by omega), decide_eq_true_eq]
  by_cases e : i = j
  ·subst e; exact hp
  ·have := gapless_two h i j hj (by omega)
   have := (gapless_get h j hj).2.1
   omega
 unfold atO
 generalize bs (pslab T x) 0 T.length = m at ok ⊢
 obtain ⟨hm, ok⟩ := ok
 have none : (∀ k (hk : k < T.length), ¬ (T[k].x0 ≤ x ∧ x < T[k].x1)) → Can (colL none) ∧ ∀ y, hasS (colL none) y = cellT T x y := fun hn => ⟨trivial, fun y => by
  show false = _
  symm
  rw [Bool.eq_false_iff]
  intro hc
  obtain ⟨i, hi, h1, h2, _⟩ := cellT_get.1 hc
  exact hn i hi ⟨h1, h2⟩⟩
 by_cases hlt : m < T.length
 ·rw [if_pos hlt, List.getD_eq_getElem?_getD, List.getElem?_eq_getElem hlt]
  show Can (colL (if T[m].x0 ≤ x then _ else _)) ∧ ∀ y, hasS (colL (if T[m].x0 ≤ x then _ else _)) y = _
  have hm1 := ok m hlt
  rw [pslab_get hlt, decide_eq_true_eq] at hm1
  by_cases hx : T[m].x0 ≤ x
  ·rw [if_pos hx]
   refine ⟨(gapless_get h m hlt).2.2, fun y => ?_⟩
   show hasS T[m].col y = _
   rw [Bool.eq_iff_iff, cellT_get]
   refine ⟨fun hy => ⟨m, hlt, hx, by omega, hy⟩, ?_⟩
   rintro ⟨i, hi, h1, h2, h3⟩
   have e : i = m := by
    rcases Nat.lt_trichotomy i m with q | q | q
    ·have := gapless_two h i m hlt q; omega
    ·exact q
    ·have := gapless_two h m i hi q; omega
   subst e; exact h3
  ·rw [if_neg hx]
   refine none fun k hk hkx => ?_
   have hk1 := ok k hk
   rw [pslab_get hk, decide_eq_true_eq] at hk1
   by_cases e : m = k
   ·subst e; exact hx hkx.1
   ·have := gapless_two h m k hk (by omega)
    have := (gapless_get h m hlt).2.1
    omega
 ·rw [if_neg hlt]
  refine none fun k hk hkx => ?_
  have hk1 := ok k hk
  rw [pslab_get hk, decide_eq_true_eq] at hk1
  omega
theorem at_strips {l : List Rect} (hl : ∀ r ∈ l, r.y0 < r.y1) (x : Int) : Can (colL (atO (stripsL l) x)) ∧ ∀ y, hasS (colL (atO (stripsL l) x)) y = cell l x y := by
 obtain ⟨b, hg⟩ := stripL_gap (colC l) (fun x => (colC_ok hl x).1) (edgesX l) (sortU_asc _)
 refine ⟨(atO_ok hg x).1, fun y => ?_⟩
 rw [show atO (stripsL l) x = atO (stripL (colC l) (edgesX l)) x from rfl, (atO_ok hg x).2]
 have hE := edgesX_all l
 have hp : (edgesX l).Pairwise (· < ·) := sortU_asc _
 refine stripL_cell (colC l) (cell l) (edgesX l) hp (fun a b ⟨p, q, e⟩ x hx hxb y => ?_) (fun x hx y => (cell_steps l).none x (fun r hr h => ?_) y) (fun x hx y => (cell_steps l).none x (fun r hr h => ?_) y) x y
 ·rw [(colC_ok hl a).2]
  refine (cell_steps l).same x a (fun r hr => ?_) y
  have q0 := between hp e (hE r hr).1
  have q1 := between hp e (hE r hr).2
  omega
 ·have := hx _ (hE r hr).1; omega
 ·have := hx _ (hE r hr).2; omega
theorem hasS_const {c : List (Int × Int)} {y y' : Int} (h : ∀ s ∈ c, (s.1 ≤ y ↔ s.1 ≤ y') ∧ (y < s.2 ↔ y' < s.2)) : hasS c y = hasS c y' := any_ext fun s hs => by
 obtain ⟨h1, h2⟩ := h s hs
 simp only [h1, h2]
theorem hasS_out {c : List (Int × Int)} {y : Int} (h : ∀ s ∈ c, ¬ (s.1 ≤ y ∧ y < s.2)) : hasS c y = false := List.any_eq_false.2 fun s hs => by
 have := h s hs
 simp only [Bool.and_eq_true, decide_eq_true_eq]
 exact this
theorem ends_mem {c : List (Int × Int)} {s : Int × Int} (h : s ∈ c) : s.1 ∈ ends c ∧ s.2 ∈ ends c := ⟨List.mem_flatMap.2 ⟨s, h, by simp⟩, List.mem_flatMap.2 ⟨s, h, by simp⟩⟩
def mergeC (f : Bool → Bool → Bool) (a b : List (Int × Int)) : List (Int × Int) := keepS (fun y => f (inB a y) (inB b y)) [] (sortU (ends (a ++ b)))
theorem mergeC_ok (f : Bool → Bool → Bool) (hf : f false false = false) {a b : List (Int × Int)} (ha : Can a) (hb : Can b) : Can (mergeC f a b) ∧ ∀ y, hasS (mergeC f a b) y = f (hasS a y) (hasS b y) := by
 unfold mergeC
 have hp := sortU_asc (ends (a ++ b))
 have hm : ∀ s, (s ∈ a ∨ s ∈ b) → s.1 ∈ sortU (ends (a ++ b)) ∧ s.2 ∈ sortU (ends (a ++ b)) := fun s hs => by
  rw [sortU_mem, sortU_mem]
  exact ends_mem (List.mem_append.2 hs)
 generalize sortU (ends (a ++ b)) = ys at hp hm
 have ek : (fun y => f (inB a y) (inB b y)) = fun y => f (hasS a y) (hasS b y) := funext fun y => by rw [inB_has ha, inB_has hb]
 rw [ek]
 refine ⟨?_, fun y => keepS_has _ (fun y => f (hasS a y) (hasS b y)) ys hp (fun u v ⟨p, q, e⟩ y hy hyv => ?_) (fun y hy => ?_) (fun y hy => ?_) y⟩
 ·cases ys with
  | nil => trivial
  | cons z ys => exact (keepS_ok _ (z :: ys) [] z hp ⟨trivial, fun s hs => by cases hs⟩ fun b hb => by
    rcases List.mem_cons.1 hb with rfl | hb
    ·exact Int.le_refl _
    ·exact Int.le_of_lt ((List.pairwise_cons.1 hp).1 b hb)).1
 ·have key : ∀ s, (s ∈ a ∨ s ∈ b) → (s.1 ≤ y ↔ s.1 ≤ u) ∧ (y < s.2 ↔ u < s.2) := fun s hs => by
   have q0 := between hp e (hm s hs).1
   have q1 := between hp e (hm s hs).2
   omega
  show f (hasS a y) (hasS b y) = f (hasS a u) (hasS b u)
  rw [hasS_const (fun s hs => key s (.inl hs)), hasS_const (fun s hs => key s (.inr hs))]
 ·show f (hasS a y) (hasS b y) = false
  rw [hasS_out (c := a) fun s hs h => by have := hy _ (hm s (.inl hs)).1; omega, hasS_out (c := b) fun s hs h => by have := hy _ (hm s (.inr hs)).1; omega, hf]
 ·show f (hasS a y) (hasS b y) = false
  rw [hasS_out (c := a) fun s hs h => by have := hy _ (hm s (.inl hs)).2; omega, hasS_out (c := b) fun s hs h => by have := hy _ (hm s (.inr hs)).2; omega, hf]
def opC (f : Bool → Bool → Bool) (a b : List Rect) (x : Int) : List (Int × Int) := mergeC f (colL (atO (stripsL a) x)) (colL (atO (stripsL b) x))
def opL (f : Bool → Bool → Bool) (a b : List Rect) : List Rect := outT (runsF (stripL (opC f a b) (edgesX (a ++ b))))
theorem opL_ok (f : Bool → Bool → Bool) (hf : f false false = false) {a b : List Rect} (ha : ∀ r ∈ a, r.y0 < r.y1) (hb : ∀ r ∈ b, r.y0 < r.y1) : Form (opL f a b) ∧ ∀ x y, cell (opL f a b) x y = f (cell a x y) (cell b x y) := by
 have h1 : Steps (a ++ b) (cell a) := (cell_steps a).mono fun r hr => List.mem_append_left _ hr
 have h2 : Steps (a ++ b) (cell b) := (cell_steps b).mono fun r hr => List.mem_append_right _ hr
 have hc := fun x => mergeC_ok f hf (at_strips ha x).1 (at_strips hb x).1
 refine strips_form (h1.op h2 f hf) (sortU_asc _) (edgesX_all _) (opC f a b) (fun x => (hc x).1) fun x _ y => ?_
 rw [show hasS (opC f a b x) y = _ from (hc x).2 y, (at_strips ha x).2, (at_strips hb x).2]
end Go.Proofs.YtibmcdmlpobanaaGreat.Rg
namespace Go.Proofs.YtibmcdmlpobanaaGreat.Bm
open Go Go.RowKit
open Rg (Rect Slab stripsL edgesX colC stripL sortU)
theorem end0 {h : Heap} {a : AObj} : (h ++ [a])[h.length]? = some a := by simp
theorem end1 {h : Heap} {a b : AObj} : (h ++ [a, b])[h.length]? = some a := by simp
theorem end2 {h : Heap} {a b : AObj} : (h ++ [a, b])[h.length + 1]? = some b := by
 rw [List.getElem?_append_right (by omega), Nat.add_sub_cancel_left]; rfl
theorem set0 {h : Heap} {a b : AObj} : (h ++ [a]).set h.length b = h ++ [b] := by
 rw [List.set_append_right _ _ (Nat.le_refl _), Nat.sub_self]; rfl
theorem set1 {h : Heap} {a c b : AObj} : (h ++ [a, c]).set h.length b = h ++ [b, c] := by
 rw [List.set_append_right _ _ (Nat.le_refl _), Nat.sub_self]; rfl
theorem set2 {h : Heap} {a c b : AObj} : (h ++ [a, c]).set (h.length + 1) b = h ++ [a, b] := by
 rw [List.set_append_right _ _ (by omega), Nat.add_sub_cancel_left]; rfl
theorem take1 {h : Heap} {a b : AObj} : (h ++ [a, b]).take (h.length + 1) = h ++ [a] := by
 rw [List.take_append, List.take_of_length_le (by omega), Nat.add_sub_cancel_left]; rfl
theorem app_app {h : Heap} {a b : AObj} : (h ++ [a]) ++ [b] = h ++ [a, b] := by rw [List.append_assoc]; rfl
theorem s61 : szOf E.P 56 = some 3 := by kernel_rfl
theorem a61 : aggT E.P 56 = some true := by kernel_rfl
theorem s3 : szOf E.P 3 = some 1 := by kernel_rfl
theorem b3_all {a b : Int} {c : List (Int × Int)} : buildT (Bl.fs ⟨[.int .i64 0, .int .i64 0, .slice none 0 0]⟩ ⟨[(0, 1), (1, 1), (2, 1)]⟩) #[(0, .int .i64 a), (1, .int .i64 b), (2, colV c)] = some (.agg ⟨[.int .i64 a, .int .i64 b, colV c]⟩) := rfl
theorem lit_slab (h : Heap) (a b : Int) (c : List (Int × Int)) : buildSliceT (some ⟨56, 3, 40, .agg ⟨[.int .i64 0, .int .i64 0, .slice none 0 0]⟩, ⟨some true, some 3⟩⟩) false h 1 #[(0, .agg ⟨[.int .i64 a, .int .i64 b, colV c]⟩)] = some (lst true [.agg ⟨[.int .i64 a, .int .i64 b, colV c]⟩], h) :=
 (build_lit' (n := 1) (l := [(0, .agg ⟨[.int .i64 a, .int .i64 b, colV c]⟩)]) rfl rfl (by decide) (by decide) (by decide)).trans rfl
theorem app_slab {h : Heap} {b lo : Nat} {c : List Slab} (s : Slab) (hob : h[b]? = some (slabR.row 56 c)) (hlo : lo ≤ b) (hc : c.length ≤ 1000000) :
  appendT (some ⟨56, 3, 40, .agg ⟨[.int .i64 0, .int .i64 0, .slice none 0 0]⟩, ⟨some true, some 3⟩⟩) h lo false (slabR.sl b c) (lst true [.agg ⟨[.int .i64 s.x0, .int .i64 s.x1, colV s.col]⟩]) = some (slabR.sl b (c ++ [s]), h.set b (slabR.row 56 (c ++ [s]))) :=
 Rec.app (R := slabR) (m := [s]) rfl hob (Rec.cells_tree (R := slabR) rfl [s]) hlo (by show (c.length + 1) * 40 ≤ 2 ^ 47; omega)
theorem app_two' {h : Heap} {b lo : Nat} {c : List Int} (u v : Int) (hob : h[b]? = some (intR.row 3 c)) (hlo : lo ≤ b) (hc : c.length ≤ 1000000) :
  appendT (some ⟨3, 1, 8, .int .i64 0, ⟨some false, some 1⟩⟩) h lo false (intR.sl b c) (lst true [.int .i64 u, .int .i64 v]) = some (intR.sl b (c ++ [u, v]), h.set b (intR.row 3 (c ++ [u, v]))) :=
 Rec.app (R := intR) (m := [u, v]) rfl hob (cells_lst (by rfl)) hlo (by show (c.length + 2) * 8 ≤ 2 ^ 47; omega)
def xsL (l : List Rect) : List Int := l.flatMap fun r => [r.x0, r.x1]
theorem xsL_cons (r : Rect) (l : List Rect) : xsL (r :: l) = [r.x0, r.x1] ++ xsL l := rfl
theorem xsL_len (l : List Rect) : (xsL l).length = 2 * l.length := by
 induction l with
 | nil => rfl
 | cons r l ih =>
  have e2 : (r :: l).length = l.length + 1 := rfl
  have e3 : [r.x0, r.x1].length = 2 := rfl
  rw [xsL_cons, List.length_append, ih, e2, e3]; omega
theorem slab_sl_len {b : Nat} {c d : List Slab} (h : c.length = d.length) : slabR.sl b c = slabR.sl b d := by unfold Rec.sl; rw [h]
theorem strips_spec (x : Bool) (P : List (Option Bool × List Rect)) (hok : ∀ p ∈ P, Rec.Ok p.1 p.2) (hP : P.length ≤ 1000) (ht : tot P ≤ 1000) (st : settled depth (lst x (P.map fun p => rectR.o p.1 p.2)) = true)
  (h : Heap) (lo : Nat) (hlo : lo ≤ h.length) (hb : ∀ n, h.length ≤ n → h.all (belowO n) = true) :
  ∃ q, L E 16 [lst x (P.map fun p => rectR.o p.1 p.2)] h lo = some (slabR.sl (h.length + 1) (stripsL (allP P)), h ++ [intR.row 3 q, slabR.row 56 (stripsL (allP P))]) := by
 have hcat := rects_concat x P hok hP (by omega)
 have hcl : (allP P).length ≤ 1000 := by rw [tot_all]; exact ht
 have hk : Rec.Ok (if tot P = 0 then none else some false) (allP P) := by
  intro hk
  split at hk
  ·rename_i h0
   exact List.eq_nil_of_length_eq_zero (by rw [tot_all, h0])
  ·cases hk
 generalize (if tot P = 0 then none else some false) = k at hcat hk
 generalize allP P = ll at hcat hk hcl ⊢
 obtain ⟨r, co, hr⟩ := compInts (h := h ++ [intR.row 3 (sortI (xsL ll))]) (b := h.length) (lo := lo) (d := sortI (xsL ll)) end0 hlo (by rw [sortI_len, xsL_len]; omega)
 refine ⟨compI (sortI (xsL ll)) ++ r, ?_⟩
 rw [L_fn F16 rfl]
 simp -implicitDefEqProofs [r16, p16, prep_new, newK_nil s3, ret1 m43, hcat, st, Rec.o_len hk]
 rw [LL_for (γ := List Int) ll [] (fun i c => [(4, intR.sl h.length c), (13, .int .i64 i)]) (fun _ c => h ++ [intR.row 3 c])
  (fun _ rest c => (.exit 0, [(4, intR.sl h.length (c ++ xsL rest)), (13, undef)], h ++ [intR.row 3 (c ++ xsL rest)])) (fun i c => c.length = 2 * i) (by omega) rfl]
 ·rw [List.nil_append]
  have hel := xsL_len ll
  have so := sortInts (h := h ++ [intR.row 3 (xsL ll)]) (b := h.length) (lo := lo) (d := xsL ll) end0 hlo (by omega)
  have hsl : (sortI (xsL ll)).length = (xsL ll).length := sortI_len _
  rw [Rg.comp_sort] at co hr ⊢
  have e1 : intR.sl h.length (sortI (xsL ll)) = intR.sl h.length (xsL ll) := by unfold Rec.sl; rw [hsl]
  rw [e1, set0] at co
  rw [set0] at so
  simp -implicitDefEqProofs [k16_4, ret2 (E := E) (f := 44) rfl, ret2 (E := E) (f := 45) rfl, so, co, prep_new, newK_nil s61]
  rw [hsl] at hr ⊢
  have exs : stripsL ll = stripL (colC ll) (sortU (xsL ll)) := rfl
  rw [exs]
  generalize hys : sortU (xsL ll) = ys at hr ⊢
  generalize (xsL ll).length = n at hr hel ⊢
  have hyn : ys.length ≤ 40000 := by rw [List.length_append] at hr; omega
  clear hcat co so
  rw [LL_rec (α := Nat × List Slab) (1, []) (fun c => [(7, slabR.sl (h.length + 1) c.2), (8, .int .i64 c.1)]) (fun c => h ++ [intR.row 3 (ys ++ r), slabR.row 56 c.2])
   (fun c => (.exit 2, [(7, slabR.sl (h.length + 1) (c.2 ++ stripL (colC ll) (ys.drop (c.1 - 1)))), (8, undef)], h ++ [intR.row 3 (ys ++ r), slabR.row 56 (c.2 ++ stripL (colC ll) (ys.drop (c.1 - 1)))])) (fun c => 1 ≤ c.1 ∧ c.1 ≤ ys.length + 1 ∧ c.2.length ≤ c.1) (fun c => ys.length + 1 - c.1)]
  ·simp -implicitDefEqProofs [k16_12]
  ·exact ⟨Nat.le_refl _, by simp, by simp⟩
  ·simp -implicitDefEqProofs [k16_12, Rec.sl_nil]
  ·rfl
  ·intro nx c hc ih
   obtain ⟨i, o⟩ := c
   obtain ⟨h1, h2, h3⟩ := hc
   simp only at h1 h2 h3
   by_cases hi : i < ys.length
   ·obtain ⟨m, rfl⟩ : ∃ m, i = m + 1 := ⟨i - 1, by omega⟩
    have hm0 : m < ys.length := by omega
    have hd : ys.drop (m + 1 - 1) = ys[m] :: ys[m + 1] :: ys.drop (m + 2) := by
     rw [Nat.add_sub_cancel, List.drop_eq_getElem_cons hm0, List.drop_eq_getElem_cons hi]
    have hd2 : ys.drop (m + 1) = ys[m + 1] :: ys.drop (m + 2) := List.drop_eq_getElem_cons hi
    have ek : stripL (colC ll) (ys[m] :: ys[m + 1] :: ys.drop (m + 2)) = [⟨ys[m], ys[m + 1], colC ll ys[m]⟩] ++ stripL (colC ll) (ys[m + 1] :: ys.drop (m + 2)) := rfl
    have w1 : IntKind.i64.wrap (m : Int) = m := wrap64 (by omega) (by omega)
    have w2 : IntKind.i64.wrap ((m : Int) + 1 + 1) = (m : Int) + 2 := (wrap64 (by omega) (by omega)).trans (by omega)
    have hlt : (m : Int) + 1 < (ys.length : Int) := by omega
    have px := pre_index (t := 3) (g := some false) (b := h.length) (n := n) (k := .i64) hm0
    have px1 := pre_index (t := 3) (g := some false) (b := h.length) (n := n) (k := .i64) hi
    have pl := pre_load (h := h ++ [intR.row 3 (ys ++ r), slabR.row 56 o]) (b := h.length) (n := n) (sz := some 1) end1 hr hm0
    have pl1 := pre_load (h := h ++ [intR.row 3 (ys ++ r), slabR.row 56 o]) (b := h.length) (n := n) (sz := some 1) end1 hr hi
    have so1 : settled depth (rectR.o k ll) = true := Rec.o_set
    have so2 : ∀ z, settled depth (.int .i64 z) = true := fun _ => rfl
    have cs := column_spec k ll ys[m] hk hcl
    have ap := app_slab (h := h ++ [intR.row 3 (ys ++ r), slabR.row 56 o]) (b := h.length + 1) (lo := lo) (c := o) ⟨ys[m], ys[m + 1], colC ll ys[m]⟩ end2 (by omega) (by omega)
    rw [set2] at ap
    have ih := ih (m + 2, o ++ [⟨ys[m], ys[m + 1], colC ll ys[m]⟩]) (by show ys.length + 1 - (m + 2) < ys.length + 1 - (m + 1); omega) ⟨by show 1 ≤ m + 2; omega, by show m + 2 ≤ ys.length + 1; omega, by show (o ++ [_]).length ≤ m + 2; simp; omega⟩
    rw [hd, ek, ← hd2, ← List.append_assoc]
    push_cast at px1
    simp -implicitDefEqProofs [k16_12, -List.append_assoc] at ih
    simp -implicitDefEqProofs [r16_12, k16_12, hlt, pre_len, w1, w2, px, pl, px1, pl1, ret1 m46, so1, so2, cs, b3_all, lit_slab, ap, trim_le, -List.append_assoc]
    exact ih
   ·have e : stripL (colC ll) (ys.drop (i - 1)) = [] := by
     have hl : (ys.drop (i - 1)).length ≤ 1 := by rw [List.length_drop]; omega
     match hd : ys.drop (i - 1), hl with
     | [], _ => rfl
     | [z], _ => rfl
    rw [e, List.append_nil]
    simp -implicitDefEqProofs [r16_12, k16_12, hi, pre_len, trim_le]
 ·simp -implicitDefEqProofs [k16_4, Rec.sl_nil]
 ·rfl
 ·intro nx i c hi _
  simp -implicitDefEqProofs [r16_4, k16_4, hi, trim_le, xsL]
 ·intro nx i s rest c hi hv hd hw hc ih
  have ixi := Rec.o_index (R := rectR) (t := 30) (kk := .i64) (s := 4) rfl hk hi
  rw [hv] at ixi
  have ap := fun o => app_two' (h := h ++ [intR.row 3 c, o]) (b := h.length) (lo := lo) (c := c) s.x0 s.x1 end1 hlo (by omega)
  simp only [set1] at ap
  have ih := ih (c ++ [s.x0, s.x1]) (by simp; omega)
  have hlo1 : lo ≤ h.length + 1 := by omega
  have hb1 := hb (h.length + 1) (by omega)
  rw [xsL_cons, ← List.append_assoc]
  simp -implicitDefEqProofs [k16_4, -List.append_assoc] at ih
  simp -implicitDefEqProofs [r16_4, k16_4, hi, ixi, rect_val, lit_two, ap, hw, trim_cut, Rec.sl_bel, Rec.row_bel, Rec.o_bel, hlo1, hb1, app_app, take1, -List.append_assoc, -List.all_eq_true]
  exact ih
end Go.Proofs.YtibmcdmlpobanaaGreat.Bm
namespace Go.Proofs.YtibmcdmlpobanaaGreat.Bm
open Go Go.RowKit
open Rg (Rect Slab runs runsF outT emit)
def cntR (c : List (Int × Int)) : List Slab → Nat
 | [] => 0
 | u :: U => if u.col = c then cntR c U + 1 else 0
theorem cntR_le (c : List (Int × Int)) : ∀ (U : List Slab), cntR c U ≤ U.length
 | [] => Nat.le_refl _
 | u :: U => by
  have := cntR_le c U
  unfold cntR
  split
  ·exact Nat.succ_le_succ this
  ·exact Nat.zero_le _
def lastX (x : Int) (c : List (Int × Int)) : List Slab → Int
 | [] => x
 | u :: U => if u.col = c then lastX u.x1 c U else x
theorem lastX_get (c : List (Int × Int)) : ∀ (U : List Slab) (s : Slab) (h : cntR c U < (s :: U).length), lastX s.x1 c U = ((s :: U)[cntR c U]).x1
 | [], s, _ => rfl
 | u :: U, s, h => by
  by_cases e : u.col = c
  ·have e1 : cntR c (u :: U) = cntR c U + 1 := by rw [cntR, if_pos e]
   have e2 : lastX s.x1 c (u :: U) = lastX u.x1 c U := by rw [lastX, if_pos e]
   rw [e2, lastX_get c U u (by have := cntR_le c U; simp; omega)]
   simp only [e1, List.getElem_cons_succ]
  ·have e1 : cntR c (u :: U) = 0 := by rw [cntR, if_neg e]
   have e2 : lastX s.x1 c (u :: U) = s.x1 := by rw [lastX, if_neg e]
   rw [e2]
   simp only [e1, List.getElem_cons_zero]
theorem runs_run : ∀ (U : List Slab) (s : Slab), outT (runs s U) = emit ⟨s.x0, lastX s.x1 s.col U, s.col⟩ ++ outT (runsF (U.drop (cntR s.col U)))
 | [], s => by
  rw [Rg.runs_end]
  show emit s = emit s ++ []
  rw [List.append_nil]
 | u :: U, s => by
  by_cases e : u.col = s.col
  ·rw [Rg.runs_step e, runs_run U ⟨s.x0, u.x1, s.col⟩]
   rw [cntR, lastX, if_pos e, if_pos e]
   rfl
  ·rw [Rg.runs_stop e, cntR, lastX, if_neg e, if_neg e]
   rfl
theorem runsF_drop {T : List Slab} {i : Nat} (hi : i < T.length) : ∃ h : i + cntR T[i].col (T.drop (i + 1)) < T.length,
  outT (runsF (T.drop i)) = emit ⟨T[i].x0, (T[i + cntR T[i].col (T.drop (i + 1))]).x1, T[i].col⟩ ++ outT (runsF (T.drop (i + 1 + cntR T[i].col (T.drop (i + 1))))) := by
 have hc := cntR_le T[i].col (T.drop (i + 1))
 rw [List.length_drop] at hc
 have h : i + cntR T[i].col (T.drop (i + 1)) < T.length := by omega
 refine ⟨h, ?_⟩
 rw [List.drop_eq_getElem_cons hi]
 show outT (runs T[i] (T.drop (i + 1))) = _
 rw [runs_run, lastX_get _ _ _ (by simp; omega), List.drop_drop]
 have e : (T[i] :: T.drop (i + 1))[cntR T[i].col (T.drop (i + 1))]'(by simp; omega) = T[i + cntR T[i].col (T.drop (i + 1))] := by
  have hd := List.drop_eq_getElem_cons hi
  have : ∀ (j : Nat) (hj : j < (T[i] :: T.drop (i + 1)).length) (hj' : i + j < T.length), (T[i] :: T.drop (i + 1))[j] = T[i + j] := by
   intro j hj hj'
   have : (T.drop i)[j]'(by rw [hd]; exact hj) = T[i + j] := List.getElem_drop ..
   rw [← this]
   congr 1
   exact hd.symm
  exact this _ _ _
 rw [e]
theorem drop_cnt {c : List (Int × Int)} {T : List Slab} {k : Nat} (hk : k < T.length) : cntR c (T.drop k) = if (T[k]).col = c then cntR c (T.drop (k + 1)) + 1 else 0 := by
 rw [List.drop_eq_getElem_cons hk, cntR]
theorem emit_cons (x0 x1 : Int) (s : Int × Int) (c : List (Int × Int)) : emit ⟨x0, x1, s :: c⟩ = [⟨x0, s.1, x1, s.2⟩] ++ emit ⟨x0, x1, c⟩ := rfl
theorem s32 : szOf E.P 30 = some 4 := by kernel_rfl
theorem a32 : aggT E.P 30 = some true := by kernel_rfl
theorem lit_rect (h : Heap) (a b c d : Int) : buildSliceT (some ⟨30, 4, 32, .agg ⟨[.int .i64 0, .int .i64 0, .int .i64 0, .int .i64 0]⟩, ⟨some true, some 4⟩⟩) false h 1 #[(0, .agg ⟨[.int .i64 a, .int .i64 b, .int .i64 c, .int .i64 d]⟩)] = some (lst true [.agg ⟨[.int .i64 a, .int .i64 b, .int .i64 c, .int .i64 d]⟩], h) :=
 (build_lit' (n := 1) (l := [(0, .agg ⟨[.int .i64 a, .int .i64 b, .int .i64 c, .int .i64 d]⟩)]) rfl rfl (by decide) (by decide) (by decide)).trans rfl
theorem app_rect {h : Heap} {b lo : Nat} {c : List Rect} (r : Rect) (hob : h[b]? = some (rectR.row 30 c)) (hlo : lo ≤ b) (hc : c.length ≤ 1000000000) :
  appendT (some ⟨30, 4, 32, .agg ⟨[.int .i64 0, .int .i64 0, .int .i64 0, .int .i64 0]⟩, ⟨some true, some 4⟩⟩) h lo false (rectR.sl b c) (lst true [.agg ⟨[.int .i64 r.x0, .int .i64 r.y0, .int .i64 r.x1, .int .i64 r.y1]⟩]) = some (rectR.sl b (c ++ [r]), h.set b (rectR.row 30 (c ++ [r]))) :=
 Rec.app (R := rectR) (m := [r]) rfl hob (Rec.cells_tree (R := rectR) rfl [r]) hlo (by show (c.length + 1) * 32 ≤ 2 ^ 47; omega)
theorem write_spec (T : List Slab) (hT : T.length ≤ 10000) (hc : ∀ s ∈ T, s.col.length ≤ 10000) : pureCall E.P (L E) 15 [lst false (slabR.vals T)] = some (lst false (rectR.vals (outT (runsF T)))) := by
 have ix : ∀ (i : Nat) (hi : i < T.length), indexAddrT (.sl 56 ⟨some true, some 3⟩) (lst false (slabR.vals T)) (.int .i64 (i : Int)) = some (cptr (slabR.val T[i])) := fun i hi => Rec.index_tree rfl hi
 have eq := fun (a b : List (Int × Int)) (ha : a.length ≤ 1000000) => equal_spans false false a b ha
 rw [pureCall_fn F15 rfl]
 simp -implicitDefEqProofs [r15, p15, prep_new, newK_nil s32]
 rw [LL_rec (α := Nat × List Rect) (0, []) (fun c => [(3, rectR.sl 0 c.2), (4, .int .i64 c.1)]) (fun c => [rectR.row 30 c.2])
   (fun c => (.exit 0, [(3, rectR.sl 0 (c.2 ++ outT (runsF (T.drop c.1)))), (4, undef)], [rectR.row 30 (c.2 ++ outT (runsF (T.drop c.1)))])) (fun c => c.1 ≤ T.length ∧ c.2.length ≤ c.1 * 10000) (fun c => T.length - c.1)]
 ·have rr := Rec.reifyR_row (R := rectR) (P := E.P) (h := [rectR.row 30 (outT (runsF T))]) (b := 0) (t := 30) (l := outT (runsF T)) rfl s32 a32
  simp -implicitDefEqProofs [k15_3, rr]
 ·exact ⟨Nat.zero_le _, Nat.zero_le _⟩
 ·simp -implicitDefEqProofs [k15_3, Rec.sl_nil]
 ·rfl
 ·intro nx c hI ih
  obtain ⟨i, o⟩ := c
  obtain ⟨h1, h2⟩ := hI
  simp only at h1 h2
  by_cases hi : i < T.length
  ·obtain ⟨hK, hrun⟩ := runsF_drop hi
   have hci := hc _ (List.getElem_mem hi)
   have hcs := fun (k : Nat) (hk : k < T.length) => hc _ (List.getElem_mem hk)
   have w1 : IntKind.i64.wrap ((i : Int) + 1) = (i : Int) + 1 := wrap64 (by omega) (by omega)
   have hii : (i : Int) < (T.length : Int) := by omega
   obtain ⟨m, hm⟩ : ∃ m, m = i + cntR T[i].col (T.drop (i + 1)) := ⟨_, rfl⟩
   have hm1 : i + 1 + cntR T[i].col (T.drop (i + 1)) = m + 1 := by omega
   have hK' : m < T.length := by omega
   simp only [hm1, ← hm] at hrun
   rw [hrun]
   generalize hcol : T[i].col = ci at *
   generalize hx0 : T[i].x0 = x0 at *
   generalize hx1 : T[m].x1 = x1 at *
   have hix := ix i hi
   rw [slab_val, hcol, hx0] at hix
   have him := ix m hK'
   rw [slab_val, hx1] at him
   have eR := fun (o' : List Rect) (hl : o'.length ≤ (m + 1) * 10000) => ih (m + 1, o') (by show T.length - (m + 1) < T.length - i; omega) ⟨by show m + 1 ≤ T.length; omega, hl⟩
   simp -implicitDefEqProofs [r15_3, k15_3, hi, Rec.vals_len, w1]
   rw [LL_rec (α := Nat) (i + 1) (fun k => [(5, .int .i64 (k : Int))]) (fun _ => [rectR.row 30 o]) (fun _ => (.exit 2, [(5, .int .i64 ((m + 1 : Nat) : Int))], [rectR.row 30 o]))
    (fun k => i + 1 ≤ k ∧ k ≤ T.length ∧ k + cntR ci (T.drop k) = m + 1) (fun k => T.length - k)]
   ·have wm : IntKind.i64.wrap ((m : Int) + 1 - 1) = (m : Int) := (wrap64 (by omega) (by omega)).trans (by omega)
    have wm' : IntKind.i64.wrap (m : Int) = (m : Int) := wrap64 (by omega) (by omega)
    have ixc : ∀ (j : Nat) (hj : j < ci.length), indexAddrT (.sl 54 ⟨some true, some 2⟩) (lst false (spanR.vals ci)) (.int .i64 (j : Int)) = some (cptr (spanR.val ci[j])) := fun j hj => Rec.index_tree rfl hj
    simp -implicitDefEqProofs [k15_5, hix, colV, Rec.vals_len]
    rw [LL_for (γ := List Rect) ci o (fun j o' => [(3, rectR.sl 0 o'), (39, .int .i64 j)]) (fun _ o' => [rectR.row 30 o'])
     (fun _ rest o' => (.exit 4, [(3, rectR.sl 0 (o' ++ emit ⟨x0, x1, rest⟩)), (39, undef)], [rectR.row 30 (o' ++ emit ⟨x0, x1, rest⟩)])) (fun j o' => o'.length = o.length + j) (by omega) rfl]
    ·have hel : (emit ⟨x0, x1, ci⟩).length = ci.length := List.length_map _
     have eR := eR (o ++ emit ⟨x0, x1, ci⟩) (by rw [List.length_append, hel]; omega)
     simp -implicitDefEqProofs [k15_3] at eR
     simp -implicitDefEqProofs [k15_8, trim_le]
     exact eR
    ·simp -implicitDefEqProofs [k15_8]
    ·rfl
    ·intro nx j o' hj _
     have : emit ⟨x0, x1, []⟩ = [] := rfl
     simp -implicitDefEqProofs [r15_8, k15_8, hj, trim_le, this]
    ·intro nx j s rest o' hj hv hd hw ho ih
     have ixj := ixc j hj
     rw [hv, span_val] at ixj
     have ap := fun q => app_rect (h := [rectR.row 30 o', q]) (b := 0) (lo := 0) (c := o') ⟨x0, s.1, x1, s.2⟩ rfl (Nat.le_refl _) (by omega)
     have ih := ih (o' ++ [⟨x0, s.1, x1, s.2⟩]) (by simp; omega)
     rw [emit_cons, ← List.append_assoc]
     simp -implicitDefEqProofs [k15_8, -List.append_assoc] at ih
     simp -implicitDefEqProofs [r15_8, k15_8, hj, ixj, hix, him, wm', b4_all, lit_rect, ap, hw, trim_cut, Rec.sl_bel, Rec.row_bel, -List.append_assoc]
     exact ih
   ·exact ⟨Nat.le_refl _, by omega, hm1⟩
   ·simp -implicitDefEqProofs [k15_5]
   ·rfl
   ·intro nx k hI ih
    obtain ⟨h3, h4, h5⟩ := hI
    by_cases hk : k < T.length
    ·have w2 : IntKind.i64.wrap ((k : Int) + 1) = (k : Int) + 1 := wrap64 (by omega) (by omega)
     have hckk := hcs k hk
     have hixk := ix k hk
     rw [slab_val] at hixk
     have eqk := eq T[k].col ci (by omega)
     rw [drop_cnt hk] at h5
     by_cases he : T[k].col = ci
     ·rw [if_pos he] at h5
      rw [he] at eqk
      have ih := ih (k + 1) (by omega) ⟨by omega, by omega, by omega⟩
      simp -implicitDefEqProofs [k15_5] at ih
      simp -implicitDefEqProofs [r15_5, k15_5, hk, Rec.vals_len, w2, hix, hixk, colV, ret0 m42, eqk, he, trim_le]
      exact ih
     ·rw [if_neg he] at h5
      have hR : ((m + 1 : Nat) : Int) = (k : Int) := by omega
      rw [hR]
      simp -implicitDefEqProofs [r15_5, k15_5, hk, Rec.vals_len, hix, hixk, colV, ret0 m42, eqk, he, trim_le]
    ·have hR : ((m + 1 : Nat) : Int) = (k : Int) := by
      have := cntR_le ci (T.drop k)
      rw [List.length_drop] at this
      omega
     rw [hR]
     simp -implicitDefEqProofs [r15_5, k15_5, hk, Rec.vals_len, trim_le]
  ·have e : T.drop i = [] := List.drop_of_length_le (by omega)
   have e1 : outT (runsF (T.drop i)) = [] := by rw [e]; rfl
   rw [e1, List.append_nil]
   simp -implicitDefEqProofs [r15_3, k15_3, hi, Rec.vals_len, trim_le]
end Go.Proofs.YtibmcdmlpobanaaGreat.Bm
