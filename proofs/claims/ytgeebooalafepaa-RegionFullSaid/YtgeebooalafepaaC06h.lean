/-
  Chapter 06: two columns put together by a rule. Conditions: lists that are not too long.
-/
import Derived.Test.YtgeebooalafepaaC06f
namespace Go.Proofs.Ytgeebooalafepaa.Bm
open Go Go.RowKit
open Rg (ends keepS addS sortU)

def colP (a b : Option (List (Int × Int))) : List (Option Bool × List (Int × Int)) := [(a.map fun _ => false, colL a), (b.map fun _ => false, colL b)]
theorem colX_o (a : Option (List (Int × Int))) : colX a = spanR.o (a.map fun _ => false) (colL a) := by cases a <;> rfl
theorem colX_set (a : Option (List (Int × Int))) {n : Nat} : settled (n + 1) (colX a) = true := by cases a <;> rfl
theorem colX_bel (a : Option (List (Int × Int))) {d n : Nat} : below (d + 1) n (colX a) = true := by cases a <;> rfl
theorem colX_reify (a : Option (List (Int × Int))) {P : Program} {n : Nat} {h : Heap} : reify P (n + 1) h (colX a) = some (colX a) := by cases a <;> rfl
theorem lit_cols (h : Heap) (a b : Option (List (Int × Int))) : buildSliceT (some ⟨57, 1, 24, .slice none 0 0, ⟨some false, some 1⟩⟩) false h 2 #[(0, colX a), (1, colX b)] = some (lst true [colX a, colX b], h) := by
  cases a <;> cases b <;> exact (build_lit' (n := 2) (l := [(0, colX _), (1, colX _)]) rfl rfl (by decide) (by decide) (by decide)).trans rfl
theorem concat_cols (a b : Option (List (Int × Int))) (ha : (colL a).length ≤ 10000) (hb : (colL b).length ≤ 10000) :
    ∃ k, Rec.Ok k (colL a ++ colL b) ∧ pureCall E.P (L E) 58 [lst true [colX a, colX b]] = some (spanR.o k (colL a ++ colL b)) := by
  have ok : ∀ p ∈ colP a b, Rec.Ok p.1 p.2 := by
    intro p hp
    simp only [colP, List.mem_cons, List.not_mem_nil, or_false] at hp
    rcases hp with rfl | rfl
    · cases a with
      | none => exact fun _ => rfl
      | some a => exact Rec.ok_some
    · cases b with
      | none => exact fun _ => rfl
      | some b => exact Rec.ok_some
  have key := spans_concat true (colP a b) ok (by show 2 ≤ 1000; omega) (by show (colL a).length + ((colL b).length + 0) ≤ 1000000; omega)
  have e1 : (colP a b).map (fun p => spanR.o p.1 p.2) = [colX a, colX b] := by rw [colX_o a, colX_o b]; rfl
  have e2 : allP (colP a b) = colL a ++ colL b := by show colL a ++ (colL b ++ []) = _; rw [List.append_nil]
  rw [e1, e2] at key
  refine ⟨_, fun hk => ?_, key⟩
  split at hk
  · rename_i h0
    have : (allP (colP a b)).length = 0 := by rw [tot_all, h0]
    rw [e2] at this
    exact List.eq_nil_of_length_eq_zero this
  · cases hk
theorem ends_cons (s : Int × Int) (l : List (Int × Int)) : ends (s :: l) = [s.1, s.2] ++ ends l := rfl
theorem addS_set {o : List (Int × Int)} {m : Nat} (hm : o.length = m + 1) (x y : Int) (h : (o[m]'(by omega)).2 = x) : addS o x y = o.set m ((o[m]'(by omega)).1, y) := by
  have ho : o.getLast? = some (o[m]'(by omega)) := by
    have hl : o.length - 1 = m := by omega
    have hm' : m < o.length := by omega
    rw [List.getLast?_eq_getElem?, hl, List.getElem?_eq_getElem hm']
  unfold addS
  rw [ho]
  simp only
  rw [if_pos h]
  apply List.ext_getElem?
  intro i
  by_cases e : i = m
  · subst e
    rw [List.getElem?_append_right (by simp [hm]), List.getElem?_set_self (by omega)]
    simp [hm]
  · rw [List.getElem?_set_ne (Ne.symm e)]
    by_cases hi : i < m
    · rw [List.getElem?_append_left (by simp [hm]; omega), List.getElem?_dropLast, if_pos (by omega)]
    · rw [List.getElem?_eq_none (by simp [hm]; omega), List.getElem?_eq_none (by omega)]
theorem addS_new {o : List (Int × Int)} {m : Nat} (hm : o.length = m + 1) (x y : Int) (h : ¬ (o[m]'(by omega)).2 = x) : addS o x y = o ++ [(x, y)] := by
  have ho : o.getLast? = some (o[m]'(by omega)) := by
    have hl : o.length - 1 = m := by omega
    have hm' : m < o.length := by omega
    rw [List.getLast?_eq_getElem?, hl, List.getElem?_eq_getElem hm']
  unfold addS
  rw [ho]
  simp only
  rw [if_neg h]
theorem merge_spec (a b : Option (List (Int × Int))) (q : FuncId) (f : Bool → Bool → Bool) (hm : E.mode q = 0) (hq : ∀ x y, pureCall E.P (L E) q [.bool x, .bool y] = some (.bool (f x y))) (ha : (colL a).length ≤ 10000) (hb : (colL b).length ≤ 10000) :
    pureCall E.P (L E) 50 [colX a, colX b, .func (.func q) ⟨[]⟩ ⟨[]⟩] = some (colV (keepS (fun y => f (inB (colL a) y) (inB (colL b) y)) [] (sortU (ends (colL a ++ colL b))))) := by
  obtain ⟨k, hk, hcat⟩ := concat_cols a b ha hb
  have s3 : szOf E.P 3 = some 1 := by kernel_rfl
  have st : settled depth (lst true [colX a, colX b]) = true := by cases a <;> cases b <;> rfl
  have hcl : (colL a ++ colL b).length ≤ 20000 := by rw [List.length_append]; omega
  rw [pureCall_fn F50 rfl]
  simp -implicitDefEqProofs [r50, p50, prep_new, newK_nil s3, lit_cols, ret1 m58, hcat, st, Rec.o_len hk, -List.length_append]
  generalize hcc : colL a ++ colL b = cc at hk hcl ⊢
  rw [LL_for (γ := List Int) cc [] (fun i c => [(7, intR.sl 0 c), (19, .int .i64 i)]) (fun _ c => [intR.row 3 c])
    (fun _ rest c => (.exit 0, [(7, intR.sl 0 (c ++ ends rest)), (19, undef)], [intR.row 3 (c ++ ends rest)])) (fun i c => c.length = 2 * i) (by omega) rfl]
  · rw [List.nil_append]
    have hel : (ends cc).length = 2 * cc.length := Rg.ends_len cc
    have so := sortInts (h := [intR.row 3 (ends cc)]) (b := 0) (lo := 0) (d := ends cc) rfl (Nat.le_refl _) (by omega)
    obtain ⟨r, co, hr⟩ := compInts (h := [intR.row 3 (sortI (ends cc))]) (b := 0) (lo := 0) (d := sortI (ends cc)) rfl (Nat.le_refl _) (by rw [sortI_len]; omega)
    have hsl : (sortI (ends cc)).length = (ends cc).length := sortI_len _
    rw [Rg.comp_sort] at co hr
    have e1 : intR.sl 0 (sortI (ends cc)) = intR.sl 0 (ends cc) := by unfold Rec.sl; rw [hsl]
    rw [e1] at co
    simp only [List.set_cons_zero] at so co
    simp -implicitDefEqProofs [k50_3, ret2 (E := E) (f := 44) rfl, ret2 (E := E) (f := 45) rfl, so, co, prep_new, newK_nil s59]
    rw [hsl] at hr ⊢
    generalize hys : sortU (ends cc) = ys at hr ⊢
    generalize (ends cc).length = n at hr hel ⊢
    have hyn : ys.length ≤ 40000 := by rw [List.length_append] at hr; omega
    generalize hkf : (fun y => f (inB (colL a) y) (inB (colL b) y)) = kf
    have hkf' : ∀ y, f (inB (colL a) y) (inB (colL b) y) = kf y := fun y => by rw [← hkf]
    rw [LL_rec (α := Nat × List (Int × Int)) (1, []) (fun c => [(10, spanR.sl 1 c.2), (11, .int .i64 c.1)]) (fun c => [intR.row 3 (ys ++ r), spanR.row 59 c.2])
      (fun c => (.exit 2, [(10, spanR.sl 1 (keepS kf c.2 (ys.drop (c.1 - 1)))), (11, undef)], [intR.row 3 (ys ++ r), spanR.row 59 (keepS kf c.2 (ys.drop (c.1 - 1)))])) (fun c => 1 ≤ c.1 ∧ c.1 ≤ ys.length + 1 ∧ c.2.length ≤ c.1) (fun c => ys.length + 1 - c.1)]
    · have rr := Rec.reifyR_row (R := spanR) (P := E.P) (h := [intR.row 3 (ys ++ r), spanR.row 59 (keepS kf [] ys)]) (b := 1) (t := 59) (l := keepS kf [] ys) rfl s59 a59
      simp -implicitDefEqProofs [k50_11, rr, colV]
    · exact ⟨Nat.le_refl _, by simp, by simp⟩
    · simp -implicitDefEqProofs [k50_11, Rec.sl_nil]
    · rfl
    · intro nx c hc ih
      obtain ⟨i, o⟩ := c
      obtain ⟨h1, h2, h3⟩ := hc
      simp only at h1 h2 h3
      by_cases hi : i < ys.length
      · obtain ⟨m, rfl⟩ : ∃ m, i = m + 1 := ⟨i - 1, by omega⟩
        have hm0 : m < ys.length := by omega
        have hd : ys.drop (m + 1 - 1) = ys[m] :: ys[m + 1] :: ys.drop (m + 2) := by
          rw [Nat.add_sub_cancel, List.drop_eq_getElem_cons hm0, List.drop_eq_getElem_cons hi]
        have hd2 : ys.drop (m + 1) = ys[m + 1] :: ys.drop (m + 2) := List.drop_eq_getElem_cons hi
        have ek : keepS kf o (ys[m] :: ys[m + 1] :: ys.drop (m + 2)) = keepS kf (if kf ys[m] then addS o ys[m] ys[m + 1] else o) (ys[m + 1] :: ys.drop (m + 2)) := rfl
        have w1 : IntKind.i64.wrap (m : Int) = m := wrap64 (by omega) (by omega)
        have w2 : IntKind.i64.wrap ((m : Int) + 1 + 1) = (m : Int) + 2 := (wrap64 (by omega) (by omega)).trans (by omega)
        have hlt : (m : Int) + 1 < (ys.length : Int) := by omega
        have px := pre_index (t := 3) (g := some false) (b := 0) (n := n) (k := .i64) hm0
        have px1 := pre_index (t := 3) (g := some false) (b := 0) (n := n) (k := .i64) hi
        have pl := pre_load (h := [intR.row 3 (ys ++ r), spanR.row 59 o]) (b := 0) (n := n) (sz := some 1) rfl hr hm0
        have pl1 := pre_load (h := [intR.row 3 (ys ++ r), spanR.row 59 o]) (b := 0) (n := n) (sz := some 1) rfl hr hi
        have insa := inside_spec a ys[m] (by omega)
        have insb := inside_spec b ys[m] (by omega)
        have ap := app_span (h := [intR.row 3 (ys ++ r), spanR.row 59 o]) (b := 1) (c := o) ys[m] ys[m + 1] rfl (by omega)
        have ih := fun o' => ih (m + 2, o')
        rw [hd, ek, ← hd2]
        push_cast at px1
        cases hkv : kf ys[m]
        · have ih := ih o (by show ys.length + 1 - (m + 2) < ys.length + 1 - (m + 1); omega) ⟨by show 1 ≤ m + 2; omega, by show m + 2 ≤ ys.length + 1; omega, by show o.length ≤ m + 2; omega⟩
          simp -implicitDefEqProofs [k50_11] at ih
          simp -implicitDefEqProofs [r50_11, k50_11, hlt, pre_len, w1, w2, px, pl, ret0 m59, colX_reify, insa, insb, ret0 hm, hq, hkf', hkv, trim_le]
          exact ih
        · rw [if_pos rfl]
          have ih2 := fun o' (hl : o'.length ≤ m + 2) => ih o' (by show ys.length + 1 - (m + 2) < ys.length + 1 - (m + 1); omega) ⟨by show 1 ≤ m + 2; omega, by show m + 2 ≤ ys.length + 1; omega, hl⟩
          by_cases h0 : o = []
          · subst h0
            have ih := ih2 [(ys[m], ys[m + 1])] (by show 1 ≤ m + 2; omega)
            have e : addS [] ys[m] ys[m + 1] = [(ys[m], ys[m + 1])] := rfl
            rw [List.nil_append] at ap
            rw [e]
            simp -implicitDefEqProofs [k50_11] at ih
            simp -implicitDefEqProofs [r50_11, k50_11, hlt, pre_len, w1, w2, px, pl, px1, pl1, ret0 m59, colX_reify, insa, insb, ret0 hm, hq, hkf', hkv, Rec.sl_len, b2_all, lit_span, ap, trim_le]
            exact ih
          · obtain ⟨t, ht⟩ : ∃ t, o.length = t + 1 := ⟨o.length - 1, by have := List.length_pos_iff.2 h0; omega⟩
            have ht' : t < o.length := by omega
            have w3 : IntKind.i64.wrap ((o.length : Int) - 1) = (t : Int) := (wrap64 (by omega) (by omega)).trans (by omega)
            have hpos : 0 < o.length := by omega
            have ixo := Rec.index_row (R := spanR) (h0 := 2) (t := 59) (g := some true) (b := 1) (l := o) (i := t) (k := .i64) rfl ht'
            have fdo := Rec.field_row (R := spanR) (b := 1) (n := 0) (f := 1) (l := o) (i := t) (k := ⟨some true, some 2⟩) (g := some false)
            have ldo := Rec.load_cell (R := spanR) (h := [intR.row 3 (ys ++ r), spanR.row 59 o]) (b := 1) (j := 1) (t := 59) (l := o) (i := t) (sz := some 1) rfl ht' (by decide)
            have e1 : (spanR.enc o[t])[1]? = some (.int .i64 o[t].2) := rfl
            simp only [e1] at ldo
            have sto := Rec.store_cell (R := spanR) (h := [intR.row 3 (ys ++ r), spanR.row 59 o]) (b := 1) (j := 1) (lo := 0) (t := 59) (l := o) (i := t) (v := .int .i64 ys[m + 1]) (a := (o[t].1, ys[m + 1])) rfl rfl (Nat.zero_le _) ht' (by decide) rfl
            by_cases hs : o[t].2 = ys[m]
            · rw [addS_set ht _ _ hs]
              have ih := ih2 (o.set t (o[t].1, ys[m + 1])) (by simp; omega)
              have el : spanR.sl 1 (o.set t (o[t].1, ys[m + 1])) = spanR.sl 1 o := sl_eq (by simp)
              simp -implicitDefEqProofs [k50_11, el] at ih
              simp -implicitDefEqProofs [r50_11, k50_11, hlt, pre_len, w1, w2, px, pl, px1, pl1, ret0 m59, colX_reify, insa, insb, ret0 hm, hq, hkf', hkv, Rec.sl_len, hpos, w3, ixo, fdo, ldo, sto, hs, trim_le]
              exact ih
            · rw [addS_new ht _ _ hs]
              have ih := ih2 (o ++ [(ys[m], ys[m + 1])]) (by simp; omega)
              simp -implicitDefEqProofs [k50_11] at ih
              simp -implicitDefEqProofs [r50_11, k50_11, hlt, pre_len, w1, w2, px, pl, px1, pl1, ret0 m59, colX_reify, insa, insb, ret0 hm, hq, hkf', hkv, Rec.sl_len, hpos, w3, ixo, fdo, ldo, hs, b2_all, lit_span, ap, trim_le]
              exact ih
      · have e : keepS kf o (ys.drop (i - 1)) = o := by
          have hl : (ys.drop (i - 1)).length ≤ 1 := by rw [List.length_drop]; omega
          match hd : ys.drop (i - 1), hl with
          | [], _ => rfl
          | [z], _ => rfl
        rw [e]
        simp -implicitDefEqProofs [r50_11, k50_11, hi, pre_len, trim_le]
  · simp -implicitDefEqProofs [k50_3, Rec.sl_nil]
  · rfl
  · intro nx i c hi _
    simp -implicitDefEqProofs [r50_3, k50_3, hi, trim_le, ends]
  · intro nx i s rest c hi hv hd hw hc ih
    have ixi := Rec.o_index (R := spanR) (t := 59) (kk := .i64) (s := 2) rfl hk hi
    rw [hv] at ixi
    have ap := fun o => app_two (h := [intR.row 3 c, o]) (b := 0) (c := c) s.1 s.2 rfl (by omega)
    have ih := ih (c ++ [s.1, s.2]) (by simp; omega)
    rw [ends_cons, ← List.append_assoc]
    simp -implicitDefEqProofs [k50_3, -List.append_assoc] at ih
    simp -implicitDefEqProofs [r50_3, k50_3, hi, ixi, span_val, lit_two, ap, hw, trim_cut, Rec.sl_bel, Rec.row_bel, Rec.o_bel, colX_bel, -List.append_assoc]
    exact ih
end Go.Proofs.Ytgeebooalafepaa.Bm
