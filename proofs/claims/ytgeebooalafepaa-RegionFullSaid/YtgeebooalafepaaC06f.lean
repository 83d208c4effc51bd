/-
  Chapter 06: a column of a list of rectangles. Conditions: lists that are not too long.
-/
import Derived.Test.YtgeebooalafepaaC06d
import Derived.Test.YtgeebooalafepaaRgB
namespace Go.Proofs.Ytgeebooalafepaa.Bm
open Go Go.RowKit
open Rg (Rect Slab own own_cons gstep colC)

theorem s59 : szOf E.P 59 = some 2 := by kernel_rfl
theorem a59 : aggT E.P 59 = some true := by kernel_rfl
def elS : El := ⟨59, 2, 16, .agg ⟨[.int .i64 0, .int .i64 0]⟩, ⟨some true, some 2⟩⟩
theorem lit_span (h : Heap) (a b : Int) : buildSliceT (some ⟨59, 2, 16, .agg ⟨[.int .i64 0, .int .i64 0]⟩, ⟨some true, some 2⟩⟩) false h 1 #[(0, .agg ⟨[.int .i64 a, .int .i64 b]⟩)] = some (lst true [.agg ⟨[.int .i64 a, .int .i64 b]⟩], h) :=
  (build_lit' (n := 1) (l := [(0, .agg ⟨[.int .i64 a, .int .i64 b]⟩)]) rfl rfl (by decide) (by decide) (by decide)).trans rfl
theorem app_span {h : Heap} {b : Nat} {c : List (Int × Int)} (u v : Int) (hob : h[b]? = some (spanR.row 59 c)) (hc : c.length ≤ 1000000) :
    appendT (some ⟨59, 2, 16, .agg ⟨[.int .i64 0, .int .i64 0]⟩, ⟨some true, some 2⟩⟩) h 0 false (spanR.sl b c) (lst true [.agg ⟨[.int .i64 u, .int .i64 v]⟩]) = some (spanR.sl b (c ++ [(u, v)]), h.set b (spanR.row 59 (c ++ [(u, v)]))) :=
  Rec.app (R := spanR) (m := [(u, v)]) rfl hob (Rec.cells_tree (R := spanR) rfl [(u, v)]) (Nat.zero_le _) (by show (c.length + 1) * 16 ≤ 2 ^ 47; omega)
theorem set_same {h : Heap} {b : Nat} {o : AObj} (hob : h[b]? = some o) : h.set b o = h := by
  refine List.ext_getElem? fun i => ?_
  rw [List.getElem?_set]
  split
  · rename_i e; subst e
    split
    · exact hob.symm
    · rename_i hlt; rw [List.getElem?_eq_none (by omega)]
  · rfl
theorem sort_spec {h : Heap} {b lo : Nat} {d : List (Int × Int)} (hob : h[b]? = some (spanR.row 59 d)) (hlo : lo ≤ b) (hd : d.length ≤ 1000000) :
    L E 55 [spanR.sl b d, .func (.func 56) ⟨[]⟩ ⟨[]⟩] h lo = some (.tuple #[], h.set b (spanR.row 59 (sortS d))) := by
  rw [L_orc (g := inC 56 2 sortSF) rfl]
  unfold inC Rec.sl
  simp only
  rw [if_pos ⟨trivial, Nat.le_refl _⟩]
  by_cases h0 : d.length = 0
  · have : d = [] := List.eq_nil_of_length_eq_zero h0
    subst this
    rw [if_pos h0]
    have e : sortS [] = [] := List.eq_nil_of_length_eq_zero (sortS_perm []).length_eq
    rw [e, set_same hob]
  · rw [if_neg h0]
    have hob' : h[b]? = some (.cells 59 (spanR.flat d) 2) := hob
    have hl : (spanR.flat d).length = d.length * 2 := Rec.flat_len
    unfold inCR
    simp only [hob']
    have e1 : (spanR.flat d).take (d.length * 2) = d.flatMap spanV := by rw [List.take_of_length_le (by omega)]; rfl
    rw [e1, sortSF_flat, Option.bind_some, if_pos ⟨hlo, by unfold stampOk; rw [hl]; simp [spanR], trivial, by omega, by omega⟩]
    rw [List.drop_of_length_le (by omega), List.append_nil]; rfl

theorem own_len (l : List Rect) (x : Int) : (own l x).length ≤ l.length := by
  unfold own
  rw [List.length_map]; exact List.length_filter_le _ _
theorem gstep_set {o : List (Int × Int)} {m : Nat} (hm : o.length = m + 1) (t : Int × Int) (h : t.1 ≤ (o[m]'(by omega)).2) : gstep o t = o.set m ((o[m]'(by omega)).1, max (o[m]'(by omega)).2 t.2) := by
  have ho : o.getLast? = some (o[m]'(by omega)) := by
    have hl : o.length - 1 = m := by omega
    have hm' : m < o.length := by omega
    rw [List.getLast?_eq_getElem?, hl, List.getElem?_eq_getElem hm']
  unfold gstep
  rw [ho]
  simp only
  rw [if_pos h]
  apply List.ext_getElem?
  intro i
  by_cases e : i = m
  · subst e
    rw [List.getElem?_append_right (by simp [hm]), List.getElem?_set_self (by omega)]
    simp [hm]
  · rw [List.getElem?_set_ne (Ne.symm e)]
    by_cases hi : i < m
    · rw [List.getElem?_append_left (by simp [hm]; omega), List.getElem?_dropLast, if_pos (by omega)]
    · rw [List.getElem?_eq_none (by simp [hm]; omega), List.getElem?_eq_none (by omega)]
theorem gstep_add {o : List (Int × Int)} {m : Nat} (hm : o.length = m + 1) (t : Int × Int) (h : ¬ t.1 ≤ (o[m]'(by omega)).2) : gstep o t = o ++ [t] := by
  have ho : o.getLast? = some (o[m]'(by omega)) := by
    have hl : o.length - 1 = m := by omega
    have hm' : m < o.length := by omega
    rw [List.getLast?_eq_getElem?, hl, List.getElem?_eq_getElem hm']
  unfold gstep
  rw [ho]
  simp only
  rw [if_neg h]
theorem gstep_len (o : List (Int × Int)) (t : Int × Int) : (gstep o t).length ≤ o.length + 1 := by
  unfold gstep
  split
  · split
    · simp
    · simp
  · simp
theorem sl_eq {b : Nat} {c d : List (Int × Int)} (h : c.length = d.length) : spanR.sl b c = spanR.sl b d := by unfold Rec.sl; rw [h]
theorem max_int (a b : Int) : aMinMax true [.int .i64 a, .int .i64 b] = some (.int .i64 (max a b)) := by
  show some (Value.int .i64 (if b > a then b else a)) = _
  congr 2
  omega
theorem column_spec (k : Option Bool) (l : List Rect) (x : Int) (hk : Rec.Ok k l) (hl : l.length ≤ 1000) : pureCall E.P (L E) 46 [rectR.o k l, .int .i64 x] = some (colV (colC l x)) := by
  rw [pureCall_fn F46 rfl]
  simp -implicitDefEqProofs [r46, p46, prep_new, newK_nil s59, Rec.o_len hk]
  rw [LL_for (γ := List (Int × Int)) l [] (fun i c => [(5, spanR.sl 0 c), (14, .int .i64 i)]) (fun _ c => [spanR.row 59 c])
    (fun _ rest c => (.exit 0, [(5, spanR.sl 0 (c ++ own rest x)), (14, undef)], [spanR.row 59 (c ++ own rest x)])) (fun i c => c.length ≤ i) (by omega) (Nat.le_refl _)]
  · rw [List.nil_append]
    have hs := fun h => sort_spec (h := [spanR.row 59 (own l x)] ++ h) (b := 0) (lo := 0) (d := own l x) rfl (Nat.le_refl _) (by have := own_len l x; omega)
    have hs := hs []
    rw [List.append_nil] at hs
    have hse : (own l x).length = (sortS (own l x)).length := (sortS_perm _).length_eq.symm
    have hle := own_len l x
    simp -implicitDefEqProofs [k46_3, ret2 (E := E) (f := 55) rfl, hs, prep_new, newK_nil s59, Rec.sl_len]
    rw [sl_eq (b := 0) hse, hse]
    have hc : colC l x = (sortS (own l x)).foldl gstep [] := (Rg.gstep_col _).symm
    rw [hc]
    rw [hse] at hle
    clear hs hse hc
    generalize sortS (own l x) = s at hle ⊢
    rw [LL_for (γ := List (Int × Int)) s [] (fun i o => [(8, spanR.sl 1 o), (41, .int .i64 i)]) (fun _ o => [spanR.row 59 s, spanR.row 59 o])
      (fun _ rest o => (.exit 2, [(8, spanR.sl 1 (rest.foldl gstep o)), (41, undef)], [spanR.row 59 s, spanR.row 59 (rest.foldl gstep o)])) (fun i o => o.length ≤ i) (by omega) (Nat.le_refl _)]
    · have rr := Rec.reifyR_row (R := spanR) (P := E.P) (h := [spanR.row 59 s, spanR.row 59 (s.foldl gstep [])]) (b := 1) (t := 59) (l := s.foldl gstep []) rfl s59 a59
      simp -implicitDefEqProofs [k46_11, rr, colV]
    · simp -implicitDefEqProofs [k46_11, Rec.sl_nil]
    · rfl
    · intro nx i o hi _
      simp -implicitDefEqProofs [r46_11, k46_11, hi, trim_le]
    · intro nx i t rest o hi hv hd hw ho ih
      have ih := ih (gstep o t) (by have := gstep_len o t; omega)
      simp -implicitDefEqProofs [k46_11] at ih
      rw [List.foldl_cons]
      have ixs := Rec.index_row (R := spanR) (h0 := 2) (t := 59) (g := some true) (b := 0) (l := s) (i := i) (k := .i64) rfl hi
      have lds := Rec.load_row (R := spanR) (h := [spanR.row 59 s, spanR.row 59 o]) (b := 0) (n := 2) (t := 59) (l := s) (i := i) rfl rfl hi
      rw [hv, span_val] at lds
      have ap := fun q => app_span (h := [spanR.row 59 s, spanR.row 59 o, q]) (b := 1) (c := o) t.1 t.2 rfl (by omega)
      by_cases h0 : o = []
      · subst h0
        have e : gstep [] t = [] ++ [(t.1, t.2)] := rfl
        rw [e] at ih ⊢
        simp -implicitDefEqProofs [r46_11, k46_11, hi, ixs, lds, Rec.sl_len, lit_span, ap, hw, trim_cut, Rec.sl_bel, Rec.row_bel, Rec.o_bel]
        simpa using ih
      · obtain ⟨m, hm⟩ : ∃ m, o.length = m + 1 := ⟨o.length - 1, by have := List.length_pos_iff.2 h0; omega⟩
        have hm' : m < o.length := by omega
        have w1 : IntKind.i64.wrap ((o.length : Int) - 1) = (m : Int) := by rw [wrap64 (by omega) (by omega)]; omega
        have hpos : 0 < o.length := by omega
        have ixo := Rec.index_row (R := spanR) (h0 := 2) (t := 59) (g := some true) (b := 1) (l := o) (i := m) (k := .i64) rfl hm'
        have fdo := Rec.field_row (R := spanR) (b := 1) (n := 0) (f := 1) (l := o) (i := m) (k := ⟨some true, some 2⟩) (g := some false)
        have ldo := fun q => Rec.load_cell (R := spanR) (h := [spanR.row 59 s, spanR.row 59 o, q]) (b := 1) (j := 1) (t := 59) (l := o) (i := m) (sz := some 1) rfl hm' (by decide)
        have e1 : (spanR.enc o[m])[1]? = some (.int .i64 o[m].2) := rfl
        simp only [e1] at ldo
        have sto := fun q (v : Int) => Rec.store_cell (R := spanR) (h := [spanR.row 59 s, spanR.row 59 o, q]) (b := 1) (j := 1) (lo := 0) (t := 59) (l := o) (i := m) (v := .int .i64 v) (a := (o[m].1, v)) rfl rfl (Nat.zero_le _) hm' (by decide) rfl
        by_cases h1 : t.1 ≤ o[m].2
        · rw [gstep_set hm t h1] at ih ⊢
          have el : spanR.sl 1 (o.set m (o[m].1, max o[m].2 t.2)) = spanR.sl 1 o := sl_eq (by simp)
          rw [el] at ih
          simp -implicitDefEqProofs [r46_11, k46_11, hi, ixs, lds, Rec.sl_len, hpos, w1, ixo, fdo, ldo, sto, h1, max_int, hw, trim_cut, Rec.sl_bel, Rec.row_bel, Rec.o_bel]
          exact ih
        · rw [gstep_add hm t h1] at ih ⊢
          simp -implicitDefEqProofs [r46_11, k46_11, hi, ixs, lds, Rec.sl_len, hpos, w1, ixo, fdo, ldo, h1, lit_span, ap, hw, trim_cut, Rec.sl_bel, Rec.row_bel, Rec.o_bel]
          exact ih
  · simp -implicitDefEqProofs [k46_3, Rec.sl_nil]
  · rfl
  · intro nx i c hi _
    simp -implicitDefEqProofs [r46_3, k46_3, hi, trim_le, own]
  · intro nx i r rest c hi hv hd hw hc ih
    have ixi := Rec.o_index (R := rectR) (t := 32) (kk := .i64) (s := 4) rfl hk hi
    rw [hv] at ixi
    have ap := fun o => app_span (h := [spanR.row 59 c, o]) (b := 0) (c := c) r.y0 r.y1 rfl (by omega)
    rw [own_cons]
    by_cases h1 : r.x0 ≤ x
    · by_cases h2 : x < r.x1
      · have ih := ih (c ++ [(r.y0, r.y1)]) (by simp; omega)
        rw [if_pos ⟨h1, h2⟩, ← List.append_assoc]
        simp -implicitDefEqProofs [k46_3, -List.append_assoc] at ih
        simp -implicitDefEqProofs [r46_3, k46_3, hi, ixi, rect_val, h1, h2, b2_all, lit_span, ap, hw, trim_cut, Rec.sl_bel, Rec.row_bel, Rec.o_bel, -List.append_assoc]
        exact ih
      · have ih := ih c (by omega)
        rw [if_neg (fun e => h2 e.2), List.nil_append]
        simp -implicitDefEqProofs [k46_3] at ih
        simp -implicitDefEqProofs [r46_3, k46_3, hi, ixi, rect_val, h1, h2, hw, trim_cut, Rec.sl_bel, Rec.row_bel, Rec.o_bel]
        exact ih
    · have ih := ih c (by omega)
      rw [if_neg (fun e => h1 e.1), List.nil_append]
      simp -implicitDefEqProofs [k46_3] at ih
      simp -implicitDefEqProofs [r46_3, k46_3, hi, ixi, rect_val, h1, hw, trim_cut, Rec.sl_bel, Rec.row_bel, Rec.o_bel]
      exact ih
end Go.Proofs.Ytgeebooalafepaa.Bm
namespace Go.Proofs.Ytgeebooalafepaa.Bm
open Go Go.RowKit

def intR : Rec Int where
  enc a := [.int .i64 a]
  m := 0
  len _ := rfl
  set _ := rfl
  bel _ _ := rfl
theorem int_flat (l : List Int) : intR.flat l = l.map (.int .i64) := by
  induction l with
  | nil => rfl
  | cons a l ih => show Value.int .i64 a :: intR.flat l = _; rw [ih]; rfl
theorem lit_two (h : Heap) (a b : Int) : buildSliceT (some ⟨3, 1, 8, .int .i64 0, ⟨some false, some 1⟩⟩) false h 2 #[(0, .int .i64 a), (1, .int .i64 b)] = some (lst true [.int .i64 a, .int .i64 b], h) :=
  (build_lit' (n := 2) (l := [(0, .int .i64 a), (1, .int .i64 b)]) rfl rfl (by decide) (by decide) (by decide)).trans rfl
theorem app_two {h : Heap} {b : Nat} {c : List Int} (u v : Int) (hob : h[b]? = some (intR.row 3 c)) (hc : c.length ≤ 1000000) :
    appendT (some ⟨3, 1, 8, .int .i64 0, ⟨some false, some 1⟩⟩) h 0 false (intR.sl b c) (lst true [.int .i64 u, .int .i64 v]) = some (intR.sl b (c ++ [u, v]), h.set b (intR.row 3 (c ++ [u, v]))) :=
  Rec.app (R := intR) (m := [u, v]) rfl hob (cells_lst (by rfl)) (Nat.zero_le _) (by show (c.length + 2) * 8 ≤ 2 ^ 47; omega)
theorem sortInts {h : Heap} {b lo : Nat} {d : List Int} (hob : h[b]? = some (intR.row 3 d)) (hlo : lo ≤ b) (hd : d.length ≤ 1000000) :
    L E 44 [intR.sl b d] h lo = some (.tuple #[], h.set b (intR.row 3 (sortI d))) := by
  rw [L_orc (g := inG sortI none) rfl]
  by_cases h0 : d.length = 0
  · have : d = [] := List.eq_nil_of_length_eq_zero h0
    subst this
    have e : h.set b (intR.row 3 (sortI [])) = h := set_same hob
    rw [e]
    rfl
  · have hob' : h[b]? = some (.cells 3 ((d ++ []).map (.int .i64)) (0 + 1)) := by
      rw [List.append_nil, ← int_flat]; exact hob
    have key := inG_ints (F := sortI) (N := none) (lo := lo) (k := d.length) (n := d.length) (c := d.length) (zs := d) (ys := []) hob' hlo (by simp) rfl h0 (by omega)
    have e1 : intR.sl b d = .slice (some ⟨b, 0, some d.length⟩) d.length d.length := by unfold Rec.sl; simp [intR]
    rw [e1, key]
    congr 2
    unfold Rec.row
    rw [List.append_nil, int_flat]; rfl
/-- What is left of a sorted row without repetitions: its first numbers. -/
def preS (b n : Nat) (e : List Int) : Value := .slice (some ⟨b, 0, some n⟩) e.length n
theorem compInts {h : Heap} {b lo : Nat} {d : List Int} (hob : h[b]? = some (intR.row 3 d)) (hlo : lo ≤ b) (hd : d.length ≤ 1000000) :
    ∃ r, L E 45 [intR.sl b d] h lo = some (preS b d.length (compI d), h.set b (intR.row 3 (compI d ++ r))) ∧ (compI d ++ r).length = d.length := by
  rw [L_orc (g := inG compF (some compN)) rfl]
  by_cases h0 : d.length = 0
  · have : d = [] := List.eq_nil_of_length_eq_zero h0
    subst this
    refine ⟨[], ?_, rfl⟩
    have e : h.set b (intR.row 3 (compI [] ++ [])) = h := set_same hob
    rw [e]
    rfl
  · have hob' : h[b]? = some (.cells 3 ((d ++ []).map (.int .i64)) (0 + 1)) := by
      rw [List.append_nil, ← int_flat]; exact hob
    have key := inG_ints (F := compF) (N := some compN) (lo := lo) (k := d.length) (n := d.length) (c := d.length) (zs := d) (ys := []) hob' hlo (by simp) rfl h0 (by omega)
    have e1 : intR.sl b d = .slice (some ⟨b, 0, some d.length⟩) d.length d.length := by unfold Rec.sl; simp [intR]
    refine ⟨List.replicate (d.length - (compI d).length) 0, ?_, compF_len d⟩
    rw [e1, key]
    congr 2
    unfold Rec.row
    rw [List.append_nil, int_flat]; rfl
theorem pre_len {h : Heap} {b n : Nat} {e : List Int} : lenT .sl h (preS b n e) = some (.int .i64 e.length) := rfl
theorem pre_bel {m d b n : Nat} {e : List Int} (h : b < m) : below (d + 1) m (preS b n e) = true := decide_eq_true h
theorem pre_index {t : TypeId} {g : Option Bool} {b n i : Nat} {e : List Int} {k : IntKind} (h1 : i < e.length) : indexAddrT (.sl t ⟨g, some 1⟩) (preS b n e) (.int k (i : Int)) = some (.pointer (some ⟨b, i, some n⟩)) := by
  unfold preS
  rw [index_slice, if_pos ⟨by omega, by omega⟩]
  simp [shift]
theorem pre_load {h : Heap} {b n i : Nat} {e r : List Int} {sz : Option Nat} (hob : h[b]? = some (intR.row 3 (e ++ r))) (hn : (e ++ r).length = n) (h1 : i < e.length) : loadT ⟨some false, sz⟩ h (.pointer (some ⟨b, i, some n⟩)) = some (.int .i64 e[i]) := by
  subst hn
  have key := Rec.load_cell (R := intR) (h := h) (b := b) (j := 0) (t := 3) (l := e ++ r) (i := i) (sz := sz) hob (by rw [List.length_append]; omega) (by decide)
  unfold Rec.at_ at key
  have e1 : (e ++ r)[i]'(by rw [List.length_append]; omega) = e[i] := List.getElem_append_left h1
  simp only [e1, show intR.m + 1 = 1 from rfl, Nat.mul_one, Nat.add_zero] at key
  exact key
end Go.Proofs.Ytgeebooalafepaa.Bm
