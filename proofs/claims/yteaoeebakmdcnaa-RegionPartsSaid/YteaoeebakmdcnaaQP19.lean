/-
  Loops of which only a property of the end is told. Conditions: each lemma says its own.
-/
import Derived.Test.YteaoeebakmdcnaaQP18
import Derived.Test.YteaoeebakmdcnaaQP13
namespace Go.Proofs.Yteaoeebakmdcnaa.Bm
open Go Go.RowKit
open Rg (Rect Slab own own_cons gstep colC)

theorem s59 : szOf E.P 52 = some 2 := by kernel_rfl
theorem a59 : aggT E.P 52 = some true := by kernel_rfl
theorem lit_span (h : Heap) (a b : Int) : buildSliceT (some ⟨52, 2, 16, .agg ⟨[.int .i64 0, .int .i64 0]⟩, ⟨some true, some 2⟩⟩) false h 1 #[(0, .agg ⟨[.int .i64 a, .int .i64 b]⟩)] = some (lst true [.agg ⟨[.int .i64 a, .int .i64 b]⟩], h) :=
  (build_lit' (n := 1) (l := [(0, .agg ⟨[.int .i64 a, .int .i64 b]⟩)]) rfl rfl (by decide) (by decide) (by decide)).trans rfl
theorem app_span {h : Heap} {b : Nat} {c : List (Int × Int)} (u v : Int) (hob : h[b]? = some (spanR.row 52 c)) (hc : c.length ≤ 1000000) :
    appendT (some ⟨52, 2, 16, .agg ⟨[.int .i64 0, .int .i64 0]⟩, ⟨some true, some 2⟩⟩) h 0 false (spanR.sl b c) (lst true [.agg ⟨[.int .i64 u, .int .i64 v]⟩]) = some (spanR.sl b (c ++ [(u, v)]), h.set b (spanR.row 52 (c ++ [(u, v)]))) :=
  Rec.app (R := spanR) (m := [(u, v)]) rfl hob (Rec.cells_tree (R := spanR) rfl [(u, v)]) (Nat.zero_le _) (by show (c.length + 1) * 16 ≤ 2 ^ 47; omega)
theorem set_same {h : Heap} {b : Nat} {o : AObj} (hob : h[b]? = some o) : h.set b o = h := by
  refine List.ext_getElem? fun i => ?_
  rw [List.getElem?_set]
  split
  · rename_i e; subst e
    split
    · exact hob.symm
    · rename_i hlt; rw [List.getElem?_eq_none (by omega)]
  · rfl
theorem sort_spec {h : Heap} {b lo : Nat} {d : List (Int × Int)} (hob : h[b]? = some (spanR.row 52 d)) (hlo : lo ≤ b) (hd : d.length ≤ 1000000) :
    L E 41 [spanR.sl b d, .func (.func 42) ⟨[]⟩ ⟨[]⟩] h lo = some (.tuple #[], h.set b (spanR.row 52 (sortS d))) := by
  rw [L_orc (g := inC 42 2 sortSF) rfl]
  unfold inC Rec.sl
  simp only
  rw [if_pos ⟨trivial, Nat.le_refl _⟩]
  by_cases h0 : d.length = 0
  · have : d = [] := List.eq_nil_of_length_eq_zero h0
    subst this
    rw [if_pos h0]
    have e : sortS [] = [] := List.eq_nil_of_length_eq_zero (sortS_perm []).length_eq
    rw [e, set_same hob]
  · rw [if_neg h0]
    have hob' : h[b]? = some (.cells 52 (spanR.flat d) 2) := hob
    have hl : (spanR.flat d).length = d.length * 2 := Rec.flat_len
    unfold inCR
    simp only [hob']
    have e1 : (spanR.flat d).take (d.length * 2) = d.flatMap spanV := by rw [List.take_of_length_le (by omega)]; rfl
    rw [e1, sortSF_flat, Option.bind_some, if_pos ⟨hlo, by unfold stampOk; rw [hl]; simp [spanR], trivial, by omega, by omega⟩]
    rw [List.drop_of_length_le (by omega), List.append_nil]; rfl

theorem own_len (l : List Rect) (x : Int) : (own l x).length ≤ l.length := by
  unfold own
  rw [List.length_map]; exact List.length_filter_le _ _
theorem gstep_set {o : List (Int × Int)} {m : Nat} (hm : o.length = m + 1) (t : Int × Int) (h : t.1 ≤ (o[m]'(by omega)).2) : gstep o t = o.set m ((o[m]'(by omega)).1, max (o[m]'(by omega)).2 t.2) := by
  have ho : o.getLast? = some (o[m]'(by omega)) := by
    have hl : o.length - 1 = m := by omega
    have hm' : m < o.length := by omega
    rw [List.getLast?_eq_getElem?, hl, List.getElem?_eq_getElem hm']
  unfold gstep
  rw [ho]
  simp only
  rw [if_pos h]
  apply List.ext_getElem?
  intro i
  by_cases e : i = m
  · subst e
    rw [List.getElem?_append_right (by simp [hm]), List.getElem?_set_self (by omega)]
    simp [hm]
  · rw [List.getElem?_set_ne (Ne.symm e)]
    by_cases hi : i < m
    · rw [List.getElem?_append_left (by simp [hm]; omega), List.getElem?_dropLast, if_pos (by omega)]
    · rw [List.getElem?_eq_none (by simp [hm]; omega), List.getElem?_eq_none (by omega)]
theorem gstep_add {o : List (Int × Int)} {m : Nat} (hm : o.length = m + 1) (t : Int × Int) (h : ¬ t.1 ≤ (o[m]'(by omega)).2) : gstep o t = o ++ [t] := by
  have ho : o.getLast? = some (o[m]'(by omega)) := by
    have hl : o.length - 1 = m := by omega
    have hm' : m < o.length := by omega
    rw [List.getLast?_eq_getElem?, hl, List.getElem?_eq_getElem hm']
  unfold gstep
  rw [ho]
  simp only
  rw [if_neg h]
theorem gstep_len (o : List (Int × Int)) (t : Int × Int) : (gstep o t).length ≤ o.length + 1 := by
  unfold gstep
  split
  · split
    · simp
    · simp
  · simp
theorem sl_eq {b : Nat} {c d : List (Int × Int)} (h : c.length = d.length) : spanR.sl b c = spanR.sl b d := by unfold Rec.sl; rw [h]
theorem max_int (a b : Int) : aMinMax true [.int .i64 a, .int .i64 b] = some (.int .i64 (max a b)) := by
  show some (Value.int .i64 (if b > a then b else a)) = _
  congr 2
  omega
theorem column_spec (k : Option Bool) (l : List Rect) (x : Int) (hk : Rec.Ok k l) (hl : l.length ≤ 1000) : pureCall E.P (L E) 32 [rectR.o k l, .int .i64 x] = some (colV (colC l x)) := by
  rw [pureCall_fn F32 rfl]
  simp -implicitDefEqProofs [r32, p32, prep_new, newK_nil s59, Rec.o_len hk]
  rw [LL_for (γ := List (Int × Int)) l [] (fun i c => [(5, spanR.sl 0 c), (14, .int .i64 i)]) (fun _ c => [spanR.row 52 c])
    (fun _ rest c => (.exit 0, [(5, spanR.sl 0 (c ++ own rest x)), (14, undef)], [spanR.row 52 (c ++ own rest x)])) (fun i c => c.length ≤ i) (by omega) (Nat.le_refl _)]
  · rw [List.nil_append]
    have hs := fun h => sort_spec (h := [spanR.row 52 (own l x)] ++ h) (b := 0) (lo := 0) (d := own l x) rfl (Nat.le_refl _) (by have := own_len l x; omega)
    have hs := hs []
    rw [List.append_nil] at hs
    have hse : (own l x).length = (sortS (own l x)).length := (sortS_perm _).length_eq.symm
    have hle := own_len l x
    simp -implicitDefEqProofs [k32_3, ret2 (E := E) (f := 41) rfl, hs, prep_new, newK_nil s59, Rec.sl_len]
    rw [sl_eq (b := 0) hse, hse]
    have hc : colC l x = (sortS (own l x)).foldl gstep [] := (Rg.gstep_col _).symm
    rw [hc]
    rw [hse] at hle
    clear hs hse hc
    generalize sortS (own l x) = s at hle ⊢
    rw [LL_for (γ := List (Int × Int)) s [] (fun i o => [(8, spanR.sl 1 o), (41, .int .i64 i)]) (fun _ o => [spanR.row 52 s, spanR.row 52 o])
      (fun _ rest o => (.exit 2, [(8, spanR.sl 1 (rest.foldl gstep o)), (41, undef)], [spanR.row 52 s, spanR.row 52 (rest.foldl gstep o)])) (fun i o => o.length ≤ i) (by omega) (Nat.le_refl _)]
    · have rr := Rec.reifyR_row (R := spanR) (P := E.P) (h := [spanR.row 52 s, spanR.row 52 (s.foldl gstep [])]) (b := 1) (t := 52) (l := s.foldl gstep []) rfl s59 a59
      simp -implicitDefEqProofs [k32_11, rr, colV]
    · simp -implicitDefEqProofs [k32_11, Rec.sl_nil]
    · rfl
    · intro nx i o hi _
      simp -implicitDefEqProofs [r32_11, k32_11, hi, trim_le]
    · intro nx i t rest o hi hv hd hw ho ih
      have ih := ih (gstep o t) (by have := gstep_len o t; omega)
      simp -implicitDefEqProofs [k32_11] at ih
      rw [List.foldl_cons]
      have ixs := Rec.index_row (R := spanR) (h0 := 2) (t := 52) (g := some true) (b := 0) (l := s) (i := i) (k := .i64) rfl hi
      have lds := Rec.load_row (R := spanR) (h := [spanR.row 52 s, spanR.row 52 o]) (b := 0) (n := 2) (t := 52) (l := s) (i := i) rfl rfl hi
      rw [hv, span_val] at lds
      have ap := fun q => app_span (h := [spanR.row 52 s, spanR.row 52 o, q]) (b := 1) (c := o) t.1 t.2 rfl (by omega)
      by_cases h0 : o = []
      · subst h0
        have e : gstep [] t = [] ++ [(t.1, t.2)] := rfl
        rw [e] at ih ⊢
        simp -implicitDefEqProofs [r32_11, k32_11, hi, ixs, lds, Rec.sl_len, lit_span, ap, hw, trim_cut, Rec.sl_bel, Rec.row_bel, Rec.o_bel]
        simpa using ih
      · obtain ⟨m, hm⟩ : ∃ m, o.length = m + 1 := ⟨o.length - 1, by have := List.length_pos_iff.2 h0; omega⟩
        have hm' : m < o.length := by omega
        have w1 : IntKind.i64.wrap ((o.length : Int) - 1) = (m : Int) := by rw [wrap64 (by omega) (by omega)]; omega
        have hpos : 0 < o.length := by omega
        have ixo := Rec.index_row (R := spanR) (h0 := 2) (t := 52) (g := some true) (b := 1) (l := o) (i := m) (k := .i64) rfl hm'
        have fdo := Rec.field_row (R := spanR) (b := 1) (n := 0) (f := 1) (l := o) (i := m) (k := ⟨some true, some 2⟩) (g := some false)
        have ldo := fun q => Rec.load_cell (R := spanR) (h := [spanR.row 52 s, spanR.row 52 o, q]) (b := 1) (j := 1) (t := 52) (l := o) (i := m) (sz := some 1) rfl hm' (by decide)
        have e1 : (spanR.enc o[m])[1]? = some (.int .i64 o[m].2) := rfl
        simp only [e1] at ldo
        have sto := fun q (v : Int) => Rec.store_cell (R := spanR) (h := [spanR.row 52 s, spanR.row 52 o, q]) (b := 1) (j := 1) (lo := 0) (t := 52) (l := o) (i := m) (v := .int .i64 v) (a := (o[m].1, v)) rfl rfl (Nat.zero_le _) hm' (by decide) rfl
        by_cases h1 : t.1 ≤ o[m].2
        · rw [gstep_set hm t h1] at ih ⊢
          have el : spanR.sl 1 (o.set m (o[m].1, max o[m].2 t.2)) = spanR.sl 1 o := sl_eq (by simp)
          rw [el] at ih
          simp -implicitDefEqProofs [r32_11, k32_11, hi, ixs, lds, Rec.sl_len, hpos, w1, ixo, fdo, ldo, sto, h1, max_int, hw, trim_cut, Rec.sl_bel, Rec.row_bel, Rec.o_bel]
          exact ih
        · rw [gstep_add hm t h1] at ih ⊢
          simp -implicitDefEqProofs [r32_11, k32_11, hi, ixs, lds, Rec.sl_len, hpos, w1, ixo, fdo, ldo, h1, lit_span, ap, hw, trim_cut, Rec.sl_bel, Rec.row_bel, Rec.o_bel]
          exact ih
  · simp -implicitDefEqProofs [k32_3, Rec.sl_nil]
  · rfl
  · intro nx i c hi _
    simp -implicitDefEqProofs [r32_3, k32_3, hi, trim_le, own]
  · intro nx i r rest c hi hv hd hw hc ih
    have ixi := Rec.o_index (R := rectR) (t := 32) (kk := .i64) (s := 4) rfl hk hi
    rw [hv] at ixi
    have ap := fun o => app_span (h := [spanR.row 52 c, o]) (b := 0) (c := c) r.y0 r.y1 rfl (by omega)
    rw [own_cons]
    by_cases h1 : r.x0 ≤ x
    · by_cases h2 : x < r.x1
      · have ih := ih (c ++ [(r.y0, r.y1)]) (by simp; omega)
        rw [if_pos ⟨h1, h2⟩, ← List.append_assoc]
        simp -implicitDefEqProofs [k32_3, -List.append_assoc] at ih
        simp -implicitDefEqProofs [r32_3, k32_3, hi, ixi, rect_val, h1, h2, b2_all, lit_span, ap, hw, trim_cut, Rec.sl_bel, Rec.row_bel, Rec.o_bel, -List.append_assoc]
        exact ih
      · have ih := ih c (by omega)
        rw [if_neg (fun e => h2 e.2), List.nil_append]
        simp -implicitDefEqProofs [k32_3] at ih
        simp -implicitDefEqProofs [r32_3, k32_3, hi, ixi, rect_val, h1, h2, hw, trim_cut, Rec.sl_bel, Rec.row_bel, Rec.o_bel]
        exact ih
    · have ih := ih c (by omega)
      rw [if_neg (fun e => h1 e.1), List.nil_append]
      simp -implicitDefEqProofs [k32_3] at ih
      simp -implicitDefEqProofs [r32_3, k32_3, hi, ixi, rect_val, h1, hw, trim_cut, Rec.sl_bel, Rec.row_bel, Rec.o_bel]
      exact ih
end Go.Proofs.Yteaoeebakmdcnaa.Bm
namespace Go.Proofs.Yteaoeebakmdcnaa.Bm
open Go Go.RowKit

def intR : Rec Int where
  enc a := [.int .i64 a]
  m := 0
  len _ := rfl
  set _ := rfl
  bel _ _ := rfl
theorem int_flat (l : List Int) : intR.flat l = l.map (.int .i64) := by
  induction l with
  | nil => rfl
  | cons a l ih => show Value.int .i64 a :: intR.flat l = _; rw [ih]; rfl
theorem lit_two (h : Heap) (a b : Int) : buildSliceT (some ⟨3, 1, 8, .int .i64 0, ⟨some false, some 1⟩⟩) false h 2 #[(0, .int .i64 a), (1, .int .i64 b)] = some (lst true [.int .i64 a, .int .i64 b], h) :=
  (build_lit' (n := 2) (l := [(0, .int .i64 a), (1, .int .i64 b)]) rfl rfl (by decide) (by decide) (by decide)).trans rfl
theorem sortInts {h : Heap} {b lo : Nat} {d : List Int} (hob : h[b]? = some (intR.row 3 d)) (hlo : lo ≤ b) (hd : d.length ≤ 1000000) :
    L E 30 [intR.sl b d] h lo = some (.tuple #[], h.set b (intR.row 3 (sortI d))) := by
  rw [L_orc (g := inG sortI none) rfl]
  by_cases h0 : d.length = 0
  · have : d = [] := List.eq_nil_of_length_eq_zero h0
    subst this
    have e : h.set b (intR.row 3 (sortI [])) = h := set_same hob
    rw [e]
    rfl
  · have hob' : h[b]? = some (.cells 3 ((d ++ []).map (.int .i64)) (0 + 1)) := by
      rw [List.append_nil, ← int_flat]; exact hob
    have key := inG_ints (F := sortI) (N := none) (lo := lo) (k := d.length) (n := d.length) (c := d.length) (zs := d) (ys := []) hob' hlo (by simp) rfl h0 (by omega)
    have e1 : intR.sl b d = .slice (some ⟨b, 0, some d.length⟩) d.length d.length := by unfold Rec.sl; simp [intR]
    rw [e1, key]
    congr 2
    unfold Rec.row
    rw [List.append_nil, int_flat]; rfl
/-- What is left of a sorted row without repetitions: its first numbers. -/
def preS (b n : Nat) (e : List Int) : Value := .slice (some ⟨b, 0, some n⟩) e.length n
theorem compInts {h : Heap} {b lo : Nat} {d : List Int} (hob : h[b]? = some (intR.row 3 d)) (hlo : lo ≤ b) (hd : d.length ≤ 1000000) :
    ∃ r, L E 31 [intR.sl b d] h lo = some (preS b d.length (compI d), h.set b (intR.row 3 (compI d ++ r))) ∧ (compI d ++ r).length = d.length := by
  rw [L_orc (g := inG compF (some compN)) rfl]
  by_cases h0 : d.length = 0
  · have : d = [] := List.eq_nil_of_length_eq_zero h0
    subst this
    refine ⟨[], ?_, rfl⟩
    have e : h.set b (intR.row 3 (compI [] ++ [])) = h := set_same hob
    rw [e]
    rfl
  · have hob' : h[b]? = some (.cells 3 ((d ++ []).map (.int .i64)) (0 + 1)) := by
      rw [List.append_nil, ← int_flat]; exact hob
    have key := inG_ints (F := compF) (N := some compN) (lo := lo) (k := d.length) (n := d.length) (c := d.length) (zs := d) (ys := []) hob' hlo (by simp) rfl h0 (by omega)
    have e1 : intR.sl b d = .slice (some ⟨b, 0, some d.length⟩) d.length d.length := by unfold Rec.sl; simp [intR]
    refine ⟨List.replicate (d.length - (compI d).length) 0, ?_, compF_len d⟩
    rw [e1, key]
    congr 2
    unfold Rec.row
    rw [List.append_nil, int_flat]; rfl
theorem pre_len {h : Heap} {b n : Nat} {e : List Int} : lenT .sl h (preS b n e) = some (.int .i64 e.length) := rfl
theorem pre_index {t : TypeId} {g : Option Bool} {b n i : Nat} {e : List Int} {k : IntKind} (h1 : i < e.length) : indexAddrT (.sl t ⟨g, some 1⟩) (preS b n e) (.int k (i : Int)) = some (.pointer (some ⟨b, i, some n⟩)) := by
  unfold preS
  rw [index_slice, if_pos ⟨by omega, by omega⟩]
  simp [shift]
theorem pre_load {h : Heap} {b n i : Nat} {e r : List Int} {sz : Option Nat} (hob : h[b]? = some (intR.row 3 (e ++ r))) (hn : (e ++ r).length = n) (h1 : i < e.length) : loadT ⟨some false, sz⟩ h (.pointer (some ⟨b, i, some n⟩)) = some (.int .i64 e[i]) := by
  subst hn
  have key := Rec.load_cell (R := intR) (h := h) (b := b) (j := 0) (t := 3) (l := e ++ r) (i := i) (sz := sz) hob (by rw [List.length_append]; omega) (by decide)
  unfold Rec.at_ at key
  have e1 : (e ++ r)[i]'(by rw [List.length_append]; omega) = e[i] := List.getElem_append_left h1
  simp only [e1, show intR.m + 1 = 1 from rfl, Nat.mul_one, Nat.add_zero] at key
  exact key
end Go.Proofs.Yteaoeebakmdcnaa.Bm

namespace Go.Proofs.Yteaoeebakmdcnaa.Bm
open Go Go.RowKit
open Rg (ends keepS addS sortU)

end Go.Proofs.Yteaoeebakmdcnaa.Bm

namespace Go.Proofs.Yteaoeebakmdcnaa.Rg
open Bm (inB inB_has atO colL pslab bs bs_ok)

def edgesX (l : List Rect) : List Int := sortU (l.flatMap fun r => [r.x0, r.x1])
theorem edgesX_all (l : List Rect) : EdgesX l (edgesX l) := fun r hr => by
  unfold edgesX
  rw [sortU_mem, sortU_mem]
  exact ⟨List.mem_flatMap.2 ⟨r, hr, by simp⟩, List.mem_flatMap.2 ⟨r, hr, by simp⟩⟩
theorem EdgesX.mono {l m : List Rect} {xs : List Int} (h : EdgesX m xs) (hlm : ∀ r ∈ l, r ∈ m) : EdgesX l xs := fun r hr => h r (hlm r hr)
def stripsL (l : List Rect) : List Slab := stripL (colC l) (edgesX l)
def ofL (l : List Rect) : List Rect := outT (runsF (stripsL l))
theorem edgesX_len (l : List Rect) : (edgesX l).length ≤ 2 * l.length := by
  have h : ∀ (z : Int) (m : List Int), (insU z m).length ≤ m.length + 1 := by
    intro z m
    induction m with
    | nil => exact Nat.le_refl _
    | cons a m ih =>
      unfold insU
      split
      · exact Nat.le_refl _
      · split
        · exact Nat.le_succ _
        · exact Nat.succ_le_succ ih
  have k : ∀ (m : List Int), (sortU m).length ≤ m.length := by
    intro m
    induction m with
    | nil => exact Nat.le_refl _
    | cons a m ih => exact Nat.le_trans (h a _) (Nat.succ_le_succ ih)
  refine Nat.le_trans (k _) ?_
  induction l with
  | nil => exact Nat.le_refl _
  | cons r l ih =>
    have e : ((r :: l).flatMap fun r => [r.x0, r.x1]).length = 2 + (l.flatMap fun r => [r.x0, r.x1]).length := by
      rw [List.flatMap_cons, List.length_append]; rfl
    have e2 : (r :: l).length = l.length + 1 := rfl
    rw [e, e2]; omega
theorem stripL_len (c : Int → List (Int × Int)) : ∀ (xs : List Int), (stripL c xs).length = xs.length - 1
  | [] => rfl
  | [_] => rfl
  | a :: b :: xs => by
    show (stripL c (b :: xs)).length + 1 = _
    rw [stripL_len c (b :: xs)]; simp
theorem ofL_ok {l : List Rect} (hl : ∀ r ∈ l, r.y0 < r.y1) : Form (ofL l) ∧ ∀ x y, cell (ofL l) x y = cell l x y :=
  strips_form (cell_steps l) (sortU_asc _) (edgesX_all l) (colC l) (fun x => (colC_ok hl x).1) fun x _ y => (colC_ok hl x).2 y
/-! ### What stands in strips at 'x' -/
/-! ### Two columns put together -/
def mergeC (f : Bool → Bool → Bool) (a b : List (Int × Int)) : List (Int × Int) := keepS (fun y => f (inB a y) (inB b y)) [] (sortU (ends (a ++ b)))
/-! ### Operations on sets -/
def opC (f : Bool → Bool → Bool) (a b : List Rect) (x : Int) : List (Int × Int) := mergeC f (colL (atO (stripsL a) x)) (colL (atO (stripsL b) x))
def opL (f : Bool → Bool → Bool) (a b : List Rect) : List Rect := outT (runsF (stripL (opC f a b) (edgesX (a ++ b))))
end Go.Proofs.Yteaoeebakmdcnaa.Rg

namespace Go.Proofs.Yteaoeebakmdcnaa.Bm
open Go Go.RowKit
open Rg (Rect Slab stripsL edgesX colC stripL sortU)

/-! ### Ends of heaps -/
theorem end0 {h : Heap} {a : AObj} : (h ++ [a])[h.length]? = some a := by simp
theorem end1 {h : Heap} {a b : AObj} : (h ++ [a, b])[h.length]? = some a := by simp
theorem end2 {h : Heap} {a b : AObj} : (h ++ [a, b])[h.length + 1]? = some b := by
  rw [List.getElem?_append_right (by omega), Nat.add_sub_cancel_left]; rfl
theorem set0 {h : Heap} {a b : AObj} : (h ++ [a]).set h.length b = h ++ [b] := by
  rw [List.set_append_right _ _ (Nat.le_refl _), Nat.sub_self]; rfl
theorem set1 {h : Heap} {a c b : AObj} : (h ++ [a, c]).set h.length b = h ++ [b, c] := by
  rw [List.set_append_right _ _ (Nat.le_refl _), Nat.sub_self]; rfl
theorem set2 {h : Heap} {a c b : AObj} : (h ++ [a, c]).set (h.length + 1) b = h ++ [a, b] := by
  rw [List.set_append_right _ _ (by omega), Nat.add_sub_cancel_left]; rfl
theorem take1 {h : Heap} {a b : AObj} : (h ++ [a, b]).take (h.length + 1) = h ++ [a] := by
  rw [List.take_append, List.take_of_length_le (by omega), Nat.add_sub_cancel_left]; rfl
theorem app_app {h : Heap} {a b : AObj} : (h ++ [a]) ++ [b] = h ++ [a, b] := by rw [List.append_assoc]; rfl

theorem s61 : szOf E.P 54 = some 3 := by kernel_rfl
theorem a61 : aggT E.P 54 = some true := by kernel_rfl
theorem s3 : szOf E.P 3 = some 1 := by kernel_rfl
theorem b3_all {a b : Int} {c : List (Int × Int)} : buildT (Bl.fs ⟨[.int .i64 0, .int .i64 0, .slice none 0 0]⟩ ⟨[(0, 1), (1, 1), (2, 1)]⟩) #[(0, .int .i64 a), (1, .int .i64 b), (2, colV c)] = some (.agg ⟨[.int .i64 a, .int .i64 b, colV c]⟩) := rfl
theorem lit_slab (h : Heap) (a b : Int) (c : List (Int × Int)) : buildSliceT (some ⟨54, 3, 40, .agg ⟨[.int .i64 0, .int .i64 0, .slice none 0 0]⟩, ⟨some true, some 3⟩⟩) false h 1 #[(0, .agg ⟨[.int .i64 a, .int .i64 b, colV c]⟩)] = some (lst true [.agg ⟨[.int .i64 a, .int .i64 b, colV c]⟩], h) :=
  (build_lit' (n := 1) (l := [(0, .agg ⟨[.int .i64 a, .int .i64 b, colV c]⟩)]) rfl rfl (by decide) (by decide) (by decide)).trans rfl
theorem app_slab {h : Heap} {b lo : Nat} {c : List Slab} (s : Slab) (hob : h[b]? = some (slabR.row 54 c)) (hlo : lo ≤ b) (hc : c.length ≤ 1000000) :
    appendT (some ⟨54, 3, 40, .agg ⟨[.int .i64 0, .int .i64 0, .slice none 0 0]⟩, ⟨some true, some 3⟩⟩) h lo false (slabR.sl b c) (lst true [.agg ⟨[.int .i64 s.x0, .int .i64 s.x1, colV s.col]⟩]) = some (slabR.sl b (c ++ [s]), h.set b (slabR.row 54 (c ++ [s]))) :=
  Rec.app (R := slabR) (m := [s]) rfl hob (Rec.cells_tree (R := slabR) rfl [s]) hlo (by show (c.length + 1) * 40 ≤ 2 ^ 47; omega)
theorem app_two' {h : Heap} {b lo : Nat} {c : List Int} (u v : Int) (hob : h[b]? = some (intR.row 3 c)) (hlo : lo ≤ b) (hc : c.length ≤ 1000000) :
    appendT (some ⟨3, 1, 8, .int .i64 0, ⟨some false, some 1⟩⟩) h lo false (intR.sl b c) (lst true [.int .i64 u, .int .i64 v]) = some (intR.sl b (c ++ [u, v]), h.set b (intR.row 3 (c ++ [u, v]))) :=
  Rec.app (R := intR) (m := [u, v]) rfl hob (cells_lst (by rfl)) hlo (by show (c.length + 2) * 8 ≤ 2 ^ 47; omega)

def xsL (l : List Rect) : List Int := l.flatMap fun r => [r.x0, r.x1]
theorem xsL_cons (r : Rect) (l : List Rect) : xsL (r :: l) = [r.x0, r.x1] ++ xsL l := rfl
theorem xsL_len (l : List Rect) : (xsL l).length = 2 * l.length := by
  induction l with
  | nil => rfl
  | cons r l ih =>
    have e2 : (r :: l).length = l.length + 1 := rfl
    have e3 : [r.x0, r.x1].length = 2 := rfl
    rw [xsL_cons, List.length_append, ih, e2, e3]; omega
theorem strips_spec (x : Bool) (P : List (Option Bool × List Rect)) (hok : ∀ p ∈ P, Rec.Ok p.1 p.2) (hP : P.length ≤ 1000) (ht : tot P ≤ 1000) (st : settled depth (lst x (P.map fun p => rectR.o p.1 p.2)) = true)
    (h : Heap) (lo : Nat) (hlo : lo ≤ h.length) (hb : ∀ n, h.length ≤ n → h.all (belowO n) = true) :
    ∃ q, L E 18 [lst x (P.map fun p => rectR.o p.1 p.2)] h lo = some (slabR.sl (h.length + 1) (stripsL (allP P)), h ++ [intR.row 3 q, slabR.row 54 (stripsL (allP P))]) := by
  have hcat := rects_concat x P hok hP (by omega)
  have hcl : (allP P).length ≤ 1000 := by rw [tot_all]; exact ht
  have hk : Rec.Ok (if tot P = 0 then none else some false) (allP P) := by
    intro hk
    split at hk
    · rename_i h0
      exact List.eq_nil_of_length_eq_zero (by rw [tot_all, h0])
    · cases hk
  generalize (if tot P = 0 then none else some false) = k at hcat hk
  generalize allP P = ll at hcat hk hcl ⊢
  obtain ⟨r, co, hr⟩ := compInts (h := h ++ [intR.row 3 (sortI (xsL ll))]) (b := h.length) (lo := lo) (d := sortI (xsL ll)) end0 hlo (by rw [sortI_len, xsL_len]; omega)
  refine ⟨compI (sortI (xsL ll)) ++ r, ?_⟩
  rw [L_fn F18 rfl]
  simp -implicitDefEqProofs [r18, p18, prep_new, newK_nil s3, ret1 m29, hcat, st, Rec.o_len hk]
  rw [LL_for (γ := List Int) ll [] (fun i c => [(4, intR.sl h.length c), (13, .int .i64 i)]) (fun _ c => h ++ [intR.row 3 c])
    (fun _ rest c => (.exit 0, [(4, intR.sl h.length (c ++ xsL rest)), (13, undef)], h ++ [intR.row 3 (c ++ xsL rest)])) (fun i c => c.length = 2 * i) (by omega) rfl]
  · rw [List.nil_append]
    have hel := xsL_len ll
    have so := sortInts (h := h ++ [intR.row 3 (xsL ll)]) (b := h.length) (lo := lo) (d := xsL ll) end0 hlo (by omega)
    have hsl : (sortI (xsL ll)).length = (xsL ll).length := sortI_len _
    rw [Rg.comp_sort] at co hr ⊢
    have e1 : intR.sl h.length (sortI (xsL ll)) = intR.sl h.length (xsL ll) := by unfold Rec.sl; rw [hsl]
    rw [e1, set0] at co
    rw [set0] at so
    simp -implicitDefEqProofs [k18_4, ret2 (E := E) (f := 30) rfl, ret2 (E := E) (f := 31) rfl, so, co, prep_new, newK_nil s61]
    rw [hsl] at hr ⊢
    have exs : stripsL ll = stripL (colC ll) (sortU (xsL ll)) := rfl
    rw [exs]
    generalize hys : sortU (xsL ll) = ys at hr ⊢
    generalize (xsL ll).length = n at hr hel ⊢
    have hyn : ys.length ≤ 40000 := by rw [List.length_append] at hr; omega
    clear hcat co so
    rw [LL_rec (α := Nat × List Slab) (1, []) (fun c => [(7, slabR.sl (h.length + 1) c.2), (8, .int .i64 c.1)]) (fun c => h ++ [intR.row 3 (ys ++ r), slabR.row 54 c.2])
      (fun c => (.exit 2, [(7, slabR.sl (h.length + 1) (c.2 ++ stripL (colC ll) (ys.drop (c.1 - 1)))), (8, undef)], h ++ [intR.row 3 (ys ++ r), slabR.row 54 (c.2 ++ stripL (colC ll) (ys.drop (c.1 - 1)))])) (fun c => 1 ≤ c.1 ∧ c.1 ≤ ys.length + 1 ∧ c.2.length ≤ c.1) (fun c => ys.length + 1 - c.1)]
    · simp -implicitDefEqProofs [k18_12]
    · exact ⟨Nat.le_refl _, by simp, by simp⟩
    · simp -implicitDefEqProofs [k18_12, Rec.sl_nil]
    · rfl
    · intro nx c hc ih
      obtain ⟨i, o⟩ := c
      obtain ⟨h1, h2, h3⟩ := hc
      simp only at h1 h2 h3
      by_cases hi : i < ys.length
      · obtain ⟨m, rfl⟩ : ∃ m, i = m + 1 := ⟨i - 1, by omega⟩
        have hm0 : m < ys.length := by omega
        have hd : ys.drop (m + 1 - 1) = ys[m] :: ys[m + 1] :: ys.drop (m + 2) := by
          rw [Nat.add_sub_cancel, List.drop_eq_getElem_cons hm0, List.drop_eq_getElem_cons hi]
        have hd2 : ys.drop (m + 1) = ys[m + 1] :: ys.drop (m + 2) := List.drop_eq_getElem_cons hi
        have ek : stripL (colC ll) (ys[m] :: ys[m + 1] :: ys.drop (m + 2)) = [⟨ys[m], ys[m + 1], colC ll ys[m]⟩] ++ stripL (colC ll) (ys[m + 1] :: ys.drop (m + 2)) := rfl
        have w1 : IntKind.i64.wrap (m : Int) = m := wrap64 (by omega) (by omega)
        have w2 : IntKind.i64.wrap ((m : Int) + 1 + 1) = (m : Int) + 2 := (wrap64 (by omega) (by omega)).trans (by omega)
        have hlt : (m : Int) + 1 < (ys.length : Int) := by omega
        have px := pre_index (t := 3) (g := some false) (b := h.length) (n := n) (k := .i64) hm0
        have px1 := pre_index (t := 3) (g := some false) (b := h.length) (n := n) (k := .i64) hi
        have pl := pre_load (h := h ++ [intR.row 3 (ys ++ r), slabR.row 54 o]) (b := h.length) (n := n) (sz := some 1) end1 hr hm0
        have pl1 := pre_load (h := h ++ [intR.row 3 (ys ++ r), slabR.row 54 o]) (b := h.length) (n := n) (sz := some 1) end1 hr hi
        have so1 : settled depth (rectR.o k ll) = true := Rec.o_set
        have so2 : ∀ z, settled depth (.int .i64 z) = true := fun _ => rfl
        have cs := column_spec k ll ys[m] hk hcl
        have ap := app_slab (h := h ++ [intR.row 3 (ys ++ r), slabR.row 54 o]) (b := h.length + 1) (lo := lo) (c := o) ⟨ys[m], ys[m + 1], colC ll ys[m]⟩ end2 (by omega) (by omega)
        rw [set2] at ap
        have ih := ih (m + 2, o ++ [⟨ys[m], ys[m + 1], colC ll ys[m]⟩]) (by show ys.length + 1 - (m + 2) < ys.length + 1 - (m + 1); omega) ⟨by show 1 ≤ m + 2; omega, by show m + 2 ≤ ys.length + 1; omega, by show (o ++ [_]).length ≤ m + 2; simp; omega⟩
        rw [hd, ek, ← hd2, ← List.append_assoc]
        push_cast at px1
        simp -implicitDefEqProofs [k18_12, -List.append_assoc] at ih
        simp -implicitDefEqProofs [r18_12, k18_12, hlt, pre_len, w1, w2, px, pl, px1, pl1, ret1 m32, so1, so2, cs, b3_all, lit_slab, ap, trim_le, -List.append_assoc]
        exact ih
      · have e : stripL (colC ll) (ys.drop (i - 1)) = [] := by
          have hl : (ys.drop (i - 1)).length ≤ 1 := by rw [List.length_drop]; omega
          match hd : ys.drop (i - 1), hl with
          | [], _ => rfl
          | [z], _ => rfl
        rw [e, List.append_nil]
        simp -implicitDefEqProofs [r18_12, k18_12, hi, pre_len, trim_le]
  · simp -implicitDefEqProofs [k18_4, Rec.sl_nil]
  · rfl
  · intro nx i c hi _
    simp -implicitDefEqProofs [r18_4, k18_4, hi, trim_le, xsL]
  · intro nx i s rest c hi hv hd hw hc ih
    have ixi := Rec.o_index (R := rectR) (t := 32) (kk := .i64) (s := 4) rfl hk hi
    rw [hv] at ixi
    have ap := fun o => app_two' (h := h ++ [intR.row 3 c, o]) (b := h.length) (lo := lo) (c := c) s.x0 s.x1 end1 hlo (by omega)
    simp only [set1] at ap
    have ih := ih (c ++ [s.x0, s.x1]) (by simp; omega)
    have hlo1 : lo ≤ h.length + 1 := by omega
    have hb1 := hb (h.length + 1) (by omega)
    rw [xsL_cons, ← List.append_assoc]
    simp -implicitDefEqProofs [k18_4, -List.append_assoc] at ih
    simp -implicitDefEqProofs [r18_4, k18_4, hi, ixi, rect_val, lit_two, ap, hw, trim_cut, Rec.sl_bel, Rec.row_bel, Rec.o_bel, hlo1, hb1, app_app, take1, -List.append_assoc, -List.all_eq_true]
    exact ih
end Go.Proofs.Yteaoeebakmdcnaa.Bm
namespace Go.Proofs.Yteaoeebakmdcnaa.Bm
open Go Go.RowKit
open Rg (Rect Slab runs runsF outT emit)

/-! ### Runs of equal strips, plain -/
def cntR (c : List (Int × Int)) : List Slab → Nat
  | [] => 0
  | u :: U => if u.col = c then cntR c U + 1 else 0
theorem cntR_le (c : List (Int × Int)) : ∀ (U : List Slab), cntR c U ≤ U.length
  | [] => Nat.le_refl _
  | u :: U => by
    have := cntR_le c U
    unfold cntR
    split
    · exact Nat.succ_le_succ this
    · exact Nat.zero_le _
def lastX (x : Int) (c : List (Int × Int)) : List Slab → Int
  | [] => x
  | u :: U => if u.col = c then lastX u.x1 c U else x
theorem lastX_get (c : List (Int × Int)) : ∀ (U : List Slab) (s : Slab) (h : cntR c U < (s :: U).length), lastX s.x1 c U = ((s :: U)[cntR c U]).x1
  | [], s, _ => rfl
  | u :: U, s, h => by
    by_cases e : u.col = c
    · have e1 : cntR c (u :: U) = cntR c U + 1 := by rw [cntR, if_pos e]
      have e2 : lastX s.x1 c (u :: U) = lastX u.x1 c U := by rw [lastX, if_pos e]
      rw [e2, lastX_get c U u (by have := cntR_le c U; simp; omega)]
      simp only [e1, List.getElem_cons_succ]
    · have e1 : cntR c (u :: U) = 0 := by rw [cntR, if_neg e]
      have e2 : lastX s.x1 c (u :: U) = s.x1 := by rw [lastX, if_neg e]
      rw [e2]
      simp only [e1, List.getElem_cons_zero]
theorem runs_run : ∀ (U : List Slab) (s : Slab), outT (runs s U) = emit ⟨s.x0, lastX s.x1 s.col U, s.col⟩ ++ outT (runsF (U.drop (cntR s.col U)))
  | [], s => by
    rw [Rg.runs_end]
    show emit s = emit s ++ []
    rw [List.append_nil]
  | u :: U, s => by
    by_cases e : u.col = s.col
    · rw [Rg.runs_step e, runs_run U ⟨s.x0, u.x1, s.col⟩]
      rw [cntR, lastX, if_pos e, if_pos e]
      rfl
    · rw [Rg.runs_stop e, cntR, lastX, if_neg e, if_neg e]
      rfl
theorem runsF_drop {T : List Slab} {i : Nat} (hi : i < T.length) : ∃ h : i + cntR T[i].col (T.drop (i + 1)) < T.length,
    outT (runsF (T.drop i)) = emit ⟨T[i].x0, (T[i + cntR T[i].col (T.drop (i + 1))]).x1, T[i].col⟩ ++ outT (runsF (T.drop (i + 1 + cntR T[i].col (T.drop (i + 1))))) := by
  have hc := cntR_le T[i].col (T.drop (i + 1))
  rw [List.length_drop] at hc
  have h : i + cntR T[i].col (T.drop (i + 1)) < T.length := by omega
  refine ⟨h, ?_⟩
  rw [List.drop_eq_getElem_cons hi]
  show outT (runs T[i] (T.drop (i + 1))) = _
  rw [runs_run, lastX_get _ _ _ (by simp; omega), List.drop_drop]
  have e : (T[i] :: T.drop (i + 1))[cntR T[i].col (T.drop (i + 1))]'(by simp; omega) = T[i + cntR T[i].col (T.drop (i + 1))] := by
    have hd := List.drop_eq_getElem_cons hi
    have : ∀ (j : Nat) (hj : j < (T[i] :: T.drop (i + 1)).length) (hj' : i + j < T.length), (T[i] :: T.drop (i + 1))[j] = T[i + j] := by
      intro j hj hj'
      have : (T.drop i)[j]'(by rw [hd]; exact hj) = T[i + j] := List.getElem_drop ..
      rw [← this]
      congr 1
      exact hd.symm
    exact this _ _ _
  rw [e]
theorem drop_cnt {c : List (Int × Int)} {T : List Slab} {k : Nat} (hk : k < T.length) : cntR c (T.drop k) = if (T[k]).col = c then cntR c (T.drop (k + 1)) + 1 else 0 := by
  rw [List.drop_eq_getElem_cons hk, cntR]
theorem emit_cons (x0 x1 : Int) (s : Int × Int) (c : List (Int × Int)) : emit ⟨x0, x1, s :: c⟩ = [⟨x0, s.1, x1, s.2⟩] ++ emit ⟨x0, x1, c⟩ := rfl

theorem s32 : szOf E.P 32 = some 4 := by kernel_rfl
theorem a32 : aggT E.P 32 = some true := by kernel_rfl
theorem lit_rect (h : Heap) (a b c d : Int) : buildSliceT (some ⟨32, 4, 32, .agg ⟨[.int .i64 0, .int .i64 0, .int .i64 0, .int .i64 0]⟩, ⟨some true, some 4⟩⟩) false h 1 #[(0, .agg ⟨[.int .i64 a, .int .i64 b, .int .i64 c, .int .i64 d]⟩)] = some (lst true [.agg ⟨[.int .i64 a, .int .i64 b, .int .i64 c, .int .i64 d]⟩], h) :=
  (build_lit' (n := 1) (l := [(0, .agg ⟨[.int .i64 a, .int .i64 b, .int .i64 c, .int .i64 d]⟩)]) rfl rfl (by decide) (by decide) (by decide)).trans rfl
theorem app_rect {h : Heap} {b lo : Nat} {c : List Rect} (r : Rect) (hob : h[b]? = some (rectR.row 32 c)) (hlo : lo ≤ b) (hc : c.length ≤ 1000000000) :
    appendT (some ⟨32, 4, 32, .agg ⟨[.int .i64 0, .int .i64 0, .int .i64 0, .int .i64 0]⟩, ⟨some true, some 4⟩⟩) h lo false (rectR.sl b c) (lst true [.agg ⟨[.int .i64 r.x0, .int .i64 r.y0, .int .i64 r.x1, .int .i64 r.y1]⟩]) = some (rectR.sl b (c ++ [r]), h.set b (rectR.row 32 (c ++ [r]))) :=
  Rec.app (R := rectR) (m := [r]) rfl hob (Rec.cells_tree (R := rectR) rfl [r]) hlo (by show (c.length + 1) * 32 ≤ 2 ^ 47; omega)

theorem write_spec (T : List Slab) (hT : T.length ≤ 10000) (hc : ∀ s ∈ T, s.col.length ≤ 10000) : pureCall E.P (L E) 17 [lst false (slabR.vals T)] = some (lst false (rectR.vals (outT (runsF T)))) := by
  have ix : ∀ (i : Nat) (hi : i < T.length), indexAddrT (.sl 54 ⟨some true, some 3⟩) (lst false (slabR.vals T)) (.int .i64 (i : Int)) = some (cptr (slabR.val T[i])) := fun i hi => Rec.index_tree rfl hi
  have eq := fun (a b : List (Int × Int)) (ha : a.length ≤ 1000000) => equal_spans false false a b ha
  rw [pureCall_fn F17 rfl]
  simp -implicitDefEqProofs [r17, p17, prep_new, newK_nil s32]
  rw [LL_rec (α := Nat × List Rect) (0, []) (fun c => [(3, rectR.sl 0 c.2), (4, .int .i64 c.1)]) (fun c => [rectR.row 32 c.2])
      (fun c => (.exit 0, [(3, rectR.sl 0 (c.2 ++ outT (runsF (T.drop c.1)))), (4, undef)], [rectR.row 32 (c.2 ++ outT (runsF (T.drop c.1)))])) (fun c => c.1 ≤ T.length ∧ c.2.length ≤ c.1 * 10000) (fun c => T.length - c.1)]
  · have rr := Rec.reifyR_row (R := rectR) (P := E.P) (h := [rectR.row 32 (outT (runsF T))]) (b := 0) (t := 32) (l := outT (runsF T)) rfl s32 a32
    simp -implicitDefEqProofs [k17_3, rr]
  · exact ⟨Nat.zero_le _, Nat.zero_le _⟩
  · simp -implicitDefEqProofs [k17_3, Rec.sl_nil]
  · rfl
  · intro nx c hI ih
    obtain ⟨i, o⟩ := c
    obtain ⟨h1, h2⟩ := hI
    simp only at h1 h2
    by_cases hi : i < T.length
    · obtain ⟨hK, hrun⟩ := runsF_drop hi
      have hci := hc _ (List.getElem_mem hi)
      have hcs := fun (k : Nat) (hk : k < T.length) => hc _ (List.getElem_mem hk)
      have w1 : IntKind.i64.wrap ((i : Int) + 1) = (i : Int) + 1 := wrap64 (by omega) (by omega)
      have hii : (i : Int) < (T.length : Int) := by omega
      obtain ⟨m, hm⟩ : ∃ m, m = i + cntR T[i].col (T.drop (i + 1)) := ⟨_, rfl⟩
      have hm1 : i + 1 + cntR T[i].col (T.drop (i + 1)) = m + 1 := by omega
      have hK' : m < T.length := by omega
      simp only [hm1, ← hm] at hrun
      rw [hrun]
      generalize hcol : T[i].col = ci at *
      generalize hx0 : T[i].x0 = x0 at *
      generalize hx1 : T[m].x1 = x1 at *
      have hix := ix i hi
      rw [slab_val, hcol, hx0] at hix
      have him := ix m hK'
      rw [slab_val, hx1] at him
      have eR := fun (o' : List Rect) (hl : o'.length ≤ (m + 1) * 10000) => ih (m + 1, o') (by show T.length - (m + 1) < T.length - i; omega) ⟨by show m + 1 ≤ T.length; omega, hl⟩
      simp -implicitDefEqProofs [r17_3, k17_3, hi, Rec.vals_len, w1]
      rw [LL_rec (α := Nat) (i + 1) (fun k => [(5, .int .i64 (k : Int))]) (fun _ => [rectR.row 32 o]) (fun _ => (.exit 2, [(5, .int .i64 ((m + 1 : Nat) : Int))], [rectR.row 32 o]))
        (fun k => i + 1 ≤ k ∧ k ≤ T.length ∧ k + cntR ci (T.drop k) = m + 1) (fun k => T.length - k)]
      · have wm : IntKind.i64.wrap ((m : Int) + 1 - 1) = (m : Int) := (wrap64 (by omega) (by omega)).trans (by omega)
        have wm' : IntKind.i64.wrap (m : Int) = (m : Int) := wrap64 (by omega) (by omega)
        have ixc : ∀ (j : Nat) (hj : j < ci.length), indexAddrT (.sl 52 ⟨some true, some 2⟩) (lst false (spanR.vals ci)) (.int .i64 (j : Int)) = some (cptr (spanR.val ci[j])) := fun j hj => Rec.index_tree rfl hj
        simp -implicitDefEqProofs [k17_5, hix, colV, Rec.vals_len]
        rw [LL_for (γ := List Rect) ci o (fun j o' => [(3, rectR.sl 0 o'), (39, .int .i64 j)]) (fun _ o' => [rectR.row 32 o'])
          (fun _ rest o' => (.exit 4, [(3, rectR.sl 0 (o' ++ emit ⟨x0, x1, rest⟩)), (39, undef)], [rectR.row 32 (o' ++ emit ⟨x0, x1, rest⟩)])) (fun j o' => o'.length = o.length + j) (by omega) rfl]
        · have hel : (emit ⟨x0, x1, ci⟩).length = ci.length := List.length_map _
          have eR := eR (o ++ emit ⟨x0, x1, ci⟩) (by rw [List.length_append, hel]; omega)
          simp -implicitDefEqProofs [k17_3] at eR
          simp -implicitDefEqProofs [k17_8, trim_le]
          exact eR
        · simp -implicitDefEqProofs [k17_8]
        · rfl
        · intro nx j o' hj _
          have : emit ⟨x0, x1, []⟩ = [] := rfl
          simp -implicitDefEqProofs [r17_8, k17_8, hj, trim_le, this]
        · intro nx j s rest o' hj hv hd hw ho ih
          have ixj := ixc j hj
          rw [hv, span_val] at ixj
          have ap := fun q => app_rect (h := [rectR.row 32 o', q]) (b := 0) (lo := 0) (c := o') ⟨x0, s.1, x1, s.2⟩ rfl (Nat.le_refl _) (by omega)
          have ih := ih (o' ++ [⟨x0, s.1, x1, s.2⟩]) (by simp; omega)
          rw [emit_cons, ← List.append_assoc]
          simp -implicitDefEqProofs [k17_8, -List.append_assoc] at ih
          simp -implicitDefEqProofs [r17_8, k17_8, hj, ixj, hix, him, wm', b4_all, lit_rect, ap, hw, trim_cut, Rec.sl_bel, Rec.row_bel, -List.append_assoc]
          exact ih
      · exact ⟨Nat.le_refl _, by omega, hm1⟩
      · simp -implicitDefEqProofs [k17_5]
      · rfl
      · intro nx k hI ih
        obtain ⟨h3, h4, h5⟩ := hI
        by_cases hk : k < T.length
        · have w2 : IntKind.i64.wrap ((k : Int) + 1) = (k : Int) + 1 := wrap64 (by omega) (by omega)
          have hckk := hcs k hk
          have hixk := ix k hk
          rw [slab_val] at hixk
          have eqk := eq T[k].col ci (by omega)
          rw [drop_cnt hk] at h5
          by_cases he : T[k].col = ci
          · rw [if_pos he] at h5
            rw [he] at eqk
            have ih := ih (k + 1) (by omega) ⟨by omega, by omega, by omega⟩
            simp -implicitDefEqProofs [k17_5] at ih
            simp -implicitDefEqProofs [r17_5, k17_5, hk, Rec.vals_len, w2, hix, hixk, colV, ret0 m28, eqk, he, trim_le]
            exact ih
          · rw [if_neg he] at h5
            have hR : ((m + 1 : Nat) : Int) = (k : Int) := by omega
            rw [hR]
            simp -implicitDefEqProofs [r17_5, k17_5, hk, Rec.vals_len, hix, hixk, colV, ret0 m28, eqk, he, trim_le]
        · have hR : ((m + 1 : Nat) : Int) = (k : Int) := by
            have := cntR_le ci (T.drop k)
            rw [List.length_drop] at this
            omega
          rw [hR]
          simp -implicitDefEqProofs [r17_5, k17_5, hk, Rec.vals_len, trim_le]
    · have e : T.drop i = [] := List.drop_of_length_le (by omega)
      have e1 : outT (runsF (T.drop i)) = [] := by rw [e]; rfl
      rw [e1, List.append_nil]
      simp -implicitDefEqProofs [r17_3, k17_3, hi, Rec.vals_len, trim_le]
end Go.Proofs.Yteaoeebakmdcnaa.Bm

namespace Go.Proofs.Yteaoeebakmdcnaa.Bm
open Go Go.RowKit
open Rg (Rect Slab runs runsF outT emit ofL stripsL edgesX colC)

theorem ret3 {E : Env} {C : Callee} {lo : Nat} {h : Heap} {f : FuncId} (hm : E.mode f = 3) {args : List Value} : retCall E C lo false f args h = (C f args h lo).map fun r => (r.1, trim h.length [r.1] r.2) := by
  unfold retCall; rw [hm]; rfl
theorem trim_no {n : Nat} {v : Value} {h : Heap} (hv : below depth n v = false) : trim n [v] h = h := by
  unfold trim
  split
  · rfl
  · rw [if_neg]; simp [hv]
theorem frzAll_row {h h' : Heap} {lo : Nat} {v u : Value} (hf : freezeV E.P depth lo h v = some (u, h')) : frzAll E.P lo [v] h = some ([u], h') := by
  unfold frzAll
  simp [List.foldlM, hf]

theorem strips_len (l : List Rect) : (stripsL l).length ≤ 2 * l.length := by
  have h1 := Rg.edgesX_len l
  have h2 := Rg.stripL_len (colC l) (edgesX l)
  unfold stripsL
  omega
theorem stripL_mem (c : Int → List (Int × Int)) : ∀ (xs : List Int) s, s ∈ Rg.stripL c xs → s.col = c s.x0
  | [], s, h => by cases h
  | [_], s, h => by cases h
  | a :: b :: xs, s, h => by
    rcases List.mem_cons.1 h with rfl | h
    · rfl
    · exact stripL_mem c (b :: xs) s h
theorem strips_col (l : List Rect) : ∀ s ∈ stripsL l, s.col.length ≤ l.length := fun s hs => by
  rw [stripL_mem _ _ s hs]
  exact Rg.colC_len l _
theorem lit_list1 (h : Heap) (k : Option Bool) (l : List Rect) : buildSliceT (some ⟨22, 1, 24, .slice none 0 0, ⟨some false, some 1⟩⟩) false h 1 #[(0, rectR.o k l)] = some (lst true [rectR.o k l], h) := by
  cases k <;> exact (build_lit' (n := 1) (l := [(0, _)]) rfl rfl (by decide) (by decide) (by decide)).trans rfl
/-- Strips of one list, on any heap. -/
theorem strips_one (k : Option Bool) (l : List Rect) (hk : Rec.Ok k l) (hl : l.length ≤ 1000) (h : Heap) (lo : Nat) (hlo : lo ≤ h.length) (hb : ∀ n, h.length ≤ n → h.all (belowO n) = true) :
    ∃ q, retCall E (L E) lo false 18 [lst true [rectR.o k l]] h = some (slabR.sl (h.length + 1) (stripsL l), h ++ [intR.row 3 q, slabR.row 54 (stripsL l)]) := by
  obtain ⟨q, hq⟩ := strips_spec true [(k, l)] (fun p hp => by simp at hp; subst hp; exact hk) (by show 1 ≤ 1000; omega) (by show l.length + 0 ≤ 1000; omega) (by cases k <;> rfl) h lo hlo hb
  refine ⟨q, ?_⟩
  have e : allP [(k, l)] = l := List.append_nil l
  rw [e] at hq
  rw [ret3 m18]
  show ((L E 18 [lst true [rectR.o k l]] h lo).map _) = _
  rw [show [rectR.o k l] = [(k, l)].map (fun p => rectR.o p.1 p.2) from rfl, hq]
  show some (_, trim _ _ _) = _
  rw [trim_no]
  have hn : ¬ (h.length + 1 < h.length) := by omega
  exact decide_eq_false hn
/-- What is written of strips that stand in the heap. -/
theorem write_row {h : Heap} {b lo : Nat} (T : List Slab) (hob : h[b]? = some (slabR.row 54 T)) (hlo : lo ≤ b) (hT : T.length ≤ 10000) (hc : ∀ s ∈ T, s.col.length ≤ 10000) :
    ∃ h', retCall E (L E) lo false 17 [slabR.sl b T] h = some (lst false (rectR.vals (outT (runsF T))), h') := by
  have hf := Rec.freeze_row (R := slabR) hob s61 a61 hlo
  refine ⟨if T.length = 0 then h else h.set b .dead, ?_⟩
  rw [ret4 m17, frzAll_row hf]
  show ((pureCall E.P (L E) 17 [lst false (slabR.vals T)]).map _) = _
  rw [write_spec T hT hc]
  rfl

/-! ### The region of a list -/
def ofR (l : List Rect) : Except Int (List Rect) := if l.all okR then if 400 < l.length then .error 6 else if (ofL l).length ≤ 200 then .ok (ofL l) else .error 6 else .error 1
def resL : Except Int (List Rect) → Value
  | .error e => .tuple ⟨[.slice none 0 0, .int .i64 e]⟩
  | .ok l => .tuple ⟨[lst false (rectR.vals l), .int .i64 0]⟩

theorem of_spec (k : Option Bool) (l : List Rect) (hk : Rec.Ok k l) (hl : l.length ≤ 1000000) : pureCall E.P (L E) 6 [rectR.o k l] = some (resL (ofR l)) := by
  rw [pureCall_fn F6 rfl]
  simp -implicitDefEqProofs [r6, padS, Rec.o_len hk]
  rw [LL_for (γ := Unit) l () (fun i _ => [(8, .int .i64 i)]) (fun _ _ => []) (fun _ rest _ => if rest.all okR then (.exit 0, [(8, undef)], []) else (.ret, [(2, .slice none 0 0), (3, .int .i64 1), (8, undef)], [])) (fun _ _ => True) (by omega) trivial]
  · unfold ofR
    cases ha : l.all okR
    · simp -implicitDefEqProofs [k6_2, resL]
    · by_cases h4 : 400 < l.length
      · have h4i : 400 < (l.length : Int) := by omega
        simp -implicitDefEqProofs [k6_2, resL, h4, h4i, Rec.o_len hk]
      · have h4' : ¬ (400 < (l.length : Int)) := by omega
        obtain ⟨q, hs⟩ := strips_one k l hk (by omega) [] 0 (Nat.le_refl _) fun _ _ => rfl
        obtain ⟨h', hw⟩ := write_row (h := [intR.row 3 q, slabR.row 54 (stripsL l)]) (b := 1) (lo := 0) (stripsL l) rfl (Nat.zero_le _) (by have := strips_len l; omega) (fun s hs => by have := strips_col l s hs; omega)
        have e : outT (runsF (stripsL l)) = ofL l := rfl
        rw [e] at hw
        have hlim := limited_spec false (ofL l)
        by_cases h2 : (ofL l).length ≤ 200 <;> simp -implicitDefEqProofs [k6_2, resL, h4, h4', Rec.o_len hk, lit_list1, hs, hw, ret1s m16, hlim, h2]
  · simp -implicitDefEqProofs [k6_2]
  · rfl
  · intro nx i c hi _
    simp -implicitDefEqProofs [r6_2, k6_2, hi, trim_le]
  · intro nx i r rest c hi hv hd hw _ ih
    have ih := ih () trivial
    have ixi := Rec.o_index (R := rectR) (t := 32) (kk := .i64) (s := 4) rfl hk hi
    rw [hv] at ixi
    have hr := right_s r
    cases h : okR r
    · simp -implicitDefEqProofs [r6_2, k6_2, hi, ixi, rect_val, ret0 m15, hr, h, trim_cut, Rec.o_bel]
    · simp -implicitDefEqProofs [k6_2] at ih
      simp -implicitDefEqProofs [r6_2, k6_2, hi, ixi, rect_val, ret0 m15, hr, h, hw, trim_cut, Rec.o_bel]
      exact ih
end Go.Proofs.Yteaoeebakmdcnaa.Bm
namespace Go.Proofs.Yteaoeebakmdcnaa.Bm
open Go Go.RowKit
open Rg (Rect Slab runs runsF outT emit ofL stripsL edgesX colC opL opC mergeC keepS addS sortU ends stripL)

/-! ### What is a region -/
def regB (l : List Rect) : Bool := match ofR l with
  | .ok m => decide (m = l)
  | .error _ => false
theorem right2_spec (k : Option Bool) (l : List Rect) (hk : Rec.Ok k l) (hl : l.length ≤ 1000000) : pureCall E.P (L E) 8 [rectR.o k l] = some (.bool (regB l)) := by
  have ho := of_spec k l hk hl
  have hf : freezeV E.P depth 0 [] (rectR.o k l) = some (rectR.o k l, []) := frz_set8 Rec.o_set Rec.o_one
  have hr : retCall E (L E) 0 false 6 [rectR.o k l] [] = some (resL (ofR l), []) := by
    rw [ret4 m6, frzAll_row hf]
    show ((pureCall E.P (L E) 6 [rectR.o k l]).map _) = _
    rw [ho]; rfl
  rw [pureCall_fn F8 rfl]
  unfold regB
  have hle : ∀ m, ofR l = .ok m → m.length ≤ 200 := fun m h => by
    unfold ofR at h
    split at h
    · split at h
      · cases h
      · split at h
        · cases h; assumption
        · cases h
    · cases h
  have hne : ∀ e, ofR l = .error e → e = 1 ∨ e = 6 := fun m h => by
    unfold ofR at h
    split at h
    · split at h
      · cases h; exact .inr rfl
      · split at h
        · cases h
        · cases h; exact .inr rfl
    · cases h; exact .inl rfl
  cases h : ofR l with
  | error e =>
    rw [h] at hr
    have e0 : ¬ (e = 0) := by have := hne e h; omega
    simp -implicitDefEqProofs [r8, p8, hr, resL, e0]
  | ok m =>
    rw [h] at hr
    have he := equal_rects (some false) k m l Rec.ok_some hk (by have := hle m h; omega)
    rw [show rectR.o (some false) m = lst false (rectR.vals m) from rfl] at he
    simp -implicitDefEqProofs [r8, p8, hr, resL, ret0 m23, Rec.o_reify, he]
theorem ofL_ok' {l : List Rect} (h : l.all okR = true) : ∀ r ∈ l, r.y0 < r.y1 := fun r hr => by
  have := okR_iff.1 (List.all_eq_true.1 h r hr)
  unfold Rect.inBox at this
  omega
theorem regB_iff {l : List Rect} : regB l = true ↔ l.all okR = true ∧ l.length ≤ 200 ∧ Rg.Form l := by
  unfold regB ofR
  by_cases ha : l.all okR = true
  · have hy := ofL_ok' ha
    rw [if_pos ha]
    by_cases h4 : 400 < l.length
    · rw [if_pos h4]; simp; omega
    · rw [if_neg h4]
      by_cases h2 : (ofL l).length ≤ 200
      · rw [if_pos h2]
        simp only [decide_eq_true_eq]
        constructor
        · intro e
          exact ⟨ha, e ▸ h2, e ▸ (Rg.ofL_ok hy).1⟩
        · intro ⟨_, _, hf⟩
          exact (Rg.ofL_ok hy).1.ext hf (Rg.ofL_ok hy).2
      · rw [if_neg h2]
        simp only [Bool.false_eq_true, false_iff]
        rintro ⟨_, hl, hf⟩
        rw [(Rg.ofL_ok hy).1.ext hf (Rg.ofL_ok hy).2] at h2
        omega
  · rw [if_neg ha]; simp [ha]

/-! ### Two regions -/
theorem freeze_slab {h : Heap} {b lo : Nat} (T : List Slab) (hob : h[b]? = some (slabR.row 54 T)) (hlo : lo ≤ b) :
    ∃ g, freezeV E.P depth lo h (slabR.sl b T) = some (lst false (slabR.vals T), g) ∧ g.length = h.length ∧ (∀ j, j ≠ b → g[j]? = h[j]?) ∧ ∀ n, h.all (belowO n) = true → g.all (belowO n) = true := by
  refine ⟨_, Rec.freeze_row (R := slabR) hob s61 a61 hlo, ?_, fun j hj => ?_, fun n hn => ?_⟩
  · split
    · rfl
    · exact List.length_set ..
  · split
    · rfl
    · exact List.getElem?_set_ne (Ne.symm hj)
  · split
    · exact hn
    · rw [List.all_eq_true] at hn ⊢
      intro o ho
      rcases List.mem_or_eq_of_mem_set ho with h1 | h1
      · exact hn o h1
      · subst h1; rfl
end Go.Proofs.Yteaoeebakmdcnaa.Bm

namespace Go.Proofs.Yteaoeebakmdcnaa.Bm
open Go Go.RowKit
open Rg (Rect areaL cell)

/-! ### Areas -/
theorem area_s (r : Rect) (h : okR r = true) : pureCall E.P (L E) 24 [.agg ⟨[.int .i64 r.x0, .int .i64 r.y0, .int .i64 r.x1, .int .i64 r.y1]⟩] = some (.int .i64 r.area) := area_spec r h
theorem area2_spec (k : Option Bool) (l : List Rect) (hk : Rec.Ok k l) (hl : l.length ≤ 1000000) : pureCall E.P (L E) 11 [rectR.o k l] = some (.int .i64 (if regB l then areaL l else 0)) := by
  have hr := right2_spec k l hk hl
  rw [pureCall_fn F11 rfl]
  cases h : regB l
  · simp -implicitDefEqProofs [r11, p11, ret0 m8, Rec.o_reify, hr, h]
  · obtain ⟨h1, h2, _⟩ := regB_iff.1 h
    have hok : ∀ r ∈ l, okR r = true := List.all_eq_true.1 h1
    simp -implicitDefEqProofs [r11, p11, ret0 m8, Rec.o_reify, hr, h, Rec.o_len hk]
    rw [LL_for (γ := Int) l 0 (fun i n => [(3, .int .i64 n), (11, .int .i64 i)]) (fun _ _ => []) (fun _ rest n => (.exit 0, [(3, .int .i64 (n + areaL rest)), (11, undef)], [])) (fun i n => 0 ≤ n ∧ n ≤ i * 1099511627776) (by omega) ⟨Int.le_refl _, by omega⟩]
    · simp -implicitDefEqProofs [k11_5]
    · simp -implicitDefEqProofs [k11_5]
    · rfl
    · intro nx i c hi _
      simp -implicitDefEqProofs [r11_5, k11_5, hi, Rec.o_len hk, trim_le, areaL]
    · intro nx i r rest n hi hv hd hw hn ih
      have hrr := hok r (by rw [← hv]; exact List.getElem_mem hi)
      have hb := area_bound hrr
      have ixi := Rec.o_index (R := rectR) (t := 32) (kk := .i64) (s := 4) rfl hk hi
      rw [hv] at ixi
      have ar := area_s r hrr
      have w1 : IntKind.i64.wrap (n + r.area) = n + r.area := wrap64 (by omega) (by omega)
      have ih := ih (n + r.area) ⟨by omega, by push_cast; omega⟩
      have e : n + areaL (r :: rest) = n + r.area + areaL rest := by show n + (r.area + areaL rest) = _; omega
      rw [e]
      simp -implicitDefEqProofs [k11_5] at ih
      simp -implicitDefEqProofs [r11_5, k11_5, hi, ixi, Rec.o_len hk, rect_val, ret0 m24, ar, w1, hw, trim_cut, Rec.o_bel]
      exact ih

/-! ### Cells -/
end Go.Proofs.Yteaoeebakmdcnaa.Bm

namespace Go.Proofs.Yteaoeebakmdcnaa.Rg

/-! ### The box around a form -/
theorem canS_all : ∀ {c : List (Int × Int)} {b : Int}, canS b c → ∀ s ∈ c, s.1 < s.2
  | [], _, _, s, hs => by cases hs
  | (f, t) :: c, b, h, s, hs => by
    rcases List.mem_cons.1 hs with rfl | hs
    · exact h.2.1
    · exact canS_all h.2.2 s hs
theorem Can.all {c : List (Int × Int)} (h : Can c) : ∀ s ∈ c, s.1 < s.2 := by
  obtain ⟨b, hb, _⟩ := low_ex c []
  exact canS_all (canS_ex h b hb)
theorem Form.pos {l : List Rect} (h : Form l) : ∀ r ∈ l, r.x0 < r.x1 ∧ r.y0 < r.y1 := by
  obtain ⟨b, T, hT, rfl⟩ := h
  intro r hr
  obtain ⟨s, hs, hr⟩ := List.mem_flatMap.1 hr
  obtain ⟨c, hc, rfl⟩ := List.mem_map.1 hr
  have h1 := (canT_facts hT).2 s hs
  exact ⟨h1.2.1, h1.2.2.all c hc⟩
theorem cell_true {l : List Rect} {x y : Int} : cell l x y = true ↔ ∃ r ∈ l, r.x0 ≤ x ∧ x < r.x1 ∧ r.y0 ≤ y ∧ y < r.y1 := by
  unfold cell Rect.has
  rw [List.any_eq_true]
  simp only [Bool.and_eq_true, decide_eq_true_eq]
  exact ⟨fun ⟨r, hr, h⟩ => ⟨r, hr, h.1.1, h.1.2, h.2.1, h.2.2⟩, fun ⟨r, hr, h1, h2, h3, h4⟩ => ⟨r, hr, ⟨h1, h2⟩, h3, h4⟩⟩
theorem Form.box {l : List Rect} (h : Form l) {n : Int} (hb : ∀ x y, cell l x y = true → 0 ≤ x ∧ x < n ∧ 0 ≤ y ∧ y < n) : ∀ r ∈ l, r.inBox n := by
  intro r hr
  have hp := h.pos r hr
  have h1 := hb r.x0 r.y0 (cell_true.2 ⟨r, hr, by omega, by omega, by omega, by omega⟩)
  have h2 := hb (r.x1 - 1) (r.y1 - 1) (cell_true.2 ⟨r, hr, by omega, by omega, by omega, by omega⟩)
  unfold Rect.inBox
  omega
theorem cell_box {l : List Rect} {n : Int} (h : ∀ r ∈ l, r.inBox n) {x y : Int} (hc : cell l x y = true) : 0 ≤ x ∧ x < n ∧ 0 ≤ y ∧ y < n := by
  obtain ⟨r, hr, h1, h2, h3, h4⟩ := cell_true.1 hc
  have := h r hr
  unfold Rect.inBox at this
  omega

/-! ### Sums over a grid with a border -/
/-! ### Lengths -/
end Go.Proofs.Yteaoeebakmdcnaa.Rg

namespace Go.Proofs.Yteaoeebakmdcnaa.Rg

def gapX (r s : Rect) : Int := max r.x0 s.x0 - min r.x1 s.x1
def gapY (r s : Rect) : Int := max r.y0 s.y0 - min r.y1 s.y1
/-- Rectangles with a piece of a side in common. -/
def touchB (r s : Rect) : Bool := (decide (gapX r s = 0) && decide (gapY r s < 0)) || (decide (gapY r s = 0) && decide (gapX r s < 0))
/-- A part grows by what touches its members, from the one with index 'i' on. -/
def absorb : Nat → Nat → List Rect → List Rect → List Rect × List Rect
  | 0, _, part, left => (part, left)
  | n + 1, i, part, left => match part[i]? with
    | none => (part, left)
    | some r => absorb n (i + 1) (part ++ left.filter (touchB r)) (left.filter fun s => !touchB r s)
theorem filter_both {α : Type} (p : α → Bool) : ∀ l : List α, (l.filter p).length + (l.filter fun a => !p a).length = l.length
  | [] => rfl
  | a :: l => by
    have ih := filter_both p l
    cases h : p a
    · rw [List.filter_cons_of_neg (by simp [h]), List.filter_cons_of_pos (by simp [h]), List.length_cons, List.length_cons]; omega
    · rw [List.filter_cons_of_pos h, List.filter_cons_of_neg (by simp [h]), List.length_cons, List.length_cons]; omega
theorem absorb_len : ∀ (n i : Nat) (part left : List Rect), (absorb n i part left).1.length + (absorb n i part left).2.length = part.length + left.length
  | 0, _, _, _ => rfl
  | n + 1, i, part, left => by
    unfold absorb
    cases h : part[i]? with
    | none => rfl
    | some r =>
      simp only
      rw [absorb_len n, List.length_append]
      have := filter_both (touchB r) left
      omega
theorem absorb_part : ∀ (n i : Nat) (part left : List Rect), ∃ t, (absorb n i part left).1 = part ++ t
  | 0, _, part, _ => ⟨[], (List.append_nil part).symm⟩
  | n + 1, i, part, left => by
    unfold absorb
    cases h : part[i]? with
    | none => exact ⟨[], (List.append_nil part).symm⟩
    | some r =>
      obtain ⟨t, e⟩ := absorb_part n (i + 1) (part ++ left.filter (touchB r)) (left.filter fun s => !touchB r s)
      exact ⟨left.filter (touchB r) ++ t, by simp only; rw [e, List.append_assoc]⟩
/-- The parts of a list, each as it is gathered. -/
def partsF : Nat → List Rect → List (List Rect)
  | 0, _ => []
  | _ + 1, [] => []
  | n + 1, r :: l => (absorb (l.length + 2) 0 [r] l).1 :: partsF n (absorb (l.length + 2) 0 [r] l).2
def partsL (a : List Rect) : List (List Rect) := partsF a.length a
/-- More rounds change nothing. -/
theorem absorb_more : ∀ (n m i : Nat) (part left : List Rect), part.length + left.length ≤ i + n → n ≤ m → absorb m i part left = absorb n i part left
  | 0, m, i, part, left, h, _ => by
    cases m with
    | zero => rfl
    | succ m =>
      have : part[i]? = none := List.getElem?_eq_none (by omega)
      unfold absorb
      rw [this]
  | n + 1, m, i, part, left, h, hm => by
    obtain ⟨m, rfl⟩ : ∃ m', m = m' + 1 := ⟨m - 1, by omega⟩
    unfold absorb
    cases hp : part[i]? with
    | none => rfl
    | some r =>
      simp only
      have := filter_both (touchB r) left
      exact absorb_more n m (i + 1) _ _ (by rw [List.length_append]; omega) (by omega)
theorem partsF_more : ∀ (n m : Nat) (a : List Rect), a.length ≤ n → n ≤ m → partsF m a = partsF n a
  | 0, m, a, h, _ => by
    have : a = [] := List.eq_nil_of_length_eq_zero (by omega)
    subst this
    cases m <;> rfl
  | n + 1, m, [], _, _ => by cases m <;> rfl
  | n + 1, m, r :: l, h, hm => by
    obtain ⟨m, rfl⟩ : ∃ m', m = m' + 1 := ⟨m - 1, by omega⟩
    unfold partsF
    obtain ⟨t, e⟩ := absorb_part (l.length + 2) 0 [r] l
    have hl := absorb_len (l.length + 2) 0 [r] l
    rw [e, List.length_append, List.length_singleton] at hl
    rw [List.length_cons] at h
    rw [partsF_more n m _ (by omega) (by omega)]

/-! ### Moved -/
section
variable {f : Rect → Rect} (hf : ∀ r s, touchB (f r) (f s) = touchB r s)
include hf
end
end Go.Proofs.Yteaoeebakmdcnaa.Rg

namespace Go.Proofs.Yteaoeebakmdcnaa.Bm
open Go Go.RowKit
theorem LL_ex {k : List Nat × List Nat} {b : Body} {σ₀ : Slots} {h₀ : Heap} {α : Type} (a₀ : α) (up : α → List (Nat × Value)) (H : α → Heap) (Q : Exit × Slots × Heap → Prop) (I : α → Prop) (ms : α → Nat)
    (hI : I a₀) (e0 : sets (up a₀) (forget k.1 σ₀) = forget k.1 σ₀) (e1 : H a₀ = h₀)
    (step : ∀ (nx : Body) a, I a → (∀ a', ms a' < ms a → I a' → ∃ r, nx (sets (up a') (forget k.1 σ₀)) (H a') = some r ∧ Q r) →
      ∃ r, lopK k.1 k.2 nx (H a).length (b (forget k.1 (sets (up a) (forget k.1 σ₀))) (H a)) = some r ∧ Q r) :
    ∃ r, LL k b σ₀ h₀ = some r ∧ Q r := by
  have key : ∀ n a, ms a = n → I a → ∃ r, LL k b (sets (up a) (forget k.1 σ₀)) (H a) = some r ∧ Q r := by
    intro n
    induction n using Nat.strongRecOn with
    | _ n ih =>
      intro a ha hi
      rw [LL_go]
      exact step (LL k b) a hi fun a' hlt hi' => ih (ms a') (by omega) a' rfl hi'
  have h := key _ a₀ rfl hI
  rw [e0, e1] at h
  have e : LL k b (forget k.1 σ₀) h₀ = LL k b σ₀ h₀ := by
    rw [LL_go, LL_go, forget_twice]
  rw [e] at h
  exact h
end Go.Proofs.Yteaoeebakmdcnaa.Bm
