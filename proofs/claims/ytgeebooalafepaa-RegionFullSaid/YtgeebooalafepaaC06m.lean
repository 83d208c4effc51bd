/-
  Chapter 06: the operations on regions, areas, cells. Conditions: lists that are not too long.
-/
import Derived.Test.YtgeebooalafepaaC06k
namespace Go.Proofs.Ytgeebooalafepaa.Bm
open Go Go.RowKit
open Rg (Rect areaL cell)

def orF (a b : Bool) : Bool := a || b
def andF (a b : Bool) : Bool := a && b
def subF (a b : Bool) : Bool := a && !b
theorem union2_spec (k m : Option Bool) (a b : List Rect) (hk : Rec.Ok k a) (hm : Rec.Ok m b) (ha : a.length ≤ 1000000) (hb : b.length ≤ 1000000) :
    pureCall E.P (L E) 15 [rectR.o k a, rectR.o m b] = some (resL (opR orF a b)) := by
  have key := combine_spec k m a b 35 orF hk hm rfl union_spec ha hb
  have so : ∀ k l, settled depth (rectR.o k l) = true := fun k l => Rec.o_set
  have so4 : settled depth (.func (.func 35) ⟨[]⟩ ⟨[]⟩) = true := rfl
  rw [pureCall_fn F15 rfl]
  cases h : opR orF a b <;> rw [h] at key <;> simp -implicitDefEqProofs [r15, padS, ret1 m34, so, so4, key, resL]
theorem common2_spec (k m : Option Bool) (a b : List Rect) (hk : Rec.Ok k a) (hm : Rec.Ok m b) (ha : a.length ≤ 1000000) (hb : b.length ≤ 1000000) :
    pureCall E.P (L E) 16 [rectR.o k a, rectR.o m b] = some (resL (opR andF a b)) := by
  have key := combine_spec k m a b 36 andF hk hm rfl common_spec ha hb
  have so : ∀ k l, settled depth (rectR.o k l) = true := fun k l => Rec.o_set
  have so4 : settled depth (.func (.func 36) ⟨[]⟩ ⟨[]⟩) = true := rfl
  rw [pureCall_fn F16 rfl]
  cases h : opR andF a b <;> rw [h] at key <;> simp -implicitDefEqProofs [r16, padS, ret1 m34, so, so4, key, resL]
theorem minus2_spec (k m : Option Bool) (a b : List Rect) (hk : Rec.Ok k a) (hm : Rec.Ok m b) (ha : a.length ≤ 1000000) (hb : b.length ≤ 1000000) :
    pureCall E.P (L E) 17 [rectR.o k a, rectR.o m b] = some (resL (opR subF a b)) := by
  have key := combine_spec k m a b 37 subF hk hm rfl minus_spec ha hb
  have so : ∀ k l, settled depth (rectR.o k l) = true := fun k l => Rec.o_set
  have so4 : settled depth (.func (.func 37) ⟨[]⟩ ⟨[]⟩) = true := rfl
  rw [pureCall_fn F17 rfl]
  cases h : opR subF a b <;> rw [h] at key <;> simp -implicitDefEqProofs [r17, padS, ret1 m34, so, so4, key, resL]

/-! ### Areas -/
theorem area_s (r : Rect) (h : okR r = true) : pureCall E.P (L E) 33 [.agg ⟨[.int .i64 r.x0, .int .i64 r.y0, .int .i64 r.x1, .int .i64 r.y1]⟩] = some (.int .i64 r.area) := area_spec r h
theorem area2_spec (k : Option Bool) (l : List Rect) (hk : Rec.Ok k l) (hl : l.length ≤ 1000000) : pureCall E.P (L E) 14 [rectR.o k l] = some (.int .i64 (if regB l then areaL l else 0)) := by
  have hr := right2_spec k l hk hl
  rw [pureCall_fn F14 rfl]
  cases h : regB l
  · simp -implicitDefEqProofs [r14, p14, ret0 m11, Rec.o_reify, hr, h]
  · obtain ⟨h1, h2, _⟩ := regB_iff.1 h
    have hok : ∀ r ∈ l, okR r = true := List.all_eq_true.1 h1
    simp -implicitDefEqProofs [r14, p14, ret0 m11, Rec.o_reify, hr, h, Rec.o_len hk]
    rw [LL_for (γ := Int) l 0 (fun i n => [(3, .int .i64 n), (11, .int .i64 i)]) (fun _ _ => []) (fun _ rest n => (.exit 0, [(3, .int .i64 (n + areaL rest)), (11, undef)], [])) (fun i n => 0 ≤ n ∧ n ≤ i * 1099511627776) (by omega) ⟨Int.le_refl _, by omega⟩]
    · simp -implicitDefEqProofs [k14_5]
    · simp -implicitDefEqProofs [k14_5]
    · rfl
    · intro nx i c hi _
      simp -implicitDefEqProofs [r14_5, k14_5, hi, Rec.o_len hk, trim_le, areaL]
    · intro nx i r rest n hi hv hd hw hn ih
      have hrr := hok r (by rw [← hv]; exact List.getElem_mem hi)
      have hb := area_bound hrr
      have ixi := Rec.o_index (R := rectR) (t := 32) (kk := .i64) (s := 4) rfl hk hi
      rw [hv] at ixi
      have ar := area_s r hrr
      have w1 : IntKind.i64.wrap (n + r.area) = n + r.area := wrap64 (by omega) (by omega)
      have ih := ih (n + r.area) ⟨by omega, by push_cast; omega⟩
      have e : n + areaL (r :: rest) = n + r.area + areaL rest := by show n + (r.area + areaL rest) = _; omega
      rw [e]
      simp -implicitDefEqProofs [k14_5] at ih
      simp -implicitDefEqProofs [r14_5, k14_5, hi, ixi, Rec.o_len hk, rect_val, ret0 m33, ar, w1, hw, trim_cut, Rec.o_bel]
      exact ih

/-! ### Cells -/
def firstP (p : Rect → Bool) (l : List Rect) : Nat → Int
  | i => match l with
    | [] => -1
    | r :: l => if p r then i else firstP p l (i + 1)
theorem firstP_nonneg (p : Rect → Bool) : ∀ (l : List Rect) (i : Nat), decide (0 ≤ firstP p l i) = l.any p
  | [], i => rfl
  | r :: l, i => by
    show decide (0 ≤ if p r then (i : Int) else firstP p l (i + 1)) = (p r || l.any p)
    cases h : p r
    · simpa using firstP_nonneg p l (i + 1)
    · simp
theorem firstP_none (p : Rect → Bool) : ∀ (l : List Rect) (i : Nat), l.any p = false → firstP p l i = -1
  | [], i, _ => rfl
  | r :: l, i, h => by
    rw [List.any_cons, Bool.or_eq_false_iff] at h
    show (if p r then (i : Int) else firstP p l (i + 1)) = -1
    rw [h.1]
    exact firstP_none p l (i + 1) h.2
def inN (r : Rect) : Bool := decide (0 ≤ r.x0) && decide (r.x0 < r.x1) && decide (r.x1 ≤ 24) && decide (0 ≤ r.y0) && decide (r.y0 < r.y1) && decide (r.y1 ≤ 24)
theorem near_spec (k : Option Bool) (l : List Rect) (n : Nat) (hk : Rec.Ok k l) (hn : n ≤ 100) : pureCall E.P (L E) 18 [rectR.o k l, .int .i64 n] = some (.bool (decide (l.length ≤ n) && l.all inN)) := by
  rw [pureCall_fn F18 rfl]
  simp -implicitDefEqProofs [r18, p18, Rec.o_len hk]
  have hm : ∀ i, i < (l.take (n + 1)).length ↔ i < l.length ∧ i ≤ n := fun i => by rw [List.length_take]; omega
  have hg : ∀ i (h : i < (l.take (n + 1)).length), (l.take (n + 1))[i] = l[i]'((hm i).1 h).1 := fun i h => List.getElem_take
  rw [LL_rec (α := Nat) 0 (fun i => [(5, .int .i64 (i : Int))]) (fun _ => []) (fun i => if ((l.take (n + 1)).drop i).all inN then (.exit 0, [(5, undef)], []) else (.ret, [(4, .bool false), (5, undef)], [])) (fun _ => True) (fun i => (l.take (n + 1)).length - i)]
  · by_cases h : l.length ≤ n
    · have e : l.take (n + 1) = l := List.take_of_length_le (by omega)
      rw [e]
      cases h2 : l.all inN <;> simp -implicitDefEqProofs [k18_2, h, h2, Rec.o_len hk]
    · have h' : ¬ ((l.length : Int) ≤ (n : Int)) := by omega
      cases h2 : ((l.take (n + 1)).drop 0).all inN <;> simp -implicitDefEqProofs [k18_2, h, h', Rec.o_len hk]
  · trivial
  · simp -implicitDefEqProofs [k18_2]
  · rfl
  · intro nx i _ ih
    by_cases hi : i < (l.take (n + 1)).length
    · obtain ⟨hi1, hi2⟩ := (hm i).1 hi
      have ixi := Rec.o_index (R := rectR) (t := 32) (kk := .i64) (s := 4) rfl hk hi1
      rw [List.drop_eq_getElem_cons hi, List.all_cons, hg i hi]
      generalize l[i] = r at ixi ⊢
      have w1 : IntKind.i64.wrap ((i : Int) + 1) = (i : Int) + 1 := wrap64 (by omega) (by omega)
      have ih := ih (i + 1) (by omega) trivial
      generalize ((l.take (n + 1)).drop (i + 1)).all inN = rest at ih ⊢
      unfold inN
      simp -implicitDefEqProofs [k18_2] at ih
      by_cases h1 : 0 ≤ r.x0
      case neg => simp -implicitDefEqProofs [r18_2, k18_2, hi1, hi2, ixi, Rec.o_len hk, rect_val, h1, Int.not_le.1 h1, trim_cut, Rec.o_bel]
      by_cases h2 : r.x0 < r.x1
      case neg => simp -implicitDefEqProofs [r18_2, k18_2, hi1, hi2, ixi, Rec.o_len hk, rect_val, h1, Int.not_lt.2 h1, h2, Int.not_lt.1 h2, trim_cut, Rec.o_bel]
      by_cases h3 : r.x1 ≤ 24
      case neg => simp -implicitDefEqProofs [r18_2, k18_2, hi1, hi2, ixi, Rec.o_len hk, rect_val, h1, Int.not_lt.2 h1, h2, Int.not_le.2 h2, h3, Int.not_le.1 h3, trim_cut, Rec.o_bel]
      by_cases h4 : 0 ≤ r.y0
      case neg => simp -implicitDefEqProofs [r18_2, k18_2, hi1, hi2, ixi, Rec.o_len hk, rect_val, h1, Int.not_lt.2 h1, h2, Int.not_le.2 h2, h3, Int.not_lt.2 h3, h4, Int.not_le.1 h4, trim_cut, Rec.o_bel]
      by_cases h5 : r.y0 < r.y1
      case neg => simp -implicitDefEqProofs [r18_2, k18_2, hi1, hi2, ixi, Rec.o_len hk, rect_val, h1, Int.not_lt.2 h1, h2, Int.not_le.2 h2, h3, Int.not_lt.2 h3, h4, Int.not_lt.2 h4, h5, Int.not_lt.1 h5, trim_cut, Rec.o_bel]
      by_cases h6 : r.y1 ≤ 24
      case neg => simp -implicitDefEqProofs [r18_2, k18_2, hi1, hi2, ixi, Rec.o_len hk, rect_val, h1, Int.not_lt.2 h1, h2, Int.not_le.2 h2, h3, Int.not_lt.2 h3, h4, Int.not_lt.2 h4, h5, Int.not_le.2 h5, h6, Int.not_le.1 h6, trim_cut, Rec.o_bel]
      simp -implicitDefEqProofs [r18_2, k18_2, hi1, hi2, ixi, Rec.o_len hk, rect_val, h1, Int.not_lt.2 h1, h2, Int.not_le.2 h2, h3, Int.not_lt.2 h3, h4, Int.not_lt.2 h4, h5, Int.not_le.2 h5, h6, Int.not_lt.2 h6, w1, trim_cut, Rec.o_bel]
      exact ih
    · have e : (l.take (n + 1)).drop i = [] := List.drop_of_length_le (by omega)
      rw [e]
      by_cases h1 : i < l.length
      · have h2 : ¬ (i ≤ n) := fun h2 => hi ((hm i).2 ⟨h1, h2⟩)
        simp -implicitDefEqProofs [r18_2, k18_2, h1, h2, Rec.o_len hk, trim_le]
      · simp -implicitDefEqProofs [r18_2, k18_2, h1, Rec.o_len hk, trim_le]
theorem covered_spec (k : Option Bool) (l : List Rect) (x y : Int) (hk : Rec.Ok k l) (hl : l.length ≤ 1000000000) : pureCall E.P (L E) 19 [rectR.o k l, .int .i64 x, .int .i64 y] = some (.bool (cell l x y)) := by
  rw [pureCall_fn F19 rfl]
  simp -implicitDefEqProofs [r19, p19, Rec.o_len hk]
  rw [LL_for (γ := Unit) l () (fun i _ => [(7, .int .i64 i)]) (fun _ _ => []) (fun _ rest _ => if cell rest x y then (.ret, [(6, .bool true), (7, undef)], []) else (.exit 0, [(7, undef)], [])) (fun _ _ => True) (by omega) trivial]
  · cases h : cell l x y <;> simp -implicitDefEqProofs [k19_2]
  · simp -implicitDefEqProofs [k19_2]
  · rfl
  · intro nx i c hi _
    simp -implicitDefEqProofs [r19_2, k19_2, hi, Rec.o_len hk, trim_le, cell]
  · intro nx i r rest c hi hv hd hw _ ih
    have ih := ih () trivial
    have ixi := Rec.o_index (R := rectR) (t := 32) (kk := .i64) (s := 4) rfl hk hi
    rw [hv] at ixi
    have e : cell (r :: rest) x y = (r.has x y || cell rest x y) := rfl
    have eh : r.has x y = (decide (r.x0 ≤ x) && decide (x < r.x1) && (decide (r.y0 ≤ y) && decide (y < r.y1))) := rfl
    rw [e, eh]
    simp -implicitDefEqProofs [k19_2] at ih
    by_cases h1 : r.x0 ≤ x
    case neg =>
      simp -implicitDefEqProofs [r19_2, k19_2, hi, ixi, Rec.o_len hk, rect_val, h1, hw, trim_le]
      exact ih
    by_cases h2 : x < r.x1
    case neg =>
      simp -implicitDefEqProofs [r19_2, k19_2, hi, ixi, Rec.o_len hk, rect_val, h1, h2, hw, trim_le]
      exact ih
    by_cases h3 : r.y0 ≤ y
    case neg =>
      simp -implicitDefEqProofs [r19_2, k19_2, hi, ixi, Rec.o_len hk, rect_val, h1, h2, h3, hw, trim_le]
      exact ih
    by_cases h4 : y < r.y1
    case neg =>
      simp -implicitDefEqProofs [r19_2, k19_2, hi, ixi, Rec.o_len hk, rect_val, h1, h2, h3, h4, hw, trim_le]
      exact ih
    simp -implicitDefEqProofs [r19_2, k19_2, hi, ixi, Rec.o_len hk, rect_val, h1, h2, h3, h4, trim_le]
/-- Whether a rectangle that may be wrong has a cell. -/
def hasO (r : Rect) (x y : Int) : Bool := okR r && r.has x y
theorem hasO_spec (r : Rect) (x y : Int) : pureCall E.P (L E) 40 [rectR.val r, .int .i64 x, .int .i64 y] = some (.bool (hasO r x y)) := by
  unfold hasO
  cases h : okR r
  · rw [pureCall_fn F40 rfl]
    simp -implicitDefEqProofs [r40, padS, rect_val, ret0 m49, checked_s, h, zeroR]
    by_cases h1 : 0 ≤ x
    · have h2 : ¬ (x < 0) := by omega
      simp -implicitDefEqProofs [h1, h2]
    · simp -implicitDefEqProofs [h1]
  · rw [has_spec r x y h]; rfl
theorem hasO1_spec (r : Rect) (x y : Int) : pureCall E.P (L E) 39 [rectR.val r, cptr (.int .i64 x), cptr (.int .i64 y)] = some (.bool (hasO r x y)) := by
  have key := hasO_spec r x y
  rw [rect_val] at key
  rw [pureCall_fn F39 rfl]
  simp -implicitDefEqProofs [r39, padS, rect_val, ret0 m40, key]
theorem index_spec (k : Option Bool) (l : List Rect) (x y : Int) (hk : Rec.Ok k l) (hl : l.length ≤ 1000000) : L E 47 [rectR.o k l, .func (.func 39) ⟨[]⟩ ⟨[cptr (.int .i64 x), cptr (.int .i64 y)]⟩] [] 0 = some (.int .i64 (firstP (fun r => hasO r x y) l 0), []) := by
  rw [L_fn F47 rfl]
  simp -implicitDefEqProofs [r47, padS, Rec.o_len hk]
  rw [LL_for (γ := Unit) l () (fun i _ => [(8, .int .i64 i)]) (fun _ _ => []) (fun i rest _ => if rest.any (fun r => hasO r x y) then (.ret, [(4, .int .i64 (firstP (fun r => hasO r x y) rest i)), (8, undef)], []) else (.exit 0, [(8, undef)], [])) (fun _ _ => True) (by omega) trivial]
  · have hf := firstP_nonneg (fun r => hasO r x y) l 0
    cases h : l.any (fun r => hasO r x y)
    · have hm := firstP_none (fun r => hasO r x y) l 0 h
      simp -implicitDefEqProofs [k47_2, hm]
    · simp -implicitDefEqProofs [k47_2, h]
  · simp -implicitDefEqProofs [k47_2]
  · rfl
  · intro nx i c hi _
    simp -implicitDefEqProofs [r47_2, k47_2, hi, Rec.o_len hk, trim_le]
  · intro nx i r rest c hi hv hd hw _ ih
    have ih := ih () trivial
    have ixi := Rec.o_index (R := rectR) (t := 32) (kk := .i64) (s := 4) rfl hk hi
    rw [hv] at ixi
    have h1 := hasO1_spec r x y
    rw [rect_val] at h1
    have e : (r :: rest).any (fun r => hasO r x y) = (hasO r x y || rest.any (fun r => hasO r x y)) := rfl
    have e2 : firstP (fun r => hasO r x y) (r :: rest) i = if hasO r x y then (i : Int) else firstP (fun r => hasO r x y) rest (i + 1) := rfl
    rw [e, e2]
    simp -implicitDefEqProofs [k47_2] at ih
    cases h : hasO r x y
    · simp -implicitDefEqProofs [r47_2, k47_2, hi, ixi, Rec.o_len hk, rect_val, ret0 m39, h1, h, hw, trim_le]
      exact ih
    · simp -implicitDefEqProofs [r47_2, k47_2, hi, ixi, Rec.o_len hk, rect_val, ret0 m39, h1, h, trim_le]
theorem contains_spec (k : Option Bool) (l : List Rect) (x y : Int) (hk : Rec.Ok k l) (hl : l.length ≤ 1000000) : pureCall E.P (L E) 38 [rectR.o k l, .func (.func 39) ⟨[]⟩ ⟨[cptr (.int .i64 x), cptr (.int .i64 y)]⟩] = some (.bool (l.any fun r => hasO r x y)) := by
  have key := index_spec k l x y hk hl
  have hn := firstP_nonneg (fun r => hasO r x y) l 0
  rw [pureCall_fn F38 rfl]
  simp -implicitDefEqProofs [r38, padS, ret2 m47, key, hn]
theorem has2_spec (k : Option Bool) (l : List Rect) (x y : Int) (hk : Rec.Ok k l) (hl : l.length ≤ 1000000) : pureCall E.P (L E) 20 [rectR.o k l, .int .i64 x, .int .i64 y] = some (.bool (regB l && cell l x y)) := by
  have h1 := contains_spec k l x y hk hl
  have h2 := right2_spec k l hk hl
  have a3 : aggT E.P 3 = some false := by kernel_rfl
  have wp : ∀ v, wrapP (some false) [v] = some (cptr v) := fun _ => rfl
  have e : ∀ q, regB l = q → (q && cell l x y) = (q && l.any fun r => hasO r x y) := fun q hq => by
    cases q
    · rfl
    · have hok := List.all_eq_true.1 (regB_iff.1 hq).1
      exact Rg.any_ext fun r hr => by unfold hasO; rw [hok r hr]; rfl
  rw [e _ rfl, pureCall_fn F20 rfl]
  cases h3 : regB l <;> cases h4 : l.any (fun r => hasO r x y) <;> simp -implicitDefEqProofs [r20, padS, ret0 m38, ret0 m11, Rec.o_reify, h1, h2, h3, h4, s3, a3, wp]
end Go.Proofs.Ytgeebooalafepaa.Bm
