/-
  Chapter 06: lists compared. Conditions: lists that are not too long.
-/
import Derived.Test.YtgeebooalafepaaC06c
import Derived.Test.YtgeebooalafepaaBmCat
namespace Go.Proofs.Ytgeebooalafepaa.Bm
open Go Go.RowKit
open Rg (Rect Slab)

theorem neq2 (a b c d : Int) : aBin E.P .neq 59 (.agg ⟨[.int .i64 a, .int .i64 b]⟩) (.agg ⟨[.int .i64 c, .int .i64 d]⟩) = (allOf [some (a == c), some (b == d)]).map fun b => .bool (!b) := by kernel_rfl
theorem neq4 (a b c d a' b' c' d' : Int) : aBin E.P .neq 32 (.agg ⟨[.int .i64 a, .int .i64 b, .int .i64 c, .int .i64 d]⟩) (.agg ⟨[.int .i64 a', .int .i64 b', .int .i64 c', .int .i64 d']⟩) = (allOf [some (a == a'), some (b == b'), some (c == c'), some (d == d')]).map fun b => .bool (!b) := by kernel_rfl
theorem eql4 (a b c d a' b' c' d' : Int) : aBin E.P .eql 32 (.agg ⟨[.int .i64 a, .int .i64 b, .int .i64 c, .int .i64 d]⟩) (.agg ⟨[.int .i64 a', .int .i64 b', .int .i64 c', .int .i64 d']⟩) = (allOf [some (a == a'), some (b == b'), some (c == c'), some (d == d')]).map .bool := by kernel_rfl
theorem allOf_some (b : Bool) (r : List (Option Bool)) (c : Bool) (h : allOf r = some c) : allOf (some b :: r) = some (b && c) := by cases b <;> simp [allOf, h]
theorem allOf_two (a b : Bool) : allOf [some a, some b] = some (a && (b && true)) := allOf_some _ _ _ (allOf_some _ _ _ rfl)
theorem allOf_four (a b c d : Bool) : allOf [some a, some b, some c, some d] = some (a && (b && (c && (d && true)))) := allOf_some _ _ _ (allOf_some _ _ _ (allOf_some _ _ _ (allOf_some _ _ _ rfl)))
theorem neq_span (s t : Int × Int) : aBin E.P .neq 59 (spanR.val s) (spanR.val t) = some (.bool (decide (s ≠ t))) := by
  obtain ⟨a, b⟩ := s
  obtain ⟨c, d⟩ := t
  rw [span_val, span_val, neq2]
  by_cases h1 : a = c <;> by_cases h2 : b = d <;> simp [allOf_two, h1, h2]
theorem neq_rect (s t : Rect) : aBin E.P .neq 32 (rectR.val s) (rectR.val t) = some (.bool (decide (s ≠ t))) := by
  obtain ⟨a, b, c, d⟩ := s
  obtain ⟨a', b', c', d'⟩ := t
  rw [rect_val, rect_val, neq4]
  by_cases h1 : a = a' <;> by_cases h2 : b = b' <;> by_cases h3 : c = c' <;> by_cases h4 : d = d' <;> simp [allOf_four, h1, h2, h3, h4]
theorem eql_rect (s t : Rect) : aBin E.P .eql 32 (rectR.val s) (rectR.val t) = some (.bool (decide (s = t))) := by
  obtain ⟨a, b, c, d⟩ := s
  obtain ⟨a', b', c', d'⟩ := t
  rw [rect_val, rect_val, eql4]
  by_cases h1 : a = a' <;> by_cases h2 : b = b' <;> by_cases h3 : c = c' <;> by_cases h4 : d = d' <;> simp [allOf_four, h1, h2, h3, h4]

def eqL {α : Type} [DecidableEq α] (a b : List α) : Bool := decide (a = b)
theorem eqL_cons {α : Type} [DecidableEq α] {a b : α} {x y : List α} : eqL (a :: x) (b :: y) = (decide (a = b) && eqL x y) := by
  unfold eqL; simp only [List.cons.injEq, Bool.decide_and]

theorem equal_spans (x y : Bool) (l r : List (Int × Int)) (hl : l.length ≤ 1000000) : pureCall E.P (L E) 42 [lst x (spanR.vals l), lst y (spanR.vals r)] = some (.bool (decide (l = r))) := by
  have ixl : ∀ (i : Nat) (hi : i < l.length), indexAddrT (.sl 59 ⟨some true, some 2⟩) (lst x (spanR.vals l)) (.int .i64 (i : Int)) = some (cptr (spanR.val l[i])) := fun i hi => Rec.index_tree rfl hi
  have ixr : ∀ (i : Nat) (hi : i < r.length), indexAddrT (.sl 59 ⟨some true, some 2⟩) (lst y (spanR.vals r)) (.int .i64 (i : Int)) = some (cptr (spanR.val r[i])) := fun i hi => Rec.index_tree rfl hi
  have fit : ∀ s, fitsTT ⟨some true, some 2⟩ (spanR.val s) = true := fun s => rfl
  have rv : ∀ s h, reify E.P 8 h (spanR.val s) = some (spanR.val s) := fun s h => rfl
  rw [pureCall_fn F42 rfl]
  simp -implicitDefEqProofs [r42, padS, Rec.vals_len]
  by_cases hlen : l.length = r.length
  · simp -implicitDefEqProofs [hlen, Rec.vals_len]
    rw [LL_for (γ := Unit) l () (fun i _ => [(13, .int .i64 i)]) (fun _ _ => []) (fun i rest _ => if eqL rest (r.drop i) then (.exit 0, [(13, undef)], []) else (.ret, [(4, .bool false), (13, undef)], [])) (fun _ _ => True) (by omega) trivial]
    · cases h : eqL l r
      · have : ¬ l = r := of_decide_eq_false h
        simp [this, k42_4, h]
      · have : l = r := of_decide_eq_true h
        simp [this, k42_4, eqL]
    · simp [k42_4]
    · rfl
    · intro nx i c hi _
      have hd0 : eqL [] (r.drop i) = true := by rw [List.drop_eq_nil_of_le (by omega)]; rfl
      rw [hd0]
      simp -implicitDefEqProofs [r42_4, k42_4, hi, hlen, trim_le]
    · intro nx i v rest c hi hv hd hw _ ih
      have ih := ih () trivial
      have hi' : i < r.length := by omega
      have hrd : r.drop i = r[i] :: r.drop (i + 1) := List.drop_eq_getElem_cons hi'
      rw [hrd, eqL_cons]
      simp -implicitDefEqProofs [k42_4] at ih
      by_cases he : v = r[i]
      · simp -implicitDefEqProofs [r42_4, k42_4, hi', ixl i hi, ixr i hi', fit, neq_span, hv, hw, he, trim_le]
        exact ih
      · simp -implicitDefEqProofs [r42_4, k42_4, hi', ixl i hi, ixr i hi', fit, neq_span, hv, he, trim_le]
  · have : ¬ l = r := fun e => hlen (by rw [e])
    have hlen' : ¬ ((l.length : Int) = r.length) := by omega
    simp -implicitDefEqProofs [hlen', this]

theorem equal_rects (x y : Option Bool) (l r : List Rect) (hx : Rec.Ok x l) (hy : Rec.Ok y r) (hl : l.length ≤ 1000000) : pureCall E.P (L E) 32 [rectR.o x l, rectR.o y r] = some (.bool (decide (l = r))) := by
  have ixl : ∀ (i : Nat) (hi : i < l.length), indexAddrT (.sl 32 ⟨some true, some 4⟩) (rectR.o x l) (.int .i64 (i : Int)) = some (cptr (rectR.val l[i])) := fun i hi => Rec.o_index (R := rectR) rfl hx hi
  have ixr : ∀ (i : Nat) (hi : i < r.length), indexAddrT (.sl 32 ⟨some true, some 4⟩) (rectR.o y r) (.int .i64 (i : Int)) = some (cptr (rectR.val r[i])) := fun i hi => Rec.o_index (R := rectR) rfl hy hi
  have fit : ∀ s, fitsTT ⟨some true, some 4⟩ (rectR.val s) = true := fun s => rfl
  have rv : ∀ s h, reify E.P 8 h (rectR.val s) = some (rectR.val s) := fun s h => rfl
  rw [pureCall_fn F32 rfl]
  simp -implicitDefEqProofs [r32, padS, Rec.o_len hx, Rec.o_len hy]
  by_cases hlen : l.length = r.length
  · simp -implicitDefEqProofs [hlen, Rec.o_len hx, Rec.o_len hy]
    rw [LL_for (γ := Unit) l () (fun i _ => [(13, .int .i64 i)]) (fun _ _ => []) (fun i rest _ => if eqL rest (r.drop i) then (.exit 0, [(13, undef)], []) else (.ret, [(4, .bool false), (13, undef)], [])) (fun _ _ => True) (by omega) trivial]
    · cases h : eqL l r
      · have : ¬ l = r := of_decide_eq_false h
        simp [this, k32_4, h]
      · have : l = r := of_decide_eq_true h
        simp [this, k32_4, eqL]
    · simp [k32_4]
    · rfl
    · intro nx i c hi _
      have hd0 : eqL [] (r.drop i) = true := by rw [List.drop_eq_nil_of_le (by omega)]; rfl
      rw [hd0]
      simp -implicitDefEqProofs [r32_4, k32_4, hi, hlen, trim_le]
    · intro nx i v rest c hi hv hd hw _ ih
      have ih := ih () trivial
      have hi' : i < r.length := by omega
      have hrd : r.drop i = r[i] :: r.drop (i + 1) := List.drop_eq_getElem_cons hi'
      rw [hrd, eqL_cons]
      simp -implicitDefEqProofs [k32_4] at ih
      by_cases he : v = r[i]
      · simp -implicitDefEqProofs [r32_4, k32_4, hi', ixl i hi, ixr i hi', fit, neq_rect, hv, hw, he, trim_le]
        exact ih
      · simp -implicitDefEqProofs [r32_4, k32_4, hi', ixl i hi, ixr i hi', fit, neq_rect, hv, he, trim_le]
  · have : ¬ l = r := fun e => hlen (by rw [e])
    have hlen' : ¬ ((l.length : Int) = r.length) := by omega
    simp -implicitDefEqProofs [hlen', this]

theorem same_rects (x y : Option Bool) (l r : List Rect) (hx : Rec.Ok x l) (hy : Rec.Ok y r) (hl : l.length ≤ 1000000) : pureCall E.P (L E) 12 [rectR.o x l, rectR.o y r] = some (.bool (decide (l = r))) := by
  have ixl : ∀ (i : Nat) (hi : i < l.length), indexAddrT (.sl 32 ⟨some true, some 4⟩) (rectR.o x l) (.int .i64 (i : Int)) = some (cptr (rectR.val l[i])) := fun i hi => Rec.o_index (R := rectR) rfl hx hi
  have ixr : ∀ (i : Nat) (hi : i < r.length), indexAddrT (.sl 32 ⟨some true, some 4⟩) (rectR.o y r) (.int .i64 (i : Int)) = some (cptr (rectR.val r[i])) := fun i hi => Rec.o_index (R := rectR) rfl hy hi
  have fit : ∀ s, fitsTT ⟨some true, some 4⟩ (rectR.val s) = true := fun s => rfl
  have rv : ∀ s h, reify E.P 8 h (rectR.val s) = some (rectR.val s) := fun s h => rfl
  rw [pureCall_fn F12 rfl]
  simp -implicitDefEqProofs [r12, padS, Rec.o_len hx, Rec.o_len hy]
  by_cases hlen : l.length = r.length
  · simp -implicitDefEqProofs [hlen, Rec.o_len hx, Rec.o_len hy]
    rw [LL_for (γ := Unit) l () (fun i _ => [(5, .int .i64 i)]) (fun _ _ => []) (fun i rest _ => if eqL rest (r.drop i) then (.exit 0, [(5, undef)], []) else (.ret, [(4, .bool false), (5, undef)], [])) (fun _ _ => True) (by omega) trivial]
    · cases h : eqL l r
      · have : ¬ l = r := of_decide_eq_false h
        simp [this, k12_4, h]
      · have : l = r := of_decide_eq_true h
        simp [this, k12_4, eqL]
    · simp [k12_4]
    · rfl
    · intro nx i c hi _
      have hd0 : eqL [] (r.drop i) = true := by rw [List.drop_eq_nil_of_le (by omega)]; rfl
      rw [hd0]
      simp -implicitDefEqProofs [r12_4, k12_4, Rec.o_len hx, Rec.o_len hy, hi, hlen, trim_le]
    · intro nx i v rest c hi hv hd hw _ ih
      have ih := ih () trivial
      have hi' : i < r.length := by omega
      have hrd : r.drop i = r[i] :: r.drop (i + 1) := List.drop_eq_getElem_cons hi'
      rw [hrd, eqL_cons]
      simp -implicitDefEqProofs [k12_4] at ih
      by_cases he : v = r[i]
      · simp -implicitDefEqProofs [r12_4, k12_4, Rec.o_len hx, Rec.o_len hy, hi', hlen, ixl i hi, ixr i hi', fit, neq_rect, hv, hw, he, trim_le]
        exact ih
      · simp -implicitDefEqProofs [r12_4, k12_4, Rec.o_len hx, Rec.o_len hy, hi', hlen, ixl i hi, ixr i hi', fit, neq_rect, hv, he, trim_le]
  · have : ¬ l = r := fun e => hlen (by rw [e])
    have hlen' : ¬ ((l.length : Int) = r.length) := by omega
    simp -implicitDefEqProofs [hlen', this]

theorem same_spec (x y : Option Bool) (l r : List Rect) (hx : Rec.Ok x l) (hy : Rec.Ok y r) (hl : l.length ≤ 1000000) : pureCall E.P (L E) 21 [rectR.o x l, rectR.o y r] = some (.bool (decide (l = r))) := by
  have key := equal_rects x y l r hx hy hl
  rw [pureCall_fn F21 rfl]
  simp -implicitDefEqProofs [r21, padS, ret0 m32, Rec.o_reify, key]
end Go.Proofs.Ytgeebooalafepaa.Bm
