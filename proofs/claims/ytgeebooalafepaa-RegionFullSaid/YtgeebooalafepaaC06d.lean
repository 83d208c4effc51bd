/-
  Chapter 06: lists compared. Conditions: lists that are not too long.
-/
import Derived.Test.YtgeebooalafepaaC06a
import Derived.Test.YtgeebooalafepaaBmCat
namespace Go.Proofs.Ytgeebooalafepaa.Bm
open Go Go.RowKit
open Rg (Rect Slab)

theorem neq2 (a b c d : Int) : aBin E.P .neq 59 (.agg ⟨[.int .i64 a, .int .i64 b]⟩) (.agg ⟨[.int .i64 c, .int .i64 d]⟩) = (allOf [some (a == c), some (b == d)]).map fun b => .bool (!b) := by kernel_rfl
theorem neq4 (a b c d a' b' c' d' : Int) : aBin E.P .neq 32 (.agg ⟨[.int .i64 a, .int .i64 b, .int .i64 c, .int .i64 d]⟩) (.agg ⟨[.int .i64 a', .int .i64 b', .int .i64 c', .int .i64 d']⟩) = (allOf [some (a == a'), some (b == b'), some (c == c'), some (d == d')]).map fun b => .bool (!b) := by kernel_rfl
theorem eql4 (a b c d a' b' c' d' : Int) : aBin E.P .eql 32 (.agg ⟨[.int .i64 a, .int .i64 b, .int .i64 c, .int .i64 d]⟩) (.agg ⟨[.int .i64 a', .int .i64 b', .int .i64 c', .int .i64 d']⟩) = (allOf [some (a == a'), some (b == b'), some (c == c'), some (d == d')]).map .bool := by kernel_rfl
theorem allOf_some (b : Bool) (r : List (Option Bool)) (c : Bool) (h : allOf r = some c) : allOf (some b :: r) = some (b && c) := by cases b <;> simp [allOf, h]
theorem allOf_two (a b : Bool) : allOf [some a, some b] = some (a && (b && true)) := allOf_some _ _ _ (allOf_some _ _ _ rfl)
theorem allOf_four (a b c d : Bool) : allOf [some a, some b, some c, some d] = some (a && (b && (c && (d && true)))) := allOf_some _ _ _ (allOf_some _ _ _ (allOf_some _ _ _ (allOf_some _ _ _ rfl)))
theorem neq_span (s t : Int × Int) : aBin E.P .neq 59 (spanR.val s) (spanR.val t) = some (.bool (decide (s ≠ t))) := by
  obtain ⟨a, b⟩ := s
  obtain ⟨c, d⟩ := t
  rw [span_val, span_val, neq2]
  by_cases h1 : a = c <;> by_cases h2 : b = d <;> simp [allOf_two, h1, h2]
theorem neq_rect (s t : Rect) : aBin E.P .neq 32 (rectR.val s) (rectR.val t) = some (.bool (decide (s ≠ t))) := by
  obtain ⟨a, b, c, d⟩ := s
  obtain ⟨a', b', c', d'⟩ := t
  rw [rect_val, rect_val, neq4]
  by_cases h1 : a = a' <;> by_cases h2 : b = b' <;> by_cases h3 : c = c' <;> by_cases h4 : d = d' <;> simp [allOf_four, h1, h2, h3, h4]
theorem eql_rect (s t : Rect) : aBin E.P .eql 32 (rectR.val s) (rectR.val t) = some (.bool (decide (s = t))) := by
  obtain ⟨a, b, c, d⟩ := s
  obtain ⟨a', b', c', d'⟩ := t
  rw [rect_val, rect_val, eql4]
  by_cases h1 : a = a' <;> by_cases h2 : b = b' <;> by_cases h3 : c = c' <;> by_cases h4 : d = d' <;> simp [allOf_four, h1, h2, h3, h4]

def eqL {α : Type} [DecidableEq α] (a b : List α) : Bool := decide (a = b)
theorem eqL_cons {α : Type} [DecidableEq α] {a b : α} {x y : List α} : eqL (a :: x) (b :: y) = (decide (a = b) && eqL x y) := by
  unfold eqL; simp only [List.cons.injEq, Bool.decide_and]

theorem equal_spans (x y : Bool) (l r : List (Int × Int)) (hl : l.length ≤ 1000000) : pureCall E.P (L E) 42 [lst x (spanR.vals l), lst y (spanR.vals r)] = some (.bool (decide (l = r))) := by
  have ixl : ∀ (i : Nat) (hi : i < l.length), indexAddrT (.sl 59 ⟨some true, some 2⟩) (lst x (spanR.vals l)) (.int .i64 (i : Int)) = some (cptr (spanR.val l[i])) := fun i hi => Rec.index_tree rfl hi
  have ixr : ∀ (i : Nat) (hi : i < r.length), indexAddrT (.sl 59 ⟨some true, some 2⟩) (lst y (spanR.vals r)) (.int .i64 (i : Int)) = some (cptr (spanR.val r[i])) := fun i hi => Rec.index_tree rfl hi
  have fit : ∀ s, fitsTT ⟨some true, some 2⟩ (spanR.val s) = true := fun s => rfl
  have rv : ∀ s h, reify E.P 8 h (spanR.val s) = some (spanR.val s) := fun s h => rfl
  rw [pureCall_fn F42 rfl]
  simp -implicitDefEqProofs [r42, padS, Rec.vals_len]
  by_cases hlen : l.length = r.length
  · simp -implicitDefEqProofs [hlen, Rec.vals_len]
    rw [LL_for (γ := Unit) l () (fun i _ => [(13, .int .i64 i)]) (fun _ _ => []) (fun i rest _ => if eqL rest (r.drop i) then (.exit 0, [(13, undef)], []) else (.ret, [(4, .bool false), (13, undef)], [])) (fun _ _ => True) (by omega) trivial]
    · cases h : eqL l r
      · have : ¬ l = r := of_decide_eq_false h
        simp [this, k42_4, h]
      · have : l = r := of_decide_eq_true h
        simp [this, k42_4, eqL]
    · simp [k42_4]
    · rfl
    · intro nx i c hi _
      have hd0 : eqL [] (r.drop i) = true := by rw [List.drop_eq_nil_of_le (by omega)]; rfl
      rw [hd0]
      simp -implicitDefEqProofs [r42_4, k42_4, hi, hlen, trim_le]
    · intro nx i v rest c hi hv hd hw _ ih
      have ih := ih () trivial
      have hi' : i < r.length := by omega
      have hrd : r.drop i = r[i] :: r.drop (i + 1) := List.drop_eq_getElem_cons hi'
      rw [hrd, eqL_cons]
      simp -implicitDefEqProofs [k42_4] at ih
      by_cases he : v = r[i]
      · simp -implicitDefEqProofs [r42_4, k42_4, hi', ixl i hi, ixr i hi', fit, neq_span, hv, hw, he, trim_le]
        exact ih
      · simp -implicitDefEqProofs [r42_4, k42_4, hi', ixl i hi, ixr i hi', fit, neq_span, hv, he, trim_le]
  · have : ¬ l = r := fun e => hlen (by rw [e])
    have hlen' : ¬ ((l.length : Int) = r.length) := by omega
    simp -implicitDefEqProofs [hlen', this]

theorem equal_rects (x y : Option Bool) (l r : List Rect) (hx : Rec.Ok x l) (hy : Rec.Ok y r) (hl : l.length ≤ 1000000) : pureCall E.P (L E) 32 [rectR.o x l, rectR.o y r] = some (.bool (decide (l = r))) := by
  have ixl : ∀ (i : Nat) (hi : i < l.length), indexAddrT (.sl 32 ⟨some true, some 4⟩) (rectR.o x l) (.int .i64 (i : Int)) = some (cptr (rectR.val l[i])) := fun i hi => Rec.o_index (R := rectR) rfl hx hi
  have ixr : ∀ (i : Nat) (hi : i < r.length), indexAddrT (.sl 32 ⟨some true, some 4⟩) (rectR.o y r) (.int .i64 (i : Int)) = some (cptr (rectR.val r[i])) := fun i hi => Rec.o_index (R := rectR) rfl hy hi
  have fit : ∀ s, fitsTT ⟨some true, some 4⟩ (rectR.val s) = true := fun s => rfl
  have rv : ∀ s h, reify E.P 8 h (rectR.val s) = some (rectR.val s) := fun s h => rfl
  rw [pureCall_fn F32 rfl]
  simp -implicitDefEqProofs [r32, padS, Rec.o_len hx, Rec.o_len hy]
  by_cases hlen : l.length = r.length
  · simp -implicitDefEqProofs [hlen, Rec.o_len hx, Rec.o_len hy]
    rw [LL_for (γ := Unit) l () (fun i _ => [(13, .int .i64 i)]) (fun _ _ => []) (fun i rest _ => if eqL rest (r.drop i) then (.exit 0, [(13, undef)], []) else (.ret, [(4, .bool false), (13, undef)], [])) (fun _ _ => True) (by omega) trivial]
    · cases h : eqL l r
      · have : ¬ l = r := of_decide_eq_false h
        simp [this, k32_4, h]
      · have : l = r := of_decide_eq_true h
        simp [this, k32_4, eqL]
    · simp [k32_4]
    · rfl
    · intro nx i c hi _
      have hd0 : eqL [] (r.drop i) = true := by rw [List.drop_eq_nil_of_le (by omega)]; rfl
      rw [hd0]
      simp -implicitDefEqProofs [r32_4, k32_4, hi, hlen, trim_le]
    · intro nx i v rest c hi hv hd hw _ ih
      have ih := ih () trivial
      have hi' : i < r.length := by omega
      have hrd : r.drop i = r[i] :: r.drop (i + 1) := List.drop_eq_getElem_cons hi'
      rw [hrd, eqL_cons]
      simp -implicitDefEqProofs [k32_4] at ih
      by_cases he : v = r[i]
      · simp -implicitDefEqProofs [r32_4, k32_4, hi', ixl i hi, ixr i hi', fit, neq_rect, hv, hw, he, trim_le]
        exact ih
      · simp -implicitDefEqProofs [r32_4, k32_4, hi', ixl i hi, ixr i hi', fit, neq_rect, hv, he, trim_le]
  · have : ¬ l = r := fun e => hlen (by rw [e])
    have hlen' : ¬ ((l.length : Int) = r.length) := by omega
    simp -implicitDefEqProofs [hlen', this]

theorem same_rects (x y : Option Bool) (l r : List Rect) (hx : Rec.Ok x l) (hy : Rec.Ok y r) (hl : l.length ≤ 1000000) : pureCall E.P (L E) 12 [rectR.o x l, rectR.o y r] = some (.bool (decide (l = r))) := by
  have ixl : ∀ (i : Nat) (hi : i < l.length), indexAddrT (.sl 32 ⟨some true, some 4⟩) (rectR.o x l) (.int .i64 (i : Int)) = some (cptr (rectR.val l[i])) := fun i hi => Rec.o_index (R := rectR) rfl hx hi
  have ixr : ∀ (i : Nat) (hi : i < r.length), indexAddrT (.sl 32 ⟨some true, some 4⟩) (rectR.o y r) (.int .i64 (i : Int)) = some (cptr (rectR.val r[i])) := fun i hi => Rec.o_index (R := rectR) rfl hy hi
  have fit : ∀ s, fitsTT ⟨some true, some 4⟩ (rectR.val s) = true := fun s => rfl
  have rv : ∀ s h, reify E.P 8 h (rectR.val s) = some (rectR.val s) := fun s h => rfl
  rw [pureCall_fn F12 rfl]
  simp -implicitDefEqProofs [r12, padS, Rec.o_len hx, Rec.o_len hy]
  by_cases hlen : l.length = r.length
  · simp -implicitDefEqProofs [hlen, Rec.o_len hx, Rec.o_len hy]
    rw [LL_for (γ := Unit) l () (fun i _ => [(5, .int .i64 i)]) (fun _ _ => []) (fun i rest _ => if eqL rest (r.drop i) then (.exit 0, [(5, undef)], []) else (.ret, [(4, .bool false), (5, undef)], [])) (fun _ _ => True) (by omega) trivial]
    · cases h : eqL l r
      · have : ¬ l = r := of_decide_eq_false h
        simp [this, k12_4, h]
      · have : l = r := of_decide_eq_true h
        simp [this, k12_4, eqL]
    · simp [k12_4]
    · rfl
    · intro nx i c hi _
      have hd0 : eqL [] (r.drop i) = true := by rw [List.drop_eq_nil_of_le (by omega)]; rfl
      rw [hd0]
      simp -implicitDefEqProofs [r12_4, k12_4, Rec.o_len hx, Rec.o_len hy, hi, hlen, trim_le]
    · intro nx i v rest c hi hv hd hw _ ih
      have ih := ih () trivial
      have hi' : i < r.length := by omega
      have hrd : r.drop i = r[i] :: r.drop (i + 1) := List.drop_eq_getElem_cons hi'
      rw [hrd, eqL_cons]
      simp -implicitDefEqProofs [k12_4] at ih
      by_cases he : v = r[i]
      · simp -implicitDefEqProofs [r12_4, k12_4, Rec.o_len hx, Rec.o_len hy, hi', hlen, ixl i hi, ixr i hi', fit, neq_rect, hv, hw, he, trim_le]
        exact ih
      · simp -implicitDefEqProofs [r12_4, k12_4, Rec.o_len hx, Rec.o_len hy, hi', hlen, ixl i hi, ixr i hi', fit, neq_rect, hv, he, trim_le]
  · have : ¬ l = r := fun e => hlen (by rw [e])
    have hlen' : ¬ ((l.length : Int) = r.length) := by omega
    simp -implicitDefEqProofs [hlen', this]

theorem same_spec (x y : Option Bool) (l r : List Rect) (hx : Rec.Ok x l) (hy : Rec.Ok y r) (hl : l.length ≤ 1000000) : pureCall E.P (L E) 21 [rectR.o x l, rectR.o y r] = some (.bool (decide (l = r))) := by
  have key := equal_rects x y l r hx hy hl
  rw [pureCall_fn F21 rfl]
  simp -implicitDefEqProofs [r21, padS, ret0 m32, Rec.o_reify, key]
end Go.Proofs.Ytgeebooalafepaa.Bm
namespace Go.Proofs.Ytgeebooalafepaa.Bm
open Go Go.RowKit
open Rg (Rect Slab)

theorem cap_nil {h : Heap} : lenT .cap h (.slice none 0 0) = some (.int .i64 0) := rfl
def tot {α : Type} : List (Option Bool × List α) → Nat
  | [] => 0
  | p :: r => p.2.length + tot r
def allP {α : Type} (P : List (Option Bool × List α)) : List α := P.flatMap (·.2)
theorem tot_all {α : Type} : ∀ (P : List (Option Bool × List α)), (allP P).length = tot P
  | [] => rfl
  | p :: r => by
    show (p.2 ++ allP r).length = p.2.length + tot r
    rw [List.length_append, tot_all r]
theorem tot_zero {α : Type} {P : List (Option Bool × List α)} (h : tot P = 0) : ∀ p ∈ P, p.2 = [] := by
  intro p hp
  have h0 : (allP P).length = 0 := by rw [tot_all, h]
  have : allP P = [] := List.eq_nil_of_length_eq_zero h0
  apply List.eq_nil_iff_forall_not_mem.2
  intro a ha
  have : a ∈ allP P := List.mem_flatMap.2 ⟨p, hp, ha⟩
  rw [‹allP P = []›] at this
  cases this

theorem spans_grow (n : Nat) (h : Heap) (lo : Nat) (hn : n ≤ 1000000) : L E 75 [.slice none 0 0, .int .i64 (n : Int)] h lo =
    some (if n = 0 then (.slice none 0 0, h) else (.slice (some ⟨h.length, 0, some (n * 2)⟩) 0 n, h ++ [spanR.row 59 (List.replicate n (0, 0))])) := by
  have sn : sliceT (.sl 59 ⟨some true, some 2⟩) h (.slice none 0 0) none (some (.int .i64 0)) none = some (.slice none 0 0) := Rec.slice_none rfl
  have w1 : IntKind.i64.wrap (n : Int) = n := wrap64 (by omega) (by omega)
  have w0 : IntKind.i64.wrap 0 = 0 := rfl
  rw [L_fn F75 rfl]
  simp -implicitDefEqProofs [r75, padS]
  by_cases h0 : n = 0
  · subst h0
    simp -implicitDefEqProofs [cap_nil, w0]
  · have h1 : 0 < n := by omega
    have h2 : ¬ ((n : Int) < 0) := by omega
    have ap := Rec.appN (R := spanR) (el := ⟨59, 2, 16, .agg ⟨[.int .i64 0, .int .i64 0]⟩, ⟨some true, some 2⟩⟩) (h := h) (n := n) (k := .i64) (a := (0, 0)) rfl rfl h1 (by show n * 16 ≤ 2 ^ 47; omega)
    have sl := Rec.slice_row0 (R := spanR) (e := 59) (t := 59) (g := some true) (h := h ++ [spanR.row 59 (List.replicate n (0, 0))]) (b := h.length) (n := n) (l := List.replicate n (0, 0)) (k := .i64) rfl (by simp) (by simp)
    simp only [show spanR.m + 1 = 2 from rfl] at ap sl
    simp -implicitDefEqProofs [h0, h1, h2, cap_nil, sn, w0, w1, ap, sl]
theorem spans_concat (x : Bool) (P : List (Option Bool × List (Int × Int))) (hok : ∀ p ∈ P, Rec.Ok p.1 p.2) (hP : P.length ≤ 1000) (ht : tot P ≤ 1000000) :
    pureCall E.P (L E) 58 [lst x (P.map fun p => spanR.o p.1 p.2)] = some (spanR.o (if tot P = 0 then none else some false) (allP P)) := by
  have okI : ∀ (i : Nat) (hi : i < P.length), Rec.Ok (P[i]).1 (P[i]).2 := fun i hi => hok _ (List.getElem_mem hi)
  have ix : ∀ (i : Nat) (hi : i < P.length), indexAddrT (.sl 57 ⟨some false, some 1⟩) (lst x (P.map fun p => spanR.o p.1 p.2)) (.int .i64 (i : Int)) = some (cptr (spanR.o (P[i]).1 (P[i]).2)) := fun i hi => by
    have e : (P.map fun p => spanR.o p.1 p.2)[i]? = some (spanR.o (P[i]).1 (P[i]).2) := by simp [hi]
    rw [index_lst, if_pos (by omega), show ((i : Int)).toNat = i by omega, e, Option.bind_some, if_pos (by rw [Rec.o_fits, Rec.o_cells1]; rfl)]
  have gr := spans_grow (tot P)
  rw [pureCall_fn F58 rfl]
  simp -implicitDefEqProofs [r58, padS]
  rw [LL_for (γ := Nat) P 0 (fun i c => [(3, .int .i64 (c : Int)), (11, .int .i64 i)]) (fun _ _ => []) (fun i rest c => (.exit 0, [(3, .int .i64 ((c + tot rest : Nat) : Int)), (11, undef)], [])) (fun i c => c + tot (P.drop i) ≤ 1000000) (by omega) (by simpa using ht)]
  · rw [Nat.zero_add]
    simp -implicitDefEqProofs [k58_3, ret2 m75, gr, ht]
    by_cases h0 : tot P = 0
    · have hz := tot_zero h0
      have ha : allP P = [] := List.eq_nil_of_length_eq_zero (by rw [tot_all, h0])
      simp -implicitDefEqProofs [h0, ha]
      rw [LL_for (γ := Unit) P () (fun i _ => [(27, .int .i64 i)]) (fun _ _ => []) (fun _ _ _ => (.exit 2, [(27, undef)], [])) (fun _ _ => True) (by omega) trivial]
      · simp -implicitDefEqProofs [k58_11, Rec.o]
      · simp -implicitDefEqProofs [k58_11]
      · rfl
      · intro nx i c hi _
        simp -implicitDefEqProofs [r58_11, k58_11, hi, trim_le]
      · intro nx i p rest c hi hv hd hw _ ih
        have ih := ih () trivial
        have hp := okI i hi
        have ixi := ix i hi
        rw [hv] at hp ixi
        have hpe := hz p (hv ▸ List.getElem_mem hi)
        have cl : sliceCells [] 2 (spanR.o p.1 p.2) = some ([], 0) := (Rec.o_cells (R := spanR) (s := 2) rfl hp).trans (by rw [hpe]; rfl)
        simp -implicitDefEqProofs [k58_11] at ih
        simp -implicitDefEqProofs [r58_11, k58_11, hi, ixi, Rec.o_fits, append_nil, cl, hw, trim_le]
        exact ih
    · have h1 : 0 < tot P := by omega
      simp -implicitDefEqProofs [h0]
      rw [LL_for (γ := List (Int × Int)) P [] (fun i c => [(6, .slice (some ⟨0, 0, some (tot P * 2)⟩) c.length (tot P)), (27, .int .i64 i)]) (fun _ c => [spanR.row 59 (c ++ List.replicate (tot P - c.length) (0, 0))])
        (fun _ rest c => (.exit 2, [(6, .slice (some ⟨0, 0, some (tot P * 2)⟩) (c ++ allP rest).length (tot P)), (27, undef)], [spanR.row 59 ((c ++ allP rest) ++ List.replicate (tot P - (c ++ allP rest).length) (0, 0))])) (fun i c => c.length + tot (P.drop i) = tot P) (by omega) (by simp)]
      · have e : [] ++ allP P = allP P := rfl
        have e2 : tot P - (allP P).length = 0 := by rw [tot_all]; omega
        have rr := Rec.reify_row (R := spanR) (P := E.P) (h := [spanR.row 59 (allP P)]) (b := 0) (n := 7) (t := 59) (l := allP P) rfl (by kernel_rfl) (by kernel_rfl)
        rw [e, e2, List.replicate_zero, List.append_nil]
        unfold Rec.sl at rr
        rw [tot_all] at rr ⊢
        simp only [show spanR.m + 1 = 2 from rfl] at rr
        simp -implicitDefEqProofs [k58_11, -reify_slice, rr, Rec.o]
      · simp -implicitDefEqProofs [k58_11]
      · simp
      · intro nx i c hi _
        simp -implicitDefEqProofs [r58_11, k58_11, hi, trim_le, allP]
      · intro nx i p rest c hi hv hd hw hc ih
        have hr : P.drop (i + 1) = rest := by rw [← List.drop_drop, hd]; rfl
        rw [hd] at hc
        have hc' : c.length + (p.2.length + tot rest) = tot P := hc
        have ih := ih (c ++ p.2) (by rw [hr, List.length_append]; omega)
        have hp := okI i hi
        have ixi := ix i hi
        rw [hv] at hp ixi
        have e : c ++ allP (p :: rest) = c ++ p.2 ++ allP rest := by
          show c ++ (p.2 ++ allP rest) = _
          rw [List.append_assoc]
        have ap := Rec.app_fill (R := spanR) (el := ⟨59, 2, 16, .agg ⟨[.int .i64 0, .int .i64 0]⟩, ⟨some true, some 2⟩⟩) (h := [spanR.row 59 (c ++ List.replicate (tot P - c.length) (0, 0))]) (lo := 0) (b := 0) (n := tot P) (r := tot P - c.length) (t := 59) (acc := c) (m := p.2) (z := (0, 0)) (u := spanR.o p.1 p.2)
          rfl rfl (by omega) (Rec.o_cells rfl hp) (Nat.le_refl _) (by omega)
        simp only [show spanR.m + 1 = 2 from rfl] at ap
        have e3 : tot P - c.length - p.2.length = tot P - (c ++ p.2).length := by rw [List.length_append]; omega
        rw [e3] at ap
        rw [e]
        simp -implicitDefEqProofs [k58_11, -List.length_append] at ih
        simp -implicitDefEqProofs [r58_11, k58_11, hi, ixi, Rec.o_fits, ap, hw, trim_le, -List.length_append]
        exact ih
  · simp -implicitDefEqProofs [k58_3]
  · rfl
  · intro nx i c hi _
    simp -implicitDefEqProofs [r58_3, k58_3, hi, trim_le, tot]
  · intro nx i p rest c hi hv hd hw hc ih
    have hr : P.drop (i + 1) = rest := by rw [← List.drop_drop, hd]; rfl
    rw [hd] at hc
    have hc' : c + (p.2.length + tot rest) ≤ 1000000 := hc
    have ih := ih (c + p.2.length) (by rw [hr]; omega)
    have w1 : IntKind.i64.wrap ((c : Int) + (p.2.length : Int)) = ((c + p.2.length : Nat) : Int) := by rw [wrap64 (by omega) (by omega)]; rfl
    have e : c + tot (p :: rest) = c + p.2.length + tot rest := by show c + (p.2.length + tot rest) = _; omega
    have hp := okI i hi
    rw [hv] at hp
    have ixi := ix i hi
    rw [hv] at ixi
    have hneg : ¬ (((c + p.2.length : Nat) : Int) < 0) := by omega
    rw [e]
    simp -implicitDefEqProofs [k58_3, -Int.natCast_add] at ih
    simp -implicitDefEqProofs [r58_3, k58_3, hi, ixi, Rec.o_fits, Rec.o_len hp, w1, hneg, hw, trim_le, -Int.natCast_add]
    exact ih

theorem rects_grow (n : Nat) (h : Heap) (lo : Nat) (hn : n ≤ 1000000) : L E 52 [.slice none 0 0, .int .i64 (n : Int)] h lo =
    some (if n = 0 then (.slice none 0 0, h) else (.slice (some ⟨h.length, 0, some (n * 4)⟩) 0 n, h ++ [rectR.row 32 (List.replicate n zeroR)])) := by
  have sn : sliceT (.sl 32 ⟨some true, some 4⟩) h (.slice none 0 0) none (some (.int .i64 0)) none = some (.slice none 0 0) := Rec.slice_none rfl
  have w1 : IntKind.i64.wrap (n : Int) = n := wrap64 (by omega) (by omega)
  have w0 : IntKind.i64.wrap 0 = 0 := rfl
  rw [L_fn F52 rfl]
  simp -implicitDefEqProofs [r52, padS]
  by_cases h0 : n = 0
  · subst h0
    simp -implicitDefEqProofs [cap_nil, w0]
  · have h1 : 0 < n := by omega
    have h2 : ¬ ((n : Int) < 0) := by omega
    have ap := Rec.appN (R := rectR) (el := ⟨32, 4, 32, .agg ⟨[.int .i64 0, .int .i64 0, .int .i64 0, .int .i64 0]⟩, ⟨some true, some 4⟩⟩) (h := h) (n := n) (k := .i64) (a := zeroR) rfl rfl h1 (by show n * 32 ≤ 2 ^ 47; omega)
    have sl := Rec.slice_row0 (R := rectR) (e := 32) (t := 32) (g := some true) (h := h ++ [rectR.row 32 (List.replicate n zeroR)]) (b := h.length) (n := n) (l := List.replicate n zeroR) (k := .i64) rfl (by simp) (by simp)
    simp only [show rectR.m + 1 = 4 from rfl] at ap sl
    simp -implicitDefEqProofs [h0, h1, h2, cap_nil, sn, w0, w1, ap, sl]
theorem rects_concat (x : Bool) (P : List (Option Bool × List (Rect))) (hok : ∀ p ∈ P, Rec.Ok p.1 p.2) (hP : P.length ≤ 1000) (ht : tot P ≤ 1000000) :
    pureCall E.P (L E) 43 [lst x (P.map fun p => rectR.o p.1 p.2)] = some (rectR.o (if tot P = 0 then none else some false) (allP P)) := by
  have okI : ∀ (i : Nat) (hi : i < P.length), Rec.Ok (P[i]).1 (P[i]).2 := fun i hi => hok _ (List.getElem_mem hi)
  have ix : ∀ (i : Nat) (hi : i < P.length), indexAddrT (.sl 22 ⟨some false, some 1⟩) (lst x (P.map fun p => rectR.o p.1 p.2)) (.int .i64 (i : Int)) = some (cptr (rectR.o (P[i]).1 (P[i]).2)) := fun i hi => by
    have e : (P.map fun p => rectR.o p.1 p.2)[i]? = some (rectR.o (P[i]).1 (P[i]).2) := by simp [hi]
    rw [index_lst, if_pos (by omega), show ((i : Int)).toNat = i by omega, e, Option.bind_some, if_pos (by rw [Rec.o_fits, Rec.o_cells1]; rfl)]
  have gr := rects_grow (tot P)
  rw [pureCall_fn F43 rfl]
  simp -implicitDefEqProofs [r43, padS]
  rw [LL_for (γ := Nat) P 0 (fun i c => [(3, .int .i64 (c : Int)), (11, .int .i64 i)]) (fun _ _ => []) (fun i rest c => (.exit 0, [(3, .int .i64 ((c + tot rest : Nat) : Int)), (11, undef)], [])) (fun i c => c + tot (P.drop i) ≤ 1000000) (by omega) (by simpa using ht)]
  · rw [Nat.zero_add]
    simp -implicitDefEqProofs [k43_3, ret2 m52, gr, ht]
    by_cases h0 : tot P = 0
    · have hz := tot_zero h0
      have ha : allP P = [] := List.eq_nil_of_length_eq_zero (by rw [tot_all, h0])
      simp -implicitDefEqProofs [h0, ha]
      rw [LL_for (γ := Unit) P () (fun i _ => [(27, .int .i64 i)]) (fun _ _ => []) (fun _ _ _ => (.exit 2, [(27, undef)], [])) (fun _ _ => True) (by omega) trivial]
      · simp -implicitDefEqProofs [k43_11, Rec.o]
      · simp -implicitDefEqProofs [k43_11]
      · rfl
      · intro nx i c hi _
        simp -implicitDefEqProofs [r43_11, k43_11, hi, trim_le]
      · intro nx i p rest c hi hv hd hw _ ih
        have ih := ih () trivial
        have hp := okI i hi
        have ixi := ix i hi
        rw [hv] at hp ixi
        have hpe := hz p (hv ▸ List.getElem_mem hi)
        have cl : sliceCells [] 4 (rectR.o p.1 p.2) = some ([], 0) := (Rec.o_cells (R := rectR) (s := 4) rfl hp).trans (by rw [hpe]; rfl)
        simp -implicitDefEqProofs [k43_11] at ih
        simp -implicitDefEqProofs [r43_11, k43_11, hi, ixi, Rec.o_fits, append_nil, cl, hw, trim_le]
        exact ih
    · have h1 : 0 < tot P := by omega
      simp -implicitDefEqProofs [h0]
      rw [LL_for (γ := List (Rect)) P [] (fun i c => [(6, .slice (some ⟨0, 0, some (tot P * 4)⟩) c.length (tot P)), (27, .int .i64 i)]) (fun _ c => [rectR.row 32 (c ++ List.replicate (tot P - c.length) zeroR)])
        (fun _ rest c => (.exit 2, [(6, .slice (some ⟨0, 0, some (tot P * 4)⟩) (c ++ allP rest).length (tot P)), (27, undef)], [rectR.row 32 ((c ++ allP rest) ++ List.replicate (tot P - (c ++ allP rest).length) zeroR)])) (fun i c => c.length + tot (P.drop i) = tot P) (by omega) (by simp)]
      · have e : [] ++ allP P = allP P := rfl
        have e2 : tot P - (allP P).length = 0 := by rw [tot_all]; omega
        have rr := Rec.reify_row (R := rectR) (P := E.P) (h := [rectR.row 32 (allP P)]) (b := 0) (n := 7) (t := 32) (l := allP P) rfl (by kernel_rfl) (by kernel_rfl)
        rw [e, e2, List.replicate_zero, List.append_nil]
        unfold Rec.sl at rr
        rw [tot_all] at rr ⊢
        simp only [show rectR.m + 1 = 4 from rfl] at rr
        simp -implicitDefEqProofs [k43_11, -reify_slice, rr, Rec.o]
      · simp -implicitDefEqProofs [k43_11]
      · simp
      · intro nx i c hi _
        simp -implicitDefEqProofs [r43_11, k43_11, hi, trim_le, allP]
      · intro nx i p rest c hi hv hd hw hc ih
        have hr : P.drop (i + 1) = rest := by rw [← List.drop_drop, hd]; rfl
        rw [hd] at hc
        have hc' : c.length + (p.2.length + tot rest) = tot P := hc
        have ih := ih (c ++ p.2) (by rw [hr, List.length_append]; omega)
        have hp := okI i hi
        have ixi := ix i hi
        rw [hv] at hp ixi
        have e : c ++ allP (p :: rest) = c ++ p.2 ++ allP rest := by
          show c ++ (p.2 ++ allP rest) = _
          rw [List.append_assoc]
        have ap := Rec.app_fill (R := rectR) (el := ⟨32, 4, 32, .agg ⟨[.int .i64 0, .int .i64 0, .int .i64 0, .int .i64 0]⟩, ⟨some true, some 4⟩⟩) (h := [rectR.row 32 (c ++ List.replicate (tot P - c.length) zeroR)]) (lo := 0) (b := 0) (n := tot P) (r := tot P - c.length) (t := 32) (acc := c) (m := p.2) (z := zeroR) (u := rectR.o p.1 p.2)
          rfl rfl (by omega) (Rec.o_cells rfl hp) (Nat.le_refl _) (by omega)
        simp only [show rectR.m + 1 = 4 from rfl] at ap
        have e3 : tot P - c.length - p.2.length = tot P - (c ++ p.2).length := by rw [List.length_append]; omega
        rw [e3] at ap
        rw [e]
        simp -implicitDefEqProofs [k43_11, -List.length_append] at ih
        simp -implicitDefEqProofs [r43_11, k43_11, hi, ixi, Rec.o_fits, ap, hw, trim_le, -List.length_append]
        exact ih
  · simp -implicitDefEqProofs [k43_3]
  · rfl
  · intro nx i c hi _
    simp -implicitDefEqProofs [r43_3, k43_3, hi, trim_le, tot]
  · intro nx i p rest c hi hv hd hw hc ih
    have hr : P.drop (i + 1) = rest := by rw [← List.drop_drop, hd]; rfl
    rw [hd] at hc
    have hc' : c + (p.2.length + tot rest) ≤ 1000000 := hc
    have ih := ih (c + p.2.length) (by rw [hr]; omega)
    have w1 : IntKind.i64.wrap ((c : Int) + (p.2.length : Int)) = ((c + p.2.length : Nat) : Int) := by rw [wrap64 (by omega) (by omega)]; rfl
    have e : c + tot (p :: rest) = c + p.2.length + tot rest := by show c + (p.2.length + tot rest) = _; omega
    have hp := okI i hi
    rw [hv] at hp
    have ixi := ix i hi
    rw [hv] at ixi
    have hneg : ¬ (((c + p.2.length : Nat) : Int) < 0) := by omega
    rw [e]
    simp -implicitDefEqProofs [k43_3, -Int.natCast_add] at ih
    simp -implicitDefEqProofs [r43_3, k43_3, hi, ixi, Rec.o_fits, Rec.o_len hp, w1, hneg, hw, trim_le, -Int.natCast_add]
    exact ih
end Go.Proofs.Ytgeebooalafepaa.Bm
