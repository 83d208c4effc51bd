/-
  Chapter 06: rectangles, spans and strips as data; the functions without loops. Conditions: none.
-/
import Derived.Test.YtgeebooalafepaaRc
import Derived.Test.YtgeebooalafepaaRgA
namespace Go.Proofs.Ytgeebooalafepaa.Bm
open Go Go.RowKit
open Rg (Rect Slab)

def rectR : Rec Rect where
  enc r := [.int .i64 r.x0, .int .i64 r.y0, .int .i64 r.x1, .int .i64 r.y1]
  m := 3
  len _ := rfl
  set _ := rfl
  bel _ _ := rfl
def spanR : Rec (Int × Int) where
  enc := spanV
  m := 1
  len _ := rfl
  set _ := rfl
  bel _ _ := rfl
def colV (c : List (Int × Int)) : Value := lst false (spanR.vals c)
def slabR : Rec Slab where
  enc s := [.int .i64 s.x0, .int .i64 s.x1, colV s.col]
  m := 2
  len _ := rfl
  set _ := rfl
  bel _ _ := rfl
theorem rect_val {r : Rect} : rectR.val r = .agg ⟨[.int .i64 r.x0, .int .i64 r.y0, .int .i64 r.x1, .int .i64 r.y1]⟩ := rfl
theorem span_val {s : Int × Int} : spanR.val s = .agg ⟨[.int .i64 s.1, .int .i64 s.2]⟩ := rfl
theorem slab_val {s : Slab} : slabR.val s = .agg ⟨[.int .i64 s.x0, .int .i64 s.x1, colV s.col]⟩ := rfl

/-! ### How they are put together -/
theorem b4_none : buildT (Bl.fs ⟨[.int .i64 0, .int .i64 0, .int .i64 0, .int .i64 0]⟩ ⟨[(0, 1), (1, 1), (2, 1), (3, 1)]⟩) #[] = some (.agg ⟨[.int .i64 0, .int .i64 0, .int .i64 0, .int .i64 0]⟩) := rfl
theorem b4_all {a b c d : Int} : buildT (Bl.fs ⟨[.int .i64 0, .int .i64 0, .int .i64 0, .int .i64 0]⟩ ⟨[(0, 1), (1, 1), (2, 1), (3, 1)]⟩) #[(0, .int .i64 a), (1, .int .i64 b), (2, .int .i64 c), (3, .int .i64 d)] = some (.agg ⟨[.int .i64 a, .int .i64 b, .int .i64 c, .int .i64 d]⟩) := rfl
theorem b2_all {a b : Int} : buildT (Bl.fs ⟨[.int .i64 0, .int .i64 0]⟩ ⟨[(0, 1), (1, 1)]⟩) #[(0, .int .i64 a), (1, .int .i64 b)] = some (.agg ⟨[.int .i64 a, .int .i64 b]⟩) := rfl

/-- A rectangle as the program wants it. -/
def okR (r : Rect) : Bool := decide (0 ≤ r.x0) && decide (r.x0 < r.x1) && decide (r.x1 ≤ 1048576) && decide (0 ≤ r.y0) && decide (r.y0 < r.y1) && decide (r.y1 ≤ 1048576)

theorem right_spec (r : Rect) : pureCall E.P (L E) 24 [rectR.val r] = some (.bool (okR r)) := by
  rw [pureCall_fn F24 rfl]
  simp -implicitDefEqProofs [r24, padS, rect_val]
  unfold okR
  by_cases h1 : 0 ≤ r.x0
  case neg => simp -implicitDefEqProofs [h1]
  by_cases h2 : r.x0 < r.x1
  case neg => simp -implicitDefEqProofs [h1, h2]
  by_cases h3 : r.x1 ≤ 1048576
  case neg => simp -implicitDefEqProofs [h1, h2, h3]
  by_cases h4 : 0 ≤ r.y0
  case neg => simp -implicitDefEqProofs [h1, h2, h3, h4]
  by_cases h5 : r.y0 < r.y1
  case neg => simp -implicitDefEqProofs [h1, h2, h3, h4, h5]
  simp -implicitDefEqProofs [h1, h2, h3, h4, h5]

/-! ### What to keep of two -/
/-- The three functions that say what to keep. -/
theorem union_spec (a b : Bool) : pureCall E.P (L E) 35 [.bool a, .bool b] = some (.bool (a || b)) := by
  rw [pureCall_fn F35 rfl]
  simp -implicitDefEqProofs [r35, padS]
  cases a <;> cases b <;> simp -implicitDefEqProofs
theorem common_spec (a b : Bool) : pureCall E.P (L E) 36 [.bool a, .bool b] = some (.bool (a && b)) := by
  rw [pureCall_fn F36 rfl]
  simp -implicitDefEqProofs [r36, padS]
  cases a <;> cases b <;> simp -implicitDefEqProofs
theorem minus_spec (a b : Bool) : pureCall E.P (L E) 37 [.bool a, .bool b] = some (.bool (a && !b)) := by
  rw [pureCall_fn F37 rfl]
  simp -implicitDefEqProofs [r37, padS]
  cases a <;> cases b <;> simp -implicitDefEqProofs

/-! ### The search in a column -/
theorem inside1_spec (s : Int × Int) (y : Int) : pureCall E.P (L E) 77 [spanR.val s, .int .i64 y] = some (.int .i64 (if s.2 ≤ y then -1 else 1)) := by
  rw [pureCall_fn F77 rfl]
  simp -implicitDefEqProofs [r77, padS, span_val]
  by_cases h : s.2 ≤ y <;> simp -implicitDefEqProofs [h]
theorem at1_spec (s : Slab) (x : Int) : pureCall E.P (L E) 61 [slabR.val s, .int .i64 x] = some (.int .i64 (if s.x1 ≤ x then -1 else 1)) := by
  rw [pureCall_fn F61 rfl]
  simp -implicitDefEqProofs [r61, padS, slab_val]
  by_cases h : s.x1 ≤ x <;> simp -implicitDefEqProofs [h]

/-! ### Areas, and points in rectangles -/
theorem right_s (r : Rect) : pureCall E.P (L E) 24 [.agg ⟨[.int .i64 r.x0, .int .i64 r.y0, .int .i64 r.x1, .int .i64 r.y1]⟩] = some (.bool (okR r)) := right_spec r
def zeroR : Rect := ⟨0, 0, 0, 0⟩
theorem checked_spec (r : Rect) : pureCall E.P (L E) 49 [rectR.val r] = some (.tuple ⟨[if okR r then rectR.val r else rectR.val zeroR, .bool (okR r)]⟩) := by
  rw [pureCall_fn F49 rfl]
  simp -implicitDefEqProofs [r49, padS, rect_val, ret0 m24, right_s]
  cases h : okR r <;> simp -implicitDefEqProofs [zeroR, b4_none]
theorem checked_s (r : Rect) : pureCall E.P (L E) 49 [.agg ⟨[.int .i64 r.x0, .int .i64 r.y0, .int .i64 r.x1, .int .i64 r.y1]⟩] = some (.tuple ⟨[if okR r then rectR.val r else rectR.val zeroR, .bool (okR r)]⟩) := checked_spec r
theorem okR_iff {r : Rect} : okR r = true ↔ r.inBox 1048576 := by
  unfold okR Rect.inBox
  simp only [Bool.and_eq_true, decide_eq_true_eq]
  omega
theorem area_bound {r : Rect} (h : okR r = true) : 0 ≤ r.area ∧ r.area ≤ 1099511627776 := by
  have := okR_iff.1 h
  unfold Rect.inBox at this
  unfold Rect.area
  have h1 : (r.x1 - r.x0) * (r.y1 - r.y0) ≤ 1048576 * 1048576 := Int.mul_le_mul (by omega) (by omega) (by omega) (by omega)
  have h2 : 0 ≤ (r.x1 - r.x0) * (r.y1 - r.y0) := Int.mul_nonneg (by omega) (by omega)
  omega
theorem area_spec (r : Rect) (h : okR r = true) : pureCall E.P (L E) 33 [rectR.val r] = some (.int .i64 r.area) := by
  have hb := okR_iff.1 h
  unfold Rect.inBox at hb
  have ha := area_bound h
  unfold Rect.area at ha ⊢
  rw [pureCall_fn F33 rfl]
  have w1 : IntKind.i64.wrap (r.x1 - r.x0) = r.x1 - r.x0 := wrap64 (by omega) (by omega)
  have w2 : IntKind.i64.wrap (r.y1 - r.y0) = r.y1 - r.y0 := wrap64 (by omega) (by omega)
  have w3 : IntKind.i64.wrap ((r.x1 - r.x0) * (r.y1 - r.y0)) = (r.x1 - r.x0) * (r.y1 - r.y0) := wrap64 (by omega) (by omega)
  simp -implicitDefEqProofs [r33, padS, rect_val, ret0 m49, checked_s, h, w1, w2, w3]
theorem has_spec (r : Rect) (x y : Int) (h : okR r = true) : pureCall E.P (L E) 40 [rectR.val r, .int .i64 x, .int .i64 y] = some (.bool (r.has x y)) := by
  rw [pureCall_fn F40 rfl]
  simp -implicitDefEqProofs [r40, padS, rect_val, ret0 m49, checked_s, h]
  unfold Rect.has
  by_cases h1 : r.x0 ≤ x
  case neg => simp -implicitDefEqProofs [h1]
  by_cases h2 : x < r.x1
  case neg => simp -implicitDefEqProofs [h1, h2]
  by_cases h3 : r.y0 ≤ y
  case neg => simp -implicitDefEqProofs [h1, h2, h3]
  simp -implicitDefEqProofs [h1, h2, h3]
theorem has1_spec (r : Rect) (x y : Int) (h : okR r = true) : pureCall E.P (L E) 39 [rectR.val r, cptr (.int .i64 x), cptr (.int .i64 y)] = some (.bool (r.has x y)) := by
  have key := has_spec r x y h
  rw [rect_val] at key
  rw [pureCall_fn F39 rfl]
  simp -implicitDefEqProofs [r39, padS, rect_val, ret0 m40, key]
theorem limited_spec (x : Bool) (l : List Rect) : pureCall E.P (L E) 25 [lst x (rectR.vals l)] = some (if l.length ≤ 200 then .tuple ⟨[lst x (rectR.vals l), .int .i64 0]⟩ else .tuple ⟨[.slice none 0 0, .int .i64 6]⟩) := by
  rw [pureCall_fn F25 rfl]
  simp -implicitDefEqProofs [r25, padS, Rec.vals_len]
  by_cases h : l.length ≤ 200
  · have h' : ¬ (200 < (l.length : Int)) := by omega
    simp -implicitDefEqProofs [h, h']
  · have h' : 200 < (l.length : Int) := by omega
    simp -implicitDefEqProofs [h, h']
end Go.Proofs.Ytgeebooalafepaa.Bm
