/-
  Chapter 06: the examples of the document. Conditions: none.
-/
import Derived.Test.YtgeebooalafepaaC06m
namespace Go.Proofs.Ytgeebooalafepaa.Bm
open Go Go.RowKit
open Rg (Rect areaL)

def exA : List Rect := [⟨0, 0, 2, 2⟩, ⟨1, 1, 3, 3⟩]
def exW : List Rect := [⟨0, 0, 1, 2⟩, ⟨1, 0, 2, 3⟩, ⟨2, 1, 3, 3⟩]
def exR : List Rect := [⟨0, 0, 1, 3⟩, ⟨1, 0, 2, 1⟩, ⟨1, 2, 2, 3⟩, ⟨2, 0, 3, 3⟩]
set_option maxRecDepth 100000 in
theorem ex_parts : pureCall E.P (L E) 10 [lst true [rectR.val ⟨0, 0, 1, 1⟩, rectR.val ⟨1, 1, 2, 2⟩]] = some (lst false [lst false [rectR.val ⟨0, 0, 1, 1⟩], lst false [rectR.val ⟨1, 1, 2, 2⟩]]) := pureCall_le (evF_L 30) (by kernel_rfl)
set_option maxRecDepth 100000 in
theorem ex_of : pureCall E.P (L E) 9 [lst true (rectR.vals exA)] = some (.tuple ⟨[lst false (rectR.vals exW), .int .i64 0]⟩) := pureCall_le (evF_L 30) (by kernel_rfl)
set_option maxRecDepth 100000 in
theorem ex_minus : pureCall E.P (L E) 17 [lst true (rectR.vals [⟨0, 0, 3, 3⟩]), lst true (rectR.vals [⟨1, 1, 2, 2⟩])] = some (.tuple ⟨[lst false (rectR.vals exR), .int .i64 0]⟩) := pureCall_le (evF_L 30) (by kernel_rfl)
set_option maxRecDepth 100000 in
theorem ex_area : pureCall E.P (L E) 14 [lst true (rectR.vals exW)] = some (.int .i64 7) := pureCall_le (evF_L 30) (by kernel_rfl)
set_option maxRecDepth 100000 in
theorem ex_nil : pureCall E.P (L E) 11 [.slice none 0 0] = some (.bool true) := pureCall_le (evF_L 30) (by kernel_rfl)
set_option maxRecDepth 100000 in
theorem ex_bad : pureCall E.P (L E) 11 [lst true (rectR.vals [⟨3, 0, 3, 1⟩])] = some (.bool false) := pureCall_le (evF_L 30) (by kernel_rfl)
def V4 (a b c d : Int) : Value := .agg ⟨[.int .i64 a, .int .i64 b, .int .i64 c, .int .i64 d]⟩
def elR : El := ⟨32, 4, 32, .agg ⟨[.int .i64 0, .int .i64 0, .int .i64 0, .int .i64 0]⟩, ⟨some true, some 4⟩⟩
theorem lits1 (h : Heap) (p : Rect) : buildSliceT (some elR) false h 1 #[(0, rectR.val p)] = some (lst true (rectR.vals [p]), h) :=
  (build_lit' (n := 1) (l := [(0, rectR.val p)]) rfl rfl (by decide) (by decide) (by decide)).trans rfl
theorem lits2 (h : Heap) (p q : Rect) : buildSliceT (some elR) false h 2 #[(0, rectR.val p), (1, rectR.val q)] = some (lst true (rectR.vals [p, q]), h) :=
  (build_lit' (n := 2) (l := [(0, rectR.val p), (1, rectR.val q)]) rfl rfl (by decide) (by decide) (by decide)).trans rfl
theorem lits3 (h : Heap) (p q r : Rect) : buildSliceT (some elR) false h 3 #[(0, rectR.val p), (1, rectR.val q), (2, rectR.val r)] = some (lst true (rectR.vals [p, q, r]), h) :=
  (build_lit' (n := 3) (l := [(0, rectR.val p), (1, rectR.val q), (2, rectR.val r)]) rfl rfl (by decide) (by decide) (by decide)).trans rfl
theorem lits4 (h : Heap) (p q r s : Rect) : buildSliceT (some elR) false h 4 #[(0, rectR.val p), (1, rectR.val q), (2, rectR.val r), (3, rectR.val s)] = some (lst true (rectR.vals [p, q, r, s]), h) :=
  (build_lit' (n := 4) (l := [(0, rectR.val p), (1, rectR.val q), (2, rectR.val r), (3, rectR.val s)]) rfl rfl (by decide) (by decide) (by decide)).trans rfl
theorem frz_lst (h : Heap) (x : Bool) (l : List Rect) : freezeV E.P depth 0 h (lst x (rectR.vals l)) = some (lst x (rectR.vals l), h) := frz_set8 rfl rfl
theorem small_spec : pureCall E.P (L E) 8 [] = some (.bool true) := by
  have a1 := fun h => lits2 h ⟨0, 0, 2, 2⟩ ⟨1, 1, 3, 3⟩
  have a2 := fun h => lits1 h ⟨0, 0, 3, 3⟩
  have a3 := fun h => lits1 h ⟨1, 1, 2, 2⟩
  have a4 := fun h => lits2 h ⟨0, 0, 1, 1⟩ ⟨1, 1, 2, 2⟩
  have a5 := fun h => lits3 h ⟨0, 0, 1, 2⟩ ⟨1, 0, 2, 3⟩ ⟨2, 1, 3, 3⟩
  have a6 := fun h => lits4 h ⟨0, 0, 1, 3⟩ ⟨1, 0, 2, 1⟩ ⟨1, 2, 2, 3⟩ ⟨2, 0, 3, 3⟩
  have a7 := fun h => lits1 h ⟨3, 0, 3, 1⟩
  simp only [elR, rect_val] at a1 a2 a3 a4 a5 a6 a7
  have c1 := ex_of
  have c2 := ex_minus
  have c3 := ex_parts
  have c4 := ex_area
  have c5 := ex_nil
  have c6 := ex_bad
  have c7 := same_rects (some false) (some true) exW exW Rec.ok_some Rec.ok_some (by decide)
  have c8 := same_rects (some false) (some true) exR exR Rec.ok_some Rec.ok_some (by decide)
  have fz : ∀ h, frzAll E.P 0 [lst true (rectR.vals exA)] h = some ([lst true (rectR.vals exA)], h) := fun h => frzAll_row (frz_lst h true exA)
  simp only [exA, exW, exR, rect_val, Rec.o, decide_true] at c1 c2 c3 c4 c5 c6 c7 c8 fz
  have so : ∀ b l, settled depth (lst b (rectR.vals l)) = true := fun _ _ => rfl
  have so2 : settled depth (lst true [Value.agg ⟨[.int .i64 0, .int .i64 0, .int .i64 1, .int .i64 1]⟩, Value.agg ⟨[.int .i64 1, .int .i64 1, .int .i64 2, .int .i64 2]⟩]) = true := rfl
  have rl : ∀ h b l, reify E.P 8 h (lst b (rectR.vals l)) = some (lst b (rectR.vals l)) := fun _ _ _ => rfl
  have vv : [Value.agg ⟨[.int .i64 0, .int .i64 0, .int .i64 1, .int .i64 1]⟩, Value.agg ⟨[.int .i64 1, .int .i64 1, .int .i64 2, .int .i64 2]⟩] = rectR.vals [⟨0, 0, 1, 1⟩, ⟨1, 1, 2, 2⟩] := rfl
  rw [vv] at c3
  rw [pureCall_fn F8 rfl]
  simp -implicitDefEqProofs [r8, p8, b4_all, a1, a2, a3, a4, a5, a6, a7, ret4 m9, fz, c1, ret1 m17, so, c2, ret1 m10, c3, ret0 m12, ret0 m14, ret0 m11, rl, c7, c8, c4, c5, c6]
end Go.Proofs.Ytgeebooalafepaa.Bm
