/-
 Chapter 06: parts of regions, walked: searching and deleting while a part is gathered. Conditions: lists that are not too long.
-/
import Derived.Test.YtadnganaeigchaaQT28
import Derived.Test.YtadnganaeigchaaQT23
import Derived.Test.YtadnganaeigchaaQT20
import Derived.Test.YtadnganaeigchaaQT21
import Derived.Test.YtadnganaeigchaaQT27
namespace Go.Proofs.Ytadnganaeigchaa.Bm
open Go Go.RowKit
open Rg (Rect)
set_option maxRecDepth 100000 in
theorem ring_reg : regB [⟨0, 0, 1, 3⟩, ⟨1, 0, 2, 1⟩, ⟨1, 2, 2, 3⟩, ⟨2, 0, 3, 3⟩] = true := by kernel_rfl
set_option maxRecDepth 100000 in
theorem two_reg : regB [⟨0, 0, 1, 1⟩, ⟨1, 1, 2, 2⟩] = true := by kernel_rfl
set_option maxRecDepth 100000 in
theorem ring_loops : Rg.loopsL (Rg.bdL [⟨0, 0, 1, 3⟩, ⟨1, 0, 2, 1⟩, ⟨1, 2, 2, 3⟩, ⟨2, 0, 3, 3⟩]) = [[(0, 0), (3, 0), (3, 3), (0, 3)], [(1, 1), (1, 2), (2, 2), (2, 1)]] := by kernel_rfl
set_option maxRecDepth 100000 in
theorem two_loops : Rg.loopsL (Rg.bdL [⟨0, 0, 1, 1⟩, ⟨1, 1, 2, 2⟩]) = [[(0, 0), (1, 0), (1, 1), (0, 1)], [(1, 1), (2, 1), (2, 2), (1, 2)]] := by kernel_rfl
theorem out_two {l : List (Rg.Pt × Rg.Pt)} {p q : List Rg.Pt} (h : Rg.loopsL l = [p, q]) (hle : leP p q = true) : ptsE.vals (outL l) = [lst false (spanR.vals p), lst false (spanR.vals q)] := by
 unfold outL
 rw [h, List.mergeSort_of_pairwise (by simp [hle])]
 rfl
theorem xo1 : pureCall E.P (L E) 6 [lst true (rectR.vals [⟨0, 0, 1, 3⟩, ⟨1, 0, 2, 1⟩, ⟨1, 2, 2, 3⟩, ⟨2, 0, 3, 3⟩])] = some (lst false [lst false (spanR.vals [(0, 0), (3, 0), (3, 3), (0, 3)]), lst false (spanR.vals [(1, 1), (1, 2), (2, 2), (2, 1)])]) := by
 have h := outline_spec (some true) [⟨0, 0, 1, 3⟩, ⟨1, 0, 2, 1⟩, ⟨1, 2, 2, 3⟩, ⟨2, 0, 3, 3⟩] Rec.ok_some ring_reg
 rw [out_two ring_loops (by decide)] at h
 exact h
theorem xo2 : pureCall E.P (L E) 6 [lst true (rectR.vals [⟨0, 0, 1, 1⟩, ⟨1, 1, 2, 2⟩])] = some (lst false [lst false (spanR.vals [(0, 0), (1, 0), (1, 1), (0, 1)]), lst false (spanR.vals [(1, 1), (2, 1), (2, 2), (1, 2)])]) := by
 have h := outline_spec (some true) [⟨0, 0, 1, 1⟩, ⟨1, 1, 2, 2⟩] Rec.ok_some two_reg
 rw [out_two two_loops (by decide)] at h
 exact h
theorem lp1 (h : Heap) : buildSliceT (some ⟨3, 1, 8, .int .i64 0, ⟨some false, some 1⟩⟩) false h 12 #[(0, .int .i64 0), (1, .int .i64 0), (2, .int .i64 3), (3, .int .i64 0), (4, .int .i64 3), (5, .int .i64 1), (6, .int .i64 1), (7, .int .i64 1), (8, .int .i64 1), (9, .int .i64 2), (10, .int .i64 0), (11, .int .i64 2)] = some (lst true [.int .i64 0, .int .i64 0, .int .i64 3, .int .i64 0, .int .i64 3, .int .i64 1, .int .i64 1, .int .i64 1, .int .i64 1, .int .i64 2, .int .i64 0, .int .i64 2], h) :=
 (build_lit' (n := 12) (l := [(0, .int .i64 0), (1, .int .i64 0), (2, .int .i64 3), (3, .int .i64 0), (4, .int .i64 3), (5, .int .i64 1), (6, .int .i64 1), (7, .int .i64 1), (8, .int .i64 1), (9, .int .i64 2), (10, .int .i64 0), (11, .int .i64 2)]) rfl rfl (by decide) (by decide) (by decide)).trans rfl
set_option maxRecDepth 100000 in
theorem xp1 : pureCall E.P (L E) 11 [lst true [.int .i64 0, .int .i64 0, .int .i64 3, .int .i64 0, .int .i64 3, .int .i64 1, .int .i64 1, .int .i64 1, .int .i64 1, .int .i64 2, .int .i64 0, .int .i64 2]] = some (lst false (spanR.vals [(0, 0), (3, 0), (3, 1), (1, 1), (1, 2), (0, 2)])) := pureCall_le (evF_L 60) (by kernel_rfl)
theorem lp2 (h : Heap) : buildSliceT (some ⟨3, 1, 8, .int .i64 0, ⟨some false, some 1⟩⟩) false h 8 #[(0, .int .i64 0), (1, .int .i64 0), (2, .int .i64 0), (3, .int .i64 2), (4, .int .i64 1), (5, .int .i64 2), (6, .int .i64 1), (7, .int .i64 0)] = some (lst true [.int .i64 0, .int .i64 0, .int .i64 0, .int .i64 2, .int .i64 1, .int .i64 2, .int .i64 1, .int .i64 0], h) :=
 (build_lit' (n := 8) (l := [(0, .int .i64 0), (1, .int .i64 0), (2, .int .i64 0), (3, .int .i64 2), (4, .int .i64 1), (5, .int .i64 2), (6, .int .i64 1), (7, .int .i64 0)]) rfl rfl (by decide) (by decide) (by decide)).trans rfl
set_option maxRecDepth 100000 in
theorem xp2 : pureCall E.P (L E) 11 [lst true [.int .i64 0, .int .i64 0, .int .i64 0, .int .i64 2, .int .i64 1, .int .i64 2, .int .i64 1, .int .i64 0]] = some (lst false (spanR.vals [(0, 0), (0, 2), (1, 2), (1, 0)])) := pureCall_le (evF_L 60) (by kernel_rfl)
theorem lp3 (h : Heap) : buildSliceT (some ⟨3, 1, 8, .int .i64 0, ⟨some false, some 1⟩⟩) false h 8 #[(0, .int .i64 0), (1, .int .i64 0), (2, .int .i64 3), (3, .int .i64 0), (4, .int .i64 3), (5, .int .i64 3), (6, .int .i64 0), (7, .int .i64 3)] = some (lst true [.int .i64 0, .int .i64 0, .int .i64 3, .int .i64 0, .int .i64 3, .int .i64 3, .int .i64 0, .int .i64 3], h) :=
 (build_lit' (n := 8) (l := [(0, .int .i64 0), (1, .int .i64 0), (2, .int .i64 3), (3, .int .i64 0), (4, .int .i64 3), (5, .int .i64 3), (6, .int .i64 0), (7, .int .i64 3)]) rfl rfl (by decide) (by decide) (by decide)).trans rfl
set_option maxRecDepth 100000 in
theorem xp3 : pureCall E.P (L E) 11 [lst true [.int .i64 0, .int .i64 0, .int .i64 3, .int .i64 0, .int .i64 3, .int .i64 3, .int .i64 0, .int .i64 3]] = some (lst false (spanR.vals [(0, 0), (3, 0), (3, 3), (0, 3)])) := pureCall_le (evF_L 60) (by kernel_rfl)
theorem lp4 (h : Heap) : buildSliceT (some ⟨3, 1, 8, .int .i64 0, ⟨some false, some 1⟩⟩) false h 8 #[(0, .int .i64 1), (1, .int .i64 1), (2, .int .i64 1), (3, .int .i64 2), (4, .int .i64 2), (5, .int .i64 2), (6, .int .i64 2), (7, .int .i64 1)] = some (lst true [.int .i64 1, .int .i64 1, .int .i64 1, .int .i64 2, .int .i64 2, .int .i64 2, .int .i64 2, .int .i64 1], h) :=
 (build_lit' (n := 8) (l := [(0, .int .i64 1), (1, .int .i64 1), (2, .int .i64 1), (3, .int .i64 2), (4, .int .i64 2), (5, .int .i64 2), (6, .int .i64 2), (7, .int .i64 1)]) rfl rfl (by decide) (by decide) (by decide)).trans rfl
set_option maxRecDepth 100000 in
theorem xp4 : pureCall E.P (L E) 11 [lst true [.int .i64 1, .int .i64 1, .int .i64 1, .int .i64 2, .int .i64 2, .int .i64 2, .int .i64 2, .int .i64 1]] = some (lst false (spanR.vals [(1, 1), (1, 2), (2, 2), (2, 1)])) := pureCall_le (evF_L 60) (by kernel_rfl)
theorem lp5 (h : Heap) : buildSliceT (some ⟨3, 1, 8, .int .i64 0, ⟨some false, some 1⟩⟩) false h 8 #[(0, .int .i64 0), (1, .int .i64 0), (2, .int .i64 1), (3, .int .i64 0), (4, .int .i64 1), (5, .int .i64 1), (6, .int .i64 0), (7, .int .i64 1)] = some (lst true [.int .i64 0, .int .i64 0, .int .i64 1, .int .i64 0, .int .i64 1, .int .i64 1, .int .i64 0, .int .i64 1], h) :=
 (build_lit' (n := 8) (l := [(0, .int .i64 0), (1, .int .i64 0), (2, .int .i64 1), (3, .int .i64 0), (4, .int .i64 1), (5, .int .i64 1), (6, .int .i64 0), (7, .int .i64 1)]) rfl rfl (by decide) (by decide) (by decide)).trans rfl
set_option maxRecDepth 100000 in
theorem xp5 : pureCall E.P (L E) 11 [lst true [.int .i64 0, .int .i64 0, .int .i64 1, .int .i64 0, .int .i64 1, .int .i64 1, .int .i64 0, .int .i64 1]] = some (lst false (spanR.vals [(0, 0), (1, 0), (1, 1), (0, 1)])) := pureCall_le (evF_L 60) (by kernel_rfl)
theorem lp6 (h : Heap) : buildSliceT (some ⟨3, 1, 8, .int .i64 0, ⟨some false, some 1⟩⟩) false h 8 #[(0, .int .i64 1), (1, .int .i64 1), (2, .int .i64 2), (3, .int .i64 1), (4, .int .i64 2), (5, .int .i64 2), (6, .int .i64 1), (7, .int .i64 2)] = some (lst true [.int .i64 1, .int .i64 1, .int .i64 2, .int .i64 1, .int .i64 2, .int .i64 2, .int .i64 1, .int .i64 2], h) :=
 (build_lit' (n := 8) (l := [(0, .int .i64 1), (1, .int .i64 1), (2, .int .i64 2), (3, .int .i64 1), (4, .int .i64 2), (5, .int .i64 2), (6, .int .i64 1), (7, .int .i64 2)]) rfl rfl (by decide) (by decide) (by decide)).trans rfl
set_option maxRecDepth 100000 in
theorem xp6 : pureCall E.P (L E) 11 [lst true [.int .i64 1, .int .i64 1, .int .i64 2, .int .i64 1, .int .i64 2, .int .i64 2, .int .i64 1, .int .i64 2]] = some (lst false (spanR.vals [(1, 1), (2, 1), (2, 2), (1, 2)])) := pureCall_le (evF_L 60) (by kernel_rfl)
theorem lr1 (h : Heap) : buildSliceT (some ⟨39, 4, 32, .agg ⟨[.int .i64 0, .int .i64 0, .int .i64 0, .int .i64 0]⟩, ⟨some true, some 4⟩⟩) false h 4 #[(0, .agg ⟨[.int .i64 0, .int .i64 0, .int .i64 1, .int .i64 3]⟩), (1, .agg ⟨[.int .i64 1, .int .i64 0, .int .i64 2, .int .i64 1]⟩), (2, .agg ⟨[.int .i64 1, .int .i64 2, .int .i64 2, .int .i64 3]⟩), (3, .agg ⟨[.int .i64 2, .int .i64 0, .int .i64 3, .int .i64 3]⟩)] = some (lst true (rectR.vals [⟨0, 0, 1, 3⟩, ⟨1, 0, 2, 1⟩, ⟨1, 2, 2, 3⟩, ⟨2, 0, 3, 3⟩]), h) :=
 (build_lit' (n := 4) (l := [(0, .agg ⟨[.int .i64 0, .int .i64 0, .int .i64 1, .int .i64 3]⟩), (1, .agg ⟨[.int .i64 1, .int .i64 0, .int .i64 2, .int .i64 1]⟩), (2, .agg ⟨[.int .i64 1, .int .i64 2, .int .i64 2, .int .i64 3]⟩), (3, .agg ⟨[.int .i64 2, .int .i64 0, .int .i64 3, .int .i64 3]⟩)]) rfl rfl (by decide) (by decide) (by decide)).trans rfl
theorem lr2 (h : Heap) : buildSliceT (some ⟨39, 4, 32, .agg ⟨[.int .i64 0, .int .i64 0, .int .i64 0, .int .i64 0]⟩, ⟨some true, some 4⟩⟩) false h 2 #[(0, .agg ⟨[.int .i64 0, .int .i64 0, .int .i64 1, .int .i64 1]⟩), (1, .agg ⟨[.int .i64 1, .int .i64 1, .int .i64 2, .int .i64 2]⟩)] = some (lst true (rectR.vals [⟨0, 0, 1, 1⟩, ⟨1, 1, 2, 2⟩]), h) :=
 (build_lit' (n := 2) (l := [(0, .agg ⟨[.int .i64 0, .int .i64 0, .int .i64 1, .int .i64 1]⟩), (1, .agg ⟨[.int .i64 1, .int .i64 1, .int .i64 2, .int .i64 2]⟩)]) rfl rfl (by decide) (by decide) (by decide)).trans rfl
theorem lr3 (h : Heap) : buildSliceT (some ⟨39, 4, 32, .agg ⟨[.int .i64 0, .int .i64 0, .int .i64 0, .int .i64 0]⟩, ⟨some true, some 4⟩⟩) false h 2 #[(0, .agg ⟨[.int .i64 0, .int .i64 0, .int .i64 1, .int .i64 2]⟩), (1, .agg ⟨[.int .i64 1, .int .i64 0, .int .i64 3, .int .i64 1]⟩)] = some (lst true (rectR.vals [⟨0, 0, 1, 2⟩, ⟨1, 0, 3, 1⟩]), h) :=
 (build_lit' (n := 2) (l := [(0, .agg ⟨[.int .i64 0, .int .i64 0, .int .i64 1, .int .i64 2]⟩), (1, .agg ⟨[.int .i64 1, .int .i64 0, .int .i64 3, .int .i64 1]⟩)]) rfl rfl (by decide) (by decide) (by decide)).trans rfl
set_option maxRecDepth 100000 in
theorem xs3 : pureCall E.P (L E) 9 [lst false (spanR.vals [(0, 0), (3, 0), (3, 3), (0, 3)]), lst false (spanR.vals [(0, 0), (3, 0), (3, 3), (0, 3)])] = some (.bool true) := pureCall_le (evF_L 60) (by kernel_rfl)
set_option maxRecDepth 100000 in
theorem xs4 : pureCall E.P (L E) 9 [lst false (spanR.vals [(1, 1), (1, 2), (2, 2), (2, 1)]), lst false (spanR.vals [(1, 1), (1, 2), (2, 2), (2, 1)])] = some (.bool true) := pureCall_le (evF_L 60) (by kernel_rfl)
set_option maxRecDepth 100000 in
theorem xs5 : pureCall E.P (L E) 9 [lst false (spanR.vals [(0, 0), (1, 0), (1, 1), (0, 1)]), lst false (spanR.vals [(0, 0), (1, 0), (1, 1), (0, 1)])] = some (.bool true) := pureCall_le (evF_L 60) (by kernel_rfl)
set_option maxRecDepth 100000 in
theorem xs6 : pureCall E.P (L E) 9 [lst false (spanR.vals [(1, 1), (2, 1), (2, 2), (1, 2)]), lst false (spanR.vals [(1, 1), (2, 1), (2, 2), (1, 2)])] = some (.bool true) := pureCall_le (evF_L 60) (by kernel_rfl)
theorem xr1 : polyX [(0, 0), (3, 0), (3, 1), (1, 1), (1, 2), (0, 2)] = .ok [⟨0, 0, 1, 2⟩, ⟨1, 0, 3, 1⟩] := by kernel_rfl
theorem xr2 : polyX [(0, 0), (0, 2), (1, 2), (1, 0)] = .error 10 := by kernel_rfl
theorem xa1 : areaP [(0, 0), (3, 0), (3, 1), (1, 1), (1, 2), (0, 2)] = 4 := by kernel_rfl
theorem xg1 : Rg.rightP [(0, 0), (3, 0), (3, 1), (1, 1), (1, 2), (0, 2)] = true := by kernel_rfl
theorem ix_two (A B : Value) (hA : cellsL A = [A]) (hB : cellsL B = [B]) (fA : fitsTT ⟨some false, some 1⟩ A = true) (fB : fitsTT ⟨some false, some 1⟩ B = true) : indexAddrT (.sl 22 ⟨some false, some 1⟩) (lst false [A, B]) (.int .i64 0) = some (cptr A) ∧ indexAddrT (.sl 22 ⟨some false, some 1⟩) (lst false [A, B]) (.int .i64 1) = some (cptr B) := by
 constructor
 ·rw [index_lst]; simp [hA, fA]
 ·rw [index_lst]; simp [hB, fB]
theorem small_spec : pureCall E.P (L E) 4 [] = some (.bool true) := by
 have g1 := pregion_spec false [(0, 0), (3, 0), (3, 1), (1, 1), (1, 2), (0, 2)] (by decide)
 have g2 := pregion_spec false [(0, 0), (0, 2), (1, 2), (1, 0)] (by decide)
 have a1 := parea_spec false [(0, 0), (3, 0), (3, 1), (1, 1), (1, 2), (0, 2)] (by decide)
 have r1 := pright_spec false [(0, 0), (3, 0), (3, 1), (1, 1), (1, 2), (0, 2)] (by decide)
 rw [xr1] at g1
 rw [xr2] at g2
 rw [xa1] at a1
 rw [xg1] at r1
 have c1 := same_rects (some false) (some true) [⟨0, 0, 1, 2⟩, ⟨1, 0, 3, 1⟩] [⟨0, 0, 1, 2⟩, ⟨1, 0, 3, 1⟩] Rec.ok_some Rec.ok_some (by decide)
 rw [decide_eq_true rfl] at c1
 simp only [resL, Rec.o] at g1 g2 c1
 have so : ∀ b l, settled depth (lst b l) = true := fun _ _ => rfl
 have rp : ∀ h b l, reify E.P 8 h (lst b (spanR.vals l)) = some (lst b (spanR.vals l)) := fun _ _ _ => rfl
 have rr : ∀ h b l, reify E.P 8 h (lst b (rectR.vals l)) = some (lst b (rectR.vals l)) := fun _ _ _ => rfl
 obtain ⟨i1, i2⟩ := ix_two (lst false (spanR.vals [(0, 0), (3, 0), (3, 3), (0, 3)])) (lst false (spanR.vals [(1, 1), (1, 2), (2, 2), (2, 1)])) rfl rfl rfl rfl
 obtain ⟨i3, i4⟩ := ix_two (lst false (spanR.vals [(0, 0), (1, 0), (1, 1), (0, 1)])) (lst false (spanR.vals [(1, 1), (2, 1), (2, 2), (1, 2)])) rfl rfl rfl rfl
 have l1 := xo1
 have l2 := xo2
 have q1 := xp1
 have q2 := xp2
 have q3 := xp3
 have q4 := xp4
 have q5 := xp5
 have q6 := xp6
 have s3 := xs3
 have s4 := xs4
 have s5 := xs5
 have s6 := xs6
 rw [pureCall_fn F4 rfl]
 simp -implicitDefEqProofs [r4, p4, lp1, lp2, lp3, lp4, lp5, lp6, so, ret1 m11, q1, q2, q3, q4, q5, q6, ret1 m5, g1, g2, b4_all, lr1, lr2, lr3, ret1 m6, l1, l2, ret0 m12, rr, c1, ret0 m7, rp, a1, ret0 m13, r1, i1, i2, i3, i4, ret0 m9, s3, s4, s5, s6]
end Go.Proofs.Ytadnganaeigchaa.Bm
namespace Go.Proofs.Ytadnganaeigchaa.Bm
open Go Go.RowKit
open Rg (Pt)
theorem neqPt (a b c d : Int) : aBin E.P .neq 42 (.agg ⟨[.int .i64 a, .int .i64 b]⟩) (.agg ⟨[.int .i64 c, .int .i64 d]⟩) = (allOf [some (a == c), some (b == d)]).map fun b => .bool (!b) := by kernel_rfl
theorem neq_pt (s t : Pt) : aBin E.P .neq 42 (spanR.val s) (spanR.val t) = some (.bool (decide (s ≠ t))) := by
 obtain ⟨a, b⟩ := s
 obtain ⟨c, d⟩ := t
 rw [span_val, span_val, neqPt]
 by_cases h1 : a = c <;> by_cases h2 : b = d <;> simp [allOf_two, h1, h2]
theorem same_pts (x y : Bool) (l r : List Pt) (hl : l.length ≤ 1000000) : pureCall E.P (L E) 9 [lst x (spanR.vals l), lst y (spanR.vals r)] = some (.bool (decide (l = r))) := by
 have ixl : ∀ (i : Nat) (hi : i < l.length), indexAddrT (.sl 42 ⟨some true, some 2⟩) (lst x (spanR.vals l)) (.int .i64 (i : Int)) = some (cptr (spanR.val l[i])) := fun i hi => Rec.index_tree rfl hi
 have ixr : ∀ (i : Nat) (hi : i < r.length), indexAddrT (.sl 42 ⟨some true, some 2⟩) (lst y (spanR.vals r)) (.int .i64 (i : Int)) = some (cptr (spanR.val r[i])) := fun i hi => Rec.index_tree rfl hi
 have fit : ∀ s, fitsTT ⟨some true, some 2⟩ (spanR.val s) = true := fun s => rfl
 have ll : ∀ h, lenT .sl h (lst x (spanR.vals l)) = some (.int .i64 l.length) := fun h => Rec.tree_len
 have lr : ∀ h, lenT .sl h (lst y (spanR.vals r)) = some (.int .i64 r.length) := fun h => Rec.tree_len
 have bl : ∀ d n, below (d + 1) n (lst x (spanR.vals l)) = true := fun d n => rfl
 have br : ∀ d n, below (d + 1) n (lst y (spanR.vals r)) = true := fun d n => rfl
 generalize lst x (spanR.vals l) = LV at *
 generalize lst y (spanR.vals r) = RV at *
 rw [pureCall_fn F9 rfl]
 by_cases hlen : l.length = r.length
 ·have hlen' : (l.length : Int) = (r.length : Int) := by omega
  simp -implicitDefEqProofs [r9, p9, ll, lr, hlen, hlen']
  rw [LL_for (γ := Unit) l () (fun i _ => [(5, .int .i64 i)]) (fun _ _ => []) (fun i rest _ => if eqL rest (r.drop i) then (.exit 0, [(5, undef)], []) else (.ret, [(4, .bool false), (5, undef)], [])) (fun _ _ => True) (by omega) trivial]
  ·cases h : eqL l r
   ·have : ¬ l = r := of_decide_eq_false h
    simp [this, k9_4, h]
   ·have : l = r := of_decide_eq_true h
    simp [this, k9_4, eqL]
  ·simp [k9_4]
  ·rfl
  ·intro nx i c hi _
   have hd0 : eqL [] (r.drop i) = true := by rw [List.drop_eq_nil_of_le (by omega)]; rfl
   rw [hd0]
   simp -implicitDefEqProofs [r9_4, k9_4, ll, lr, hi, hlen, trim_le]
  ·intro nx i v rest c hi hv hd hw _ ih
   have ih := ih () trivial
   have hi' : i < r.length := by omega
   have hrd : r.drop i = r[i] :: r.drop (i + 1) := List.drop_eq_getElem_cons hi'
   rw [hrd, eqL_cons]
   simp -implicitDefEqProofs [k9_4] at ih
   by_cases he : v = r[i]
   ·simp -implicitDefEqProofs [r9_4, k9_4, ll, lr, hi', hlen, ixl i hi, ixr i hi', fit, neq_pt, hv, hw, he, trim_le]
    exact ih
   ·simp -implicitDefEqProofs [r9_4, k9_4, ll, lr, hi', hlen, ixl i hi, ixr i hi', fit, neq_pt, hv, he, trim_le]
 ·have : ¬ l = r := fun e => hlen (by rw [e])
  have hlen' : ¬ ((l.length : Int) = r.length) := by omega
  simp -implicitDefEqProofs [r9, p9, ll, lr, hlen', this]
end Go.Proofs.Ytadnganaeigchaa.Bm
namespace Go.Proofs.Ytadnganaeigchaa.Rg
def gapX (r s : Rect) : Int := max r.x0 s.x0 - min r.x1 s.x1
def gapY (r s : Rect) : Int := max r.y0 s.y0 - min r.y1 s.y1
def touchB (r s : Rect) : Bool := (decide (gapX r s = 0) && decide (gapY r s < 0)) || (decide (gapY r s = 0) && decide (gapX r s < 0))
def absorb : Nat → Nat → List Rect → List Rect → List Rect × List Rect
 | 0, _, part, left => (part, left)
 | n + 1, i, part, left => match part[i]? with
  | none => (part, left)
  | some r => absorb n (i + 1) (part ++ left.filter (touchB r)) (left.filter fun s => !touchB r s)
theorem filter_both {α : Type} (p : α → Bool) : ∀ l : List α, (l.filter p).length + (l.filter fun a => !p a).length = l.length
 | [] => rfl
 | a :: l => by
  have ih := filter_both p l
  cases h : p a
  ·rw [List.filter_cons_of_neg (by simp [h]), List.filter_cons_of_pos (by simp [h]), List.length_cons, List.length_cons]; omega
  ·rw [List.filter_cons_of_pos h, List.filter_cons_of_neg (by simp [h]), List.length_cons, List.length_cons]; omega
theorem absorb_len : ∀ (n i : Nat) (part left : List Rect), (absorb n i part left).1.length + (absorb n i part left).2.length = part.length + left.length
 | 0, _, _, _ => rfl
 | n + 1, i, part, left => by
  unfold absorb
  cases h : part[i]? with
  | none => rfl
  | some r =>
   simp only
   rw [absorb_len n, List.length_append]
   have := filter_both (touchB r) left
   omega
theorem absorb_part : ∀ (n i : Nat) (part left : List Rect), ∃ t, (absorb n i part left).1 = part ++ t
 | 0, _, part, _ => ⟨[], (List.append_nil part).symm⟩
 | n + 1, i, part, left => by
  unfold absorb
  cases h : part[i]? with
  | none => exact ⟨[], (List.append_nil part).symm⟩
  | some r =>
   obtain ⟨t, e⟩ := absorb_part n (i + 1) (part ++ left.filter (touchB r)) (left.filter fun s => !touchB r s)
   exact ⟨left.filter (touchB r) ++ t, by simp only; rw [e, List.append_assoc]⟩
def partsF : Nat → List Rect → List (List Rect)
 | 0, _ => []
 | _ + 1, [] => []
 | n + 1, r :: l => (absorb (l.length + 2) 0 [r] l).1 :: partsF n (absorb (l.length + 2) 0 [r] l).2
def partsL (a : List Rect) : List (List Rect) := partsF a.length a
theorem absorb_more : ∀ (n m i : Nat) (part left : List Rect), part.length + left.length ≤ i + n → n ≤ m → absorb m i part left = absorb n i part left
 | 0, m, i, part, left, h, _ => by
  cases m with
  | zero => rfl
  | succ m =>
   have : part[i]? = none := List.getElem?_eq_none (by omega)
   unfold absorb
   rw [this]
 | n + 1, m, i, part, left, h, hm => by
  obtain ⟨m, rfl⟩ : ∃ m', m = m' + 1 := ⟨m - 1, by omega⟩
  unfold absorb
  cases hp : part[i]? with
  | none => rfl
  | some r =>
   simp only
   have := filter_both (touchB r) left
   exact absorb_more n m (i + 1) _ _ (by rw [List.length_append]; omega) (by omega)
theorem partsF_more : ∀ (n m : Nat) (a : List Rect), a.length ≤ n → n ≤ m → partsF m a = partsF n a
 | 0, m, a, h, _ => by
  have : a = [] := List.eq_nil_of_length_eq_zero (by omega)
  subst this
  cases m <;> rfl
 | n + 1, m, [], _, _ => by cases m <;> rfl
 | n + 1, m, r :: l, h, hm => by
  obtain ⟨m, rfl⟩ : ∃ m', m = m' + 1 := ⟨m - 1, by omega⟩
  unfold partsF
  obtain ⟨t, e⟩ := absorb_part (l.length + 2) 0 [r] l
  have hl := absorb_len (l.length + 2) 0 [r] l
  rw [e, List.length_append, List.length_singleton] at hl
  rw [List.length_cons] at h
  rw [partsF_more n m _ (by omega) (by omega)]
section
variable {f : Rect → Rect} (hf : ∀ r s, touchB (f r) (f s) = touchB r s)
include hf
end
end Go.Proofs.Ytadnganaeigchaa.Rg
namespace Go.Proofs.Ytadnganaeigchaa.Bm
open Go Go.RowKit
open Rg (Rect touchB gapX gapY)
theorem min_int6 (a b : Int) : aMinMax false [.int .i64 a, .int .i64 b] = some (.int .i64 (min a b)) := by
 show some (Value.int .i64 (if b < a then b else a)) = _
 congr 2
 omega
theorem gaps6 (r s : Rect) (hr : okR r = true) (hs : okR s = true) : pureCall E.P (L E) 50 [.agg ⟨[.int .i64 r.x0, .int .i64 r.y0, .int .i64 r.x1, .int .i64 r.y1]⟩, .agg ⟨[.int .i64 s.x0, .int .i64 s.y0, .int .i64 s.x1, .int .i64 s.y1]⟩] = some (.tuple ⟨[.int .i64 (gapX r s), .int .i64 (gapY r s)]⟩) := by
 have hb := okR_iff.1 hr
 have hc := okR_iff.1 hs
 unfold Rect.inBox at hb hc
 unfold gapX gapY
 have w1 : IntKind.i64.wrap (max r.x0 s.x0 - min r.x1 s.x1) = max r.x0 s.x0 - min r.x1 s.x1 := wrap64 (by omega) (by omega)
 have w2 : IntKind.i64.wrap (max r.y0 s.y0 - min r.y1 s.y1) = max r.y0 s.y0 - min r.y1 s.y1 := wrap64 (by omega) (by omega)
 rw [pureCall_fn F50 rfl]
 simp -implicitDefEqProofs [r50, padS, min_int6, max_int, w1, w2]
theorem touch6 (r s : Rect) (hr : okR r = true) (hs : okR s = true) : pureCall E.P (L E) 31 [.agg ⟨[.int .i64 r.x0, .int .i64 r.y0, .int .i64 r.x1, .int .i64 r.y1]⟩, .agg ⟨[.int .i64 s.x0, .int .i64 s.y0, .int .i64 s.x1, .int .i64 s.y1]⟩] = some (.bool (touchB r s)) := by
 have q1 := right_s r
 have q2 := right_s s
 rw [hr] at q1
 rw [hs] at q2
 have g := gaps6 r s hr hs
 unfold touchB
 generalize gapX r s = x at *
 generalize gapY r s = y at *
 rw [pureCall_fn F31 rfl]
 by_cases h1 : x = 0
 ·by_cases h2 : y < 0
  ·have h3 : ¬ y = 0 := by omega
   simp -implicitDefEqProofs [r31, p31, ret0 m49, q1, q2, ret0 m50, g, h1, h2, h3]
  ·by_cases h3 : y = 0
   ·simp -implicitDefEqProofs [r31, p31, ret0 m49, q1, q2, ret0 m50, g, h1, h3]
   ·simp -implicitDefEqProofs [r31, p31, ret0 m49, q1, q2, ret0 m50, g, h1, h2, h3]
 ·by_cases h3 : y = 0
  ·by_cases h4 : x < 0
   ·simp -implicitDefEqProofs [r31, p31, ret0 m49, q1, q2, ret0 m50, g, h1, h3, h4]
   ·simp -implicitDefEqProofs [r31, p31, ret0 m49, q1, q2, ret0 m50, g, h1, h3, h4]
  ·simp -implicitDefEqProofs [r31, p31, ret0 m49, q1, q2, ret0 m50, g, h1, h3]
def ptr (b : Nat) : Value := .pointer (some ⟨b, 0, none⟩)
def cellV (t : TypeId) (v : Value) : AObj := .cells t [v] 0
def boxR (r : Rect) : AObj := .cells 39 [.int .i64 r.x0, .int .i64 r.y0, .int .i64 r.x1, .int .i64 r.y1] 0
theorem cell_load {h : Heap} {b : Nat} {t : TypeId} {v : Value} {sz : Option Nat} (hb : h[b]? = some (cellV t v)) : loadT ⟨some false, sz⟩ h (ptr b) = some v := by
 unfold ptr
 rw [load_one]
 unfold rowOf
 show ((match h[b]? with | some (.cells _ c g) => _ | _ => none) : Option (List Value)).bind _ = _
 rw [hb]; rfl
theorem cell_store {h : Heap} {b lo : Nat} {t : TypeId} {u v : Value} (hb : h[b]? = some (cellV t u)) (hlo : lo ≤ b) (hv : cellsOf v = some [v]) : storeT (some 1) h lo v (ptr b) = some (h.set b (cellV t v)) := by
 unfold ptr
 rw [store_ptr, hv, Option.bind_some, if_pos (show 1 = [v].length from rfl)]
 unfold wrN
 show (match h[b]? with | some (.cells t c g) => _ | _ => none) = _
 rw [hb]
 show (if _ then _ else none) = _
 rw [if_pos ⟨hlo, rfl, by simp, by simp⟩]; rfl
theorem get_app {h : Heap} {q : AObj} {b : Nat} {o : AObj} (hb : h[b]? = some o) : (h ++ [q])[b]? = some o := by
 have : b < h.length := (List.getElem?_eq_some_iff.1 hb).1
 rw [List.getElem?_append_left this, hb]
theorem gather_no {h : Heap} {lo bc bi i : Nat} {pv : Value} {part : List Rect} (s : Rect) (hc : h[bc]? = some (cellV 24 pv)) (hi : h[bi]? = some (cellV 3 (.int .i64 i))) (hip : i < part.length)
  (hp : pv = lst true (rectR.vals part) ∨ ∃ bp, pv = rectR.sl bp part ∧ h[bp]? = some (rectR.row 39 part)) (hr : okR part[i] = true) (hs : okR s = true) (ht : touchB part[i] s = false) :
  L E 30 [rectR.val s, ptr bc, ptr bi] h lo = some (.bool false, h ++ [boxR s]) := by
 have tc := touch6 part[i] s hr hs
 rw [ht] at tc
 have lc := cell_load (sz := some 1) (get_app (q := boxR s) hc)
 have li := cell_load (sz := some 1) (get_app (q := boxR s) hi)
 have hidx : ∃ a, indexAddrT (.sl 39 ⟨some true, some 4⟩) pv (.int .i64 (i : Int)) = some a ∧ loadT ⟨some true, some 4⟩ (h ++ [boxR s]) a = some (rectR.val part[i]) := by
  rcases hp with rfl | ⟨bp, rfl, hbp⟩
  ·exact ⟨_, Rec.index_tree rfl hip, rfl⟩
  ·exact ⟨_, Rec.index_row (R := rectR) rfl hip, Rec.load_row (R := rectR) rfl (get_app hbp) hip⟩
 obtain ⟨a, ia, la⟩ := hidx
 rw [rect_val] at la
 rw [L_fn F30 rfl]
 unfold boxR at *
 simp -implicitDefEqProofs [r30, padS, rect_val, lc, li, ia, la, ret0 m31, tc]
theorem get_set {h : Heap} {b c : Nat} {q o : AObj} (hb : h[b]? = some o) (hne : b ≠ c) : (h.set c q)[b]? = some o := by
 rw [List.getElem?_set_ne (Ne.symm hne)]; exact hb
theorem get_setE {h : Heap} {b : Nat} {q : AObj} (hb : b < h.length) : (h.set b q)[b]? = some q := by
 rw [List.getElem?_set_self hb]
theorem o_cell (b : Nat) (l : List Rect) : cellsOf (rectR.sl b l) = some [rectR.sl b l] := rfl
theorem gather_new {h : Heap} {lo bc bi i : Nat} {part : List Rect} (s : Rect) (hc : h[bc]? = some (cellV 24 (lst true (rectR.vals part)))) (hi : h[bi]? = some (cellV 3 (.int .i64 i))) (hip : i < part.length) (hl : part.length ≤ 1000000)
  (hlo : lo ≤ bc) (hr : okR part[i] = true) (hs : okR s = true) (ht : touchB part[i] s = true) :
  L E 30 [rectR.val s, ptr bc, ptr bi] h lo = some (.bool true, (h ++ [boxR s, rectR.row 39 (part ++ [s])]).set bc (cellV 24 (rectR.sl (h.length + 1) (part ++ [s])))) := by
 have tc := touch6 part[i] s hr hs
 rw [ht] at tc
 have lc := cell_load (sz := some 1) (get_app (q := boxR s) hc)
 have li := cell_load (sz := some 1) (get_app (q := boxR s) hi)
 have ia : indexAddrT (.sl 39 ⟨some true, some 4⟩) (lst true (rectR.vals part)) (.int .i64 (i : Int)) = some (cptr (rectR.val part[i])) := Rec.index_tree rfl hip
 have hlc : (h ++ [boxR s]).length = h.length + 1 := by simp
 have ap : appendT (some ⟨39, 4, 32, .agg ⟨[.int .i64 0, .int .i64 0, .int .i64 0, .int .i64 0]⟩, ⟨some true, some 4⟩⟩) (h ++ [boxR s]) lo false (lst true (rectR.vals part)) (lst true (rectR.vals [s])) = some (rectR.sl (h.length + 1) (part ++ [s]), h ++ [boxR s, rectR.row 39 (part ++ [s])]) := by
  have ct : sliceCells (h ++ [boxR s]) 4 (lst true (rectR.vals [s])) = some (rectR.flat [s], 1) := Rec.cells_tree (R := rectR) rfl [s]
  rw [append_lst]
  show ((sliceCells (h ++ [boxR s]) 4 (lst true (rectR.vals [s]))).bind _) = _
  rw [ct, Option.bind_some]
  show (if (1 : Nat) = 0 then _ else _) = _
  rw [if_neg (by decide)]
  have hv : (rectR.vals part).length = part.length := Rec.vals_len
  rw [if_pos ⟨Rec.vals_all part, by rw [hv]; show (part.length + 1) * 32 ≤ 2 ^ 47; omega⟩]
  rw [Rec.vals_flat, ← Rec.flat_app, hlc, hv]
  unfold Rec.sl Rec.row
  rw [Rec.flat_len, List.length_append, List.append_assoc]; rfl
 have hc2 : (h ++ [boxR s, rectR.row 39 (part ++ [s])])[bc]? = some (cellV 24 (lst true (rectR.vals part))) := by
  have : bc < h.length := (List.getElem?_eq_some_iff.1 hc).1
  rw [List.getElem?_append_left this, hc]
 have st := cell_store (lo := lo) (v := rectR.sl (h.length + 1) (part ++ [s])) hc2 hlo (o_cell _ _)
 rw [L_fn F30 rfl]
 rw [show rectR.vals [s] = [.agg ⟨[.int .i64 s.x0, .int .i64 s.y0, .int .i64 s.x1, .int .i64 s.y1]⟩] from rfl] at ap
 unfold boxR at *
 simp -implicitDefEqProofs [r30, padS, rect_val, lc, li, ia, ret0 m31, tc, lit_rect, ap, st, -append_lst]
theorem gather_more {h : Heap} {lo bc bi bp i : Nat} {part : List Rect} (s : Rect) (hc : h[bc]? = some (cellV 24 (rectR.sl bp part))) (hi : h[bi]? = some (cellV 3 (.int .i64 i))) (hbp : h[bp]? = some (rectR.row 39 part)) (hip : i < part.length) (hl : part.length ≤ 1000000)
  (hne : bc ≠ bp) (hlo : lo ≤ bc) (hlp : lo ≤ bp) (hr : okR part[i] = true) (hs : okR s = true) (ht : touchB part[i] s = true) :
  L E 30 [rectR.val s, ptr bc, ptr bi] h lo = some (.bool true, ((h ++ [boxR s]).set bp (rectR.row 39 (part ++ [s]))).set bc (cellV 24 (rectR.sl bp (part ++ [s])))) := by
 have tc := touch6 part[i] s hr hs
 rw [ht] at tc
 have lc := cell_load (sz := some 1) (get_app (q := boxR s) hc)
 have li := cell_load (sz := some 1) (get_app (q := boxR s) hi)
 have ia := Rec.index_row (R := rectR) (h0 := 4) (t := 39) (g := some true) (b := bp) (k := .i64) rfl hip
 have la := Rec.load_row (R := rectR) (n := 4) rfl (get_app (q := boxR s) hbp) hip
 rw [rect_val] at la
 have ap := app_rect (h := h ++ [boxR s]) (b := bp) (lo := lo) (c := part) s (get_app (q := boxR s) hbp) hlp (by omega)
 have hc2 := get_set (q := rectR.row 39 (part ++ [s])) (get_app (q := boxR s) hc) hne
 have st := cell_store (lo := lo) (v := rectR.sl bp (part ++ [s])) hc2 hlo (o_cell _ _)
 rw [L_fn F30 rfl]
 unfold boxR at *
 simp -implicitDefEqProofs [r30, padS, rect_val, lc, li, ia, la, ret0 m31, tc, lit_rect, ap, st]
end Go.Proofs.Ytadnganaeigchaa.Bm
namespace Go.Proofs.Ytadnganaeigchaa.Bm
open Go Go.RowKit
open Rg (Rect touchB)
theorem below_mono : ∀ (d : Nat) {n m : Nat} {v : Value}, n ≤ m → below d n v = true → below d m v = true
 | 0, _, _, _, _, h => absurd h Bool.false_ne_true
 | d + 1, n, m, v, hnm, h => by
  have ih : ∀ l : List Value, l.all (below d n) = true → l.all (below d m) = true := fun l hl => List.all_eq_true.2 fun x hx => below_mono d hnm (List.all_eq_true.1 hl x hx)
  unfold below at h ⊢
  split at h
  ·exact decide_eq_true (by have := of_decide_eq_true h; omega)
  ·exact decide_eq_true (by have := of_decide_eq_true h; omega)
  ·exact decide_eq_true (by have := of_decide_eq_true h; omega)
  ·exact ih _ h
  ·exact ih _ h
  ·rfl
  ·rw [Bool.and_eq_true] at h ⊢; exact ⟨ih _ h.1, ih _ h.2⟩
  ·exact below_mono d hnm h
  ·simp_all
theorem belO_mono {n m : Nat} {o : AObj} (hnm : n ≤ m) (h : belowO n o = true) : belowO m o = true := by
 unfold belowO at h ⊢
 cases o with
 | cells t c g => exact List.all_eq_true.2 fun x hx => below_mono _ hnm (List.all_eq_true.1 h x hx)
 | dead => rfl
 | map es k =>
  refine List.all_eq_true.2 fun x hx => ?_
  have := List.all_eq_true.1 h x hx
  rw [Bool.and_eq_true] at this ⊢
  exact ⟨below_mono _ hnm this.1, below_mono _ hnm this.2⟩
theorem all_set {h : Heap} {f : AObj → Bool} {i : Nat} {o : AObj} (hh : h.all f = true) (ho : f o = true) : (h.set i o).all f = true :=
 List.all_eq_true.2 fun x hx => by
  rcases List.mem_or_eq_of_mem_set hx with q | q
  ·exact List.all_eq_true.1 hh x q
  ·rw [q]; exact ho
theorem box_bel (n : Nat) (s : Rect) : belowO n (boxR s) = true := rfl
structure St (bo : Nat) (O : AObj) (h : Heap) (bl bc bi : Nat) (C part : List Rect) (i : Nat) : Prop where
 left : h[bl]? = some (rectR.row 39 C)
 icell : h[bi]? = some (cellV 3 (.int .i64 i))
 part : ∃ pv, h[bc]? = some (cellV 24 pv) ∧ (pv = lst true (rectR.vals part) ∨ ∃ bp, pv = rectR.sl bp part ∧ h[bp]? = some (rectR.row 39 part) ∧ bp ≠ bl ∧ bp ≠ bc ∧ bp ≠ bi ∧ bp ≠ bo)
 ne : bl ≠ bc ∧ bl ≠ bi ∧ bc ≠ bi
 bel : ∀ n, h.length ≤ n → h.all (belowO n) = true
 oth : h[bo]? = some O ∧ bo ≠ bl ∧ bo ≠ bc ∧ bo ≠ bi
variable {bo : Nat} {O : AObj}
theorem lt_of_get {h : Heap} {b : Nat} {o : AObj} (hb : h[b]? = some o) : b < h.length := (List.getElem?_eq_some_iff.1 hb).1
theorem get_app2 {h : Heap} {p q : AObj} {b : Nat} {o : AObj} (hb : h[b]? = some o) : (h ++ [p, q])[b]? = some o := by
 rw [List.getElem?_append_left (lt_of_get hb), hb]
theorem gather {h : Heap} {bl bc bi i : Nat} {C part : List Rect} (s : Rect) (hS : St bo O h bl bc bi C part i) (hip : i < part.length) (hl : part.length ≤ 1000000) (hr : okR part[i] = true) (hs : okR s = true) :
  ∃ h', L E 30 [rectR.val s, ptr bc, ptr bi] h 0 = some (.bool (touchB part[i] s), h') ∧ St bo O h' bl bc bi C (part ++ if touchB part[i] s then [s] else []) i ∧ h.length ≤ h'.length ∧ (touchB part[i] s = false → ∀ (b : Nat) (o : AObj), h[b]? = some o → h'[b]? = some o) := by
 obtain ⟨h1, h2, ⟨pv, h3, h4⟩, ⟨n1, n2, n3⟩, hb, o1, o2, o3, o4⟩ := hS
 have hb1 : ∀ n, (h ++ [boxR s]).length ≤ n → (h ++ [boxR s]).all (belowO n) = true := fun n hn => by
  rw [List.length_append, List.length_singleton] at hn
  rw [List.all_append, hb n (by omega)]; rfl
 cases ht : touchB part[i] s
 ·refine ⟨_, gather_no s h3 h2 hip (by rcases h4 with rfl | ⟨bp, rfl, hbp, _⟩; exact .inl rfl; exact .inr ⟨bp, rfl, hbp⟩) hr hs ht, ?_, by simp, fun _ b o ho => get_app ho⟩
  have e : part ++ (if false = true then [s] else []) = part := List.append_nil part
  rw [e]
  refine ⟨get_app h1, get_app h2, ⟨pv, get_app h3, ?_⟩, ⟨n1, n2, n3⟩, hb1, get_app o1, o2, o3, o4⟩
  rcases h4 with rfl | ⟨bp, rfl, hbp, q⟩
  ·exact .inl rfl
  ·exact .inr ⟨bp, rfl, get_app hbp, q⟩
 ·have e : part ++ (if true = true then [s] else []) = part ++ [s] := rfl
  rw [e]
  rcases h4 with rfl | ⟨bp, rfl, hbp, q1, q2, q3, q4⟩
  ·refine ⟨_, gather_new s h3 h2 hip hl (Nat.zero_le _) hr hs ht, ?_, by simp, fun h => absurd h (by simp)⟩
   have hlc : (h ++ [boxR s, rectR.row 39 (part ++ [s])]).length = h.length + 2 := by simp
   have b1 := lt_of_get h1
   have b2 := lt_of_get h2
   have b3 := lt_of_get h3
   have b4 := lt_of_get o1
   refine ⟨get_set (get_app2 h1) n1, get_set (get_app2 h2) (Ne.symm n3), ⟨_, get_setE (by rw [hlc]; omega), .inr ⟨h.length + 1, rfl, get_set end2 (by omega), by omega, by omega, by omega, by omega⟩⟩, ⟨n1, n2, n3⟩, fun n hn => by
    rw [List.length_set, hlc] at hn
    refine all_set ?_ ?_
    ·rw [List.all_append, hb n (by omega)]
     show (belowO n (boxR s) && (belowO n (rectR.row 39 (part ++ [s])) && true)) = true
     rw [Rec.row_bel]; rfl
    ·show (below depth n (rectR.sl (h.length + 1) (part ++ [s])) && true) = true
     rw [Bool.and_true]; exact Rec.sl_bel (d := 7) (by omega), get_set (get_app2 o1) o3, o2, o3, o4⟩
  ·refine ⟨_, gather_more s h3 h2 hbp hip hl (Ne.symm q2) (Nat.zero_le _) (Nat.zero_le _) hr hs ht, ?_, by simp, fun h => absurd h (by simp)⟩
   have b3 := lt_of_get h3
   have bb := lt_of_get hbp
   have hlc : ((h ++ [boxR s]).set bp (rectR.row 39 (part ++ [s]))).length = h.length + 1 := by simp
   have hlc1 : (h ++ [boxR s]).length = h.length + 1 := by simp
   refine ⟨get_set (get_set (get_app h1) (Ne.symm q1)) n1, get_set (get_set (get_app h2) (Ne.symm q3)) (Ne.symm n3), ⟨_, get_setE (by rw [hlc]; omega), .inr ⟨bp, rfl, get_set (get_setE (by rw [hlc1]; omega)) q2, q1, q2, q3, q4⟩⟩, ⟨n1, n2, n3⟩, fun n hn => by
    rw [List.length_set, hlc] at hn
    refine all_set (all_set (hb1 n (by rw [hlc1]; exact hn)) (Rec.row_bel _)) ?_
    show (below depth n (rectR.sl bp (part ++ [s])) && true) = true
    rw [Bool.and_true]; exact Rec.sl_bel (d := 7) (by omega), get_set (get_set (get_app o1) (Ne.symm q4)) o3, o2, o3, o4⟩
theorem St.clt {h : Heap} {bl bc bi i : Nat} {C part : List Rect} (hS : St bo O h bl bc bi C part i) : bc < h.length := by
 obtain ⟨pv, q, _⟩ := hS.part
 exact lt_of_get q
theorem St.trim {h : Heap} {bl bc bi i : Nat} {C part : List Rect} (hS : St bo O h bl bc bi C part i) (n : Nat) (vs : List Value) (q1 : bl < n) (q2 : bc < n) (q3 : bi < n) (q4 : bo < n) : St bo O (Bm.trim n vs h) bl bc bi C part i := by
 unfold Bm.trim
 split
 ·exact hS
 split
 ·rename_i hl hc
  rw [Bool.and_eq_true] at hc
  have ht : ∀ {b : Nat} {o : AObj}, b < n → h[b]? = some o → (h.take n)[b]? = some o := fun hb ho => by
   rw [List.getElem?_take_of_lt hb]; exact ho
  obtain ⟨h1, h2, ⟨pv, h3, h4⟩, hn, hb, o1, o2⟩ := hS
  refine ⟨ht q1 h1, ht q3 h2, ⟨pv, ht q2 h3, ?_⟩, hn, fun m hm => List.all_eq_true.2 fun o ho => belO_mono (by rw [List.length_take] at hm; omega) (List.all_eq_true.1 hc.2 o ho), ht q4 o1, o2⟩
  rcases h4 with rfl | ⟨bp, rfl, hbp, qq⟩
  ·exact .inl rfl
  ·have hm := List.all_eq_true.1 hc.2 _ (List.mem_of_getElem? (ht q2 h3))
   have hbn : bp < n := by
    unfold cellV belowO at hm
    simp only [List.all_cons, List.all_nil, Bool.and_true] at hm
    exact of_decide_eq_true hm
   exact .inr ⟨bp, rfl, ht hbn hbp, qq⟩
 ·exact hS
theorem trim_ge {n : Nat} {vs : List Value} {h : Heap} (hn : n ≤ h.length) : n ≤ (Bm.trim n vs h).length := by
 unfold Bm.trim
 split
 ·exact hn
 split
 ·rw [List.length_take]; omega
 ·exact hn
def lsl (bl off len cap N : Nat) : Value := .slice (some ⟨bl, off * 4, some (N * 4)⟩) len cap
def clo (bc bi : Nat) : Value := .func (.func 30) ⟨[]⟩ ⟨[ptr bc, ptr bi]⟩
theorem lsl_len {h : Heap} {bl off len cap n : Nat} : lenT .sl h (lsl bl off len cap n) = some (.int .i64 len) := rfl
theorem lsl_index {bl off len cap j : Nat} {C : List Rect} (hj : j < len) : indexAddrT (.sl 39 ⟨some true, some 4⟩) (lsl bl off len cap C.length) (.int .i64 (j : Int)) = some (rectR.at_ bl C (off + j) 0) := by
 unfold lsl
 rw [index_slice, if_pos ⟨by omega, by omega⟩]
 have e : off * 4 + ((j : Int)).toNat * 4 = (off + j) * (rectR.m + 1) + 0 := by
  show off * 4 + j * 4 = (off + j) * 4 + 0
  omega
 unfold Rec.at_
 rw [← e]; rfl
theorem ex_loop {g : CRes → Option (Value × Heap)} {x : CRes} {P : Value × Heap → Prop} (h : ∃ r, x = some r ∧ ∃ v, g (some r) = some v ∧ P v) : ∃ v, g x = some v ∧ P v := by
 obtain ⟨r, rfl, hq⟩ := h
 exact hq
def Found (bo : Nat) (O : AObj) (bl bc bi i : Nat) (C part : List Rect) (p : Rect) (off len : Nat) (v : Value) (h : Heap) : Prop :=
 (v = .int .i64 (-1) ∧ St bo O h bl bc bi C part i ∧ ∀ k, k < len → ∀ hk : off + k < C.length, touchB p C[off + k] = false) ∨
 ∃ j, ∃ hj : off + j < C.length, j < len ∧ v = .int .i64 (j : Int) ∧ St bo O h bl bc bi C (part ++ [C[off + j]]) i ∧ touchB p C[off + j] = true ∧ ∀ k, k < j → ∀ hk : off + k < C.length, touchB p C[off + k] = false
set_option maxHeartbeats 1000000 in
theorem search {h : Heap} {bl bc bi i off len cap : Nat} {C part : List Rect} (hS : St bo O h bl bc bi C part i) (hip : i < part.length) (hl : part.length ≤ 1000000) (hlen : len ≤ 1000000) (hoff : off + len ≤ C.length) (hr : okR part[i] = true) (hC : ∀ k, k < len → ∀ hk : off + k < C.length, okR C[off + k] = true) :
  ∃ r, L E 48 [lsl bl off len cap C.length, clo bc bi] h 0 = some r ∧ Found bo O bl bc bi i C part part[i] off len r.1 r.2 ∧ h.length ≤ r.2.length := by
 rw [L_fn F48 rfl]
 simp -implicitDefEqProofs [r48, p48, lsl_len, -Prod.exists]
 refine ex_loop (g := fun x => retK _ (seqC _ _ _ _ (blkK _ x) _)) (LL_ex (α := Nat × Heap) (0, h) (fun c => [(8, .int .i64 (c.1 : Int))]) (fun c => c.2) _ (fun c => c.1 ≤ len ∧ St bo O c.2 bl bc bi C part i ∧ h.length ≤ c.2.length ∧ ∀ k, k < c.1 → ∀ hk : off + k < C.length, touchB part[i] C[off + k] = false) (fun c => len - c.1) ⟨Nat.zero_le _, hS, Nat.le_refl _, fun k hk => absurd hk (Nat.not_lt_zero k)⟩ ?_ rfl ?_)
 ·simp -implicitDefEqProofs [k48_2]
 ·intro nx c hc ih
  obtain ⟨j, h1⟩ := c
  obtain ⟨g1, g2, g3, g4⟩ := hc
  simp only at g1 g2 g3 g4
  by_cases hj : j < len
  ·have hjC : off + j < C.length := by omega
   have hj' : (j : Int) < (len : Int) := by omega
   have b1 := lt_of_get g2.left
   have b2 : bc < h1.length := g2.clt
   have b3 := lt_of_get g2.icell
   have wj : IntKind.i64.wrap ((j : Int) + 1) = ((j + 1 : Nat) : Int) := (wrap64 (by omega) (by omega)).trans (by omega)
   have ix := lsl_index (bl := bl) (off := off) (cap := cap) (C := C) hj
   have ld := Rec.load_row (R := rectR) (n := 4) (b := bl) (l := C) (i := off + j) rfl g2.left hjC
   obtain ⟨h2, eg, sg, lg, _⟩ := gather C[off + j] g2 hip hl hr (hC j hj hjC)
   simp -implicitDefEqProofs [r48_2, k48_2, lsl_len, hj, hj', ix, ld, clo, ret2 m30, eg, -Prod.exists]
   cases ht : touchB part[i] C[off + j]
   ·rw [ht] at sg
    have e0 : part ++ (if false = true then [C[off + j]] else []) = part := List.append_nil part
    rw [e0] at sg
    have s2 := fun vs => sg.trim h1.length vs b1 b2 b3 (lt_of_get g2.oth.1)
    have l2 := fun vs => trim_ge (vs := vs) lg
    have ih := fun vs => ih (j + 1, Bm.trim h1.length vs h2) (by show len - (j + 1) < len - j; omega) ⟨by show j + 1 ≤ len; omega, s2 vs, Nat.le_trans g3 (l2 vs), fun k hk hk' => by
     by_cases e : k = j
     ·subst e; exact ht
     ·exact g4 k (by simp only at hk; omega) hk'⟩
    simp -implicitDefEqProofs [k48_2, clo, -Prod.exists] at ih
    simp -implicitDefEqProofs [wj, -Prod.exists]
    exact ih _
   ·rw [ht] at sg
    have e0 : part ++ (if true = true then [C[off + j]] else []) = part ++ [C[off + j]] := rfl
    rw [e0] at sg
    have s2 := fun vs => sg.trim h1.length vs b1 b2 b3 (lt_of_get g2.oth.1)
    have l2 := fun vs => trim_ge (vs := vs) lg
    simp -implicitDefEqProofs [-Prod.exists]
    exact ⟨.inr ⟨j, hjC, hj, rfl, s2 _, ht, fun k hk hk' => g4 k hk hk'⟩, Nat.le_trans g3 (l2 _)⟩
  ·simp -implicitDefEqProofs [r48_2, k48_2, lsl_len, hj, show ¬ ((j : Int) < (len : Int)) by omega, trim_le, -Prod.exists]
   exact ⟨.inl ⟨rfl, g2, fun k hk hk' => g4 k (by omega) hk'⟩, g3⟩
end Go.Proofs.Ytadnganaeigchaa.Bm
