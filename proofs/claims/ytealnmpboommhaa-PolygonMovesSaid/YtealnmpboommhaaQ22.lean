/-
  Chapter 07: the statement on what is moved, walked. Conditions: none.
-/
import Derived.Test.YtealnmpboommhaaQ21
namespace Go.Proofs.Ytealnmpboommhaa.Bm
open Go Go.RowKit
open Rg (Rect)

theorem lp1 (h : Heap) : buildSliceT (some ⟨3, 1, 8, .int .i64 0, ⟨some false, some 1⟩⟩) false h 12 #[(0, .int .i64 0), (1, .int .i64 0), (2, .int .i64 3), (3, .int .i64 0), (4, .int .i64 3), (5, .int .i64 1), (6, .int .i64 1), (7, .int .i64 1), (8, .int .i64 1), (9, .int .i64 2), (10, .int .i64 0), (11, .int .i64 2)] = some (lst true [.int .i64 0, .int .i64 0, .int .i64 3, .int .i64 0, .int .i64 3, .int .i64 1, .int .i64 1, .int .i64 1, .int .i64 1, .int .i64 2, .int .i64 0, .int .i64 2], h) :=
  (build_lit' (n := 12) (l := [(0, .int .i64 0), (1, .int .i64 0), (2, .int .i64 3), (3, .int .i64 0), (4, .int .i64 3), (5, .int .i64 1), (6, .int .i64 1), (7, .int .i64 1), (8, .int .i64 1), (9, .int .i64 2), (10, .int .i64 0), (11, .int .i64 2)]) rfl rfl (by decide) (by decide) (by decide)).trans rfl
set_option maxRecDepth 100000 in
theorem xp1 : pureCall E.P (L E) 21 [lst true [.int .i64 0, .int .i64 0, .int .i64 3, .int .i64 0, .int .i64 3, .int .i64 1, .int .i64 1, .int .i64 1, .int .i64 1, .int .i64 2, .int .i64 0, .int .i64 2]] = some (lst false (spanR.vals [(0, 0), (3, 0), (3, 1), (1, 1), (1, 2), (0, 2)])) := pureCall_le (evF_L 60) (by kernel_rfl)
theorem lp2 (h : Heap) : buildSliceT (some ⟨3, 1, 8, .int .i64 0, ⟨some false, some 1⟩⟩) false h 8 #[(0, .int .i64 0), (1, .int .i64 0), (2, .int .i64 0), (3, .int .i64 2), (4, .int .i64 1), (5, .int .i64 2), (6, .int .i64 1), (7, .int .i64 0)] = some (lst true [.int .i64 0, .int .i64 0, .int .i64 0, .int .i64 2, .int .i64 1, .int .i64 2, .int .i64 1, .int .i64 0], h) :=
  (build_lit' (n := 8) (l := [(0, .int .i64 0), (1, .int .i64 0), (2, .int .i64 0), (3, .int .i64 2), (4, .int .i64 1), (5, .int .i64 2), (6, .int .i64 1), (7, .int .i64 0)]) rfl rfl (by decide) (by decide) (by decide)).trans rfl
set_option maxRecDepth 100000 in
theorem xp2 : pureCall E.P (L E) 21 [lst true [.int .i64 0, .int .i64 0, .int .i64 0, .int .i64 2, .int .i64 1, .int .i64 2, .int .i64 1, .int .i64 0]] = some (lst false (spanR.vals [(0, 0), (0, 2), (1, 2), (1, 0)])) := pureCall_le (evF_L 60) (by kernel_rfl)
theorem lp3 (h : Heap) : buildSliceT (some ⟨3, 1, 8, .int .i64 0, ⟨some false, some 1⟩⟩) false h 8 #[(0, .int .i64 0), (1, .int .i64 0), (2, .int .i64 3), (3, .int .i64 0), (4, .int .i64 3), (5, .int .i64 3), (6, .int .i64 0), (7, .int .i64 3)] = some (lst true [.int .i64 0, .int .i64 0, .int .i64 3, .int .i64 0, .int .i64 3, .int .i64 3, .int .i64 0, .int .i64 3], h) :=
  (build_lit' (n := 8) (l := [(0, .int .i64 0), (1, .int .i64 0), (2, .int .i64 3), (3, .int .i64 0), (4, .int .i64 3), (5, .int .i64 3), (6, .int .i64 0), (7, .int .i64 3)]) rfl rfl (by decide) (by decide) (by decide)).trans rfl
set_option maxRecDepth 100000 in
theorem xp3 : pureCall E.P (L E) 21 [lst true [.int .i64 0, .int .i64 0, .int .i64 3, .int .i64 0, .int .i64 3, .int .i64 3, .int .i64 0, .int .i64 3]] = some (lst false (spanR.vals [(0, 0), (3, 0), (3, 3), (0, 3)])) := pureCall_le (evF_L 60) (by kernel_rfl)
theorem lp4 (h : Heap) : buildSliceT (some ⟨3, 1, 8, .int .i64 0, ⟨some false, some 1⟩⟩) false h 8 #[(0, .int .i64 1), (1, .int .i64 1), (2, .int .i64 1), (3, .int .i64 2), (4, .int .i64 2), (5, .int .i64 2), (6, .int .i64 2), (7, .int .i64 1)] = some (lst true [.int .i64 1, .int .i64 1, .int .i64 1, .int .i64 2, .int .i64 2, .int .i64 2, .int .i64 2, .int .i64 1], h) :=
  (build_lit' (n := 8) (l := [(0, .int .i64 1), (1, .int .i64 1), (2, .int .i64 1), (3, .int .i64 2), (4, .int .i64 2), (5, .int .i64 2), (6, .int .i64 2), (7, .int .i64 1)]) rfl rfl (by decide) (by decide) (by decide)).trans rfl
set_option maxRecDepth 100000 in
theorem xp4 : pureCall E.P (L E) 21 [lst true [.int .i64 1, .int .i64 1, .int .i64 1, .int .i64 2, .int .i64 2, .int .i64 2, .int .i64 2, .int .i64 1]] = some (lst false (spanR.vals [(1, 1), (1, 2), (2, 2), (2, 1)])) := pureCall_le (evF_L 60) (by kernel_rfl)
theorem lp5 (h : Heap) : buildSliceT (some ⟨3, 1, 8, .int .i64 0, ⟨some false, some 1⟩⟩) false h 8 #[(0, .int .i64 0), (1, .int .i64 0), (2, .int .i64 1), (3, .int .i64 0), (4, .int .i64 1), (5, .int .i64 1), (6, .int .i64 0), (7, .int .i64 1)] = some (lst true [.int .i64 0, .int .i64 0, .int .i64 1, .int .i64 0, .int .i64 1, .int .i64 1, .int .i64 0, .int .i64 1], h) :=
  (build_lit' (n := 8) (l := [(0, .int .i64 0), (1, .int .i64 0), (2, .int .i64 1), (3, .int .i64 0), (4, .int .i64 1), (5, .int .i64 1), (6, .int .i64 0), (7, .int .i64 1)]) rfl rfl (by decide) (by decide) (by decide)).trans rfl
set_option maxRecDepth 100000 in
theorem xp5 : pureCall E.P (L E) 21 [lst true [.int .i64 0, .int .i64 0, .int .i64 1, .int .i64 0, .int .i64 1, .int .i64 1, .int .i64 0, .int .i64 1]] = some (lst false (spanR.vals [(0, 0), (1, 0), (1, 1), (0, 1)])) := pureCall_le (evF_L 60) (by kernel_rfl)
theorem lp6 (h : Heap) : buildSliceT (some ⟨3, 1, 8, .int .i64 0, ⟨some false, some 1⟩⟩) false h 8 #[(0, .int .i64 1), (1, .int .i64 1), (2, .int .i64 2), (3, .int .i64 1), (4, .int .i64 2), (5, .int .i64 2), (6, .int .i64 1), (7, .int .i64 2)] = some (lst true [.int .i64 1, .int .i64 1, .int .i64 2, .int .i64 1, .int .i64 2, .int .i64 2, .int .i64 1, .int .i64 2], h) :=
  (build_lit' (n := 8) (l := [(0, .int .i64 1), (1, .int .i64 1), (2, .int .i64 2), (3, .int .i64 1), (4, .int .i64 2), (5, .int .i64 2), (6, .int .i64 1), (7, .int .i64 2)]) rfl rfl (by decide) (by decide) (by decide)).trans rfl
set_option maxRecDepth 100000 in
theorem xp6 : pureCall E.P (L E) 21 [lst true [.int .i64 1, .int .i64 1, .int .i64 2, .int .i64 1, .int .i64 2, .int .i64 2, .int .i64 1, .int .i64 2]] = some (lst false (spanR.vals [(1, 1), (2, 1), (2, 2), (1, 2)])) := pureCall_le (evF_L 60) (by kernel_rfl)
theorem lr1 (h : Heap) : buildSliceT (some ⟨48, 4, 32, .agg ⟨[.int .i64 0, .int .i64 0, .int .i64 0, .int .i64 0]⟩, ⟨some true, some 4⟩⟩) false h 4 #[(0, .agg ⟨[.int .i64 0, .int .i64 0, .int .i64 1, .int .i64 3]⟩), (1, .agg ⟨[.int .i64 1, .int .i64 0, .int .i64 2, .int .i64 1]⟩), (2, .agg ⟨[.int .i64 1, .int .i64 2, .int .i64 2, .int .i64 3]⟩), (3, .agg ⟨[.int .i64 2, .int .i64 0, .int .i64 3, .int .i64 3]⟩)] = some (lst true (rectR.vals [⟨0, 0, 1, 3⟩, ⟨1, 0, 2, 1⟩, ⟨1, 2, 2, 3⟩, ⟨2, 0, 3, 3⟩]), h) :=
  (build_lit' (n := 4) (l := [(0, .agg ⟨[.int .i64 0, .int .i64 0, .int .i64 1, .int .i64 3]⟩), (1, .agg ⟨[.int .i64 1, .int .i64 0, .int .i64 2, .int .i64 1]⟩), (2, .agg ⟨[.int .i64 1, .int .i64 2, .int .i64 2, .int .i64 3]⟩), (3, .agg ⟨[.int .i64 2, .int .i64 0, .int .i64 3, .int .i64 3]⟩)]) rfl rfl (by decide) (by decide) (by decide)).trans rfl
theorem lr2 (h : Heap) : buildSliceT (some ⟨48, 4, 32, .agg ⟨[.int .i64 0, .int .i64 0, .int .i64 0, .int .i64 0]⟩, ⟨some true, some 4⟩⟩) false h 2 #[(0, .agg ⟨[.int .i64 0, .int .i64 0, .int .i64 1, .int .i64 1]⟩), (1, .agg ⟨[.int .i64 1, .int .i64 1, .int .i64 2, .int .i64 2]⟩)] = some (lst true (rectR.vals [⟨0, 0, 1, 1⟩, ⟨1, 1, 2, 2⟩]), h) :=
  (build_lit' (n := 2) (l := [(0, .agg ⟨[.int .i64 0, .int .i64 0, .int .i64 1, .int .i64 1]⟩), (1, .agg ⟨[.int .i64 1, .int .i64 1, .int .i64 2, .int .i64 2]⟩)]) rfl rfl (by decide) (by decide) (by decide)).trans rfl
theorem lr3 (h : Heap) : buildSliceT (some ⟨48, 4, 32, .agg ⟨[.int .i64 0, .int .i64 0, .int .i64 0, .int .i64 0]⟩, ⟨some true, some 4⟩⟩) false h 2 #[(0, .agg ⟨[.int .i64 0, .int .i64 0, .int .i64 1, .int .i64 2]⟩), (1, .agg ⟨[.int .i64 1, .int .i64 0, .int .i64 3, .int .i64 1]⟩)] = some (lst true (rectR.vals [⟨0, 0, 1, 2⟩, ⟨1, 0, 3, 1⟩]), h) :=
  (build_lit' (n := 2) (l := [(0, .agg ⟨[.int .i64 0, .int .i64 0, .int .i64 1, .int .i64 2]⟩), (1, .agg ⟨[.int .i64 1, .int .i64 0, .int .i64 3, .int .i64 1]⟩)]) rfl rfl (by decide) (by decide) (by decide)).trans rfl
set_option maxRecDepth 100000 in
theorem xs3 : pureCall E.P (L E) 19 [lst false (spanR.vals [(0, 0), (3, 0), (3, 3), (0, 3)]), lst false (spanR.vals [(0, 0), (3, 0), (3, 3), (0, 3)])] = some (.bool true) := pureCall_le (evF_L 60) (by kernel_rfl)
set_option maxRecDepth 100000 in
theorem xs4 : pureCall E.P (L E) 19 [lst false (spanR.vals [(1, 1), (1, 2), (2, 2), (2, 1)]), lst false (spanR.vals [(1, 1), (1, 2), (2, 2), (2, 1)])] = some (.bool true) := pureCall_le (evF_L 60) (by kernel_rfl)
set_option maxRecDepth 100000 in
theorem xs5 : pureCall E.P (L E) 19 [lst false (spanR.vals [(0, 0), (1, 0), (1, 1), (0, 1)]), lst false (spanR.vals [(0, 0), (1, 0), (1, 1), (0, 1)])] = some (.bool true) := pureCall_le (evF_L 60) (by kernel_rfl)
set_option maxRecDepth 100000 in
theorem xs6 : pureCall E.P (L E) 19 [lst false (spanR.vals [(1, 1), (2, 1), (2, 2), (1, 2)]), lst false (spanR.vals [(1, 1), (2, 1), (2, 2), (1, 2)])] = some (.bool true) := pureCall_le (evF_L 60) (by kernel_rfl)
theorem xr1 : polyX [(0, 0), (3, 0), (3, 1), (1, 1), (1, 2), (0, 2)] = .ok [⟨0, 0, 1, 2⟩, ⟨1, 0, 3, 1⟩] := by kernel_rfl
theorem xr2 : polyX [(0, 0), (0, 2), (1, 2), (1, 0)] = .error 10 := by kernel_rfl
theorem xa1 : areaP [(0, 0), (3, 0), (3, 1), (1, 1), (1, 2), (0, 2)] = 4 := by kernel_rfl
theorem xg1 : Rg.rightP [(0, 0), (3, 0), (3, 1), (1, 1), (1, 2), (0, 2)] = true := by kernel_rfl
theorem ix_two (A B : Value) (hA : cellsL A = [A]) (hB : cellsL B = [B]) (fA : fitsTT ⟨some false, some 1⟩ A = true) (fB : fitsTT ⟨some false, some 1⟩ B = true) : indexAddrT (.sl 22 ⟨some false, some 1⟩) (lst false [A, B]) (.int .i64 0) = some (cptr A) ∧ indexAddrT (.sl 22 ⟨some false, some 1⟩) (lst false [A, B]) (.int .i64 1) = some (cptr B) := by
  constructor
  · rw [index_lst]; simp [hA, fA]
  · rw [index_lst]; simp [hB, fB]
theorem small_spec : pureCall E.P (L E) 7 [] = some (.bool true) := by
  have g1 := pregion_spec false [(0, 0), (3, 0), (3, 1), (1, 1), (1, 2), (0, 2)] (by decide)
  have g2 := pregion_spec false [(0, 0), (0, 2), (1, 2), (1, 0)] (by decide)
  have a1 := parea_spec false [(0, 0), (3, 0), (3, 1), (1, 1), (1, 2), (0, 2)] (by decide)
  have r1 := pright_spec false [(0, 0), (3, 0), (3, 1), (1, 1), (1, 2), (0, 2)] (by decide)
  rw [xr1] at g1
  rw [xr2] at g2
  rw [xa1] at a1
  rw [xg1] at r1
  have c1 := same_rects (some false) (some true) [⟨0, 0, 1, 2⟩, ⟨1, 0, 3, 1⟩] [⟨0, 0, 1, 2⟩, ⟨1, 0, 3, 1⟩] Rec.ok_some Rec.ok_some (by decide)
  rw [decide_eq_true rfl] at c1
  simp only [resL, Rec.o] at g1 g2 c1
  have so : ∀ b l, settled depth (lst b l) = true := fun _ _ => rfl
  have rp : ∀ h b l, reify E.P 8 h (lst b (spanR.vals l)) = some (lst b (spanR.vals l)) := fun _ _ _ => rfl
  have rr : ∀ h b l, reify E.P 8 h (lst b (rectR.vals l)) = some (lst b (rectR.vals l)) := fun _ _ _ => rfl
  obtain ⟨i1, i2⟩ := ix_two (lst false (spanR.vals [(0, 0), (3, 0), (3, 3), (0, 3)])) (lst false (spanR.vals [(1, 1), (1, 2), (2, 2), (2, 1)])) rfl rfl rfl rfl
  obtain ⟨i3, i4⟩ := ix_two (lst false (spanR.vals [(0, 0), (1, 0), (1, 1), (0, 1)])) (lst false (spanR.vals [(1, 1), (2, 1), (2, 2), (1, 2)])) rfl rfl rfl rfl
  have l1 := xo1
  have l2 := xo2
  have q1 := xp1
  have q2 := xp2
  have q3 := xp3
  have q4 := xp4
  have q5 := xp5
  have q6 := xp6
  have s3 := xs3
  have s4 := xs4
  have s5 := xs5
  have s6 := xs6
  rw [pureCall_fn F7 rfl]
  simp -implicitDefEqProofs [r7, p7, lp1, lp2, lp3, lp4, lp5, lp6, so, ret1 m21, q1, q2, q3, q4, q5, q6, ret1 m8, g1, g2, b4_all, lr1, lr2, lr3, ret1 m16, l1, l2, ret0 m14, rr, c1, ret0 m13, rp, a1, ret0 m9, r1, i1, i2, i3, i4, ret0 m19, s3, s4, s5, s6]
end Go.Proofs.Ytealnmpboommhaa.Bm

namespace Go.Proofs.Ytealnmpboommhaa.Bm
open Go Go.RowKit
open Rg (Rect Pt sidesP rightP polyL polyS vB)

def kR : Except Int (List Rect) → Option Bool
  | .error _ => none
  | .ok _ => some false
def lR : Except Int (List Rect) → List Rect
  | .error _ => []
  | .ok l => l
def eR : Except Int (List Rect) → Int
  | .error e => e
  | .ok _ => 0
theorem resL_eq (r : Except Int (List Rect)) : resL r = .tuple ⟨[rectR.o (kR r) (lR r), .int .i64 (eR r)]⟩ := by cases r <;> rfl
theorem poly_reg {p : List Pt} (h : rightP p = true) (hl : (polyL p).length ≤ 200) : regB (polyL p) = true := by
  have hp := Rg.rightP_poly h
  obtain ⟨hf, hc⟩ := hp.form
  exact regB_iff.2 ⟨List.all_eq_true.2 fun r hr => okR_iff.2 (hf.box (fun x y hxy => hp.inGrid (by rw [← hc]; exact hxy)) r hr), hl, hf⟩
theorem pregion_o (x : Bool) (p : List Pt) (hp : p.length ≤ 1000000) : pureCall E.P (L E) 8 [lst x (spanR.vals p)] = some (.tuple ⟨[rectR.o (kR (polyX p)) (lR (polyX p)), .int .i64 (eR (polyX p))]⟩) := by
  rw [← resL_eq]; exact pregion_spec x p hp
def cntV (x y : Int) (l : List (Pt × Pt)) : Nat := (l.filter (vB x y)).length
set_option maxHeartbeats 2000000 in
theorem cells_spec (p : List Pt) (x y : Int) : ∃ h', L E 3 [lst false (spanR.vals p), .int .i64 x, .int .i64 y] [] 0 = some (.bool true, h') := by
  refine ⟨[], ?_⟩
  have sm := small_spec
  have ln : ∀ h, lenT .sl h (lst false (spanR.vals p)) = some (.int .i64 p.length) := fun h => Rec.tree_len
  have rf : ∀ h, reify E.P 8 h (lst false (spanR.vals p)) = some (lst false (spanR.vals p)) := fun _ => rfl
  have sv0 : settled depth (lst false (spanR.vals p)) = true := rfl
  have bP : ∀ d n, below (d + 1) n (lst false (spanR.vals p)) = true := fun d n => rfl
  have pix := fun j hj => pt_index false p j hj
  have hR : p.length ≤ 1000000 → _ := pright_spec false p
  have hG : p.length ≤ 1000000 → _ := pregion_o false p
  generalize hPV : lst false (spanR.vals p) = PV at *
  rw [L_fn F3 rfl]
  by_cases h60 : 60 < p.length
  · have h60' : 60 < (p.length : Int) := by omega
    simp -implicitDefEqProofs [r3, p3, ret0 m7, sm, ln, h60, h60']
  have h60' : ¬ (60 < (p.length : Int)) := by omega
  have hR := hR (by omega)
  have hG := hG (by omega)
  cases hr : rightP p
  · have eX : polyX p = .error 10 := by unfold polyX; rw [hr]; rfl
    rw [hr] at hR
    rw [eX] at hG
    simp -implicitDefEqProofs [r3, p3, ret0 m7, sm, ln, h60, h60', ret1 m8, sv0, hG, kR, lR, eR, Rec.o, ret0 m9, rf, hR]
  rw [hr] at hR
  by_cases h200 : 200 < (polyL p).length
  · have eX : polyX p = .error 6 := by unfold polyX; rw [hr, if_pos rfl, if_pos h200]
    have h20 : 20 < p.length := by
      have h1 := Rg.polyL_len p
      by_cases q : p.length ≤ 20
      · have h2 : (p.length - 1) * (p.length / 2) ≤ 19 * 10 := Nat.mul_le_mul (by omega) (by omega)
        omega
      · omega
    have h20' : 20 < (p.length : Int) := by omega
    rw [eX] at hG
    simp -implicitDefEqProofs [r3, p3, ret0 m7, sm, ln, h60, h60', ret1 m8, sv0, hG, kR, lR, eR, Rec.o, ret0 m9, rf, hR, h20, h20']
  have eX : polyX p = .ok (polyL p) := by unfold polyX; rw [hr, if_pos rfl, if_neg h200]
  rw [eX] at hG
  simp only [kR, lR, eR] at hG
  have hreg := poly_reg hr (by omega)
  have hpo := Rg.rightP_poly hr
  have pr := right2_spec (some false) (polyL p) Rec.ok_some (by omega)
  have ph := has2_spec (some false) (polyL p) x y Rec.ok_some (by omega)
  rw [hreg] at pr ph
  rw [Bool.true_and, hpo.form.2, hpo.upright, Rg.par_len] at ph
  have hcl : ((sidesP p).filter (vB x y)).length ≤ p.length := by
    have := List.length_filter_le (vB x y) (sidesP p)
    rw [Rg.sides_len] at this; exact this
  have hsl := Rg.sides_len p
  simp -implicitDefEqProofs [r3, p3, ret0 m7, sm, ln, h60, h60', ret1 m8, sv0, hG, ret0 m9, rf, hR]
  rw [LL_for (γ := Nat) (sidesP p) 0 (fun i c => [(10, .int .i64 (c : Int)), (11, .int .i64 i)]) (fun _ _ => []) (fun _ rest c => (.exit 0, [(10, .int .i64 ((c + cntV x y rest : Nat) : Int)), (11, undef)], [])) (fun i c => c ≤ i) (by omega) (Nat.le_refl _)]
  · rw [Nat.zero_add]
    have e : cntV x y (sidesP p) = ((sidesP p).filter (vB x y)).length := rfl
    rw [e]
    generalize ((sidesP p).filter (vB x y)).length = n at *
    have rm := rem_nat (P := E.P) (t := 3) (m := n) (n := 2) (by omega)
    by_cases h1 : n % 2 = 1
    · rw [decide_eq_true h1] at ph
      rw [h1] at rm
      have rm' : aBin E.P .rem 3 (.int .i64 (n : Int)) (.int .i64 2) = some (.int .i64 1) := rm
      simp -implicitDefEqProofs [k3_11, ret0 m10, Rec.o_reify, pr, ret0 m11, ph, rm', beq]
    · rw [decide_eq_false h1] at ph
      rw [show n % 2 = 0 by omega] at rm
      have rm' : aBin E.P .rem 3 (.int .i64 (n : Int)) (.int .i64 2) = some (.int .i64 0) := rm
      simp -implicitDefEqProofs [k3_11, ret0 m10, Rec.o_reify, pr, ret0 m11, ph, rm', beq]
  · simp -implicitDefEqProofs [k3_11]
  · rfl
  · intro nx i c hi _
    simp -implicitDefEqProofs [r3_11, k3_11, hi, hsl, ln, trim_le, cntV]
  · intro nx i s rest c hi hv hd hw hc ih
    have hip : i < p.length := by omega
    have hip' : (i : Int) < (p.length : Int) := by omega
    have hm : (i + 1) % p.length < p.length := Nat.mod_lt _ (by omega)
    have es := Rg.sides_get hip
    rw [hv] at es
    have e1 : p.getD i (0, 0) = s.1 := by rw [es, List.getD_eq_getElem?_getD, List.getElem?_eq_getElem hip]; rfl
    have e2 : p.getD ((i + 1) % p.length) (0, 0) = s.2 := by rw [es, List.getD_eq_getElem?_getD, List.getElem?_eq_getElem hm]; rfl
    have i1 := pix i hip
    have i2 := pix _ hm
    rw [e1, span_val] at i1
    rw [e2, span_val] at i2
    have wi : IntKind.i64.wrap ((i : Int) + 1) = ((i + 1 : Nat) : Int) := (wrap64 (by omega) (by omega)).trans (by omega)
    have wc : IntKind.i64.wrap ((c : Int) + 1) = ((c + 1 : Nat) : Int) := (wrap64 (by omega) (by omega)).trans (by omega)
    have rm := rem_nat (P := E.P) (t := 3) (m := i + 1) (n := p.length) (by omega)
    clear es e1 e2 hm
    generalize (i + 1) % p.length = j at i2 rm
    have ec : ∀ q : Bool, vB x y s = q → cntV x y (s :: rest) = (if q then 1 else 0) + cntV x y rest := fun q hq => by
      unfold cntV
      cases q
      · rw [List.filter_cons_of_neg (by rw [hq]; decide)]; simp
      · rw [List.filter_cons_of_pos hq, List.length_cons]; simp; omega
    obtain ⟨⟨a, b⟩, u, v⟩ := s
    simp only at i1 i2
    have ihc := ih c (by omega)
    have ihs := ih (c + 1) (by omega)
    have ew : ∀ q : Bool, vB x y ((a, b), u, v) = q → (decide (a = u) && decide (u ≤ x) && decide (min b v ≤ y) && decide (y < max b v)) = q := fun q h => h
    simp -implicitDefEqProofs [k3_11, -Int.natCast_add] at ihc ihs
    by_cases q1 : a = u
    case neg =>
      rw [ec false (by unfold vB; rw [decide_eq_false (show ¬ ((a, b), u, v).1.1 = ((a, b), u, v).2.1 from q1)]; rfl)]
      simp -implicitDefEqProofs [r3_11, k3_11, hip, hip', ln, i1, i2, wi, rm, min_int, max_int, trim_cut, bP, Rec.o_bel, -Int.natCast_add, q1]
      exact ihc
    subst q1
    by_cases q2 : a ≤ x
    case neg =>
      rw [ec false (by unfold vB; simp [q2])]
      simp -implicitDefEqProofs [r3_11, k3_11, hip, hip', ln, i1, i2, wi, rm, min_int, max_int, trim_cut, bP, Rec.o_bel, -Int.natCast_add, q2]
      exact ihc
    by_cases q3 : min b v ≤ y
    case neg =>
      rw [ec false (by unfold vB; simp only; rw [decide_eq_false q3, Bool.and_false, Bool.false_and])]
      simp -implicitDefEqProofs [r3_11, k3_11, hip, hip', ln, i1, i2, wi, rm, min_int, max_int, trim_cut, bP, Rec.o_bel, -Int.natCast_add, q2, q3]
      exact ihc
    by_cases q4 : y < max b v
    case neg =>
      rw [ec false (by unfold vB; simp only; rw [decide_eq_false q4, Bool.and_false])]
      simp -implicitDefEqProofs [r3_11, k3_11, hip, hip', ln, i1, i2, wi, rm, min_int, max_int, trim_cut, bP, Rec.o_bel, -Int.natCast_add, q2, q3, q4]
      exact ihc
    rw [ec true (by unfold vB; simp only; rw [decide_eq_true q2, decide_eq_true q3, decide_eq_true q4]; rfl), if_pos rfl, ← Nat.add_assoc]
    simp -implicitDefEqProofs [r3_11, k3_11, hip, hip', ln, i1, i2, wi, rm, min_int, max_int, trim_cut, bP, Rec.o_bel, -Int.natCast_add, q2, q3, q4, wc]
    exact ihs
end Go.Proofs.Ytealnmpboommhaa.Bm

namespace Go.Proofs.Ytealnmpboommhaa.Bm
open Go Go.RowKit
open Rg (Rect Pt sidesP rightP polyL mv shR onB)

/-- The points while they are moved, up to one that is not on the grid. -/
def stopM (dx dy : Int) : List Pt → Bool × List Pt → Bool × Bool × List Pt
  | [], c => (true, c)
  | v :: l, c => if onB v then stopM dx dy l (c.1 && onB (mv dx dy v), c.2 ++ [mv dx dy v]) else (false, c)
theorem stopM_eq (dx dy : Int) : ∀ (l : List Pt) (c : Bool × List Pt), (stopM dx dy l c).1 = l.all onB ∧ ((stopM dx dy l c).1 = true → (stopM dx dy l c).2 = (c.1 && (l.map (mv dx dy)).all onB, c.2 ++ l.map (mv dx dy)))
  | [], c => ⟨rfl, fun _ => by show c = (c.1 && true, c.2 ++ []); rw [Bool.and_true, List.append_nil]⟩
  | v :: l, c => by
    have e : (v :: l).all onB = (onB v && l.all onB) := rfl
    rw [e]
    unfold stopM
    cases h : onB v
    · exact ⟨rfl, fun h => by cases h⟩
    · obtain ⟨h1, h2⟩ := stopM_eq dx dy l (c.1 && onB (mv dx dy v), c.2 ++ [mv dx dy v])
      rw [if_pos rfl]
      refine ⟨by rw [h1]; rfl, fun h => ?_⟩
      rw [h2 h]
      show ((c.1 && onB (mv dx dy v)) && (l.map (mv dx dy)).all onB, c.2 ++ [mv dx dy v] ++ l.map (mv dx dy)) = (c.1 && (onB (mv dx dy v) && (l.map (mv dx dy)).all onB), c.2 ++ (mv dx dy v :: l.map (mv dx dy)))
      rw [Bool.and_assoc, List.append_assoc]; rfl
def stopN (s : Bool × Bool × List Pt) : Exit × List (Nat × Value) × Heap := if s.1 then (.exit 0, [(8, .bool s.2.1), (9, spanR.sl 0 s.2.2), (10, undef)], [spanR.row 30 s.2.2]) else (.ret, [(6, .bool true), (8, .bool s.2.1), (9, spanR.sl 0 s.2.2), (10, undef)], [spanR.row 30 s.2.2])
theorem set_o (k : Option Bool) (a : List Rect) : settled depth (rectR.o k a) = true := Rec.o_set
theorem lit_pt (h : Heap) (a b : Int) : buildSliceT (some ⟨30, 2, 16, .agg ⟨[.int .i64 0, .int .i64 0]⟩, ⟨some true, some 2⟩⟩) false h 1 #[(0, .agg ⟨[.int .i64 a, .int .i64 b]⟩)] = some (lst true [.agg ⟨[.int .i64 a, .int .i64 b]⟩], h) :=
  (build_lit' (n := 1) (l := [(0, .agg ⟨[.int .i64 a, .int .i64 b]⟩)]) rfl rfl (by decide) (by decide) (by decide)).trans rfl
theorem app_pt {h : Heap} {b lo : Nat} {c : List Pt} (v : Pt) (hob : h[b]? = some (spanR.row 30 c)) (hlo : lo ≤ b) (hc : c.length ≤ 1000000) :
    appendT (some ⟨30, 2, 16, .agg ⟨[.int .i64 0, .int .i64 0]⟩, ⟨some true, some 2⟩⟩) h lo false (spanR.sl b c) (lst true [.agg ⟨[.int .i64 v.1, .int .i64 v.2]⟩]) = some (spanR.sl b (c ++ [v]), h.set b (spanR.row 30 (c ++ [v]))) :=
  Rec.app (R := spanR) (m := [v]) rfl hob (Rec.cells_tree (R := spanR) rfl [v]) hlo (by show (c.length + 1) * 16 ≤ 2 ^ 47; omega)
theorem shift_ok {a : List Rect} {dx dy : Int} (hr : regB a = true) (h1 : -1048576 ≤ dx ∧ dx ≤ 1048576) (h2 : -1048576 ≤ dy ∧ dy ≤ 1048576) (hs : regB (shiftL dx dy a) = true) : shiftX a dx dy = .ok (shiftL dx dy a) := by
  unfold shiftX
  rw [if_pos hr, if_neg (by omega), if_pos (regB_iff.1 hs).1]
set_option maxHeartbeats 2000000 in
theorem moves_spec (p : List Pt) (dx dy : Int) : ∃ h', L E 4 [lst false (spanR.vals p), .int .i64 dx, .int .i64 dy] [] 0 = some (.bool true, h') := by
  have sm := small_spec
  have ln : ∀ h, lenT .sl h (lst false (spanR.vals p)) = some (.int .i64 p.length) := fun h => Rec.tree_len
  have rf : ∀ h, reify E.P 8 h (lst false (spanR.vals p)) = some (lst false (spanR.vals p)) := fun _ => rfl
  have sv0 : settled depth (lst false (spanR.vals p)) = true := rfl
  have bP : ∀ d n, below (d + 1) n (lst false (spanR.vals p)) = true := fun d n => rfl
  have pix : ∀ (j : Nat) (hj : j < p.length), indexAddrT (.sl 30 ⟨some true, some 2⟩) (lst false (spanR.vals p)) (.int .i64 (j : Int)) = some (cptr (spanR.val p[j])) := fun j hj => Rec.index_tree rfl hj
  have hR : p.length ≤ 1000000 → _ := pright_spec false p
  have hG : p.length ≤ 1000000 → _ := pregion_o false p
  have hA : p.length ≤ 1000000 → _ := parea_spec false p
  generalize hPV : lst false (spanR.vals p) = PV at *
  rw [L_fn F4 rfl]
  by_cases h60 : 60 < p.length
  · have h60' : 60 < (p.length : Int) := by omega
    exact ⟨[], by simp -implicitDefEqProofs [r4, p4, ret0 m7, sm, ln, h60, h60']⟩
  have h60' : ¬ (60 < (p.length : Int)) := by omega
  by_cases d1 : dx < -1048576
  · exact ⟨[], by simp -implicitDefEqProofs [r4, p4, ret0 m7, sm, ln, h60, h60', d1]⟩
  by_cases d2 : 1048576 < dx
  · exact ⟨[], by simp -implicitDefEqProofs [r4, p4, ret0 m7, sm, ln, h60, h60', d1, d2]⟩
  by_cases d3 : dy < -1048576
  · exact ⟨[], by simp -implicitDefEqProofs [r4, p4, ret0 m7, sm, ln, h60, h60', d1, d2, d3]⟩
  by_cases d4 : 1048576 < dy
  · exact ⟨[], by simp -implicitDefEqProofs [r4, p4, ret0 m7, sm, ln, h60, h60', d1, d2, d3, d4]⟩
  have hR := hR (by omega)
  have hG := hG (by omega)
  have hA := hA (by omega)
  simp -implicitDefEqProofs [r4, p4, ret0 m7, sm, ln, h60, h60', d1, d2, d3, d4, prep_new, newK_nil sP]
  rw [LL_for (γ := Bool × List Pt) p (true, []) (fun i c => [(8, .bool c.1), (9, spanR.sl 0 c.2), (10, .int .i64 i)]) (fun _ c => [spanR.row 30 c.2]) (fun _ rest c => stopN (stopM dx dy rest c)) (fun i c => c.2.length = i) (by omega) rfl]
  · obtain ⟨q1, q2⟩ := stopM_eq dx dy p (true, [])
    cases hs : stopM dx dy p (true, []) with
    | mk z w =>
    obtain ⟨b, c⟩ := w
    rw [hs] at q1 q2
    simp only at q1 q2
    cases z
    · exact ⟨[spanR.row 30 c], by simp -implicitDefEqProofs [k4_7, stopN]⟩
    have q2 := q2 rfl
    simp only [Bool.true_and, List.nil_append, Prod.mk.injEq] at q2
    obtain ⟨eb, ec⟩ := q2
    have hon : p.all onB = true := q1.symm
    have key := Rg.right_mv (dx := dx) (dy := dy) hon
    have hmL := Rg.polyL_mv dx dy p
    have hsh := Rg.shoe_mv dx dy p
    have hql : (p.map (mv dx dy)).length = p.length := List.length_map _
    rw [← eb, ← ec] at key
    rw [← ec] at hmL hsh hql
    have fz := Rec.freeze_row (R := spanR) (P := E.P) (h := [spanR.row 30 c]) (lo := 0) (b := 0) (t := 30) (l := c) rfl sP aP (Nat.le_refl _)
    generalize (if c.length = 0 then _ else _) = fh at fz
    have cR := pright_spec false c (by omega)
    have cG := pregion_o false c (by omega)
    have cA := parea_spec false c (by omega)
    have crf : ∀ h, reify E.P 8 h (lst false (spanR.vals c)) = some (lst false (spanR.vals c)) := fun _ => rfl
    have csv : settled depth (lst false (spanR.vals c)) = true := rfl
    generalize lst false (spanR.vals c) = CV at *
    rw [key] at cR
    cases hp : (rightP p && b)
    · rw [hp] at cR key
      cases hrp : rightP p
      · rw [hrp] at hR
        exact ⟨fh, by simp -implicitDefEqProofs [k4_7, stopN, prep_frz, fz, ret0 m9, rf, hR, crf, cR, bne]⟩
      · rw [hrp] at hR hp
        rw [Bool.true_and] at hp
        subst hp
        exact ⟨fh, by simp -implicitDefEqProofs [k4_7, stopN, prep_frz, fz, ret0 m9, rf, hR, crf, cR, bne]⟩
    rw [hp] at cR key
    rw [Bool.and_eq_true] at hp
    obtain ⟨hrp, hbt⟩ := hp
    clear eb
    subst hbt
    rw [hrp] at hR
    have eA : areaP c = areaP p := by unfold areaP; rw [key, hrp, hsh]
    rw [eA] at cA
    have hll : (polyL c).length = (polyL p).length := by rw [hmL, List.length_map]
    by_cases h200 : 200 < (polyL p).length
    · have e1 : polyX p = .error 6 := by unfold polyX; rw [hrp, if_pos rfl, if_pos h200]
      have e2 : polyX c = .error 6 := by unfold polyX; rw [key, if_pos rfl, if_pos (by omega)]
      rw [e1] at hG
      rw [e2] at cG
      simp only [kR, lR, eR] at hG cG
      have hn : regB [] = true := by kernel_rfl
      have sp := shift_spec none [] dx dy (fun _ => rfl) (by decide)
      rw [shift_ok hn ⟨by omega, by omega⟩ ⟨by omega, by omega⟩ hn] at sp
      have sm2 := same_rects none (some false) [] (shiftL dx dy []) (fun _ => rfl) Rec.ok_some (by decide)
      rw [decide_eq_true (show ([] : List Rect) = shiftL dx dy [] from rfl)] at sm2
      simp only [resL] at sp
      rw [show lst false (rectR.vals (shiftL dx dy [])) = rectR.o (some false) (shiftL dx dy []) from rfl] at sp
      exact ⟨fh, by simp -implicitDefEqProofs [k4_7, stopN, prep_frz, fz, ret0 m9, rf, hR, crf, cR, bne, ret1 m8, sv0, csv, hG, cG, ret1 m12, set_o, sett, sp, ret0 m13, hA, cA, ret0 m14, Rec.o_reify, sm2]⟩
    · have e1 : polyX p = .ok (polyL p) := by unfold polyX; rw [hrp, if_pos rfl, if_neg h200]
      have e2 : polyX c = .ok (polyL c) := by unfold polyX; rw [key, if_pos rfl, if_neg (by omega)]
      rw [e1] at hG
      rw [e2] at cG
      simp only [kR, lR, eR] at hG cG
      have hr1 := poly_reg hrp (by omega)
      have hr2 := poly_reg key (by omega)
      have es : shiftL dx dy (polyL p) = polyL c := hmL.symm
      have sp := shift_spec (some false) (polyL p) dx dy Rec.ok_some (by omega)
      rw [shift_ok hr1 ⟨by omega, by omega⟩ ⟨by omega, by omega⟩ (by rw [es]; exact hr2), es] at sp
      have sm2 := same_rects (some false) (some false) (polyL c) (polyL c) Rec.ok_some Rec.ok_some (by omega)
      rw [decide_eq_true rfl] at sm2
      simp only [resL] at sp
      rw [show lst false (rectR.vals (polyL c)) = rectR.o (some false) (polyL c) from rfl] at sp
      exact ⟨fh, by simp -implicitDefEqProofs [k4_7, stopN, prep_frz, fz, ret0 m9, rf, hR, crf, cR, bne, ret1 m8, sv0, csv, hG, cG, ret1 m12, set_o, sett, sp, ret0 m13, hA, cA, ret0 m14, Rec.o_reify, sm2]⟩
  · simp -implicitDefEqProofs [k4_7, Rec.sl_nil]
  · rfl
  · intro nx i c hi _
    simp -implicitDefEqProofs [r4_7, k4_7, hi, ln, trim_le, stopM, stopN]
  · intro nx i v rest c hi hv hd hw hc ih
    obtain ⟨b, c⟩ := c
    simp only at hc
    have pi := pix i hi
    rw [hv, span_val] at pi
    unfold stopM
    by_cases g1 : v.1 < 0
    · have e : onB v = false := by unfold onB; rw [decide_eq_false (show ¬ (0 ≤ v.1) by omega)]; rfl
      rw [e]
      simp -implicitDefEqProofs [r4_7, k4_7, hi, ln, pi, g1, stopN, trim_le]
    by_cases g2 : 1048576 < v.1
    · have e : onB v = false := by unfold onB; rw [decide_eq_false (show ¬ (v.1 ≤ 1048576) by omega), Bool.and_false]; rfl
      rw [e]
      simp -implicitDefEqProofs [r4_7, k4_7, hi, ln, pi, g1, g2, stopN, trim_le]
    by_cases g3 : v.2 < 0
    · have e : onB v = false := by unfold onB; rw [decide_eq_false (show ¬ (0 ≤ v.2) by omega), Bool.and_false]; rfl
      rw [e]
      simp -implicitDefEqProofs [r4_7, k4_7, hi, ln, pi, g1, g2, g3, stopN, trim_le]
    by_cases g4 : 1048576 < v.2
    · have e : onB v = false := by unfold onB; rw [decide_eq_false (show ¬ (v.2 ≤ 1048576) by omega), Bool.and_false]
      rw [e]
      simp -implicitDefEqProofs [r4_7, k4_7, hi, ln, pi, g1, g2, g3, g4, stopN, trim_le]
    have e : onB v = true := Rg.onB_iff.2 ⟨by omega, by omega, by omega, by omega⟩
    have wx : IntKind.i64.wrap (v.1 + dx) = v.1 + dx := wrap64 (by omega) (by omega)
    have wy : IntKind.i64.wrap (v.2 + dy) = v.2 + dy := wrap64 (by omega) (by omega)
    have ap := app_pt (h := [spanR.row 30 c]) (b := 0) (lo := 0) (c := c) (mv dx dy v) rfl (Nat.le_refl _) (by omega)
    have em : mv dx dy v = (v.1 + dx, v.2 + dy) := rfl
    have ih := ih (b && onB (mv dx dy v), c ++ [mv dx dy v]) (by simp; omega)
    rw [e, if_pos rfl]
    have eo : onB (mv dx dy v) = (decide (0 ≤ v.1 + dx) && decide (v.1 + dx ≤ 1048576) && decide (0 ≤ v.2 + dy) && decide (v.2 + dy ≤ 1048576)) := rfl
    generalize onB (mv dx dy v) = ov at *
    generalize stopN (stopM dx dy rest (b && ov, c ++ [mv dx dy v])) = Q at *
    rw [em] at ap ih
    simp only at ap ih
    generalize c ++ [(v.1 + dx, v.2 + dy)] = c2 at *
    simp -implicitDefEqProofs [k4_7] at ih
    cases b
    · rw [Bool.false_and] at ih
      simp -implicitDefEqProofs [r4_7, k4_7, hi, ln, pi, g1, g2, g3, g4, wx, wy, b2_all, lit_pt, ap, hw, trim_le]
      exact ih
    rw [Bool.true_and] at ih
    by_cases k1 : 0 ≤ v.1 + dx
    case neg =>
      rw [decide_eq_false k1, Bool.false_and, Bool.false_and, Bool.false_and] at eo
      subst eo
      simp -implicitDefEqProofs [r4_7, k4_7, hi, ln, pi, g1, g2, g3, g4, wx, wy, b2_all, lit_pt, ap, k1, hw, trim_le]
      exact ih
    by_cases k2 : v.1 + dx ≤ 1048576
    case neg =>
      rw [decide_eq_false k2, Bool.and_false, Bool.false_and, Bool.false_and] at eo
      subst eo
      simp -implicitDefEqProofs [r4_7, k4_7, hi, ln, pi, g1, g2, g3, g4, wx, wy, b2_all, lit_pt, ap, k1, k2, hw, trim_le]
      exact ih
    by_cases k3 : 0 ≤ v.2 + dy
    case neg =>
      rw [decide_eq_false k3, Bool.and_false, Bool.false_and] at eo
      subst eo
      simp -implicitDefEqProofs [r4_7, k4_7, hi, ln, pi, g1, g2, g3, g4, wx, wy, b2_all, lit_pt, ap, k1, k2, k3, hw, trim_le]
      exact ih
    by_cases k4 : v.2 + dy ≤ 1048576
    case neg =>
      rw [decide_eq_false k4, Bool.and_false] at eo
      subst eo
      simp -implicitDefEqProofs [r4_7, k4_7, hi, ln, pi, g1, g2, g3, g4, wx, wy, b2_all, lit_pt, ap, k1, k2, k3, k4, hw, trim_le]
      exact ih
    rw [decide_eq_true k1, decide_eq_true k2, decide_eq_true k3, decide_eq_true k4] at eo
    simp only [Bool.and_self] at eo
    subst eo
    simp -implicitDefEqProofs [r4_7, k4_7, hi, ln, pi, g1, g2, g3, g4, wx, wy, b2_all, lit_pt, ap, k1, k2, k3, k4, hw, trim_le]
    exact ih
end Go.Proofs.Ytealnmpboommhaa.Bm
