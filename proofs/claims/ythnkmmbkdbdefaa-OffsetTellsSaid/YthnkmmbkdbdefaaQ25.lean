/-
  Chapter 08: the reference of rectangles (what chapter 08 needs of it). Conditions: none.
-/
import Derived.Test.YthnkmmbkdbdefaaQ24
namespace Go.Proofs.Ythnkmmbkdbdefaa.Bm
open Go Go.RowKit
open Rg (Rect Slab outT)

theorem box_small (x0 y0 x1 y1 : Int) : pureCall E.P (L E) 25 [.int .i64 x0, .int .i64 y0, .int .i64 x1, .int .i64 y1] = some (lst true (rectR.vals [⟨x0, y0, x1, y1⟩])) := box_spec x0 y0 x1 y1
theorem lit_list3 (h : Heap) (k m n : Option Bool) (l r s : List Rect) : buildSliceT (some ⟨22, 1, 24, .slice none 0 0, ⟨some false, some 1⟩⟩) false h 3 #[(0, rectR.o k l), (1, rectR.o m r), (2, rectR.o n s)] = some (lst true [rectR.o k l, rectR.o m r, rectR.o n s], h) := by
  cases k <;> cases m <;> cases n <;> exact (build_lit' (n := 3) (l := [(0, _), (1, _), (2, _)]) rfl rfl (by decide) (by decide) (by decide)).trans rfl
theorem lit_rect2 (h : Heap) (p q : Rect) : buildSliceT (some ⟨39, 4, 32, .agg ⟨[.int .i64 0, .int .i64 0, .int .i64 0, .int .i64 0]⟩, ⟨some true, some 4⟩⟩) false h 2 #[(0, rectR.val p), (1, rectR.val q)] = some (lst true (rectR.vals [p, q]), h) :=
  (build_lit' (n := 2) (l := [(0, rectR.val p), (1, rectR.val q)]) rfl rfl (by decide) (by decide) (by decide)).trans rfl
theorem ex_g1 : growX [⟨2, 2, 3, 3⟩] 1 = .ok [⟨1, 1, 4, 4⟩] := by kernel_rfl
theorem ex_g2 : growX [⟨0, 0, 1, 1⟩] 1 = .ok [⟨0, 0, 2, 2⟩] := by kernel_rfl
theorem ex_g3 : growX [] (-1) = .error 1 := by kernel_rfl
theorem ex_s1 : shrinkR 2 [⟨0, 5, [(0, 5)]⟩] = .ok [⟨2, 2, 3, 3⟩] := by kernel_rfl
theorem ex_s2 : shrinkR 3 [⟨0, 5, [(0, 5)]⟩] = .ok [] := by kernel_rfl
theorem ex_s3 : shrinkR 1 [⟨0, 1, [(0, 3)]⟩, ⟨1, 3, [(0, 4)]⟩] = .ok [⟨1, 1, 2, 2⟩] := by kernel_rfl
theorem ex_n1 : gapX [⟨0, 0, 1, 1⟩] [⟨1, 1, 2, 2⟩] = (0, true) := by kernel_rfl
theorem ex_n2 : gapX [⟨0, 0, 1, 1⟩] [⟨3, 0, 4, 1⟩] = (2, true) := by kernel_rfl
theorem ex_w : nearL [⟨0, 0, 1, 1⟩] 2 0 [[⟨9, 9, 10, 10⟩], [⟨3, 0, 4, 1⟩], []] = [1] := by kernel_rfl
theorem ex_r1 : regB (outT [⟨0, 5, [(0, 5)]⟩]) = true := by kernel_rfl
theorem ex_r2 : regB (outT [⟨0, 1, [(0, 3)]⟩, ⟨1, 3, [(0, 4)]⟩]) = true := by kernel_rfl
theorem small_spec : pureCall E.P (L E) 9 [] = some (.bool true) := by
  have g1 := grow_spec (some true) [⟨2, 2, 3, 3⟩] 1 Rec.ok_some (by decide)
  have g2 := grow_spec (some true) [⟨0, 0, 1, 1⟩] 1 Rec.ok_some (by decide)
  have g3 := grow_spec none [] (-1) (fun _ => rfl) (by decide)
  have s1 := shrink_walk (some true) [⟨0, 5, [(0, 5)]⟩] 2 0 [] Rec.ok_some (by simp [Rg.canT, Rg.Can, Rg.canS]) (by decide) (by decide) ex_r1
  have s2 := shrink_walk (some true) [⟨0, 5, [(0, 5)]⟩] 3 0 [] Rec.ok_some (by simp [Rg.canT, Rg.Can, Rg.canS]) (by decide) (by decide) ex_r1
  have s3 := shrink_walk (some true) [⟨0, 1, [(0, 3)]⟩, ⟨1, 3, [(0, 4)]⟩] 1 0 [] Rec.ok_some (by simp [Rg.canT, Rg.Can, Rg.canS]) (by decide) (by decide) ex_r2
  have n1 := gap_spec (some true) (some true) [⟨0, 0, 1, 1⟩] [⟨1, 1, 2, 2⟩] Rec.ok_some Rec.ok_some (by decide) (by decide)
  have n2 := gap_spec (some true) (some true) [⟨0, 0, 1, 1⟩] [⟨3, 0, 4, 1⟩] Rec.ok_some Rec.ok_some (by decide) (by decide)
  have w1 := within_spec (some true) true [⟨0, 0, 1, 1⟩] [(some true, [⟨9, 9, 10, 10⟩]), (some true, [⟨3, 0, 4, 1⟩]), (none, [])] 2 Rec.ok_some (by
    intro p hp
    simp only [List.mem_cons, List.not_mem_nil, or_false] at hp
    rcases hp with rfl | rfl | rfl
    · exact ⟨Rec.ok_some, by decide⟩
    · exact ⟨Rec.ok_some, by decide⟩
    · exact ⟨fun _ => rfl, by decide⟩) (by decide) (by decide)
  have c1 := same_rects (some false) (some true) [⟨1, 1, 4, 4⟩] [⟨1, 1, 4, 4⟩] Rec.ok_some Rec.ok_some (by decide)
  have c2 := same_rects (some false) (some true) [⟨0, 0, 2, 2⟩] [⟨0, 0, 2, 2⟩] Rec.ok_some Rec.ok_some (by decide)
  have c3 := same_rects (some false) (some true) [⟨2, 2, 3, 3⟩] [⟨2, 2, 3, 3⟩] Rec.ok_some Rec.ok_some (by decide)
  have c4 := same_rects (some false) (some true) [⟨1, 1, 2, 2⟩] [⟨1, 1, 2, 2⟩] Rec.ok_some Rec.ok_some (by decide)
  rw [ex_g1] at g1
  rw [ex_g2] at g2
  rw [ex_g3] at g3
  rw [ex_s1] at s1
  rw [ex_s2] at s2
  rw [ex_s3] at s3
  rw [ex_n1] at n1
  rw [ex_n2] at n2
  rw [show pL [(some true, [⟨9, 9, 10, 10⟩]), (some true, [⟨3, 0, 4, 1⟩]), ((none : Option Bool), ([] : List Rect))] = [[⟨9, 9, 10, 10⟩], [⟨3, 0, 4, 1⟩], []] from rfl, ex_w] at w1
  rw [show outT [⟨0, 5, [(0, 5)]⟩] = [⟨0, 0, 5, 5⟩] from rfl] at s1 s2
  rw [show outT [⟨0, 1, [(0, 3)]⟩, ⟨1, 3, [(0, 4)]⟩] = [⟨0, 0, 1, 3⟩, ⟨1, 0, 3, 4⟩] from rfl] at s3
  simp only [Rec.o, resL, decide_true, rL, List.map_cons, List.map_nil] at g1 g2 g3 s1 s2 s3 n1 n2 w1 c1 c2 c3 c4
  have l3 := fun h => lit_list3 h (some true) (some true) none [⟨9, 9, 10, 10⟩] [⟨3, 0, 4, 1⟩] []
  simp only [Rec.o] at l3
  have l2 := fun h => lit_rect2 h ⟨0, 0, 1, 3⟩ ⟨1, 0, 3, 4⟩
  simp only [rect_val] at l2
  have so : ∀ b l, settled depth (lst b l) = true := fun _ _ => rfl
  have so3 : ∀ z, settled depth (.int .i64 z) = true := fun _ => rfl
  have so4 : settled depth (.slice none 0 0) = true := rfl
  have rl : ∀ h b l, reify E.P 8 h (lst b (rectR.vals l)) = some (lst b (rectR.vals l)) := fun _ _ _ => rfl
  have ix : indexAddrT (.sl 3 ⟨some false, some 1⟩) (iT [1]) (.int .i64 0) = some (cptr (.int .i64 1)) := iT_index (l := [1]) (i := 0) (by decide)
  have nl : rectR.vals [] = [] := rfl
  rw [pureCall_fn F9 rfl]
  simp -implicitDefEqProofs [r9, p9, ret1 m25, box_small, so3, ret1 m11, ret1 m13, so, so4, g1, g2, g3, s1, s2, s3, ret0 m15, rl, n1, n2, b4_all, l2, l3, ret1 m19, w1, iT_len, ix, ret0 m17, c1, c2, c3, c4, nl]
end Go.Proofs.Ythnkmmbkdbdefaa.Bm

namespace Go.Proofs.Ythnkmmbkdbdefaa.Bm
open Go Go.RowKit
open Rg (Rect cell growL Gro eroB ofL)

/-! ### Results as list and number -/
def kR : Except Int (List Rect) → Option Bool
  | .error _ => none
  | .ok _ => some false
def lR : Except Int (List Rect) → List Rect
  | .error _ => []
  | .ok l => l
def eR : Except Int (List Rect) → Int
  | .error e => e
  | .ok _ => 0
theorem resL_eq (r : Except Int (List Rect)) : resL r = .tuple ⟨[rectR.o (kR r) (lR r), .int .i64 (eR r)]⟩ := by cases r <;> rfl
theorem kR_ok (r : Except Int (List Rect)) : Rec.Ok (kR r) (lR r) := by
  cases r
  · exact fun _ => rfl
  · exact Rec.ok_some
theorem grow_any (a : List Rect) (d : Int) : growX a d = .error 1 ∨ growX a d = .error 6 ∨ ∃ l, growX a d = .ok l ∧ l.length ≤ 200 := by
  unfold growX
  by_cases h : validB a d = true
  · rw [if_pos h]
    unfold ofR
    by_cases h1 : (growL d a).all okR = true
    · rw [if_pos h1]
      by_cases h2 : 400 < (growL d a).length
      · rw [if_pos h2]; exact .inr (.inl rfl)
      · rw [if_neg h2]
        by_cases h3 : (ofL (growL d a)).length ≤ 200
        · rw [if_pos h3]; exact .inr (.inr ⟨_, rfl, h3⟩)
        · rw [if_neg h3]; exact .inr (.inl rfl)
    · rw [if_neg h1]; exact .inl rfl
  · rw [if_neg h]; exact .inl rfl
theorem shrink_any (a : List Rect) (d : Int) : shrinkX a d = .error 1 ∨ shrinkX a d = .error 6 ∨ ∃ l, shrinkX a d = .ok l ∧ l.length ≤ 200 := by
  unfold shrinkX
  by_cases h : validB a d = true
  · rw [if_pos h]
    by_cases h2 : 200 < (shrinkF d a).length
    · rw [if_pos h2]; exact .inr (.inl rfl)
    · rw [if_neg h2]; exact .inr (.inr ⟨_, rfl, by omega⟩)
  · rw [if_neg h]; exact .inl rfl
theorem any_len {r : Except Int (List Rect)} (h : r = .error 1 ∨ r = .error 6 ∨ ∃ l, r = .ok l ∧ l.length ≤ 200) : (lR r).length ≤ 200 := by
  rcases h with rfl | rfl | ⟨l, rfl, h⟩
  · exact Nat.zero_le _
  · exact Nat.zero_le _
  · exact h
theorem any_ok {r : Except Int (List Rect)} (h : r = .error 1 ∨ r = .error 6 ∨ ∃ l, r = .ok l ∧ l.length ≤ 200) (h0 : eR r = 0) : r = .ok (lR r) := by
  rcases h with rfl | rfl | ⟨l, rfl, h⟩
  · exact absurd h0 (by decide)
  · exact absurd h0 (by decide)
  · rfl
theorem grow_e {a : List Rect} {d : Int} (h : regB a = true) (h0 : 0 ≤ d) (h1 : d ≤ 1048576) : eR (growX a d) = 0 ∨ eR (growX a d) = 6 := by
  rcases grow_cases h h0 h1 with h | ⟨c, h, _⟩ <;> rw [h]
  · exact .inr rfl
  · exact .inl rfl
theorem shrink_e {a : List Rect} {d : Int} (h : regB a = true) (h0 : 0 ≤ d) (h1 : d ≤ 1048576) : eR (shrinkX a d) = 0 ∨ eR (shrinkX a d) = 6 := by
  rcases shrink_cases h h0 h1 with h | ⟨c, h, _⟩ <;> rw [h]
  · exact .inr rfl
  · exact .inl rfl
theorem grow_o (k : Option Bool) (a : List Rect) (d : Int) (hk : Rec.Ok k a) (ha : a.length ≤ 1000000) : pureCall E.P (L E) 11 [rectR.o k a, .int .i64 d] = some (.tuple ⟨[rectR.o (kR (growX a d)) (lR (growX a d)), .int .i64 (eR (growX a d))]⟩) := by
  rw [← resL_eq]; exact grow_spec k a d hk ha
theorem shrink_o (k : Option Bool) (a : List Rect) (d : Int) (hk : Rec.Ok k a) (ha : a.length ≤ 1000000) : pureCall E.P (L E) 13 [rectR.o k a, .int .i64 d] = some (.tuple ⟨[rectR.o (kR (shrinkX a d)) (lR (shrinkX a d)), .int .i64 (eR (shrinkX a d))]⟩) := by
  rw [← resL_eq]; exact shrink_spec k a d hk ha
theorem o_lst (a : List Rect) : lst false (rectR.vals a) = rectR.o (some false) a := rfl
theorem set_o (k : Option Bool) (a : List Rect) : settled depth (rectR.o k a) = true := Rec.o_set
theorem set_i (z : Int) : settled depth (.int .i64 z) = true := rfl
theorem ub : E.P.underlying 4 = some .bool := by kernel_rfl
theorem beq (p q : Bool) : aBin E.P .eql 4 (.bool p) (.bool q) = some (.bool (p == q)) := bin_eql_bool ub
theorem bne (p q : Bool) : aBin E.P .neq 4 (.bool p) (.bool q) = some (.bool (p != q)) := bin_neq_bool ub

set_option maxHeartbeats 2000000 in
theorem adds_spec (a : List Rect) (d n : Int) : ∃ h', L E 5 [lst false (rectR.vals a), .int .i64 d, .int .i64 n] [] 0 = some (.bool true, h') := by
  refine ⟨[], ?_⟩
  have sm := small_spec
  have fw := few_spec (some false) a Rec.ok_some
  rw [o_lst, L_fn F5 rfl]
  by_cases h1 : a.length ≤ 24
  case neg => simp -implicitDefEqProofs [r5, p5, ret0 m9, sm, ret0 m10, Rec.o_reify, fw, h1]
  have hr := rright2_spec (some false) a Rec.ok_some (by omega)
  cases h2 : regB a
  · simp -implicitDefEqProofs [r5, p5, ret0 m9, sm, ret0 m10, Rec.o_reify, fw, h1, ret0 m21, hr, h2]
  by_cases h3 : d < 0
  · simp -implicitDefEqProofs [r5, p5, ret0 m9, sm, ret0 m10, Rec.o_reify, fw, h1, ret0 m21, hr, h2, h3]
  by_cases h4 : n < 0
  · simp -implicitDefEqProofs [r5, p5, ret0 m9, sm, ret0 m10, Rec.o_reify, fw, h1, ret0 m21, hr, h2, h3, h4]
  by_cases h5 : 1048576 < d
  · simp -implicitDefEqProofs [r5, p5, ret0 m9, sm, ret0 m10, Rec.o_reify, fw, h1, ret0 m21, hr, h2, h3, h4, h5]
  have w1 : IntKind.i64.wrap (1048576 - d) = 1048576 - d := wrap64 (by omega) (by omega)
  by_cases h6 : 1048576 - d < n
  · simp -implicitDefEqProofs [r5, p5, ret0 m9, sm, ret0 m10, Rec.o_reify, fw, h1, ret0 m21, hr, h2, h3, h4, h5, w1, h6]
  have w2 : IntKind.i64.wrap (d + n) = d + n := wrap64 (by omega) (by omega)
  have e1 := grow_e h2 (show 0 ≤ d by omega) (by omega)
  have e2 := grow_e h2 (show 0 ≤ d + n by omega) (by omega)
  have e3 := shrink_e h2 (show 0 ≤ d by omega) (by omega)
  have e4 := shrink_e h2 (show 0 ≤ d + n by omega) (by omega)
  have lx := any_len (grow_any a d)
  have ly := any_len (grow_any (lR (growX a d)) n)
  have lu := any_len (shrink_any a d)
  have lv := any_len (shrink_any (lR (shrinkX a d)) n)
  have c1 := grow_o (some false) a d Rec.ok_some (by omega)
  have c2 := grow_o _ _ n (kR_ok (growX a d)) (by omega)
  have c3 := grow_o (some false) a (d + n) Rec.ok_some (by omega)
  have c4 := shrink_o (some false) a d Rec.ok_some (by omega)
  have c5 := shrink_o _ _ n (kR_ok (shrinkX a d)) (by omega)
  have c6 := shrink_o (some false) a (d + n) Rec.ok_some (by omega)
  have s1 := same_rects _ _ _ _ (kR_ok (growX (lR (growX a d)) n)) (kR_ok (growX a (d + n))) (by omega)
  have s2 := same_rects _ _ _ _ (kR_ok (shrinkX (lR (shrinkX a d)) n)) (kR_ok (shrinkX a (d + n))) (by omega)
  have g1 : eR (growX a d) = 0 → eR (growX (lR (growX a d)) n) = 0 → eR (growX a (d + n)) = 0 → decide (lR (growX (lR (growX a d)) n) = lR (growX a (d + n))) = true := fun q1 q2 q3 =>
    decide_eq_true <| grow_adds h2 (by omega) (by omega) (by omega) (any_ok (grow_any _ _) q1) (any_ok (grow_any _ _) q2) (any_ok (grow_any _ _) q3)
  have g2 : eR (shrinkX a d) = 0 → eR (shrinkX (lR (shrinkX a d)) n) = 0 → eR (shrinkX a (d + n)) = 0 → decide (lR (shrinkX (lR (shrinkX a d)) n) = lR (shrinkX a (d + n))) = true := fun q1 q2 q3 =>
    decide_eq_true <| shrink_adds h2 (by omega) (by omega) (by omega) (any_ok (shrink_any _ _) q1) (any_ok (shrink_any _ _) q2) (any_ok (shrink_any _ _) q3)
  clear lx ly lu lv
  generalize growX (lR (growX a d)) n = Y at *
  generalize growX a d = X at *
  generalize growX a (d + n) = Z at *
  generalize shrinkX (lR (shrinkX a d)) n = V at *
  generalize shrinkX a d = U at *
  generalize shrinkX a (d + n) = W at *
  generalize eR X = ex at *
  generalize eR Y = ey at *
  generalize eR Z = ez at *
  generalize eR U = eu at *
  generalize eR V = ev at *
  generalize eR W = ew at *
  have base := And.intro h1 (And.intro h3 (And.intro h4 (And.intro h5 h6)))
  by_cases y0 : ey = 0
  · by_cases v0 : ev = 0
    · rcases e1 with rfl | rfl <;> rcases e2 with rfl | rfl <;> rcases e3 with rfl | rfl <;> rcases e4 with rfl | rfl <;> subst y0 <;> subst v0 <;>
        simp -implicitDefEqProofs [r5, p5, ret0 m9, sm, ret0 m10, Rec.o_reify, fw, h1, ret0 m21, hr, h2, h3, h4, h5, w1, h6, w2, ret1 m11, ret1 m13, set_o, set_i, c1, c2, c3, c4, c5, c6, ret0 m17, s1, s2, g1, g2]
    · rcases e1 with rfl | rfl <;> rcases e2 with rfl | rfl <;> rcases e3 with rfl | rfl <;> rcases e4 with rfl | rfl <;> subst y0 <;>
        simp -implicitDefEqProofs [r5, p5, ret0 m9, sm, ret0 m10, Rec.o_reify, fw, h1, ret0 m21, hr, h2, h3, h4, h5, w1, h6, w2, ret1 m11, ret1 m13, set_o, set_i, c1, c2, c3, c4, c5, c6, ret0 m17, s1, g1, v0]
  · by_cases v0 : ev = 0
    · rcases e1 with rfl | rfl <;> rcases e2 with rfl | rfl <;> rcases e3 with rfl | rfl <;> rcases e4 with rfl | rfl <;> subst v0 <;>
        simp -implicitDefEqProofs [r5, p5, ret0 m9, sm, ret0 m10, Rec.o_reify, fw, h1, ret0 m21, hr, h2, h3, h4, h5, w1, h6, w2, ret1 m11, ret1 m13, set_o, set_i, c1, c2, c3, c4, c5, c6, ret0 m17, s2, g2, y0]
    · rcases e1 with rfl | rfl <;> rcases e2 with rfl | rfl <;> rcases e3 with rfl | rfl <;> rcases e4 with rfl | rfl <;>
        simp -implicitDefEqProofs [r5, p5, ret0 m9, sm, ret0 m10, Rec.o_reify, fw, h1, ret0 m21, hr, h2, h3, h4, h5, w1, h6, w2, ret1 m11, ret1 m13, set_o, set_i, c1, c2, c3, c4, c5, c6, ret0 m17, v0, y0]
end Go.Proofs.Ythnkmmbkdbdefaa.Bm

namespace Go.Proofs.Ythnkmmbkdbdefaa.Bm
open Go Go.RowKit
open Rg (Rect cell growL Gro eroB)

set_option maxHeartbeats 2000000 in
theorem cells_spec (a : List Rect) (d x y : Int) : ∃ h', L E 4 [lst false (rectR.vals a), .int .i64 d, .int .i64 x, .int .i64 y] [] 0 = some (.bool true, h') := by
  refine ⟨[], ?_⟩
  have sm := small_spec
  have fa := few_spec (some false) a Rec.ok_some
  rw [o_lst, L_fn F4 rfl]
  by_cases h1 : a.length ≤ 24
  case neg => simp -implicitDefEqProofs [r4, p4, ret0 m9, sm, ret0 m10, Rec.o_reify, fa, h1]
  by_cases h2 : d < 0
  · simp -implicitDefEqProofs [r4, p4, ret0 m9, sm, ret0 m10, Rec.o_reify, fa, h1, h2]
  by_cases h3 : 6 < d
  · simp -implicitDefEqProofs [r4, p4, ret0 m9, sm, ret0 m10, Rec.o_reify, fa, h1, h2, h3]
  by_cases h4 : x < 0
  · simp -implicitDefEqProofs [r4, p4, ret0 m9, sm, ret0 m10, Rec.o_reify, fa, h1, h2, h3, h4]
  by_cases h5 : 1048576 ≤ x
  · simp -implicitDefEqProofs [r4, p4, ret0 m9, sm, ret0 m10, Rec.o_reify, fa, h1, h2, h3, h4, h5]
  by_cases h6 : y < 0
  · simp -implicitDefEqProofs [r4, p4, ret0 m9, sm, ret0 m10, Rec.o_reify, fa, h1, h2, h3, h4, h5, h6]
  by_cases h7 : 1048576 ≤ y
  · simp -implicitDefEqProofs [r4, p4, ret0 m9, sm, ret0 m10, Rec.o_reify, fa, h1, h2, h3, h4, h5, h6, h7]
  have ra := rright2_spec (some false) a Rec.ok_some (by omega)
  cases h8 : regB a
  · simp -implicitDefEqProofs [r4, p4, ret0 m9, sm, ret0 m10, Rec.o_reify, fa, h1, h2, h3, h4, h5, h6, h7, ret0 m21, ra, h8]
  rw [h8] at ra
  obtain ⟨m, rfl⟩ : ∃ m : Nat, d = (m : Int) := ⟨d.toNat, by omega⟩
  have hm : m ≤ 6 := by omega
  have d0 : (0 : Int) ≤ m := by omega
  have d1 : (m : Int) ≤ 1048576 := by omega
  have c1 := grow_o (some false) a m Rec.ok_some (by omega)
  have c2 := shrink_o (some false) a m Rec.ok_some (by omega)
  rcases grow_cases h8 d0 d1 with q | ⟨g, q, rg, cg⟩
  · rw [q] at c1
    rcases shrink_e h8 d0 d1 with q2 | q2 <;> rw [q2] at c2 <;>
    simp -implicitDefEqProofs [r4, p4, ret0 m9, sm, ret0 m10, Rec.o_reify, fa, h1, h2, h3, h4, h5, h6, h7, ret0 m21, ra, ret1 m11, ret1 m13, set_o, set_i, c1, c2, eR, kR, lR]
  rcases shrink_cases h8 d0 d1 with q2 | ⟨s, q2, rs, cs⟩
  · rw [q] at c1
    rw [q2] at c2
    simp -implicitDefEqProofs [r4, p4, ret0 m9, sm, ret0 m10, Rec.o_reify, fa, h1, h2, h3, h4, h5, h6, h7, ret0 m21, ra, ret1 m11, ret1 m13, set_o, set_i, c1, c2, eR, kR, lR]
  rw [q] at c1
  rw [q2] at c2
  simp only [eR, kR, lR] at c1 c2
  have pg := rright2_spec (some false) g Rec.ok_some (by have := reg_len rg; omega)
  have ps := rright2_spec (some false) s Rec.ok_some (by have := reg_len rs; omega)
  have hg := rhas_spec (some false) g x y Rec.ok_some (by have := reg_len rg; omega)
  have hs := rhas_spec (some false) s x y Rec.ok_some (by have := reg_len rs; omega)
  have ha := fun x y => rhas_spec (some false) a x y Rec.ok_some (by omega)
  rw [rg] at pg hg
  rw [rs] at ps hs
  rw [h8] at ha
  have vg : cell g x y = !winK (fun i j => !cell a (x - m + i) (y - m + j)) (2 * m + 1) (2 * m + 1) := Bool.eq_iff_iff.2 ((grow_true h8 d0 cg).trans (winK_gro ⟨by omega, by omega, by omega, by omega⟩).symm)
  have vs : cell s x y = winK (fun i j => cell a (x - m + i) (y - m + j)) (2 * m + 1) (2 * m + 1) := (cs x y).trans winK_ero.symm
  rw [vg, Bool.true_and] at hg
  rw [vs, Bool.true_and] at hs
  simp only [Bool.true_and] at ha
  have w1 : IntKind.i64.wrap (x - m) = x - m := wrap64 (by omega) (by omega)
  have w2 : IntKind.i64.wrap (x + m) = x + m := wrap64 (by omega) (by omega)
  have w3 : IntKind.i64.wrap (y - m) = y - m := wrap64 (by omega) (by omega)
  have w4 : IntKind.i64.wrap (y + m) = y + m := wrap64 (by omega) (by omega)
  simp -implicitDefEqProofs [r4, p4, ret0 m9, sm, ret0 m10, Rec.o_reify, fa, h1, h2, h3, h4, h5, h6, h7, ret0 m21, ra, ret1 m11, ret1 m13, set_o, set_i, c1, c2, w1]
  clear vg vs cg cs q q2 c1 c2
  generalize hw1 : (fun i j => !cell a (x - m + i) (y - m + j)) = S1 at *
  generalize hw2 : (fun i j => cell a (x - m + i) (y - m + j)) = S2 at *
  have hS1 : ∀ i j, S1 i j = !cell a (x - m + i) (y - m + j) := fun i j => by rw [← hw1]
  have hS2 : ∀ i j, S2 i j = cell a (x - m + i) (y - m + j) := fun i j => by rw [← hw2]
  clear hw1 hw2
  rw [LL_rec (α := Nat) 0 (fun k => [(14, .bool (!winK S1 (2 * m + 1) k)), (15, .bool (winK S2 (2 * m + 1) k)), (16, .int .i64 (x - m + (k : Int)))]) (fun _ => [])
    (fun _ => (.exit 0, [(14, .bool (!winK S1 (2 * m + 1) (2 * m + 1))), (15, .bool (winK S2 (2 * m + 1) (2 * m + 1))), (16, undef)], [])) (fun k => k ≤ 2 * m + 1) (fun k => 2 * m + 1 - k)]
  · simp -implicitDefEqProofs [k4_11, ret0 m21, ret0 m22, Rec.o_reify, pg, ps, hg, hs, beq]
  · exact Nat.zero_le _
  · simp -implicitDefEqProofs [k4_11, winK, Rg.allN]
  · rfl
  · intro nx k hk ih
    by_cases hk2 : k < 2 * m + 1
    · have hc : x - m + (k : Int) ≤ x + m := by omega
      have w5 : IntKind.i64.wrap (x - m + (k : Int) + 1) = x - m + ((k + 1 : Nat) : Int) := (wrap64 (by omega) (by omega)).trans (by omega)
      have ih := ih (k + 1) (by omega) (by omega)
      simp -implicitDefEqProofs [r4_11, k4_11, w2, w3, hc, -Int.natCast_add]
      rw [LL_rec (α := Nat) 0 (fun j => [(14, .bool (!winJ S1 (2 * m + 1) k j)), (15, .bool (winJ S2 (2 * m + 1) k j)), (17, .int .i64 (y - m + (j : Int)))]) (fun _ => [])
        (fun _ => (.exit 2, [(14, .bool (!winJ S1 (2 * m + 1) k (2 * m + 1))), (15, .bool (winJ S2 (2 * m + 1) k (2 * m + 1))), (17, undef)], [])) (fun j => j ≤ 2 * m + 1) (fun j => 2 * m + 1 - j)]
      · simp -implicitDefEqProofs [k4_11, -Int.natCast_add] at ih
        simp -implicitDefEqProofs [k4_14, winJ_end, w5, trim_le, -Int.natCast_add]
        exact ih
      · exact Nat.zero_le _
      · simp -implicitDefEqProofs [k4_14, winJ_zero]
      · rfl
      · intro nx j hj ih
        by_cases hj2 : j < 2 * m + 1
        · have hc2 : y - m + (j : Int) ≤ y + m := by omega
          have w6 : IntKind.i64.wrap (y - m + (j : Int) + 1) = y - m + ((j + 1 : Nat) : Int) := (wrap64 (by omega) (by omega)).trans (by omega)
          have ih := ih (j + 1) (by omega) (by omega)
          have ha := ha (x - m + (k : Int)) (y - m + (j : Int))
          rw [winJ_succ, winJ_succ, hS1, hS2] at ih
          generalize cell a (x - m + (k : Int)) (y - m + (j : Int)) = v at *
          generalize winJ S1 (2 * m + 1) k j = u1 at *
          generalize winJ S2 (2 * m + 1) k j = u2 at *
          simp -implicitDefEqProofs [k4_14, -Int.natCast_add] at ih
          cases v <;> cases u1 <;> cases u2 <;> simp -implicitDefEqProofs at ih <;>
            simp -implicitDefEqProofs [r4_14, k4_14, w4, w6, hc2, ret0 m22, Rec.o_reify, ha, trim_le, -Int.natCast_add] <;> exact ih
        · have e : j = 2 * m + 1 := by omega
          subst e
          have hc2 : ¬ (y - m + ((2 * m + 1 : Nat) : Int) ≤ y + m) := by omega
          simp -implicitDefEqProofs [r4_14, k4_14, w4, hc2, trim_le, -Int.natCast_add]
    · have e : k = 2 * m + 1 := by omega
      subst e
      have hc : ¬ (x - m + ((2 * m + 1 : Nat) : Int) ≤ x + m) := by omega
      simp -implicitDefEqProofs [r4_11, k4_11, w2, hc, trim_le, -Int.natCast_add]
end Go.Proofs.Ythnkmmbkdbdefaa.Bm

namespace Go.Proofs.Ythnkmmbkdbdefaa.Bm
open Go Go.RowKit
open Rg (Rect cell growL Gro eroB)

theorem y_grow {a : List Rect} {d : Int} (h : regB a = true) (h0 : 0 ≤ d) (h1 : d ≤ 1048576) : ∀ r ∈ lR (growX a d), r.y0 < r.y1 := by
  rcases grow_cases h h0 h1 with e | ⟨c, e, hc, _⟩ <;> rw [e]
  · exact fun r hr => absurd hr List.not_mem_nil
  · exact reg_y hc
def farB (d : Int) (r : Rect) : Bool := decide (d ≤ r.x0) && decide (d ≤ r.y0) && decide (r.x1 ≤ 1048576 - d) && decide (r.y1 ≤ 1048576 - d)
set_option maxHeartbeats 2000000 in
theorem adjoint_spec (a b : List Rect) (d : Int) : ∃ h', L E 6 [lst false (rectR.vals a), lst false (rectR.vals b), .int .i64 d] [] 0 = some (.bool true, h') := by
  have sm := small_spec
  have fa := few_spec (some false) a Rec.ok_some
  have fb := few_spec (some false) b Rec.ok_some
  rw [o_lst, o_lst, L_fn F6 rfl]
  by_cases h1 : a.length ≤ 24
  case neg => exact ⟨[], by simp -implicitDefEqProofs [r6, p6, ret0 m9, sm, ret0 m10, Rec.o_reify, fa, h1]⟩
  by_cases h2 : b.length ≤ 24
  case neg => exact ⟨[], by simp -implicitDefEqProofs [r6, p6, ret0 m9, sm, ret0 m10, Rec.o_reify, fa, fb, h1, h2]⟩
  have ra := rright2_spec (some false) a Rec.ok_some (by omega)
  have rb := rright2_spec (some false) b Rec.ok_some (by omega)
  cases h3 : regB a
  · exact ⟨[], by simp -implicitDefEqProofs [r6, p6, ret0 m9, sm, ret0 m10, Rec.o_reify, fa, fb, h1, h2, ret0 m21, ra, h3]⟩
  cases h4 : regB b
  · exact ⟨[], by simp -implicitDefEqProofs [r6, p6, ret0 m9, sm, ret0 m10, Rec.o_reify, fa, fb, h1, h2, ret0 m21, ra, rb, h3, h4]⟩
  by_cases h5 : d < 0
  · exact ⟨[], by simp -implicitDefEqProofs [r6, p6, ret0 m9, sm, ret0 m10, Rec.o_reify, fa, fb, h1, h2, ret0 m21, ra, rb, h3, h4, h5]⟩
  by_cases h6 : 1048576 < d
  · exact ⟨[], by simp -implicitDefEqProofs [r6, p6, ret0 m9, sm, ret0 m10, Rec.o_reify, fa, fb, h1, h2, ret0 m21, ra, rb, h3, h4, h5, h6]⟩
  rw [h3] at ra
  rw [h4] at rb
  have d0 : 0 ≤ d := by omega
  have d1 : d ≤ 1048576 := by omega
  have c1 := shrink_o (some false) a d Rec.ok_some (by omega)
  rcases shrink_cases h3 d0 d1 with q | ⟨s, q, rs, cs⟩
  · rw [q] at c1
    exact ⟨[], by simp -implicitDefEqProofs [r6, p6, ret0 m9, sm, ret0 m10, Rec.o_reify, fa, fb, h1, h2, ret0 m21, ra, rb, h5, h6, ret1 m13, set_o, set_i, c1, eR, kR, lR]⟩
  rw [q] at c1
  simp only [eR, kR, lR] at c1
  have hs := reg_len rs
  have c2 := grow_o (some false) s d Rec.ok_some (by omega)
  have op : eR (growX s d) = 0 → insideB (lR (growX s d)) a = true := fun q2 => open_inside h3 d0 d1 q (any_ok (grow_any _ _) q2)
  have ho := any_len (grow_any s d)
  have c3 := inside_spec (kR (growX s d)) (some false) (lR (growX s d)) a (kR_ok _) Rec.ok_some (by omega) (by omega) (y_grow rs d0 d1) (reg_y h3)
  have e2 := grow_e rs d0 d1
  have c4 := grow_o (some false) b d Rec.ok_some (by omega)
  have hg := any_len (grow_any b d)
  have c5 := inside_spec (kR (growX b d)) (some false) (lR (growX b d)) a (kR_ok _) Rec.ok_some (by omega) (by omega) (y_grow h4 d0 d1) (reg_y h3)
  have c6 := inside_spec (some false) (some false) b s Rec.ok_some Rec.ok_some (by omega) (by omega) (reg_y h4) (reg_y rs)
  have e4 := grow_e h4 d0 d1
  have ad : eR (growX b d) = 0 → b.all (farB d) = true → insideB (lR (growX b d)) a = insideB b s := fun q2 q3 => adjoint h3 h4 d0 d1 q (any_ok (grow_any _ _) q2) fun r hr => by
    have := List.all_eq_true.1 q3 r hr
    unfold farB at this
    simp only [Bool.and_eq_true, decide_eq_true_eq] at this
    omega
  clear ho hg
  have w1 : IntKind.i64.wrap (1048576 - d) = 1048576 - d := wrap64 (by omega) (by omega)
  generalize insideB (lR (growX s d)) a = i1 at *
  generalize growX s d = O at *
  generalize insideB (lR (growX b d)) a = i2 at *
  generalize growX b d = G at *
  generalize insideB b s = i3 at *
  generalize eR O = eo at *
  generalize eR G = eg at *
  rcases e2 with rfl | rfl
  · have op := op rfl
    subst op
    simp -implicitDefEqProofs [r6, p6, ret0 m9, sm, ret0 m10, Rec.o_reify, fa, fb, h1, h2, ret0 m21, ra, rb, h5, h6, ret1 m13, ret1 m11, set_o, set_i, c1, c2, ret0 m23, c3]
    rw [LL_for (γ := Unit) b () (fun i _ => [(12, .int .i64 i)]) (fun _ _ => []) (fun _ rest _ => if rest.all (farB d) then (.exit 0, [(12, undef)], []) else (.ret, [(6, .bool true), (12, undef)], [])) (fun _ _ => True) (by omega) trivial]
    · cases hf : b.all (farB d)
      · exact ⟨[], by simp -implicitDefEqProofs [k6_11]⟩
      · rcases e4 with rfl | rfl
        · have ad := ad rfl hf
          subst ad
          refine ⟨[], ?_⟩
          simp -implicitDefEqProofs [k6_11, ret1 m11, set_o, set_i, c4, ret0 m23, Rec.o_reify, c5, c6, beq]
        · refine ⟨[], ?_⟩
          simp -implicitDefEqProofs [k6_11, ret1 m11, set_o, set_i, c4]
    · simp -implicitDefEqProofs [k6_11]
    · rfl
    · intro nx i c hi _
      simp -implicitDefEqProofs [r6_11, k6_11, hi, Rec.o_len (Rec.ok_some (b := false) (l := b)), trim_le]
    · intro nx i r rest c hi hv hd hw _ ih
      have ixi := Rec.o_index (R := rectR) (t := 39) (kk := .i64) (s := 4) rfl (Rec.ok_some (b := false) (l := b)) hi
      rw [hv, rect_val] at ixi
      have ih := ih () trivial
      have ef : (r :: rest).all (farB d) = (farB d r && rest.all (farB d)) := rfl
      rw [ef]
      generalize rest.all (farB d) = qa at ih ⊢
      unfold farB
      simp -implicitDefEqProofs [k6_11] at ih
      by_cases k1 : r.x0 < d
      · have k1' : ¬ (d ≤ r.x0) := by omega
        simp -implicitDefEqProofs [r6_11, k6_11, hi, ixi, Rec.o_len (Rec.ok_some (b := false) (l := b)), k1, k1', trim_le]
      have k1' : d ≤ r.x0 := by omega
      by_cases k2 : r.y0 < d
      · have k2' : ¬ (d ≤ r.y0) := by omega
        simp -implicitDefEqProofs [r6_11, k6_11, hi, ixi, Rec.o_len (Rec.ok_some (b := false) (l := b)), k1, k1', k2, k2', trim_le]
      have k2' : d ≤ r.y0 := by omega
      by_cases k3 : 1048576 - d < r.x1
      · have k3' : ¬ (r.x1 ≤ 1048576 - d) := by omega
        simp -implicitDefEqProofs [r6_11, k6_11, hi, ixi, Rec.o_len (Rec.ok_some (b := false) (l := b)), k1, k1', k2, k2', k3, k3', w1, trim_le]
      have k3' : r.x1 ≤ 1048576 - d := by omega
      by_cases k4 : 1048576 - d < r.y1
      · have k4' : ¬ (r.y1 ≤ 1048576 - d) := by omega
        simp -implicitDefEqProofs [r6_11, k6_11, hi, ixi, Rec.o_len (Rec.ok_some (b := false) (l := b)), k1, k1', k2, k2', k3, k3', k4, k4', w1, trim_le]
      have k4' : r.y1 ≤ 1048576 - d := by omega
      simp -implicitDefEqProofs [r6_11, k6_11, hi, ixi, Rec.o_len (Rec.ok_some (b := false) (l := b)), k1, k1', k2, k2', k3, k3', k4, k4', w1, hw, trim_le]
      exact ih
  · simp -implicitDefEqProofs [r6, p6, ret0 m9, sm, ret0 m10, Rec.o_reify, fa, fb, h1, h2, ret0 m21, ra, rb, h5, h6, ret1 m13, ret1 m11, set_o, set_i, c1, c2]
    rw [LL_for (γ := Unit) b () (fun i _ => [(12, .int .i64 i)]) (fun _ _ => []) (fun _ rest _ => if rest.all (farB d) then (.exit 0, [(12, undef)], []) else (.ret, [(6, .bool true), (12, undef)], [])) (fun _ _ => True) (by omega) trivial]
    · cases hf : b.all (farB d)
      · exact ⟨[], by simp -implicitDefEqProofs [k6_11]⟩
      · rcases e4 with rfl | rfl
        · have ad := ad rfl hf
          subst ad
          refine ⟨[], ?_⟩
          simp -implicitDefEqProofs [k6_11, ret1 m11, set_o, set_i, c4, ret0 m23, Rec.o_reify, c5, c6, beq]
        · refine ⟨[], ?_⟩
          simp -implicitDefEqProofs [k6_11, ret1 m11, set_o, set_i, c4]
    · simp -implicitDefEqProofs [k6_11]
    · rfl
    · intro nx i c hi _
      simp -implicitDefEqProofs [r6_11, k6_11, hi, Rec.o_len (Rec.ok_some (b := false) (l := b)), trim_le]
    · intro nx i r rest c hi hv hd hw _ ih
      have ixi := Rec.o_index (R := rectR) (t := 39) (kk := .i64) (s := 4) rfl (Rec.ok_some (b := false) (l := b)) hi
      rw [hv, rect_val] at ixi
      have ih := ih () trivial
      have ef : (r :: rest).all (farB d) = (farB d r && rest.all (farB d)) := rfl
      rw [ef]
      generalize rest.all (farB d) = qa at ih ⊢
      unfold farB
      simp -implicitDefEqProofs [k6_11] at ih
      by_cases k1 : r.x0 < d
      · have k1' : ¬ (d ≤ r.x0) := by omega
        simp -implicitDefEqProofs [r6_11, k6_11, hi, ixi, Rec.o_len (Rec.ok_some (b := false) (l := b)), k1, k1', trim_le]
      have k1' : d ≤ r.x0 := by omega
      by_cases k2 : r.y0 < d
      · have k2' : ¬ (d ≤ r.y0) := by omega
        simp -implicitDefEqProofs [r6_11, k6_11, hi, ixi, Rec.o_len (Rec.ok_some (b := false) (l := b)), k1, k1', k2, k2', trim_le]
      have k2' : d ≤ r.y0 := by omega
      by_cases k3 : 1048576 - d < r.x1
      · have k3' : ¬ (r.x1 ≤ 1048576 - d) := by omega
        simp -implicitDefEqProofs [r6_11, k6_11, hi, ixi, Rec.o_len (Rec.ok_some (b := false) (l := b)), k1, k1', k2, k2', k3, k3', w1, trim_le]
      have k3' : r.x1 ≤ 1048576 - d := by omega
      by_cases k4 : 1048576 - d < r.y1
      · have k4' : ¬ (r.y1 ≤ 1048576 - d) := by omega
        simp -implicitDefEqProofs [r6_11, k6_11, hi, ixi, Rec.o_len (Rec.ok_some (b := false) (l := b)), k1, k1', k2, k2', k3, k3', k4, k4', w1, trim_le]
      have k4' : r.y1 ≤ 1048576 - d := by omega
      simp -implicitDefEqProofs [r6_11, k6_11, hi, ixi, Rec.o_len (Rec.ok_some (b := false) (l := b)), k1, k1', k2, k2', k3, k3', k4, k4', w1, hw, trim_le]
      exact ih

set_option maxHeartbeats 2000000 in
theorem gaps_spec (a b : List Rect) (d : Int) : ∃ h', L E 7 [lst false (rectR.vals a), lst false (rectR.vals b), .int .i64 d] [] 0 = some (.bool true, h') := by
  have sm := small_spec
  have fa := few_spec (some false) a Rec.ok_some
  have fb := few_spec (some false) b Rec.ok_some
  rw [o_lst, o_lst, L_fn F7 rfl]
  by_cases h1 : a.length ≤ 24
  case neg => exact ⟨[], by simp -implicitDefEqProofs [r7, p7, ret0 m9, sm, ret0 m10, Rec.o_reify, fa, h1]⟩
  by_cases h2 : b.length ≤ 24
  case neg => exact ⟨[], by simp -implicitDefEqProofs [r7, p7, ret0 m9, sm, ret0 m10, Rec.o_reify, fa, fb, h1, h2]⟩
  have ra := rright2_spec (some false) a Rec.ok_some (by omega)
  have rb := rright2_spec (some false) b Rec.ok_some (by omega)
  cases h3 : regB a
  · exact ⟨[], by simp -implicitDefEqProofs [r7, p7, ret0 m9, sm, ret0 m10, Rec.o_reify, fa, fb, h1, h2, ret0 m21, ra, h3]⟩
  cases h4 : regB b
  · exact ⟨[], by simp -implicitDefEqProofs [r7, p7, ret0 m9, sm, ret0 m10, Rec.o_reify, fa, fb, h1, h2, ret0 m21, ra, rb, h3, h4]⟩
  by_cases h5 : d < 0
  · exact ⟨[], by simp -implicitDefEqProofs [r7, p7, ret0 m9, sm, ret0 m10, Rec.o_reify, fa, fb, h1, h2, ret0 m21, ra, rb, h3, h4, h5]⟩
  by_cases h6 : 1048576 ≤ d
  · exact ⟨[], by simp -implicitDefEqProofs [r7, p7, ret0 m9, sm, ret0 m10, Rec.o_reify, fa, fb, h1, h2, ret0 m21, ra, rb, h3, h4, h5, h6]⟩
  rw [h3] at ra
  rw [h4] at rb
  have w1 : IntKind.i64.wrap (d + 1) = d + 1 := wrap64 (by omega) (by omega)
  have d0 : 0 ≤ d + 1 := by omega
  have d1 : d + 1 ≤ 1048576 := by omega
  have g1 := gap_spec (some false) (some false) a b Rec.ok_some Rec.ok_some (by omega) (by omega)
  have g2 := gap_spec (some false) (some false) b a Rec.ok_some Rec.ok_some (by omega) (by omega)
  rw [gapX_comm] at g2
  have c1 := grow_o (some false) a (d + 1) Rec.ok_some (by omega)
  have e1 := grow_e h3 d0 d1
  have hg := any_len (grow_any a (d + 1))
  have la := fun h => Rec.o_len (R := rectR) (h := h) (Rec.ok_some (b := false) (l := a))
  have lb := fun h => Rec.o_len (R := rectR) (h := h) (Rec.ok_some (b := false) (l := b))
  have fs := form_spec (kR (growX a (d + 1))) (some false) (lR (growX a (d + 1))) b 1 andF (.inr (.inl ⟨rfl, rfl⟩)) (kR_ok _) Rec.ok_some (by omega) (by omega) (y_grow h3 d0 d1) (reg_y h4) [] 0 (Nat.zero_le _)
  simp only [List.length_nil, List.nil_append] at fs
  have key : eR (growX a (d + 1)) = 0 → decide (gapL 1048576 a b ≤ d) = decide (0 < (refL andF (lR (growX a (d + 1))) b).length) := fun q => gap_common h3 h4 (by omega) (by omega) (any_ok (grow_any _ _) q)
  have gp := gapL_pos a b
  have go := gapOk_eq h3 h4
  have gx : gapX a b = if gapOk a b then (gapL 1048576 a b, true) else (0, false) := rfl
  rw [gx] at g1 g2
  clear gx hg
  generalize refL andF (lR (growX a (d + 1))) b = F at *
  generalize growX a (d + 1) = G at *
  generalize gapL 1048576 a b = n at *
  generalize eR G = eg at *
  cases hk : gapOk a b
  · rw [hk] at go g1 g2
    simp only [Bool.false_eq_true, if_false] at g1 g2
    have hab : ¬ (0 < a.length ∧ 0 < b.length) := fun ⟨q1, q2⟩ => by simp [q1, q2] at go
    by_cases k1 : 0 < a.length
    · have k2 : ¬ (0 < b.length) := fun h => hab ⟨k1, h⟩
      have k1' : 0 < (a.length : Int) := by omega
      have k2' : ¬ (0 < (b.length : Int)) := by omega
      rcases e1 with rfl | rfl <;> exact ⟨[], by simp -implicitDefEqProofs [r7, p7, ret0 m9, sm, ret0 m10, Rec.o_reify, fa, fb, h1, h2, ret0 m21, ra, rb, h5, h6, ret0 m15, g1, g2, bne, la, lb, k1, k2, w1, ret1 m11, set_o, set_i, c1]⟩
    · have k1' : ¬ (0 < (a.length : Int)) := by omega
      rcases e1 with rfl | rfl <;> exact ⟨[], by simp -implicitDefEqProofs [r7, p7, ret0 m9, sm, ret0 m10, Rec.o_reify, fa, fb, h1, h2, ret0 m21, ra, rb, h5, h6, ret0 m15, g1, g2, bne, la, k1, w1, ret1 m11, set_o, set_i, c1]⟩
  · rw [hk] at go g1 g2
    simp only [if_true] at g1 g2
    have hab : 0 < a.length ∧ 0 < b.length := by
      have := go.symm
      simpa using this
    obtain ⟨k1, k2⟩ := hab
    have k1' : 0 < (a.length : Int) := by omega
    have k2' : 0 < (b.length : Int) := by omega
    have n0 : ¬ (n < 0) := by omega
    rcases e1 with rfl | rfl
    · have key := key rfl
      by_cases hn : n ≤ d
      · have hF : 0 < F.length := by rw [decide_eq_true hn] at key; exact of_decide_eq_true key.symm
        have hF' : 0 < (F.length : Int) := by omega
        exact ⟨_, by simp -implicitDefEqProofs [r7, p7, ret0 m9, sm, ret0 m10, Rec.o_reify, fa, fb, h1, h2, ret0 m21, ra, rb, h5, h6, ret0 m15, g1, g2, beq, bne, la, lb, k1, k2, n0, w1, ret1 m11, set_o, set_i, c1, fs, Rec.sl_len, hn, hF]; rfl⟩
      · have hF : ¬ (0 < F.length) := by rw [decide_eq_false hn] at key; exact of_decide_eq_false key.symm
        have hF' : ¬ (0 < (F.length : Int)) := by omega
        exact ⟨_, by simp -implicitDefEqProofs [r7, p7, ret0 m9, sm, ret0 m10, Rec.o_reify, fa, fb, h1, h2, ret0 m21, ra, rb, h5, h6, ret0 m15, g1, g2, beq, bne, la, lb, k1, k2, n0, w1, ret1 m11, set_o, set_i, c1, fs, Rec.sl_len, hn, hF]; rfl⟩
    · exact ⟨[], by simp -implicitDefEqProofs [r7, p7, ret0 m9, sm, ret0 m10, Rec.o_reify, fa, fb, h1, h2, ret0 m21, ra, rb, h5, h6, ret0 m15, g1, g2, bne, la, lb, k1, k2, n0, w1, ret1 m11, set_o, set_i, c1]⟩
end Go.Proofs.Ythnkmmbkdbdefaa.Bm

namespace Go.Proofs.Ythnkmmbkdbdefaa.Bm
open Go Go.RowKit
open Rg (Rect cell growL Gro eroB)

theorem nearL_len (a : List Rect) (d : Int) : ∀ (B : List (List Rect)) (i : Nat), (nearL a d i B).length ≤ B.length
  | [], _ => Nat.le_refl _
  | b :: B, i => by
    have ih := nearL_len a d B (i + 1)
    show ((if nearB a d b then [(i : Int)] else []) ++ nearL a d (i + 1) B).length ≤ B.length + 1
    rw [List.length_append]
    split
    · show 1 + _ ≤ _; omega
    · show 0 + _ ≤ _; omega
theorem nearL_sub (a : List Rect) {d e : Int} (h : d ≤ e) : ∀ (B : List (List Rect)) (i : Nat), (nearL a d i B).Sublist (nearL a e i B)
  | [], _ => List.Sublist.refl _
  | b :: B, i => by
    have ih := nearL_sub a h B (i + 1)
    show ((if nearB a d b then [(i : Int)] else []) ++ nearL a d (i + 1) B).Sublist ((if nearB a e b then [(i : Int)] else []) ++ nearL a e (i + 1) B)
    refine List.Sublist.append ?_ ih
    by_cases q : nearB a d b = true
    · have q2 : nearB a e b = true := by
        unfold nearB at q ⊢
        rw [Bool.and_eq_true, decide_eq_true_eq] at q ⊢
        exact ⟨q.1, by omega⟩
      rw [q, q2]
      exact List.Sublist.refl _
    · rw [if_neg q]; exact List.nil_sublist _
theorem gre_eq {w x : Int} {ws xs : List Int} (h : w = x) : gre (w :: ws) (x :: xs) = gre ws xs := if_pos h
theorem gre_ne {w x : Int} {ws xs : List Int} (h : ¬ w = x) : gre (w :: ws) (x :: xs) = gre ws (x :: xs) := if_neg h
/-- The list of indices while the lists are looked at, up to one that is too long. -/
def stopL (a : List Rect) (d : Int) : Nat → List (List Rect) → List Int → Bool × List Int
  | _, [], c => (true, c)
  | i, b :: B, c => if b.length ≤ 24 then stopL a d (i + 1) B (c ++ (if nearB a d b then [(i : Int)] else [])) else (false, c)
theorem stopL_true (a : List Rect) (d : Int) : ∀ (B : List (List Rect)) (i : Nat) (c : List Int), (stopL a d i B c).1 = true → (∀ b ∈ B, b.length ≤ 24) ∧ (stopL a d i B c).2 = c ++ nearL a d i B
  | [], i, c, _ => ⟨fun b hb => absurd hb List.not_mem_nil, (List.append_nil c).symm⟩
  | b :: B, i, c, h => by
    unfold stopL at h ⊢
    by_cases q : b.length ≤ 24
    · rw [if_pos q] at h ⊢
      obtain ⟨h1, h2⟩ := stopL_true a d B (i + 1) _ h
      refine ⟨fun b' hb => ?_, ?_⟩
      · rcases List.mem_cons.1 hb with rfl | hb
        · exact q
        · exact h1 b' hb
      · rw [h2, List.append_assoc]; rfl
    · rw [if_neg q] at h; cases h
def stopR (s : Bool × List Int) : Exit × List (Nat × Value) × Heap := if s.1 then (.exit 0, [(10, intR.sl 0 s.2), (11, undef)], [intR.row 3 s.2]) else (.ret, [(8, .bool true), (10, intR.sl 0 s.2), (11, undef)], [intR.row 3 s.2])
abbrev fL (B : List (List Rect)) : List (Option Bool × List Rect) := B.map fun l => (some false, l)
theorem fL_eq (B : List (List Rect)) : lst false (B.map fun l => lst false (rectR.vals l)) = lst false (rL (fL B)) := by
  congr 1
  simp [rL, fL, Rec.o]
theorem fL_pL (B : List (List Rect)) : pL (fL B) = B := by
  induction B with
  | nil => rfl
  | cons b B ih => exact congrArg (b :: ·) ih
theorem fL_set (B : List (List Rect)) : settled depth (lst false (rL (fL B))) = true := rfl
set_option maxHeartbeats 2000000 in
theorem near_spec (a : List Rect) (B : List (List Rect)) (d m : Int) (hm : 0 ≤ m ∧ m < 256) : ∃ h', L E 8 [lst false (rectR.vals a), lst false (B.map fun l => lst false (rectR.vals l)), .int .i64 d, .int .u8 m] [] 0 = some (.bool true, h') := by
  have sm := small_spec
  have fa := few_spec (some false) a Rec.ok_some
  have hfl : (fL B).length = B.length := List.length_map _
  rw [o_lst, fL_eq, L_fn F8 rfl]
  have len1 := fun h => rL_len (h := h) (x := false) (P := fL B)
  have ixL := fun i hi => rL_index (x := false) (P := fL B) i hi
  have wiL := fun d hP hl => within_spec (some false) false a (fL B) d Rec.ok_some hP hl
  have seL := fL_set B
  rw [hfl] at len1
  generalize lst false (rL (fL B)) = VL at len1 ixL wiL seL ⊢
  by_cases h1 : a.length ≤ 24
  case neg => exact ⟨[], by simp -implicitDefEqProofs [r8, p8, ret0 m9, sm, ret0 m10, Rec.o_reify, fa, h1]⟩
  by_cases h2 : B.length ≤ 8
  case neg =>
    have h2' : 8 < (B.length : Int) := by omega
    exact ⟨[], by simp -implicitDefEqProofs [r8, p8, ret0 m9, sm, ret0 m10, Rec.o_reify, fa, h1, len1, h2']⟩
  have h2' : ¬ (8 < (B.length : Int)) := by omega
  by_cases h3 : d < 0
  · exact ⟨[], by simp -implicitDefEqProofs [r8, p8, ret0 m9, sm, ret0 m10, Rec.o_reify, fa, h1, len1, h2', h3]⟩
  by_cases h4 : 1048576 < d
  · exact ⟨[], by simp -implicitDefEqProofs [r8, p8, ret0 m9, sm, ret0 m10, Rec.o_reify, fa, h1, len1, h2', h3, h4]⟩
  simp -implicitDefEqProofs [r8, p8, ret0 m9, sm, ret0 m10, Rec.o_reify, fa, h1, len1, h2', h3, h4, prep_new, newK_nil s3]
  rw [LL_for (γ := List Int) B [] (fun i c => [(10, intR.sl 0 c), (11, .int .i64 i)]) (fun _ c => [intR.row 3 c])
    (fun i rest c => stopR (stopL a d i rest c)) (fun i c => c.length ≤ i) (by omega) (Nat.le_refl _)]
  · cases hs : stopL a d 0 B [] with
    | mk q W =>
    cases q
    · exact ⟨[intR.row 3 W], by simp -implicitDefEqProofs [stopR, k8_6]⟩
    · obtain ⟨hB, hW⟩ := stopL_true a d B 0 [] (by rw [hs])
      rw [hs, List.nil_append] at hW
      simp only at hW
      subst hW
      have hP : ∀ p ∈ fL B, Rec.Ok p.1 p.2 ∧ p.2.length ≤ 1000000 := fun p hp => by
        obtain ⟨b, hb, rfl⟩ := List.mem_map.1 hp
        have := hB b hb
        exact ⟨Rec.ok_some, by show b.length ≤ 1000000; omega⟩
      have w1 := wiL d hP (by omega) (by omega)
      have w2 := wiL (d + m) hP (by omega) (by omega)
      rw [fL_pL] at w1 w2
      have l1 := nearL_len a d B 0
      have l2 := nearL_len a (d + m) B 0
      have sub := nearL_sub a (show d ≤ d + m by omega) B 0
      have sl := sub.length_le
      have gr := gre_sub sub
      generalize nearL a d 0 B = g at *
      generalize nearL a (d + m) 0 B = w at *
      have ii := law_ints g g (by omega)
      rw [decide_eq_true rfl] at ii
      have rr : reify E.P 8 [intR.row 3 g] (intR.sl 0 g) = some (iT g) := int_reifyR (h := [intR.row 3 g]) (b := 0) (l := g) rfl
      have wm : IntKind.i64.wrap m = m := wrap64 (by omega) (by omega)
      have wd : IntKind.i64.wrap (d + m) = d + m := wrap64 (by omega) (by omega)
      have sl' : ¬ ((w.length : Int) < (g.length : Int)) := by omega
      have sln : ¬ (w.length < g.length) := by omega
      simp -implicitDefEqProofs [stopR, k8_6, ret1 m19, set_o, set_i, seL, w1, w2, wm, wd, ret0 m18, iT_reify, rr, ii, iT_len, sl']
      rw [LL_rec (α := Nat × Nat) (0, 0) (fun c => [(16, .int .i64 (c.2 : Int)), (17, .int .i64 (c.1 : Int))]) (fun _ => [intR.row 3 g])
        (fun _ => (.exit 2, [(16, .int .i64 (g.length : Int)), (17, undef)], [intR.row 3 g])) (fun c => c.1 ≤ w.length ∧ c.2 ≤ g.length ∧ gre (w.drop c.1) (g.drop c.2) = []) (fun c => w.length - c.1)]
      · exact ⟨[intR.row 3 g], by simp -implicitDefEqProofs [k8_19, iT_len]⟩
      · exact ⟨Nat.zero_le _, Nat.zero_le _, gr⟩
      · simp -implicitDefEqProofs [k8_19]
      · rfl
      · intro nx c hc ih
        obtain ⟨i, t⟩ := c
        obtain ⟨q1, q2, q3⟩ := hc
        simp only at q1 q2 q3
        by_cases hi : i < w.length
        · have hi' : (i : Int) < (w.length : Int) := by omega
          by_cases ht : t < g.length
          · have ht' : (t : Int) < (g.length : Int) := by omega
            rw [List.drop_eq_getElem_cons hi, List.drop_eq_getElem_cons ht] at q3
            have ixw := iT_index hi
            have ixg := iT_index ht
            have wi : IntKind.i64.wrap ((i : Int) + 1) = (i : Int) + 1 := wrap64 (by omega) (by omega)
            have wt : IntKind.i64.wrap ((t : Int) + 1) = (t : Int) + 1 := wrap64 (by omega) (by omega)
            by_cases he : w[i] = g[t]
            · have q4 : gre (w.drop (i + 1)) (g.drop (t + 1)) = [] := by
                rw [← q3]; exact (gre_eq he).symm
              have ih := ih (i + 1, t + 1) (by show w.length - (i + 1) < w.length - i; omega) ⟨by show i + 1 ≤ w.length; omega, by show t + 1 ≤ g.length; omega, q4⟩
              simp -implicitDefEqProofs [k8_19] at ih
              simp -implicitDefEqProofs [r8_19, k8_19, iT_len, hi', ht', ixw, ixg, he, wi, wt, trim_le]
              exact ih
            · have q4 : gre (w.drop (i + 1)) (g.drop t) = [] := by
                rw [← q3]; rw [List.drop_eq_getElem_cons ht]; exact (gre_ne he).symm
              have ih := ih (i + 1, t) (by show w.length - (i + 1) < w.length - i; omega) ⟨by show i + 1 ≤ w.length; omega, q2, q4⟩
              simp -implicitDefEqProofs [k8_19] at ih
              simp -implicitDefEqProofs [r8_19, k8_19, iT_len, hi', ht', ixw, ixg, he, wi, trim_le]
              exact ih
          · have e : t = g.length := by omega
            subst e
            simp -implicitDefEqProofs [r8_19, k8_19, iT_len, hi', trim_le]
        · have e : t = g.length := by
            rw [List.drop_of_length_le (by omega : w.length ≤ i)] at q3
            have : g.drop t = [] := q3
            have := List.drop_eq_nil_iff.1 this
            omega
          subst e
          have hi' : ¬ ((i : Int) < (w.length : Int)) := by omega
          simp -implicitDefEqProofs [r8_19, k8_19, iT_len, hi', trim_le]
  · simp -implicitDefEqProofs [k8_6, Rec.sl_nil]
  · rfl
  · intro nx i c hi _
    simp -implicitDefEqProofs [r8_6, k8_6, hi, len1, trim_le, stopL, stopR]
  · intro nx i b rest c hi hv hd hw hc ih
    have hi2 : i < (fL B).length := by omega
    have ixi := ixL i hi2
    have eb : (fL B)[i] = (some false, b) := by simp [fL, hv]
    rw [eb] at ixi
    simp only at ixi
    have fb := few_spec (some false) b Rec.ok_some
    unfold stopL
    by_cases hb : b.length ≤ 24
    case neg =>
      rw [if_neg hb]
      simp -implicitDefEqProofs [r8_6, k8_6, hi, len1, ixi, Rec.o_fits, ret0 m10, Rec.o_reify, fb, hb, stopR, trim_le]
    rw [if_pos hb]
    have gg := gap_spec (some false) (some false) a b Rec.ok_some Rec.ok_some (by omega) (by omega)
    have ap := app_num (h := [intR.row 3 c]) (b := 0) (lo := 0) (c := c) (i : Int) rfl (Nat.le_refl _) (by omega)
    unfold nearB
    generalize gapX a b = g at gg ⊢
    obtain ⟨n, q⟩ := g
    simp only at gg ⊢
    cases q
    · have ih := ih c (by omega)
      simp -implicitDefEqProofs [k8_6] at ih
      simp -implicitDefEqProofs [r8_6, k8_6, hi, len1, ixi, Rec.o_fits, ret0 m10, ret0 m15, Rec.o_reify, fb, hb, gg, hw, trim_le]
      exact ih
    · by_cases hn : n ≤ d
      · have ih := ih (c ++ [(i : Int)]) (by simp; omega)
        rw [if_pos (by simp [hn])]
        simp -implicitDefEqProofs [k8_6] at ih
        simp -implicitDefEqProofs [r8_6, k8_6, hi, len1, ixi, Rec.o_fits, ret0 m10, ret0 m15, Rec.o_reify, fb, hb, gg, hn, lit_num, ap, hw, trim_le]
        exact ih
      · have ih := ih c (by omega)
        rw [if_neg (by simp [hn]), List.append_nil]
        simp -implicitDefEqProofs [k8_6] at ih
        simp -implicitDefEqProofs [r8_6, k8_6, hi, len1, ixi, Rec.o_fits, ret0 m10, ret0 m15, Rec.o_reify, fb, hb, gg, hn, hw, trim_le]
        exact ih
end Go.Proofs.Ythnkmmbkdbdefaa.Bm

namespace Go.Proofs.Ythnkmmbkdbdefaa.Bm
open Go Go.RowKit
open Rg (Rect cell growL growR gapR)

theorem span5 (a b : Int) : pureCall E.P (L E) 63 [.int .i64 a, .int .i64 b] = some (.bool (decide (0 ≤ a) && decide (a < b) && decide (b ≤ 1048576))) := by
  rw [pureCall_fn F63 rfl]
  by_cases h1 : 0 ≤ a
  case neg => simp -implicitDefEqProofs [r63, padS, h1]
  by_cases h2 : a < b
  case neg => simp -implicitDefEqProofs [r63, padS, h1, h2]
  simp -implicitDefEqProofs [r63, padS, h1, h2]
theorem right5 (r : Rect) : pureCall E.P (L E) 50 [.agg ⟨[.int .i64 r.x0, .int .i64 r.y0, .int .i64 r.x1, .int .i64 r.y1]⟩] = some (.bool (okR r)) := by
  have e : okR r = ((decide (0 ≤ r.x0) && decide (r.x0 < r.x1) && decide (r.x1 ≤ 1048576)) && (decide (0 ≤ r.y0) && decide (r.y0 < r.y1) && decide (r.y1 ≤ 1048576))) := by
    unfold okR
    cases decide (0 ≤ r.x0) <;> cases decide (r.x0 < r.x1) <;> cases decide (r.x1 ≤ 1048576) <;> cases decide (0 ≤ r.y0) <;> cases decide (r.y0 < r.y1) <;> cases decide (r.y1 ≤ 1048576) <;> rfl
  have s1 := span5 r.x0 r.x1
  have s2 := span5 r.y0 r.y1
  rw [e, pureCall_fn F50 rfl]
  generalize (decide (0 ≤ r.x0) && decide (r.x0 < r.x1) && decide (r.x1 ≤ 1048576)) = p at *
  generalize (decide (0 ≤ r.y0) && decide (r.y0 < r.y1) && decide (r.y1 ≤ 1048576)) = q at *
  cases p <;> cases q <;> simp -implicitDefEqProofs [r50, padS, ret0 m63, s1, s2]
def apart5 (a b c d : Int) : Int := if b ≤ c then c - b + 1 else if d ≤ a then a - d + 1 else 0
theorem apart_spec (a b c d : Int) (h : 0 ≤ a ∧ a ≤ 1048576 ∧ 0 ≤ b ∧ b ≤ 1048576 ∧ 0 ≤ c ∧ c ≤ 1048576 ∧ 0 ≤ d ∧ d ≤ 1048576) : pureCall E.P (L E) 58 [.int .i64 a, .int .i64 b, .int .i64 c, .int .i64 d] = some (.int .i64 (apart5 a b c d)) := by
  have w1 : IntKind.i64.wrap (c - b) = c - b := wrap64 (by omega) (by omega)
  have w2 : IntKind.i64.wrap (c - b + 1) = c - b + 1 := wrap64 (by omega) (by omega)
  have w3 : IntKind.i64.wrap (a - d) = a - d := wrap64 (by omega) (by omega)
  have w4 : IntKind.i64.wrap (a - d + 1) = a - d + 1 := wrap64 (by omega) (by omega)
  rw [pureCall_fn F58 rfl]
  unfold apart5
  by_cases h1 : b ≤ c
  · simp -implicitDefEqProofs [r58, padS, h1, w1, w2]
  by_cases h2 : d ≤ a
  · simp -implicitDefEqProofs [r58, padS, h1, h2, w3, w4]
  simp -implicitDefEqProofs [r58, padS, h1, h2]
theorem gap5_eq {r s : Rect} (hr : r.inBox 1048576) (hs : s.inBox 1048576) : max 0 (max (apart5 r.x0 r.x1 s.x0 s.x1) (apart5 r.y0 r.y1 s.y0 s.y1) - 1) = gapR r s := by
  unfold Rect.inBox at hr hs
  unfold apart5 gapR
  split <;> split <;> (try split) <;> (try split) <;> omega
theorem gap5 (r s : Rect) (hr : okR r = true) (hs : okR s = true) : pureCall E.P (L E) 41 [.agg ⟨[.int .i64 r.x0, .int .i64 r.y0, .int .i64 r.x1, .int .i64 r.y1]⟩, .agg ⟨[.int .i64 s.x0, .int .i64 s.y0, .int .i64 s.x1, .int .i64 s.y1]⟩] = some (.int .i64 (gapR r s)) := by
  have q1 := right5 r
  have q2 := right5 s
  rw [hr] at q1
  rw [hs] at q2
  have hb := okR_iff.1 hr
  have hc := okR_iff.1 hs
  have e := gap5_eq hb hc
  unfold Rect.inBox at hb hc
  have a1 := apart_spec r.x0 r.x1 s.x0 s.x1 (by omega)
  have a2 := apart_spec r.y0 r.y1 s.y0 s.y1 (by omega)
  have b1 : 0 ≤ apart5 r.x0 r.x1 s.x0 s.x1 ∧ apart5 r.x0 r.x1 s.x0 s.x1 ≤ 2000000 := by unfold apart5; split <;> (try split) <;> omega
  have b2 : 0 ≤ apart5 r.y0 r.y1 s.y0 s.y1 ∧ apart5 r.y0 r.y1 s.y0 s.y1 ≤ 2000000 := by unfold apart5; split <;> (try split) <;> omega
  rw [← e]
  generalize apart5 r.x0 r.x1 s.x0 s.x1 = u at *
  generalize apart5 r.y0 r.y1 s.y0 s.y1 = v at *
  have w1 : IntKind.i64.wrap (max u v - 1) = max u v - 1 := wrap64 (by omega) (by omega)
  rw [pureCall_fn F41 rfl]
  simp -implicitDefEqProofs [r41, p41, ret0 m50, q1, q2, ret0 m58, a1, a2, max_int, w1]
theorem grow5 (r : Rect) (d : Int) (hr : okR r = true) (h1 : 0 ≤ d) (h2 : d ≤ 1048576) : pureCall E.P (L E) 30 [.agg ⟨[.int .i64 r.x0, .int .i64 r.y0, .int .i64 r.x1, .int .i64 r.y1]⟩, .int .i64 d] = some (.tuple ⟨[rectR.val (growR d r), .bool true]⟩) := by
  have hb := okR_iff.1 hr
  obtain ⟨w1, w2, w3, w4⟩ := box_wrap hb h1 h2
  have hs := right5 r
  rw [hr] at hs
  have hd : ¬ (d < 0) := by omega
  have hm : min d 1048576 = d := by omega
  have c1 : max 0 (r.x0 - d) = max (r.x0 - d) 0 := by omega
  have c2 : max 0 (r.y0 - d) = max (r.y0 - d) 0 := by omega
  have c3 : min 1048576 (r.x1 + d) = min (r.x1 + d) 1048576 := by omega
  have c4 : min 1048576 (r.y1 + d) = min (r.y1 + d) 1048576 := by omega
  rw [pureCall_fn F30 rfl]
  simp -implicitDefEqProofs [r30, padS, rect_val, ret0 m50, hs, hd, min_int, max_int, hm, w1, w2, w3, w4, b4_all, growR, c1, c2, c3, c4]
def shrR (d : Int) (r : Rect) : Rect := ⟨r.x0 + d, r.y0 + d, r.x1 - d, r.y1 - d⟩
theorem shrink5 (r : Rect) (d : Int) (hr : okR r = true) (h1 : 0 ≤ d) (h2 : d ≤ 1048576) : pureCall E.P (L E) 38 [.agg ⟨[.int .i64 r.x0, .int .i64 r.y0, .int .i64 r.x1, .int .i64 r.y1]⟩, .int .i64 d] = some (.tuple ⟨[rectR.val (if okR (shrR d r) then shrR d r else ⟨0, 0, 0, 0⟩), .bool (okR (shrR d r))]⟩) := by
  have hb := okR_iff.1 hr
  unfold Rect.inBox at hb
  have w1 : IntKind.i64.wrap (r.x0 + d) = r.x0 + d := wrap64 (by omega) (by omega)
  have w2 : IntKind.i64.wrap (r.y0 + d) = r.y0 + d := wrap64 (by omega) (by omega)
  have w3 : IntKind.i64.wrap (r.x1 - d) = r.x1 - d := wrap64 (by omega) (by omega)
  have w4 : IntKind.i64.wrap (r.y1 - d) = r.y1 - d := wrap64 (by omega) (by omega)
  have q1 := right5 r
  have q2 := right5 (shrR d r)
  rw [hr] at q1
  have n1 : ¬ (d < 0) := by omega
  have n2 : ¬ (1048576 < d) := by omega
  rw [pureCall_fn F38 rfl]
  cases hk : okR (shrR d r)
  · rw [hk] at q2
    simp only [shrR] at q2
    simp -implicitDefEqProofs [r38, p38, rect_val, ret0 m50, q1, q2, n1, n2, w1, w2, w3, w4, b4_all, b4_none]
  · rw [hk] at q2
    simp only [shrR] at q2
    simp -implicitDefEqProofs [r38, p38, rect_val, ret0 m50, q1, q2, n1, n2, w1, w2, w3, w4, b4_all, shrR]
theorem valid8 (k : Option Bool) (a : List Rect) (d : Int) (hk : Rec.Ok k a) (ha : a.length ≤ 1000000) : pureCall E.P (L E) 29 [rectR.o k a, .int .i64 d] = some (.bool (validB a d)) := by
  have hr := rright2_spec k a hk ha
  unfold validB
  rw [pureCall_fn F29 rfl]
  by_cases h1 : 0 ≤ d
  case neg => simp -implicitDefEqProofs [r29, padS, h1]
  by_cases h2 : d ≤ 1048576
  case neg => simp -implicitDefEqProofs [r29, padS, h1, h2]
  cases h3 : regB a <;> simp -implicitDefEqProofs [r29, padS, h1, h2, ret0 m21, Rec.o_reify, hr, h3]
end Go.Proofs.Ythnkmmbkdbdefaa.Bm
