/-
  Chapter 08: the statements on cells, sums of distances, inclusion and gaps, walked. Conditions: none.
-/
import Derived.Test.YthnkmmbkdbdefaaQ25
namespace Go.Proofs.Ythnkmmbkdbdefaa.Bm
open Go Go.RowKit
open Rg (Rect Slab outT)

theorem box_small (x0 y0 x1 y1 : Int) : pureCall E.P (L E) 25 [.int .i64 x0, .int .i64 y0, .int .i64 x1, .int .i64 y1] = some (lst true (rectR.vals [⟨x0, y0, x1, y1⟩])) := box_spec x0 y0 x1 y1
theorem lit_list3 (h : Heap) (k m n : Option Bool) (l r s : List Rect) : buildSliceT (some ⟨22, 1, 24, .slice none 0 0, ⟨some false, some 1⟩⟩) false h 3 #[(0, rectR.o k l), (1, rectR.o m r), (2, rectR.o n s)] = some (lst true [rectR.o k l, rectR.o m r, rectR.o n s], h) := by
  cases k <;> cases m <;> cases n <;> exact (build_lit' (n := 3) (l := [(0, _), (1, _), (2, _)]) rfl rfl (by decide) (by decide) (by decide)).trans rfl
theorem lit_rect2 (h : Heap) (p q : Rect) : buildSliceT (some ⟨39, 4, 32, .agg ⟨[.int .i64 0, .int .i64 0, .int .i64 0, .int .i64 0]⟩, ⟨some true, some 4⟩⟩) false h 2 #[(0, rectR.val p), (1, rectR.val q)] = some (lst true (rectR.vals [p, q]), h) :=
  (build_lit' (n := 2) (l := [(0, rectR.val p), (1, rectR.val q)]) rfl rfl (by decide) (by decide) (by decide)).trans rfl
theorem ex_g1 : growX [⟨2, 2, 3, 3⟩] 1 = .ok [⟨1, 1, 4, 4⟩] := by kernel_rfl
theorem ex_g2 : growX [⟨0, 0, 1, 1⟩] 1 = .ok [⟨0, 0, 2, 2⟩] := by kernel_rfl
theorem ex_g3 : growX [] (-1) = .error 1 := by kernel_rfl
theorem ex_s1 : shrinkR 2 [⟨0, 5, [(0, 5)]⟩] = .ok [⟨2, 2, 3, 3⟩] := by kernel_rfl
theorem ex_s2 : shrinkR 3 [⟨0, 5, [(0, 5)]⟩] = .ok [] := by kernel_rfl
theorem ex_s3 : shrinkR 1 [⟨0, 1, [(0, 3)]⟩, ⟨1, 3, [(0, 4)]⟩] = .ok [⟨1, 1, 2, 2⟩] := by kernel_rfl
theorem ex_n1 : gapX [⟨0, 0, 1, 1⟩] [⟨1, 1, 2, 2⟩] = (0, true) := by kernel_rfl
theorem ex_n2 : gapX [⟨0, 0, 1, 1⟩] [⟨3, 0, 4, 1⟩] = (2, true) := by kernel_rfl
theorem ex_w : nearL [⟨0, 0, 1, 1⟩] 2 0 [[⟨9, 9, 10, 10⟩], [⟨3, 0, 4, 1⟩], []] = [1] := by kernel_rfl
theorem ex_r1 : regB (outT [⟨0, 5, [(0, 5)]⟩]) = true := by kernel_rfl
theorem ex_r2 : regB (outT [⟨0, 1, [(0, 3)]⟩, ⟨1, 3, [(0, 4)]⟩]) = true := by kernel_rfl
theorem small_spec : pureCall E.P (L E) 9 [] = some (.bool true) := by
  have g1 := grow_spec (some true) [⟨2, 2, 3, 3⟩] 1 Rec.ok_some (by decide)
  have g2 := grow_spec (some true) [⟨0, 0, 1, 1⟩] 1 Rec.ok_some (by decide)
  have g3 := grow_spec none [] (-1) (fun _ => rfl) (by decide)
  have s1 := shrink_walk (some true) [⟨0, 5, [(0, 5)]⟩] 2 0 [] Rec.ok_some (by simp [Rg.canT, Rg.Can, Rg.canS]) (by decide) (by decide) ex_r1
  have s2 := shrink_walk (some true) [⟨0, 5, [(0, 5)]⟩] 3 0 [] Rec.ok_some (by simp [Rg.canT, Rg.Can, Rg.canS]) (by decide) (by decide) ex_r1
  have s3 := shrink_walk (some true) [⟨0, 1, [(0, 3)]⟩, ⟨1, 3, [(0, 4)]⟩] 1 0 [] Rec.ok_some (by simp [Rg.canT, Rg.Can, Rg.canS]) (by decide) (by decide) ex_r2
  have n1 := gap_spec (some true) (some true) [⟨0, 0, 1, 1⟩] [⟨1, 1, 2, 2⟩] Rec.ok_some Rec.ok_some (by decide) (by decide)
  have n2 := gap_spec (some true) (some true) [⟨0, 0, 1, 1⟩] [⟨3, 0, 4, 1⟩] Rec.ok_some Rec.ok_some (by decide) (by decide)
  have w1 := within_spec (some true) true [⟨0, 0, 1, 1⟩] [(some true, [⟨9, 9, 10, 10⟩]), (some true, [⟨3, 0, 4, 1⟩]), (none, [])] 2 Rec.ok_some (by
    intro p hp
    simp only [List.mem_cons, List.not_mem_nil, or_false] at hp
    rcases hp with rfl | rfl | rfl
    · exact ⟨Rec.ok_some, by decide⟩
    · exact ⟨Rec.ok_some, by decide⟩
    · exact ⟨fun _ => rfl, by decide⟩) (by decide) (by decide)
  have c1 := same_rects (some false) (some true) [⟨1, 1, 4, 4⟩] [⟨1, 1, 4, 4⟩] Rec.ok_some Rec.ok_some (by decide)
  have c2 := same_rects (some false) (some true) [⟨0, 0, 2, 2⟩] [⟨0, 0, 2, 2⟩] Rec.ok_some Rec.ok_some (by decide)
  have c3 := same_rects (some false) (some true) [⟨2, 2, 3, 3⟩] [⟨2, 2, 3, 3⟩] Rec.ok_some Rec.ok_some (by decide)
  have c4 := same_rects (some false) (some true) [⟨1, 1, 2, 2⟩] [⟨1, 1, 2, 2⟩] Rec.ok_some Rec.ok_some (by decide)
  rw [ex_g1] at g1
  rw [ex_g2] at g2
  rw [ex_g3] at g3
  rw [ex_s1] at s1
  rw [ex_s2] at s2
  rw [ex_s3] at s3
  rw [ex_n1] at n1
  rw [ex_n2] at n2
  rw [show pL [(some true, [⟨9, 9, 10, 10⟩]), (some true, [⟨3, 0, 4, 1⟩]), ((none : Option Bool), ([] : List Rect))] = [[⟨9, 9, 10, 10⟩], [⟨3, 0, 4, 1⟩], []] from rfl, ex_w] at w1
  rw [show outT [⟨0, 5, [(0, 5)]⟩] = [⟨0, 0, 5, 5⟩] from rfl] at s1 s2
  rw [show outT [⟨0, 1, [(0, 3)]⟩, ⟨1, 3, [(0, 4)]⟩] = [⟨0, 0, 1, 3⟩, ⟨1, 0, 3, 4⟩] from rfl] at s3
  simp only [Rec.o, resL, decide_true, rL, List.map_cons, List.map_nil] at g1 g2 g3 s1 s2 s3 n1 n2 w1 c1 c2 c3 c4
  have l3 := fun h => lit_list3 h (some true) (some true) none [⟨9, 9, 10, 10⟩] [⟨3, 0, 4, 1⟩] []
  simp only [Rec.o] at l3
  have l2 := fun h => lit_rect2 h ⟨0, 0, 1, 3⟩ ⟨1, 0, 3, 4⟩
  simp only [rect_val] at l2
  have so : ∀ b l, settled depth (lst b l) = true := fun _ _ => rfl
  have so3 : ∀ z, settled depth (.int .i64 z) = true := fun _ => rfl
  have so4 : settled depth (.slice none 0 0) = true := rfl
  have rl : ∀ h b l, reify E.P 8 h (lst b (rectR.vals l)) = some (lst b (rectR.vals l)) := fun _ _ _ => rfl
  have ix : indexAddrT (.sl 3 ⟨some false, some 1⟩) (iT [1]) (.int .i64 0) = some (cptr (.int .i64 1)) := iT_index (l := [1]) (i := 0) (by decide)
  have nl : rectR.vals [] = [] := rfl
  rw [pureCall_fn F9 rfl]
  simp -implicitDefEqProofs [r9, p9, ret1 m25, box_small, so3, ret1 m11, ret1 m13, so, so4, g1, g2, g3, s1, s2, s3, ret0 m15, rl, n1, n2, b4_all, l2, l3, ret1 m19, w1, iT_len, ix, ret0 m17, c1, c2, c3, c4, nl]
end Go.Proofs.Ythnkmmbkdbdefaa.Bm

namespace Go.Proofs.Ythnkmmbkdbdefaa.Bm
open Go Go.RowKit
open Rg (Rect cell growL Gro eroB ofL)

/-! ### Results as list and number -/
def kR : Except Int (List Rect) → Option Bool
  | .error _ => none
  | .ok _ => some false
def lR : Except Int (List Rect) → List Rect
  | .error _ => []
  | .ok l => l
def eR : Except Int (List Rect) → Int
  | .error e => e
  | .ok _ => 0
theorem resL_eq (r : Except Int (List Rect)) : resL r = .tuple ⟨[rectR.o (kR r) (lR r), .int .i64 (eR r)]⟩ := by cases r <;> rfl
theorem kR_ok (r : Except Int (List Rect)) : Rec.Ok (kR r) (lR r) := by
  cases r
  · exact fun _ => rfl
  · exact Rec.ok_some
theorem grow_any (a : List Rect) (d : Int) : growX a d = .error 1 ∨ growX a d = .error 6 ∨ ∃ l, growX a d = .ok l ∧ l.length ≤ 200 := by
  unfold growX
  by_cases h : validB a d = true
  · rw [if_pos h]
    unfold ofR
    by_cases h1 : (growL d a).all okR = true
    · rw [if_pos h1]
      by_cases h2 : 400 < (growL d a).length
      · rw [if_pos h2]; exact .inr (.inl rfl)
      · rw [if_neg h2]
        by_cases h3 : (ofL (growL d a)).length ≤ 200
        · rw [if_pos h3]; exact .inr (.inr ⟨_, rfl, h3⟩)
        · rw [if_neg h3]; exact .inr (.inl rfl)
    · rw [if_neg h1]; exact .inl rfl
  · rw [if_neg h]; exact .inl rfl
theorem shrink_any (a : List Rect) (d : Int) : shrinkX a d = .error 1 ∨ shrinkX a d = .error 6 ∨ ∃ l, shrinkX a d = .ok l ∧ l.length ≤ 200 := by
  unfold shrinkX
  by_cases h : validB a d = true
  · rw [if_pos h]
    by_cases h2 : 200 < (shrinkF d a).length
    · rw [if_pos h2]; exact .inr (.inl rfl)
    · rw [if_neg h2]; exact .inr (.inr ⟨_, rfl, by omega⟩)
  · rw [if_neg h]; exact .inl rfl
theorem any_len {r : Except Int (List Rect)} (h : r = .error 1 ∨ r = .error 6 ∨ ∃ l, r = .ok l ∧ l.length ≤ 200) : (lR r).length ≤ 200 := by
  rcases h with rfl | rfl | ⟨l, rfl, h⟩
  · exact Nat.zero_le _
  · exact Nat.zero_le _
  · exact h
theorem any_ok {r : Except Int (List Rect)} (h : r = .error 1 ∨ r = .error 6 ∨ ∃ l, r = .ok l ∧ l.length ≤ 200) (h0 : eR r = 0) : r = .ok (lR r) := by
  rcases h with rfl | rfl | ⟨l, rfl, h⟩
  · exact absurd h0 (by decide)
  · exact absurd h0 (by decide)
  · rfl
theorem grow_e {a : List Rect} {d : Int} (h : regB a = true) (h0 : 0 ≤ d) (h1 : d ≤ 1048576) : eR (growX a d) = 0 ∨ eR (growX a d) = 6 := by
  rcases grow_cases h h0 h1 with h | ⟨c, h, _⟩ <;> rw [h]
  · exact .inr rfl
  · exact .inl rfl
theorem shrink_e {a : List Rect} {d : Int} (h : regB a = true) (h0 : 0 ≤ d) (h1 : d ≤ 1048576) : eR (shrinkX a d) = 0 ∨ eR (shrinkX a d) = 6 := by
  rcases shrink_cases h h0 h1 with h | ⟨c, h, _⟩ <;> rw [h]
  · exact .inr rfl
  · exact .inl rfl
theorem grow_o (k : Option Bool) (a : List Rect) (d : Int) (hk : Rec.Ok k a) (ha : a.length ≤ 1000000) : pureCall E.P (L E) 11 [rectR.o k a, .int .i64 d] = some (.tuple ⟨[rectR.o (kR (growX a d)) (lR (growX a d)), .int .i64 (eR (growX a d))]⟩) := by
  rw [← resL_eq]; exact grow_spec k a d hk ha
theorem shrink_o (k : Option Bool) (a : List Rect) (d : Int) (hk : Rec.Ok k a) (ha : a.length ≤ 1000000) : pureCall E.P (L E) 13 [rectR.o k a, .int .i64 d] = some (.tuple ⟨[rectR.o (kR (shrinkX a d)) (lR (shrinkX a d)), .int .i64 (eR (shrinkX a d))]⟩) := by
  rw [← resL_eq]; exact shrink_spec k a d hk ha
theorem o_lst (a : List Rect) : lst false (rectR.vals a) = rectR.o (some false) a := rfl
theorem set_o (k : Option Bool) (a : List Rect) : settled depth (rectR.o k a) = true := Rec.o_set
theorem set_i (z : Int) : settled depth (.int .i64 z) = true := rfl
theorem ub : E.P.underlying 4 = some .bool := by kernel_rfl
theorem beq (p q : Bool) : aBin E.P .eql 4 (.bool p) (.bool q) = some (.bool (p == q)) := bin_eql_bool ub
theorem bne (p q : Bool) : aBin E.P .neq 4 (.bool p) (.bool q) = some (.bool (p != q)) := bin_neq_bool ub

set_option maxHeartbeats 2000000 in
theorem adds_spec (a : List Rect) (d n : Int) : ∃ h', L E 5 [lst false (rectR.vals a), .int .i64 d, .int .i64 n] [] 0 = some (.bool true, h') := by
  refine ⟨[], ?_⟩
  have sm := small_spec
  have fw := few_spec (some false) a Rec.ok_some
  rw [o_lst, L_fn F5 rfl]
  by_cases h1 : a.length ≤ 24
  case neg => simp -implicitDefEqProofs [r5, p5, ret0 m9, sm, ret0 m10, Rec.o_reify, fw, h1]
  have hr := rright2_spec (some false) a Rec.ok_some (by omega)
  cases h2 : regB a
  · simp -implicitDefEqProofs [r5, p5, ret0 m9, sm, ret0 m10, Rec.o_reify, fw, h1, ret0 m21, hr, h2]
  by_cases h3 : d < 0
  · simp -implicitDefEqProofs [r5, p5, ret0 m9, sm, ret0 m10, Rec.o_reify, fw, h1, ret0 m21, hr, h2, h3]
  by_cases h4 : n < 0
  · simp -implicitDefEqProofs [r5, p5, ret0 m9, sm, ret0 m10, Rec.o_reify, fw, h1, ret0 m21, hr, h2, h3, h4]
  by_cases h5 : 1048576 < d
  · simp -implicitDefEqProofs [r5, p5, ret0 m9, sm, ret0 m10, Rec.o_reify, fw, h1, ret0 m21, hr, h2, h3, h4, h5]
  have w1 : IntKind.i64.wrap (1048576 - d) = 1048576 - d := wrap64 (by omega) (by omega)
  by_cases h6 : 1048576 - d < n
  · simp -implicitDefEqProofs [r5, p5, ret0 m9, sm, ret0 m10, Rec.o_reify, fw, h1, ret0 m21, hr, h2, h3, h4, h5, w1, h6]
  have w2 : IntKind.i64.wrap (d + n) = d + n := wrap64 (by omega) (by omega)
  have e1 := grow_e h2 (show 0 ≤ d by omega) (by omega)
  have e2 := grow_e h2 (show 0 ≤ d + n by omega) (by omega)
  have e3 := shrink_e h2 (show 0 ≤ d by omega) (by omega)
  have e4 := shrink_e h2 (show 0 ≤ d + n by omega) (by omega)
  have lx := any_len (grow_any a d)
  have ly := any_len (grow_any (lR (growX a d)) n)
  have lu := any_len (shrink_any a d)
  have lv := any_len (shrink_any (lR (shrinkX a d)) n)
  have c1 := grow_o (some false) a d Rec.ok_some (by omega)
  have c2 := grow_o _ _ n (kR_ok (growX a d)) (by omega)
  have c3 := grow_o (some false) a (d + n) Rec.ok_some (by omega)
  have c4 := shrink_o (some false) a d Rec.ok_some (by omega)
  have c5 := shrink_o _ _ n (kR_ok (shrinkX a d)) (by omega)
  have c6 := shrink_o (some false) a (d + n) Rec.ok_some (by omega)
  have s1 := same_rects _ _ _ _ (kR_ok (growX (lR (growX a d)) n)) (kR_ok (growX a (d + n))) (by omega)
  have s2 := same_rects _ _ _ _ (kR_ok (shrinkX (lR (shrinkX a d)) n)) (kR_ok (shrinkX a (d + n))) (by omega)
  have g1 : eR (growX a d) = 0 → eR (growX (lR (growX a d)) n) = 0 → eR (growX a (d + n)) = 0 → decide (lR (growX (lR (growX a d)) n) = lR (growX a (d + n))) = true := fun q1 q2 q3 =>
    decide_eq_true <| grow_adds h2 (by omega) (by omega) (by omega) (any_ok (grow_any _ _) q1) (any_ok (grow_any _ _) q2) (any_ok (grow_any _ _) q3)
  have g2 : eR (shrinkX a d) = 0 → eR (shrinkX (lR (shrinkX a d)) n) = 0 → eR (shrinkX a (d + n)) = 0 → decide (lR (shrinkX (lR (shrinkX a d)) n) = lR (shrinkX a (d + n))) = true := fun q1 q2 q3 =>
    decide_eq_true <| shrink_adds h2 (by omega) (by omega) (by omega) (any_ok (shrink_any _ _) q1) (any_ok (shrink_any _ _) q2) (any_ok (shrink_any _ _) q3)
  clear lx ly lu lv
  generalize growX (lR (growX a d)) n = Y at *
  generalize growX a d = X at *
  generalize growX a (d + n) = Z at *
  generalize shrinkX (lR (shrinkX a d)) n = V at *
  generalize shrinkX a d = U at *
  generalize shrinkX a (d + n) = W at *
  generalize eR X = ex at *
  generalize eR Y = ey at *
  generalize eR Z = ez at *
  generalize eR U = eu at *
  generalize eR V = ev at *
  generalize eR W = ew at *
  have base := And.intro h1 (And.intro h3 (And.intro h4 (And.intro h5 h6)))
  by_cases y0 : ey = 0
  · by_cases v0 : ev = 0
    · rcases e1 with rfl | rfl <;> rcases e2 with rfl | rfl <;> rcases e3 with rfl | rfl <;> rcases e4 with rfl | rfl <;> subst y0 <;> subst v0 <;>
        simp -implicitDefEqProofs [r5, p5, ret0 m9, sm, ret0 m10, Rec.o_reify, fw, h1, ret0 m21, hr, h2, h3, h4, h5, w1, h6, w2, ret1 m11, ret1 m13, set_o, set_i, c1, c2, c3, c4, c5, c6, ret0 m17, s1, s2, g1, g2]
    · rcases e1 with rfl | rfl <;> rcases e2 with rfl | rfl <;> rcases e3 with rfl | rfl <;> rcases e4 with rfl | rfl <;> subst y0 <;>
        simp -implicitDefEqProofs [r5, p5, ret0 m9, sm, ret0 m10, Rec.o_reify, fw, h1, ret0 m21, hr, h2, h3, h4, h5, w1, h6, w2, ret1 m11, ret1 m13, set_o, set_i, c1, c2, c3, c4, c5, c6, ret0 m17, s1, s2, g1, g2, v0]
  · by_cases v0 : ev = 0
    · rcases e1 with rfl | rfl <;> rcases e2 with rfl | rfl <;> rcases e3 with rfl | rfl <;> rcases e4 with rfl | rfl <;> subst v0 <;>
        simp -implicitDefEqProofs [r5, p5, ret0 m9, sm, ret0 m10, Rec.o_reify, fw, h1, ret0 m21, hr, h2, h3, h4, h5, w1, h6, w2, ret1 m11, ret1 m13, set_o, set_i, c1, c2, c3, c4, c5, c6, ret0 m17, s1, s2, g1, g2, y0]
    · rcases e1 with rfl | rfl <;> rcases e2 with rfl | rfl <;> rcases e3 with rfl | rfl <;> rcases e4 with rfl | rfl <;>
        simp -implicitDefEqProofs [r5, p5, ret0 m9, sm, ret0 m10, Rec.o_reify, fw, h1, ret0 m21, hr, h2, h3, h4, h5, w1, h6, w2, ret1 m11, ret1 m13, set_o, set_i, c1, c2, c3, c4, c5, c6, ret0 m17, s1, s2, g1, g2, v0, y0]
end Go.Proofs.Ythnkmmbkdbdefaa.Bm
