/-
 Chapter 06: every function returns what the reference returns. Conditions: lists that are not too long.
-/
import Derived.Test.YtibmcdmlpobanaaGreatQT27
import Derived.Test.YtibmcdmlpobanaaGreatQT25
import Derived.Test.YtibmcdmlpobanaaGreatQT15
namespace Go.Proofs.YtibmcdmlpobanaaGreat.Bm
open Go Go.RowKit
open Rg (Rect areaL ofL opL shR bj bndL touchB gapX gapY)
theorem rtouch_spec (r s : Rect) (hr : okR r = true) (hs : okR s = true) : pureCall E.P (L E) 56 [rectR.val r, rectR.val s] = some (.bool (touchB r s)) := by
 have b1 := okR_iff.1 hr
 have b2 := okR_iff.1 hs
 unfold Rect.inBox at b1 b2
 obtain ⟨X, hX⟩ : ∃ X, X = min r.x1 s.x1 - max r.x0 s.x0 := ⟨_, rfl⟩
 obtain ⟨Y, hY⟩ : ∃ Y, Y = min r.y1 s.y1 - max r.y0 s.y0 := ⟨_, rfl⟩
 have wx : IntKind.i64.wrap (min r.x1 s.x1 - max r.x0 s.x0) = X := by rw [hX]; exact wrap64 (by omega) (by omega)
 have wy : IntKind.i64.wrap (min r.y1 s.y1 - max r.y0 s.y0) = Y := by rw [hY]; exact wrap64 (by omega) (by omega)
 have e : touchB r s = ((decide (0 < X) && decide (Y = 0)) || (decide (X = 0) && decide (0 < Y))) := by
  unfold touchB gapX gapY
  rw [Bool.eq_iff_iff]
  simp only [Bool.or_eq_true, Bool.and_eq_true, decide_eq_true_eq]
  omega
 rw [e, pureCall_fn F56 rfl, rect_val, rect_val]
 clear hX hY e
 by_cases h1 : 0 < X
 ·have h1' : ¬ X = 0 := by omega
  by_cases h2 : Y = 0
  ·simp -implicitDefEqProofs [r56, p56, min_int6, max_int, wx, wy, h1, h2]
  ·simp -implicitDefEqProofs [r56, p56, min_int6, max_int, wx, wy, h1, h1', h2]
 ·by_cases h3 : X = 0
  ·simp -implicitDefEqProofs [r56, p56, min_int6, max_int, wx, wy, h1, h3]
  ·simp -implicitDefEqProofs [r56, p56, min_int6, max_int, wx, wy, h1, h3]
def bndV (a : List Rect) : Value := if a ≠ [] ∧ regB a = true then .tuple ⟨[rectR.val (bndL a), .bool true]⟩ else .tuple ⟨[rectR.val ⟨0, 0, 0, 0⟩, .bool false]⟩
theorem bounds_all (k : Option Bool) (a : List Rect) (hk : Rec.Ok k a) (ha : a.length ≤ 1000000) : pureCall E.P (L E) 26 [rectR.o k a] = some (bndV a) := by
 unfold bndV
 by_cases h : a ≠ [] ∧ regB a = true
 ·rw [if_pos h]; exact bounds_spec k a hk ha h.1 h.2
 rw [if_neg h]
 have hR := right2_spec k a hk ha
 rw [pureCall_fn F26 rfl, rect_val]
 by_cases h0 : a = []
 ·have hl : a.length = 0 := by rw [h0]; rfl
  simp -implicitDefEqProofs [r26, p26, b4_none, Rec.o_len hk, hl]
 ·have hr : regB a = false := Bool.eq_false_iff.2 fun q => h ⟨h0, q⟩
  have hl : ¬ (a.length = 0) := fun e => h0 (List.eq_nil_of_length_eq_zero e)
  rw [hr] at hR
  simp -implicitDefEqProofs [r26, p26, b4_none, Rec.o_len hk, hl, ret0 m12, Rec.o_reify, hR]
theorem rbounds_spec (k : Option Bool) (a : List Rect) (hk : Rec.Ok k a) (ha : a.length ≤ 1000000) : pureCall E.P (L E) 27 [rectR.o k a] = some (bndV a) := by
 unfold bndV
 have hR := rright2_spec k a hk ha
 rw [pureCall_fn F27 rfl]
 by_cases h : a ≠ [] ∧ regB a = true
 case neg =>
  rw [if_neg h, rect_val]
  by_cases h0 : a = []
  ·have hl : a.length = 0 := by rw [h0]; rfl
   simp -implicitDefEqProofs [r27, p27, b4_none, Rec.o_len hk, hl]
  ·have hr : regB a = false := Bool.eq_false_iff.2 fun q => h ⟨h0, q⟩
   have hl : ¬ (a.length = 0) := fun e => h0 (List.eq_nil_of_length_eq_zero e)
   rw [hr] at hR
   simp -implicitDefEqProofs [r27, p27, b4_none, Rec.o_len hk, hl, ret0 m29, Rec.o_reify, hR]
 rw [if_pos h]
 obtain ⟨h0, hr⟩ := h
 have hl : ¬ (a.length = 0) := fun e => h0 (List.eq_nil_of_length_eq_zero e)
 rw [hr] at hR
 obtain ⟨r0, l, ea⟩ := List.exists_cons_of_ne_nil h0
 have hal : a.length = l.length + 1 := by rw [ea]; rfl
 have eb : bndL a = l.foldl bj r0 := by rw [ea]; rfl
 have ix : ∀ (i : Nat) (hi : i < a.length), indexAddrT (.sl 30 ⟨some true, some 4⟩) (rectR.o k a) (.int .i64 (i : Int)) = some (cptr (rectR.val a[i])) := fun i hi => Rec.o_index (R := rectR) rfl hk hi
 have ix0 : indexAddrT (.sl 30 ⟨some true, some 4⟩) (rectR.o k a) (.int .i64 0) = some (cptr (rectR.val (a[0]'(by omega)))) := ix 0 (by omega)
 have e0 : a[0]'(by omega) = r0 := by simp [ea]
 rw [e0, rect_val] at ix0
 have ixl : ∀ (i : Nat) (hi : i < l.length), indexAddrT (.sl 30 ⟨some true, some 4⟩) (rectR.o k a) (.int .i64 ((i + 1 : Nat) : Int)) = some (cptr (rectR.val l[i])) := fun i hi => by
  have := ix (i + 1) (by omega)
  have e1 : a[i + 1]'(by omega) = l[i] := by simp [ea]
  rw [e1] at this
  exact this
 have lk : ∀ h, lenT .sl h (rectR.o k a) = some (.int .i64 ((l.length + 1 : Nat) : Int)) := fun h => by rw [Rec.o_len hk, hal]
 have rf : ∀ h, reify E.P 8 h (rectR.o k a) = some (rectR.o k a) := fun h => Rec.o_reify
 have bV : ∀ d n, below (d + 1) n (rectR.o k a) = true := fun d n => Rec.o_bel
 rw [eb]
 generalize rectR.o k a = V at *
 have n0 : ¬ (((l.length + 1 : Nat) : Int) = 0) := by omega
 simp -implicitDefEqProofs [r27, p27, lk, n0, ret0 m29, rf, hR, ix0, -Int.natCast_add]
 rw [LL_for (γ := Rect) l r0 (fun i _ => [(5, .int .i64 ((i + 1 : Nat) : Int))]) (fun _ c => [boxR ⟨0, 0, 0, 0⟩, boxR c]) (fun _ rest c => (.exit 0, [(5, undef)], [boxR ⟨0, 0, 0, 0⟩, boxR (rest.foldl bj c)])) (fun _ _ => True) (by omega) trivial]
 ·simp -implicitDefEqProofs [k27_5, boxR, rect_val]
 ·simp -implicitDefEqProofs [k27_5]
 ·rfl
 ·intro nx i c hi _
  have n1 : ¬ ((i + 1 : Nat) : Int) < ((l.length + 1 : Nat) : Int) := by omega
  simp -implicitDefEqProofs [r27_5, k27_5, lk, n1, trim_le, -Int.natCast_add]
 ·intro nx i r rest c hi hv hd hw _ ih
  have ih := ih (bj c r) trivial
  have x1 := ixl i hi
  rw [hv, rect_val] at x1
  have n1 : ((i + 1 : Nat) : Int) < ((l.length + 1 : Nat) : Int) := by omega
  have wi : IntKind.i64.wrap (((i + 1 : Nat) : Int) + 1) = ((i + 1 + 1 : Nat) : Int) := (wrap64 (by omega) (by omega)).trans (by omega)
  rw [List.foldl_cons]
  generalize rest.foldl bj (bj c r) = z at *
  simp -implicitDefEqProofs [k27_5, bj, boxR, -Int.natCast_add] at ih
  simp -implicitDefEqProofs [r27_5, k27_5, boxR, lk, n1, x1, wi, min_int6, max_int, b4_all, trim_le, -Int.natCast_add]
  exact ih
end Go.Proofs.YtibmcdmlpobanaaGreat.Bm
namespace Go.Proofs.YtibmcdmlpobanaaGreat.Rg
def leftD : List Rect → List Bool → List Rect
 | r :: l, d :: D => if d then leftD l D else r :: leftD l D
 | _, _ => []
def sweep (p : Rect) : List Rect → List Bool → List Bool × List Rect
 | r :: l, d :: D => if !d && touchB p r then (true :: (sweep p l D).1, r :: (sweep p l D).2) else (d :: (sweep p l D).1, (sweep p l D).2)
 | _, D => (D, [])
theorem sweep_len (p : Rect) : ∀ (a : List Rect) (D : List Bool), (sweep p a D).1.length = D.length
 | [], [] => rfl
 | [], _ :: _ => rfl
 | _ :: _, [] => rfl
 | r :: l, d :: D => by
  have ih := sweep_len p l D
  unfold sweep
  split <;> simp [ih]
theorem sweep_new (p : Rect) : ∀ (a : List Rect) (D : List Bool), (sweep p a D).2 = (leftD a D).filter (touchB p)
 | [], [] => rfl
 | [], _ :: _ => rfl
 | _ :: _, [] => rfl
 | r :: l, d :: D => by
  have ih := sweep_new p l D
  unfold sweep leftD
  cases d <;> cases h : touchB p r <;> simp [ih, h]
theorem sweep_left (p : Rect) : ∀ (a : List Rect) (D : List Bool), leftD a (sweep p a D).1 = (leftD a D).filter fun s => !touchB p s
 | [], [] => rfl
 | [], _ :: _ => rfl
 | _ :: _, [] => rfl
 | r :: l, d :: D => by
  have ih := sweep_left p l D
  unfold sweep
  cases d <;> cases h : touchB p r <;> simp [leftD, ih, h]
theorem sweep_keep (p : Rect) : ∀ (a : List Rect) (D : List Bool) (j : Nat), D[j]? = some true → (sweep p a D).1[j]? = some true
 | [], [], _, h => h
 | [], _ :: _, _, h => h
 | _ :: _, [], _, h => h
 | r :: l, d :: D, j, h => by
  have ih := sweep_keep p l D
  unfold sweep
  cases j with
  | zero => split <;> simp_all
  | succ j =>
   have := ih j (by simpa using h)
   split <;> simpa using this
def swM (p : Rect) : Nat → List Rect → List Rect × List Bool → List Rect × List Bool
 | _, [], s => s
 | i, r :: rest, s => swM p (i + 1) rest (if s.2.getD i false = false ∧ touchB p r = true then (s.1 ++ [r], s.2.set i true) else s)
theorem swM_go (p : Rect) : ∀ (rest : List Rect) (i : Nat) (part : List Rect) (D1 D2 : List Bool), D1.length = i → D2.length = rest.length → swM p i rest (part, D1 ++ D2) = (part ++ (sweep p rest D2).2, D1 ++ (sweep p rest D2).1)
 | [], i, part, D1, D2, _, h => by
  have : D2 = [] := List.eq_nil_of_length_eq_zero h
  subst this
  simp [swM, sweep]
 | r :: rest, i, part, D1, [], _, h => by simp at h
 | r :: rest, i, part, D1, d :: D2, h1, h => by
  have e0 : (D1 ++ d :: D2).getD i false = d := by
   rw [List.getD_eq_getElem?_getD, List.getElem?_append_right (by omega), h1, Nat.sub_self]; rfl
  have e1 : (D1 ++ d :: D2).set i true = (D1 ++ [true]) ++ D2 := by
   subst h1
   rw [List.set_append_right _ _ (Nat.le_refl _), Nat.sub_self]; simp
  have e2 : D1 ++ d :: D2 = (D1 ++ [d]) ++ D2 := by simp
  have hl : D2.length = rest.length := by simpa using h
  unfold swM
  simp only [e0, e1]
  unfold sweep
  cases d
  ·cases ht : touchB p r
   ·rw [if_neg (by simp), e2, swM_go p rest (i + 1) part (D1 ++ [false]) D2 (by simp [h1]) hl]
    simp
   ·rw [if_pos ⟨rfl, rfl⟩, swM_go p rest (i + 1) (part ++ [r]) (D1 ++ [true]) D2 (by simp [h1]) hl]
    simp
  ·rw [if_neg (by simp), e2, swM_go p rest (i + 1) part (D1 ++ [true]) D2 (by simp [h1]) hl]
   simp
theorem swM_eq (p : Rect) (a part : List Rect) (D : List Bool) (h : D.length = a.length) : swM p 0 a (part, D) = (part ++ (leftD a D).filter (touchB p), (sweep p a D).1) := by
 have := swM_go p a 0 part [] D rfl h
 rw [List.nil_append, List.nil_append, sweep_new] at this
 exact this
def gath (a : List Rect) : Nat → Nat → List Rect × List Bool → List Rect × List Bool
 | 0, _, s => s
 | n + 1, k, s => match s.1[k]? with
  | none => s
  | some p => gath a n (k + 1) (swM p 0 a s)
theorem gath_abs (a : List Rect) : ∀ (n k : Nat) (part : List Rect) (D : List Bool), D.length = a.length →
  (gath a n k (part, D)).1 = (absorb n k part (leftD a D)).1 ∧ leftD a (gath a n k (part, D)).2 = (absorb n k part (leftD a D)).2 ∧ (gath a n k (part, D)).2.length = a.length ∧ ∀ j : Nat, D[j]? = some true → (gath a n k (part, D)).2[j]? = some true
 | 0, k, part, D, h => ⟨rfl, rfl, h, fun _ h => h⟩
 | n + 1, k, part, D, h => by
  unfold gath absorb
  cases hp : part[k]? with
  | none => exact ⟨rfl, rfl, h, fun _ h => h⟩
  | some p =>
   simp only
   rw [swM_eq p a part D h]
   obtain ⟨h1, h2, h3, h4⟩ := gath_abs a n (k + 1) (part ++ (leftD a D).filter (touchB p)) (sweep p a D).1 (by rw [sweep_len, h])
   rw [sweep_left] at h1 h2
   exact ⟨h1, h2, h3, fun j hj => h4 j (sweep_keep p a D j hj)⟩
def outF (a : List Rect) : Nat → List Rect → List Bool → List (List Rect)
 | _, [], _ => []
 | i, r :: rest, D => if D.getD i false = true then outF a (i + 1) rest D else (gath a (a.length + 1) 0 ([r], D.set i true)).1 :: outF a (i + 1) rest (gath a (a.length + 1) 0 ([r], D.set i true)).2
theorem leftD_none : ∀ (a : List Rect) (D : List Bool), (∀ j, j < D.length → D[j]? = some true) → leftD a D = []
 | [], _, _ => by unfold leftD; rfl
 | _ :: _, [], _ => rfl
 | r :: l, d :: D, h => by
  have h0 := h 0 (by simp)
  have : d = true := by simpa using h0
  subst this
  show leftD l D = []
  exact leftD_none l D fun j hj => by simpa using h (j + 1) (by simpa using hj)
theorem leftD_at : ∀ (a : List Rect) (D : List Bool) (i : Nat) (hi : i < a.length), (∀ j < i, D[j]? = some true) → D[i]? = some false → leftD a D = a[i] :: leftD a (D.set i true)
 | [], _, _, hi, _, _ => by simp at hi
 | _ :: _, [], _, _, _, h => by simp at h
 | r :: l, d :: D, 0, _, _, h => by
  have : d = false := by simpa using h
  subst this; rfl
 | r :: l, d :: D, i + 1, hi, hb, h => by
  have h0 := hb 0 (Nat.succ_pos i)
  have : d = true := by simpa using h0
  subst this
  show leftD l D = (l[i]'(by simpa using hi)) :: leftD l (D.set i true)
  exact leftD_at l D i (by simpa using hi) (fun j hj => by simpa using hb (j + 1) (by omega)) (by simpa using h)
theorem leftD_len : ∀ (a : List Rect) (D : List Bool), (leftD a D).length ≤ a.length
 | [], _ => by unfold leftD; exact Nat.zero_le _
 | _ :: _, [] => Nat.zero_le _
 | r :: l, d :: D => by
  have := leftD_len l D
  unfold leftD
  split <;> simp <;> omega
theorem outF_go (a : List Rect) : ∀ (rest : List Rect) (i : Nat) (D : List Bool), D.length = a.length → a.drop i = rest → (∀ j < i, j < a.length → D[j]? = some true) → outF a i rest D = partsF (leftD a D).length (leftD a D)
 | [], i, D, hD, hr, hm => by
  have hl : a.length ≤ i := List.drop_eq_nil_iff.1 hr
  rw [leftD_none a D fun j hj => hm j (by omega) (by omega)]; rfl
 | r :: rest, i, D, hD, hr, hm => by
  have hi : i < a.length := by
   rcases Nat.lt_or_ge i a.length with h | h
   ·exact h
   ·rw [List.drop_eq_nil_of_le h] at hr; cases hr
  rw [List.drop_eq_getElem_cons hi, List.cons.injEq] at hr
  obtain ⟨hri, hrr⟩ := hr
  have hg : D.getD i false = D[i] := by rw [List.getD_eq_getElem?_getD, List.getElem?_eq_getElem (by omega)]; rfl
  unfold outF
  rw [hg]
  cases hd : D[i]
  ·rw [if_neg (by decide)]
   have hat := leftD_at a D i hi (fun j hj => hm j hj (by omega)) (by rw [List.getElem?_eq_getElem (by omega), hd])
   have hl2 : (D.set i true).length = a.length := by rw [List.length_set, hD]
   obtain ⟨h1, h2, h3, h4⟩ := gath_abs a (a.length + 1) 0 [r] (D.set i true) hl2
   have ih := outF_go a rest (i + 1) (gath a (a.length + 1) 0 ([r], D.set i true)).2 h3 hrr fun j hj hj2 => h4 j (by
    rw [List.getElem?_set]
    by_cases e : i = j
    ·rw [if_pos e, if_pos (by omega)]
    ·rw [if_neg e]; exact hm j (by omega) hj2)
   rw [ih, h1, h2, hat, hri, List.length_cons]
   generalize hL : leftD a (D.set i true) = L
   have hLl : L.length ≤ a.length := by rw [← hL]; exact leftD_len _ _
   have hLl2 : L.length + 1 ≤ a.length := by
    have := leftD_len a D
    rw [hat, hL, List.length_cons] at this
    exact this
   have eA : absorb (a.length + 1) 0 [r] L = absorb (L.length + 2) 0 [r] L := absorb_more (L.length + 2) (a.length + 1) 0 [r] L (by rw [List.length_singleton]; omega) (by omega)
   rw [eA]
   show _ = (absorb (L.length + 2) 0 [r] L).1 :: partsF L.length (absorb (L.length + 2) 0 [r] L).2
   have hle := absorb_len (L.length + 2) 0 [r] L
   obtain ⟨t, et⟩ := absorb_part (L.length + 2) 0 [r] L
   rw [et, List.length_append, List.length_singleton] at hle
   rw [← partsF_more _ L.length (absorb (L.length + 2) 0 [r] L).2 (Nat.le_refl _) (by omega)]
  ·rw [if_pos rfl]
   exact outF_go a rest (i + 1) D hD hrr fun j hj hj2 => by
    by_cases e : j = i
    ·subst e; rw [List.getElem?_eq_getElem (by omega), hd]
    ·exact hm j (by omega) hj2
theorem leftD_all : ∀ a : List Rect, leftD a (List.replicate a.length false) = a
 | [] => rfl
 | r :: l => by
  rw [List.length_cons, List.replicate_succ]
  show r :: leftD l (List.replicate l.length false) = _
  rw [leftD_all l]
theorem outF_parts (a : List Rect) : outF a 0 a (List.replicate a.length false) = partsL a := by
 rw [outF_go a a 0 _ List.length_replicate rfl fun j hj => absurd hj (Nat.not_lt_zero j), leftD_all]; rfl
end Go.Proofs.YtibmcdmlpobanaaGreat.Rg
namespace Go.Proofs.YtibmcdmlpobanaaGreat.Rg
theorem leftD_mem : ∀ (a : List Rect) (D : List Bool) (r : Rect), r ∈ leftD a D → r ∈ a
 | [], _, _, h => by unfold leftD at h; exact h
 | _ :: _, [], _, h => by unfold leftD at h; cases h
 | q :: l, d :: D, r, h => by
  unfold leftD at h
  split at h
  ·exact List.mem_cons_of_mem _ (leftD_mem l D r h)
  ·rcases List.mem_cons.1 h with h | h
   ·rw [h]; exact List.mem_cons_self ..
   ·exact List.mem_cons_of_mem _ (leftD_mem l D r h)
theorem leftD_set : ∀ (a : List Rect) (D : List Bool) (i : Nat), i < a.length → D[i]? = some false → (leftD a (D.set i true)).length + 1 = (leftD a D).length
 | [], _, _, hi, _ => by simp at hi
 | _ :: _, [], _, _, h => by simp at h
 | q :: l, d :: D, 0, _, h => by
  have : d = false := by simpa using h
  subst this; rfl
 | q :: l, d :: D, i + 1, hi, h => by
  have ih := leftD_set l D i (by simpa using hi) (by simpa using h)
  show (leftD (q :: l) (d :: D.set i true)).length + 1 = _
  unfold leftD
  cases d
  ·show (leftD l (D.set i true)).length + 1 + 1 = (leftD l D).length + 1
   omega
  ·exact ih
structure GI (a : List Rect) (s : List Rect × List Bool) : Prop where
 len : s.2.length = a.length
 cap : s.1.length + (leftD a s.2).length ≤ a.length
 mem : ∀ r ∈ s.1, r ∈ a
theorem GI.start {a : List Rect} {D : List Bool} {i : Nat} (hD : D.length = a.length) (hi : i < a.length) (h : D[i]? = some false) : GI a ([a[i]], D.set i true) := by
 have h1 := leftD_set a D i hi h
 have h2 := leftD_len a D
 refine ⟨by show (D.set i true).length = _; rw [List.length_set, hD], by show 1 + (leftD a (D.set i true)).length ≤ _; omega, fun r hr => ?_⟩
 rw [List.mem_singleton.1 hr]
 exact List.getElem_mem hi
theorem GI.sweep {a : List Rect} {s : List Rect × List Bool} (h : GI a s) (p : Rect) : GI a (swM p 0 a s) ∧ s.1.length ≤ (swM p 0 a s).1.length := by
 obtain ⟨part, D⟩ := s
 obtain ⟨h1, h2, h3⟩ := h
 simp only at h1 h2 h3
 rw [swM_eq p a part D h1]
 have hf := filter_both (touchB p) (leftD a D)
 refine ⟨⟨by show (Rg.sweep p a D).1.length = _; rw [sweep_len, h1], ?_, fun r hr => ?_⟩, by show part.length ≤ (part ++ _).length; rw [List.length_append]; omega⟩
 ·show (part ++ (leftD a D).filter (touchB p)).length + (leftD a (Rg.sweep p a D).1).length ≤ _
  rw [sweep_left, List.length_append]; omega
 ·rcases List.mem_append.1 hr with hr | hr
  ·exact h3 r hr
  ·exact leftD_mem a D r (List.mem_filter.1 hr).1
theorem gath_step {a : List Rect} {n k : Nat} {s : List Rect × List Bool} (h : k < s.1.length) : gath a (n + 1) k s = gath a n (k + 1) (swM s.1[k] 0 a s) := by
 show (match s.1[k]? with | none => s | some p => gath a n (k + 1) (swM p 0 a s)) = _
 rw [List.getElem?_eq_getElem h]
theorem gath_stop {a : List Rect} {n k : Nat} {s : List Rect × List Bool} (h : s.1.length ≤ k) : gath a n k s = s := by
 cases n with
 | zero => rfl
 | succ n =>
  show (match s.1[k]? with | none => s | some p => gath a n (k + 1) (swM p 0 a s)) = _
  rw [List.getElem?_eq_none h]
theorem GI.gath {a : List Rect} : ∀ (n k : Nat) (s : List Rect × List Bool), GI a s → GI a (gath a n k s) ∧ s.1.length ≤ (gath a n k s).1.length
 | 0, _, _, h => ⟨h, Nat.le_refl _⟩
 | n + 1, k, s, h => by
  by_cases hk : k < s.1.length
  ·rw [gath_step hk]
   obtain ⟨h1, h2⟩ := h.sweep s.1[k]
   obtain ⟨h3, h4⟩ := GI.gath n (k + 1) _ h1
   exact ⟨h3, Nat.le_trans h2 h4⟩
  ·rw [gath_stop (Nat.le_of_not_lt hk)]; exact ⟨h, Nat.le_refl _⟩
def ousP (a : List Rect) : Nat → List Rect → List (List Rect) × List Bool → List (List Rect) × List Bool
 | _, [], s => s
 | i, r :: rest, s => if s.2.getD i false = true then ousP a (i + 1) rest s else ousP a (i + 1) rest (s.1 ++ [(Rg.gath a (a.length + 1) 0 ([r], s.2.set i true)).1], (Rg.gath a (a.length + 1) 0 ([r], s.2.set i true)).2)
theorem ousP_fst (a : List Rect) : ∀ (rest : List Rect) (i : Nat) (s : List (List Rect) × List Bool), (ousP a i rest s).1 = s.1 ++ outF a i rest s.2
 | [], i, s => (List.append_nil _).symm
 | r :: rest, i, s => by
  unfold ousP outF
  by_cases h : s.2.getD i false = true
  ·rw [if_pos h, if_pos h]; exact ousP_fst a rest (i + 1) s
  ·rw [if_neg h, if_neg h, ousP_fst a rest (i + 1)]; simp
theorem ousP_all (a : List Rect) : (ousP a 0 a ([], List.replicate a.length false)).1 = partsL a := by
 rw [ousP_fst, outF_parts]; rfl
end Go.Proofs.YtibmcdmlpobanaaGreat.Rg
namespace Go.Proofs.YtibmcdmlpobanaaGreat.Bm
open Go Go.RowKit
variable {h : Heap} {P : Program}
def cAt (b j : Nat) : Value := .pointer (some ⟨b, j, none⟩)
theorem obj_row {b : Nat} {t : TypeId} {c : List Value} (hob : h[b]? = some (.cells t c 0)) {j : Nat} : rowOf h ⟨b, j, none⟩ = some c := by
 unfold rowOf
 show (match h[b]? with | some (.cells _ c g) => _ | _ => none) = _
 rw [hob]; rfl
theorem obj_load {b j : Nat} {t : TypeId} {c : List Value} {v : Value} {sz : Option Nat} (hob : h[b]? = some (.cells t c 0)) (hc : c[j]? = some v) : loadT ⟨some false, sz⟩ h (cAt b j) = some v := by
 unfold cAt
 rw [load_one, obj_row hob, Option.bind_some, hc]
theorem obj_store {b j lo : Nat} {t : TypeId} {c : List Value} {v : Value} (hob : h[b]? = some (.cells t c 0)) (hj : j < c.length) (hlo : lo ≤ b) (hv : cellsOf v = some [v]) : storeT (some 1) h lo v (cAt b j) = some (h.set b (.cells t (c.set j v) 0)) := by
 unfold cAt
 rw [store_ptr, hv, Option.bind_some, if_pos (show 1 = [v].length from rfl)]
 unfold wrN
 show (match h[b]? with | some (.cells t c g) => _ | _ => none) = _
 rw [hob]
 show (if _ then _ else none) = _
 rw [if_pos ⟨hlo, rfl, by simp, by simp; omega⟩]
 show some (h.set b (.cells t (splice c j [v]) 0)) = _
 rw [splice_one hj]
end Go.Proofs.YtibmcdmlpobanaaGreat.Bm
namespace Go.Proofs.YtibmcdmlpobanaaGreat.Bm
open Go Go.RowKit
open Rg (Rect ofL touchB partsL GI swM gath ousP)
def markO (b : List Bool) : AObj := .cells 4 (b.map .bool) 0
def phH (O : List (List Rect)) (s : List Rect × List Bool) : Heap := [markO s.2, partR.row 22 (O.map ofL), rectR.row 30 s.1]
def phO (O : List (List Rect)) (D : List Bool) : Heap := [markO D, partR.row 22 (O.map ofL)]
abbrev elM : El := ⟨4, 1, 1, .bool false, ⟨some false, some 1⟩⟩
theorem mark_bel {n : Nat} (D : List Bool) : belowO n (markO D) = true := by
 show (D.map Value.bool).all (below 8 n) = true
 simp [List.all_eq_true]
theorem mark_ix {b n i : Nat} (hi : i < n) {t : TypeId} {g : Option Bool} {k : IntKind} : indexAddrT (.sl t ⟨g, some 1⟩) (.slice (some ⟨b, 0, none⟩) n n) (.int k (i : Int)) = some (cAt b i) := by
 rw [index_slice, if_pos ⟨by omega, by omega⟩]
 show some (Value.pointer (some ⟨b, 0 + (i : Int).toNat * 1, none⟩)) = _
 rw [Int.toNat_natCast, Nat.mul_one, Nat.zero_add]; rfl
theorem mark_load {D : List Bool} {i : Nat} {h : Heap} (ho : h[0]? = some (markO D)) (hi : i < D.length) : loadT ⟨some false, some 1⟩ h (cAt 0 i) = some (.bool (D.getD i false)) := by
 refine obj_load (t := 4) (c := D.map .bool) ho ?_
 rw [List.getElem?_map, List.getElem?_eq_getElem hi, List.getD_eq_getElem?_getD, List.getElem?_eq_getElem hi]; rfl
theorem mark_store {D : List Bool} {i : Nat} {h : Heap} (ho : h[0]? = some (markO D)) (hi : i < D.length) : storeT (some 1) h 0 (.bool true) (cAt 0 i) = some (h.set 0 (markO (D.set i true))) := by
 have := obj_store (h := h) (b := 0) (j := i) (lo := 0) (t := 4) (c := D.map .bool) (v := .bool true) ho (by rw [List.length_map]; exact hi) (Nat.le_refl _) rfl
 rw [this]
 unfold markO
 rw [List.map_set]
theorem lit_live (h : Heap) (p : Rect) : buildSliceT (some elR) true h 1 #[(0, rectR.val p)] = some (rectR.sl h.length [p], h ++ [rectR.row 30 [p]]) :=
 (build_lit' (n := 1) (l := [(0, rectR.val p)]) rfl rfl (by decide) (by decide) (by decide)).trans rfl
theorem ph_app {O : List (List Rect)} {part : List Rect} {D : List Bool} (r : Rect) (hl : part.length ≤ 1000000) :
  appendT (some elR) (phH O (part, D)) 0 false (rectR.sl 2 part) (lst true (rectR.vals [r])) = some (rectR.sl 2 (part ++ [r]), phH O (part ++ [r], D)) :=
 Rec.app (R := rectR) (m := [r]) (h := phH O (part, D)) (b := 2) (t := 30) rfl rfl (Rec.cells_tree (R := rectR) rfl [r]) (Nat.zero_le _) (by show (part.length + 1) * 32 ≤ 2 ^ 47; omega)
theorem ph_trim {O : List (List Rect)} {D : List Bool} {x : AObj} {vs : List Value} (h : vs.all (below 8 2) = true) : trim 2 vs (phO O D ++ [x]) = phO O D := by
 have e : (phO O D ++ [x]).take 2 = phO O D := rfl
 have := trim_cut (h := phO O D ++ [x]) (n := 2) (vs := vs) (by show ¬ 3 ≤ 2; decide) h (by
  rw [e]
  have h1 := mark_bel (n := 2) D
  have h2 : belowO 2 (partR.row 22 (O.map ofL)) = true := Rec.row_bel _
  show (belowO 2 (markO D) && (belowO 2 _ && true)) = true
  rw [h1, h2]; rfl)
 rw [this, e]
set_option maxRecDepth 20000 in
set_option maxHeartbeats 4000000 in
theorem rparts_spec (k : Option Bool) (a : List Rect) (hk : Rec.Ok k a) (ha : a.length ≤ 1000000) : pureCall E.P (L E) 28 [rectR.o k a] = some (if regB a then lst false (partV ((partsL a).map ofL)) else .slice none 0 0) := by
 have hR := rright2_spec k a hk ha
 have rf : ∀ h, reify E.P 8 h (rectR.o k a) = some (rectR.o k a) := fun h => Rec.o_reify
 rw [pureCall_fn F28 rfl]
 cases hr : regB a
 ·rw [hr] at hR
  simp -implicitDefEqProofs [r28, p28, ret0 m29, rf, hR]
 rw [hr] at hR
 obtain ⟨hall, hlen, _⟩ := regB_iff.1 hr
 have hok : ∀ r ∈ a, okR r = true := List.all_eq_true.1 hall
 have la : ∀ h, lenT .sl h (rectR.o k a) = some (.int .i64 a.length) := fun h => Rec.o_len hk
 have ixa : ∀ (i : Nat) (hi : i < a.length), indexAddrT (.sl 30 ⟨some true, some 4⟩) (rectR.o k a) (.int .i64 (i : Int)) = some (cptr (rectR.val a[i])) := fun i hi => Rec.o_index (R := rectR) rfl hk hi
 have bA : ∀ d n, below (d + 1) n (rectR.o k a) = true := fun d n => Rec.o_bel
 have fit : ∀ s, fitsTT ⟨some true, some 4⟩ (rectR.val s) = true := fun s => rfl
 have rv : ∀ s h, reify E.P 8 h (rectR.val s) = some (rectR.val s) := fun s h => rfl
 have mk : ∀ H, makeSliceT (some elM) H (.int .i64 (a.length : Int)) (.int .i64 (a.length : Int)) = some (.slice (some ⟨H.length, 0, none⟩) a.length a.length, H ++ [markO (List.replicate a.length false)]) := fun H => by
  have mk := make_one (h := H) (el := elM) (n := a.length) (k := .i64) (k' := .i64) rfl rfl (by omega) (by decide)
  have ez : List.replicate a.length (Value.bool false) = (List.replicate a.length false).map .bool := by rw [List.map_replicate]
  rw [show elM.z = Value.bool false from rfl, ez] at mk
  exact mk
 have mk0 : makeSliceT (some elM) [] (.int .i64 (a.length : Int)) (.int .i64 (a.length : Int)) = some (.slice (some ⟨0, 0, none⟩) a.length a.length, [markO (List.replicate a.length false)]) := mk []
 have hnew := fun (h : Heap) (σ : Slots) (s : Nat) => newK_nil (P := E.P) (t := 22) (h := h) (σ := σ) (s := s) (n := 0) sRs
 have eP := Rg.ousP_all a
 have xD := fun (i : Nat) (hi : i < a.length) => mark_ix (b := 0) (n := a.length) hi (t := 4) (g := some false) (k := .i64)
 generalize hVA : rectR.o k a = VA at *
 generalize hVD : Value.slice (some ⟨0, 0, none⟩) a.length a.length = VD at *
 have bD : ∀ d n, below (d + 1) (n + 1) VD = true := fun d n => by rw [← hVD]; exact decide_eq_true (Nat.succ_pos n)
 simp -implicitDefEqProofs [r28, p28, ret0 m29, rf, hR, la, mk0, prep_new, hnew]
 rw [LL_for (γ := List (List Rect) × List Bool) a ([], List.replicate a.length false) (fun i s => [(4, partR.sl 1 (s.1.map ofL)), (5, .int .i64 (i : Int))]) (fun _ s => phO s.1 s.2)
  (fun i rest s => (.exit 0, [(4, partR.sl 1 ((ousP a i rest s).1.map ofL)), (5, undef)], phO (ousP a i rest s).1 (ousP a i rest s).2)) (fun i s => s.2.length = a.length ∧ s.1.length ≤ i) (by omega) ⟨List.length_replicate, Nat.le_refl _⟩]
 ·have rO := part_reifyR (h := phO (ousP a 0 a ([], List.replicate a.length false)).1 (ousP a 0 a ([], List.replicate a.length false)).2) (b := 1) (l := (ousP a 0 a ([], List.replicate a.length false)).1.map ofL) rfl
  rw [eP] at rO
  rw [eP]
  generalize (ousP a 0 a ([], List.replicate a.length false)).2 = D at *
  generalize (partsL a).map ofL = Z at *
  simp -implicitDefEqProofs [k28_6, rO]
 ·simp -implicitDefEqProofs [k28_6]; rfl
 ·rfl
 ·intro nx i s hi _
  have e0 : ousP a i [] s = s := rfl
  rw [e0]
  have bl2 : (phO s.1 s.2).length = 2 := rfl
  simp -implicitDefEqProofs [r28_6, k28_6, la, hi, bl2, trim_le]
 ·intro nx i r rest s hi hv hd hw hI ih
  obtain ⟨O, D⟩ := s
  obtain ⟨hD, hO⟩ := hI
  simp only at hD hO ih ⊢
  have hi2 : (i : Int) < (a.length : Int) := by omega
  have x1 := xD i hi
  have y1 := mark_load (h := phO O D) (D := D) (i := i) rfl (by omega)
  have bl2 : ∀ O D, (phO O D).length = 2 := fun _ _ => rfl
  have eS : ousP a i (r :: rest) (O, D) = if D.getD i false = true then ousP a (i + 1) rest (O, D) else ousP a (i + 1) rest (O ++ [(gath a (a.length + 1) 0 ([r], D.set i true)).1], (gath a (a.length + 1) 0 ([r], D.set i true)).2) := rfl
  rw [eS]
  have e2 : (((i + 1 : Nat) : Int)) = (i : Int) + 1 := by omega
  by_cases hm : D.getD i false = true
  ·rw [if_pos hm]
   have ih := ih (O, D) ⟨hD, by show O.length ≤ i + 1; omega⟩
   rw [hm] at y1
   simp only at ih
   rw [e2] at ih
   generalize ousP a (i + 1) rest (O, D) = Z at *
   simp -implicitDefEqProofs [k28_6] at ih
   simp -implicitDefEqProofs [r28_6, k28_6, la, hi2, x1, y1, bl2, hw, ih, trim_le]
  rw [if_neg hm]
  have hm' : D.getD i false = false := Bool.eq_false_iff.2 hm
  rw [hm'] at y1
  have hDi : D[i]? = some false := by
   have hiD : i < D.length := by omega
   rw [List.getD_eq_getElem?_getD, List.getElem?_eq_getElem hiD] at hm'
   rw [List.getElem?_eq_getElem hiD]
   exact congrArg some hm'
  have g0 := GI.start (a := a) hD hi hDi
  rw [hv] at g0
  obtain ⟨gE, gL⟩ := g0.gath (a.length + 1) 0
  obtain ⟨G, hG⟩ : ∃ G, G = gath a (a.length + 1) 0 ([r], D.set i true) := ⟨_, rfl⟩
  rw [← hG] at gE gL
  have ih := ih (O ++ [G.1], G.2) ⟨gE.len, by show (O ++ [G.1]).length ≤ i + 1; rw [List.length_append, List.length_singleton]; omega⟩
  rw [← hG]
  simp only at ih
  rw [e2] at ih
  have y2 := mark_store (h := phO O D) (D := D) (i := i) rfl (by omega)
  have y2 : storeT (some 1) (phO O D) 0 (.bool true) (cAt 0 i) = some (phO O (D.set i true)) := y2
  have x2 := ixa i hi
  rw [hv] at x2
  have li := lit_live (phO O (D.set i true)) r
  have li : buildSliceT (some elR) true (phO O (D.set i true)) 1 #[(0, rectR.val r)] = some (rectR.sl 2 [r], phH O ([r], D.set i true)) := li
  generalize ousP a (i + 1) rest (O ++ [G.1], G.2) = Z at *
  simp -implicitDefEqProofs [k28_6] at ih
  unfold elR at li
  have lfr : G.1.length ≠ 0 := by have : 1 ≤ G.1.length := gL; omega
  have fz : freezeV E.P depth 0 (phH O G) (rectR.sl 2 G.1) = some (lst false (rectR.vals G.1), phO O G.2 ++ [.dead]) := by
   have := Rec.freeze_row (R := rectR) (P := E.P) (h := phH O G) (lo := 0) (b := 2) (t := 30) (l := G.1) rfl sR4 aR4 (Nat.zero_le _)
   rw [if_neg lfr] at this
   exact this
  have hGok : G.1.all okR = true := List.all_eq_true.2 fun q hq => hok q (gE.mem q hq)
  have yG := ofL_ok' hGok
  have hGl : G.1.length ≤ 200 := by have := gE.cap; omega
  have fm := form_p (some false) none G.1 [] 0 orF (.inl ⟨rfl, rfl⟩) Rec.ok_some (fun _ => rfl) (by show G.1.length + 0 ≤ 1000; omega) yG (fun r hr => absurd hr List.not_mem_nil)
  rw [ref_of yG] at fm
  have fm : pureCall E.P (L E) 18 [lst false (rectR.vals G.1), .slice none 0 0, .int .i64 0] = some (lst false (rectR.vals (ofL G.1))) := fm
  have ll1 := fun h => lit_list1 h (some false) (ofL G.1)
  have ll1 : ∀ h, buildSliceT (some ⟨22, 1, 24, .slice none 0 0, ⟨some false, some 1⟩⟩) false h 1 #[(0, lst false (rectR.vals (ofL G.1)))] = some (lst true [lst false (rectR.vals (ofL G.1))], h) := ll1
  have ap := app_part (h := phO O G.2 ++ [.dead]) (b := 1) (lo := 0) (c := O.map ofL) (ofL G.1) rfl (Nat.zero_le _) (by rw [List.length_map]; omega)
  have em : (O ++ [G.1]).map ofL = O.map ofL ++ [ofL G.1] := by rw [List.map_append]; rfl
  have ap : appendT (some ⟨22, 1, 24, .slice none 0 0, ⟨some false, some 1⟩⟩) (phO O G.2 ++ [.dead]) 0 false (partR.sl 1 (O.map ofL)) (lst true [lst false (rectR.vals (ofL G.1))]) = some (partR.sl 1 ((O ++ [G.1]).map ofL), phO (O ++ [G.1]) G.2 ++ [.dead]) := by
   rw [ap, em]
   show some (_, [markO G.2, partR.row 22 (O.map ofL ++ [ofL G.1]), .dead]) = some (_, [markO G.2, partR.row 22 ((O ++ [G.1]).map ofL), .dead])
   rw [em]
  have so : ∀ l, settled depth (lst false (rectR.vals l)) = true := fun l => rfl
  have so2 : settled depth (.slice none 0 0) = true := rfl
  have so3 : settled depth (.int .i64 0) = true := rfl
  have bl3 : ∀ O s, (phH O s).length = 3 := fun _ _ => rfl
  have tr := fun vs h => ph_trim (O := O ++ [G.1]) (D := G.2) (x := .dead) (vs := vs) h
  have bO : ∀ l, below 8 2 (partR.sl 1 l) = true := fun _ => rfl
  have bPt : ∀ l : List Rect, below 8 2 (lst false (rectR.vals l)) = true := fun _ => rfl
  simp -implicitDefEqProofs [r28_6, k28_6, la, hi2, x1, y1, y2, x2, fit, li]
  rw [LL_rec (α := Nat × Nat × (List Rect × List Bool)) (a.length + 1, 0, ([r], D.set i true)) (fun q => [(6, rectR.sl 2 q.2.2.1), (7, .int .i64 (q.2.1 : Int))]) (fun q => phH O q.2.2)
   (fun q => (.exit 2, [(6, rectR.sl 2 (gath a q.1 q.2.1 q.2.2).1), (7, undef)], phH O (gath a q.1 q.2.1 q.2.2))) (fun q => GI a q.2.2 ∧ q.2.1 ≤ q.2.2.1.length ∧ a.length + 1 ≤ q.1 + q.2.1) (fun q => q.1)]
  ·dsimp only
   rw [← hG]
   simp -implicitDefEqProofs [k28_12, prep_frz, fz, ret1 m18, so, so2, so3, fm, ll1, ap, bl2, hw, ih, tr, bA, bD, bO, bPt, -List.all_eq_true, -List.all_map]
  ·exact ⟨g0, Nat.zero_le _, Nat.le_refl _⟩
  ·simp -implicitDefEqProofs [k28_12]
  ·rfl
  ·intro nx2 q hq ih2
   obtain ⟨n, k, s⟩ := q
   obtain ⟨hI1, hI2, hI3⟩ := hq
   simp only at hI1 hI2 hI3 ih2 ⊢
   have lsl : ∀ H, lenT .sl H (rectR.sl 2 s.1) = some (.int .i64 s.1.length) := fun H => Rec.sl_len
   by_cases hlt : k < s.1.length
   case neg =>
    rw [Rg.gath_stop (Nat.le_of_not_lt hlt)]
    have g1 : ¬ (k : Int) < (s.1.length : Int) := by omega
    simp -implicitDefEqProofs [r28_12, k28_12, lsl, g1, bl3, trim_le]
   have hcap := hI1.cap
   obtain ⟨n, rfl⟩ : ∃ n', n = n' + 1 := ⟨n - 1, by omega⟩
   rw [Rg.gath_step hlt]
   obtain ⟨hS1, hS2⟩ := hI1.sweep s.1[k]
   have ih2 := ih2 (n, k + 1, swM s.1[k] 0 a s) (Nat.lt_succ_self n) ⟨hS1, by show k + 1 ≤ (swM s.1[k] 0 a s).1.length; omega, by show a.length + 1 ≤ n + (k + 1); omega⟩
   simp only at ih2
   have g1 : (k : Int) < (s.1.length : Int) := by omega
   have wi : IntKind.i64.wrap ((k : Int) + 1) = (k : Int) + 1 := wrap64 (by omega) (by omega)
   have e3 : (((k + 1 : Nat) : Int)) = (k : Int) + 1 := by omega
   rw [e3] at ih2
   obtain ⟨p, hp⟩ : ∃ p, p = s.1[k] := ⟨_, rfl⟩
   have hpa : p ∈ a := hI1.mem p (hp ▸ List.getElem_mem hlt)
   rw [← hp] at ih2 ⊢
   generalize gath a n (k + 1) (swM p 0 a s) = Z2 at *
   obtain ⟨B, hB⟩ : ∃ B, B = swM p 0 a s := ⟨_, rfl⟩
   rw [← hB] at ih2
   simp -implicitDefEqProofs [k28_12] at ih2
   simp -implicitDefEqProofs [r28_12, k28_12, lsl, g1]
   rw [LL_for (γ := List Rect × List Bool) a s (fun m s => [(6, rectR.sl 2 s.1), (8, .int .i64 (m : Int))]) (fun _ s => phH O s)
    (fun m rest s => (.exit 4, [(6, rectR.sl 2 (swM p m rest s).1), (8, undef)], phH O (swM p m rest s))) (fun m t => t.2.length = a.length ∧ t.1.length ≤ s.1.length + m ∧ t.1[k]? = some p) (by omega) ⟨hI1.len, Nat.le_refl _, by rw [hp]; exact List.getElem?_eq_getElem hlt⟩]
   ·rw [← hB]
    simp -implicitDefEqProofs [k28_15, wi, bl3, ih2, trim_le]
   ·simp -implicitDefEqProofs [k28_15]
   ·rfl
   ·intro nx3 m t hm3 _
    have e0 : swM p m [] t = t := rfl
    rw [e0]
    simp -implicitDefEqProofs [r28_15, k28_15, la, hm3, bl3, trim_le]
   ·intro nx3 m q rest2 t hm3 hvm hdm hwm hJ ih3
    obtain ⟨part, M⟩ := t
    obtain ⟨j1, j2, j3⟩ := hJ
    simp only at j1 j2 j3 ih3 ⊢
    have hm4 : (m : Int) < (a.length : Int) := by omega
    have hkp : k < part.length := by
     rcases Nat.lt_or_ge k part.length with h | h
     ·exact h
     ·rw [List.getElem?_eq_none h] at j3; cases j3
    have hpk : part[k] = p := by rw [List.getElem?_eq_getElem hkp] at j3; exact Option.some.inj j3
    have z1 := xD m hm3
    have z2 := mark_load (h := phH O (part, M)) (D := M) (i := m) rfl (by omega)
    have z3 := ixa m hm3
    rw [hvm] at z3
    have z4 := Rec.index_row (R := rectR) (t := 30) (g := some true) (b := 2) (l := part) (i := k) (k := .i64) (h0 := 4) rfl hkp
    have z5 := Rec.load_row (R := rectR) (n := 4) (h := phH O (part, M)) (b := 2) (t := 30) (l := part) (i := k) rfl rfl hkp
    rw [hpk] at z5
    have hqa : q ∈ a := hvm ▸ List.getElem_mem hm3
    have z6 := rtouch_spec p q (hok p hpa) (hok q hqa)
    have z7 := mark_store (h := phH O (part, M)) (D := M) (i := m) rfl (by omega)
    have z7 : storeT (some 1) (phH O (part, M)) 0 (.bool true) (cAt 0 m) = some (phH O (part, M.set m true)) := z7
    have z8 := ph_app (O := O) (part := part) (D := M.set m true) q (by omega)
    have z9 := fun h => lits1 h q
    have e4 : (((m + 1 : Nat) : Int)) = (m : Int) + 1 := by omega
    have e5 : swM p m (q :: rest2) (part, M) = swM p (m + 1) rest2 (if M.getD m false = false ∧ touchB p q = true then (part ++ [q], M.set m true) else (part, M)) := rfl
    rw [e5]
    by_cases c1 : M.getD m false = false
    ·by_cases c2 : touchB p q = true
     ·rw [if_pos ⟨c1, c2⟩]
      have ih3 := ih3 (part ++ [q], M.set m true) ⟨by show (M.set m true).length = _; rw [List.length_set, j1], by show (part ++ [q]).length ≤ _; rw [List.length_append, List.length_singleton]; omega, by show (part ++ [q])[k]? = _; rw [List.getElem?_append_left hkp, j3]⟩
      simp only at ih3
      rw [e4] at ih3
      rw [c1] at z2
      rw [c2] at z6
      generalize swM p (m + 1) rest2 (part ++ [q], M.set m true) = Z3 at *
      unfold elR at z8 z9
      simp -implicitDefEqProofs [k28_15] at ih3
      simp -implicitDefEqProofs [r28_15, k28_15, la, hm4, z1, z2, z3, z4, z5, fit, ret0 m56, rv, z6, z7, z9, z8, hwm, bl3, ih3, trim_le]
     ·rw [if_neg fun h => c2 h.2]
      have c2' : touchB p q = false := Bool.eq_false_iff.2 c2
      have ih3 := ih3 (part, M) ⟨j1, by show part.length ≤ _; omega, j3⟩
      simp only at ih3
      rw [e4] at ih3
      rw [c1] at z2
      rw [c2'] at z6
      generalize swM p (m + 1) rest2 (part, M) = Z3 at *
      simp -implicitDefEqProofs [k28_15] at ih3
      simp -implicitDefEqProofs [r28_15, k28_15, la, hm4, z1, z2, z3, z4, z5, fit, ret0 m56, rv, z6, hwm, bl3, ih3, trim_le]
    ·rw [if_neg fun h => c1 h.1]
     have c1' : M.getD m false = true := by cases h : M.getD m false with | true => rfl | false => exact absurd h c1
     have ih3 := ih3 (part, M) ⟨j1, by show part.length ≤ _; omega, j3⟩
     simp only at ih3
     rw [e4] at ih3
     rw [c1'] at z2
     generalize swM p (m + 1) rest2 (part, M) = Z3 at *
     simp -implicitDefEqProofs [k28_15] at ih3
     simp -implicitDefEqProofs [r28_15, k28_15, la, hm4, z1, z2, hwm, bl3, ih3, trim_le]
end Go.Proofs.YtibmcdmlpobanaaGreat.Bm
namespace Go.Proofs.YtibmcdmlpobanaaGreat.Rg
theorem filter_perm {α : Type} (p : α → Bool) : ∀ l : List α, (l.filter p ++ l.filter (fun a => !p a)).Perm l
 | [] => .refl _
 | a :: l => by
  have ih := filter_perm p l
  cases h : p a
  ·rw [List.filter_cons_of_neg (by simp [h]), List.filter_cons_of_pos (by simp [h])]
   exact List.perm_middle.trans (ih.cons a)
  ·rw [List.filter_cons_of_pos h, List.filter_cons_of_neg (by simp [h])]
   exact ih.cons a
theorem absorb_perm : ∀ (n i : Nat) (part left : List Rect), ((absorb n i part left).1 ++ (absorb n i part left).2).Perm (part ++ left)
 | 0, _, _, _ => .refl _
 | n + 1, i, part, left => by
  unfold absorb
  cases h : part[i]? with
  | none => exact .refl _
  | some r =>
   refine (absorb_perm n (i + 1) _ _).trans ?_
   rw [List.append_assoc]
   exact (filter_perm (touchB r) left).append_left part
structure PF (a : List Rect) (P : List (List Rect)) : Prop where
 perm : P.flatten.Perm a
 sep : P.Pairwise fun p q => ∀ r ∈ p, ∀ s ∈ q, touchB r s = false
 conn : ∀ p ∈ P, ∃ h t, p = h :: t ∧ ∀ C : Rect → Prop, C h → (∀ r s, r ∈ p → s ∈ p → C r → touchB r s = true → C s) → ∀ r ∈ p, C r
 least : ∀ R : Rect → Rect → Prop, a.Pairwise R → (∀ p ∈ P, ∀ h t, p = h :: t → ∀ s ∈ t, R h s) ∧ P.Pairwise fun p q => ∀ h t, p = h :: t → ∀ s ∈ q, R h s
end Go.Proofs.YtibmcdmlpobanaaGreat.Rg
namespace Go.Proofs.YtibmcdmlpobanaaGreat.Rg
theorem partsF_mem : ∀ (n : Nat) (a p : List Rect), p ∈ partsF n a → (∀ r ∈ p, r ∈ a) ∧ p.length ≤ a.length
 | 0, _, _, h => by unfold partsF at h; cases h
 | _ + 1, [], _, h => by unfold partsF at h; cases h
 | n + 1, r :: l, p, h => by
  unfold partsF at h
  have hp := absorb_perm (l.length + 2) 0 [r] l
  have hl := absorb_len (l.length + 2) 0 [r] l
  rw [List.length_singleton] at hl
  have hm : ∀ q, q ∈ (absorb (l.length + 2) 0 [r] l).1 ++ (absorb (l.length + 2) 0 [r] l).2 → q ∈ r :: l := fun q hq => hp.mem_iff.1 hq
  rw [List.length_cons]
  rcases List.mem_cons.1 h with h | h
  ·subst h
   exact ⟨fun q hq => hm q (List.mem_append_left _ hq), by omega⟩
  ·obtain ⟨h1, h2⟩ := partsF_mem n _ p h
   exact ⟨fun q hq => hm q (List.mem_append_right _ (h1 q hq)), by omega⟩
theorem partsF_num : ∀ (n : Nat) (a : List Rect), (partsF n a).length ≤ n
 | 0, _ => Nat.le_refl _
 | n + 1, [] => Nat.zero_le _
 | n + 1, r :: l => Nat.succ_le_succ (partsF_num n _)
end Go.Proofs.YtibmcdmlpobanaaGreat.Rg
namespace Go.Proofs.YtibmcdmlpobanaaGreat.Bm
open Go Go.RowKit
open Rg (Rect areaL cell ofL partsL)
theorem clone_e (k : Option Bool) (h : Heap) (lo : Nat) : ∃ V, (V = .slice none 0 0 ∨ V = lst false []) ∧ L E 36 [rectR.o k []] h lo = some (V, h) := by
 have ho : E.orc 36 = some (cloG E0 36) := rfl
 cases k with
 | some x =>
  refine ⟨lst false [], .inr rfl, ?_⟩
  show L E _ [lst x []] h lo = _
  rw [L_orc ho, cloG_none]
 | none =>
  refine ⟨.slice none 0 0, .inl rfl, ?_⟩
  have hR : rfnOf E0 36 = some r36 := by kernel_rfl
  have eq : aBin E0.P .eql 22 (.slice none 0 0) (.slice none 0 0) = some (.bool true) := by kernel_rfl
  show L E _ [.slice none 0 0] h lo = _
  rw [L_orc ho, cloG_some rfl, evF_one hR rfl]
  simp -implicitDefEqProofs [r36, p36, eq]
theorem regB_nil : regB ([] : List Rect) = true := regB_iff.2 ⟨rfl, Nat.zero_le _, (Rg.ofL_ok (l := []) (fun r hr => absurd hr List.not_mem_nil)).1⟩
theorem parts_nil (k : Option Bool) (hk : Rec.Ok k ([] : List Rect)) : pureCall E.P (L E) 10 [rectR.o k []] = some (lst false []) := by
 have hR := right2_spec k [] hk (Nat.zero_le _)
 rw [regB_nil] at hR
 have rf : ∀ h, reify E.P 8 h (rectR.o k []) = some (rectR.o k []) := fun h => Rec.o_reify
 obtain ⟨V, hV, hC⟩ := clone_e k [] 0
 have hc : retCall E (L E) 0 false 36 [rectR.o k []] [] = some (V, []) := by
  rw [ret3 m36]
  show ((L E 36 [rectR.o k []] [] 0).map _) = _
  rw [hC]; rfl
 have lv : ∀ h, lenT .sl h V = some (.int .i64 0) := fun h => by rcases hV with rfl | rfl <;> rfl
 have hnew := fun (h : Heap) (σ : Slots) (s : Nat) => newK_nil (P := E.P) (t := 22) (h := h) (σ := σ) (s := s) (n := 0) sRs
 rw [pureCall_fn F10 rfl]
 generalize rectR.o k [] = A at *
 simp -implicitDefEqProofs [r10, p10, ret0 m12, rf, hR, hc]
 rw [LL_rec (α := Unit) () (fun _ => [(3, V)]) (fun _ => []) (fun _ => (.exit 0, [(3, undef), (4, partR.sl 0 [])], [partR.row 22 []])) (fun _ => True) (fun _ => 0)]
 ·have rO := part_reifyR (h := [partR.row 22 []]) (b := 0) (l := []) rfl
  simp -implicitDefEqProofs [k10_5, rO, partV]
 ·trivial
 ·simp -implicitDefEqProofs [k10_5]
 ·rfl
 ·intro nx a _ _
  have e3 : Value.slice (some ⟨0, 0, some 0⟩) 0 0 = partR.sl 0 [] := rfl
  have e4 : AObj.cells 22 [] 1 = partR.row 22 [] := rfl
  simp -implicitDefEqProofs [r10_5, k10_5, lv, prep_new, hnew, e3, e4]
  exact trim_no2 (List.all_eq_false.2 ⟨partR.sl 0 [], by simp [blk], by decide⟩)
theorem partsV_ix {Q : List (List Rect)} {i : Nat} (hi : i < Q.length) : indexAddrT (.sl 22 ⟨some false, some 1⟩) (lst false (partV Q)) (.int .i64 (i : Int)) = some (cptr (lst false (rectR.vals Q[i]))) := by
 have hl : i < (partV Q).length := by unfold partV; rw [List.length_map]; exact hi
 have e : (partV Q)[i] = lst false (rectR.vals Q[i]) := List.getElem_map _
 rw [index_lst, if_pos (by omega), Int.toNat_natCast, List.getElem?_eq_getElem hl, e, Option.bind_some]
 rfl
def partsX (a : List Rect) : List (List Rect) := if regB a then (partsL a).map ofL else []
def partsU (a : List Rect) : Value := if regB a then lst false (partV ((partsL a).map ofL)) else .slice none 0 0
theorem parts_all (k : Option Bool) (a : List Rect) (hk : Rec.Ok k a) (ha : a.length ≤ 1000000) : pureCall E.P (L E) 10 [rectR.o k a] = some (partsU a) := by
 by_cases h : a = []
 ·subst h
  unfold partsU
  rw [regB_nil, if_pos rfl]
  exact parts_nil k hk
 ·exact parts_spec k a hk h ha
theorem partsU_len (a : List Rect) (h : Heap) : lenT .sl h (partsU a) = some (.int .i64 (partsX a).length) := by
 unfold partsU partsX
 cases regB a
 ·rfl
 ·rw [if_pos rfl, if_pos rfl, len_lst]; unfold partV; rw [List.length_map]
theorem partsU_ix (a : List Rect) {i : Nat} (hi : i < (partsX a).length) : indexAddrT (.sl 22 ⟨some false, some 1⟩) (partsU a) (.int .i64 (i : Int)) = some (cptr (lst false (rectR.vals (partsX a)[i]))) := by
 unfold partsX at hi
 have hr : regB a = true := by cases h : regB a with | true => rfl | false => rw [h] at hi; exact absurd hi (Nat.not_lt_zero i)
 have e1 : partsX a = (partsL a).map ofL := by unfold partsX; rw [if_pos hr]
 have e2 : partsU a = lst false (partV ((partsL a).map ofL)) := by unfold partsU; rw [if_pos hr]
 rw [if_pos hr] at hi
 simp only [e1]
 rw [e2]
 exact partsV_ix hi
theorem partsX_len (a : List Rect) : (partsX a).length ≤ 200 ∧ ∀ p ∈ partsX a, p.length ≤ 1000000 := by
 unfold partsX
 cases h : regB a
 ·exact ⟨Nat.zero_le _, fun p hp => by simp at hp⟩
 obtain ⟨h1, h2, _⟩ := regB_iff.1 h
 rw [if_pos rfl, List.length_map]
 have hn : (partsL a).length ≤ a.length := Rg.partsF_num a.length a
 refine ⟨by omega, fun p hp => ?_⟩
 obtain ⟨q, hq, rfl⟩ := List.mem_map.1 hp
 obtain ⟨m1, m2⟩ := Rg.partsF_mem a.length a q hq
 have hok : ∀ r ∈ q, okR r = true := fun r hr => List.all_eq_true.1 h1 r (m1 r hr)
 have hy := ofL_ok' (List.all_eq_true.2 hok)
 obtain ⟨hf, hc⟩ := Rg.ofL_ok hy
 have h3 := Rg.form_bound (R := q) (fun r hr => by have := okR_iff.1 (hok r hr); unfold Rect.inBox at this; omega) (Rg.cell_det q) hf hc
 have h4 : q.length * q.length ≤ 200 * 200 := Nat.mul_le_mul (by omega) (by omega)
 omega
def lvE : Except Int (List Rect) → Option Bool × List Rect
 | .error _ => (none, [])
 | .ok l => (some false, l)
def evE : Except Int (List Rect) → Int
 | .error e => e
 | .ok _ => 0
def lV (e : Except Int (List Rect)) : Value := rectR.o (lvE e).1 (lvE e).2
theorem resL_eq (e : Except Int (List Rect)) : resL e = .tuple ⟨[lV e, .int .i64 (evE e)]⟩ := by cases e <;> rfl
theorem lvE_ok (e : Except Int (List Rect)) : Rec.Ok (lvE e).1 (lvE e).2 := by
 cases e with
 | error e => exact fun _ => rfl
 | ok l => exact Rec.ok_some
theorem same_e (e : Except Int (List Rect)) (hl : (lvE e).2.length ≤ 1000000) : pureCall E.P (L E) 7 [lV e, lV e] = some (.bool true) := by
 have := same_rects (lvE e).1 (lvE e).1 (lvE e).2 (lvE e).2 (lvE_ok e) (lvE_ok e) hl
 rw [decide_eq_true rfl] at this
 exact this
theorem opR_len (f : Bool → Bool → Bool) (a b : List Rect) : (lvE (opR f a b)).2.length ≤ 1000000 := by
 unfold opR limR
 split
 ·split
  ·rename_i h; show (Rg.opL f a b).length ≤ _; omega
  ·exact Nat.zero_le _
 ·exact Nat.zero_le _
theorem shiftX_len (a : List Rect) (dx dy : Int) (ha : a.length ≤ 1000000) : (lvE (shiftX a dx dy)).2.length ≤ 1000000 := by
 unfold shiftX
 split
 ·split
  ·exact Nat.zero_le _
  ·split
   ·show (shiftL dx dy a).length ≤ _; unfold shiftL; rw [List.length_map]; exact ha
   ·exact Nat.zero_le _
 ·exact Nat.zero_le _
theorem ofR_len (a : List Rect) : (lvE (ofR a)).2.length ≤ 1000000 := by
 unfold ofR
 split
 ·split
  ·exact Nat.zero_le _
  ·split
   ·rename_i h; show (ofL a).length ≤ _; omega
   ·exact Nat.zero_le _
 ·exact Nat.zero_le _
def bnd2 (a : List Rect) : Rect × Bool := if a ≠ [] ∧ regB a = true then (Rg.bndL a, true) else (⟨0, 0, 0, 0⟩, false)
theorem bndV_eq (a : List Rect) : bndV a = .tuple ⟨[rectR.val (bnd2 a).1, .bool (bnd2 a).2]⟩ := by
 unfold bndV bnd2
 split <;> rfl
set_option maxHeartbeats 4000000 in
theorem same06 (k m : Option Bool) (a b : List Rect) (x y : Int) (hk : Rec.Ok k a) (hm : Rec.Ok m b) (ha : a.length ≤ 1000000) (hb : b.length ≤ 1000000) :
  pureCall E.P (L E) 8 [rectR.o k a, rectR.o m b, .int .i64 x, .int .i64 y] = some (.bool true) := by
 have u1 := union2_spec k m a b hk hm ha hb
 have u2 := runion_spec k m a b hk hm ha hb
 have c1 := common2_spec k m a b hk hm ha hb
 have c2 := rcommon_spec k m a b hk hm ha hb
 have n1 := minus2_spec k m a b hk hm ha hb
 have n2 := rminus_spec k m a b hk hm ha hb
 have s1 := shift_spec k a x y hk ha
 have s2 := rshift_spec k a x y hk ha
 have b1 := bounds_all k a hk ha
 have b2 := rbounds_spec k a hk ha
 have p1 := parts_all k a hk ha
 have p2 : pureCall E.P (L E) 28 [rectR.o k a] = some (partsU a) := rparts_spec k a hk ha
 have r1 := right2_spec k a hk ha
 have r2 := rright2_spec k a hk ha
 have a1 := area2_spec k a hk ha
 have a2 := rarea_spec k a hk ha
 have h1 := has2_spec k a x y hk ha
 have h2 := rhas_spec k a x y hk ha
 have e1 := same_spec k m a b hk hm ha
 have e2 := same_rects k m a b hk hm ha
 rw [resL_eq] at u1 u2 c1 c2 n1 n2 s1 s2
 rw [bndV_eq] at b1 b2
 have q1 := same_e _ (opR_len orF a b)
 have q2 := same_e _ (opR_len andF a b)
 have q3 := same_e _ (opR_len subF a b)
 have q4 := same_e _ (shiftX_len a x y ha)
 have so1 : settled depth (rectR.o k a) = true := Rec.o_set
 have so2 : settled depth (rectR.o m b) = true := Rec.o_set
 have soi : ∀ z, settled depth (.int .i64 z) = true := fun z => rfl
 have rf1 : ∀ h, reify E.P 8 h (rectR.o k a) = some (rectR.o k a) := fun h => Rec.o_reify
 have rf2 : ∀ h, reify E.P 8 h (rectR.o m b) = some (rectR.o m b) := fun h => Rec.o_reify
 have rfe : ∀ e h, reify E.P 8 h (lV e) = some (lV e) := fun e h => Rec.o_reify
 have w1 := rfe (opR orF a b)
 have w2 := rfe (opR andF a b)
 have w3 := rfe (opR subF a b)
 have w4 := rfe (shiftX a x y)
 clear rfe
 obtain ⟨pl, pb⟩ := partsX_len a
 have lu := partsU_len a
 have iu := fun (i : Nat) (hi : i < (partsX a).length) => partsU_ix a hi
 have fl : ∀ l, fitsTT ⟨some false, some 1⟩ (lst false (rectR.vals l)) = true := fun l => rfl
 have nq : ∀ r : Rect, aBin E.P .neq 30 (rectR.val r) (rectR.val r) = some (.bool false) := fun r => by
  have := neq_rect r r
  simpa using this
 have nb : ∀ g : Bool, aBin E.P .neq 4 (.bool g) (.bool g) = some (.bool false) := fun g => by cases g <;> kernel_rfl
 have qb : ∀ g : Bool, aBin E.P .eql 4 (.bool g) (.bool g) = some (.bool true) := fun g => by cases g <;> kernel_rfl
 generalize partsU a = VU at *
 generalize lV (opR orF a b) = V1 at *
 generalize lV (opR andF a b) = V2 at *
 generalize lV (opR subF a b) = V3 at *
 generalize lV (shiftX a x y) = V4 at *
 generalize evE (opR orF a b) = z1 at *
 generalize evE (opR andF a b) = z2 at *
 generalize evE (opR subF a b) = z3 at *
 generalize evE (shiftX a x y) = z4 at *
 generalize bnd2 a = B at *
 generalize (regB a && cell a x y) = g1 at *
 generalize regB a = g2 at *
 generalize (if g2 = true then areaL a else 0) = g3 at *
 generalize (decide (a = b)) = g4 at *
 generalize rectR.o k a = VA at *
 generalize rectR.o m b = VB at *
 generalize hX : partsX a = X at *
 simp only [rect_val] at b1 b2 nq
 rw [pureCall_fn F8 rfl]
 have nq := nq B.1
 obtain ⟨⟨x0, y0, x1, y1⟩, bb⟩ := B
 simp only at nq b1 b2
 simp -implicitDefEqProofs [r8, p8, ret1 m19, ret1 m20, ret1 m21, ret1 m22, ret1 m9, ret1 m23, ret1 m24, ret1 m25, ret1 m10, ret1 m28, ret0 m26, ret0 m27, ret0 m7,
  so1, so2, soi, rf1, rf2, w1, w2, w3, w4, u1, u2, c1, c2, n1, n2, s1, s2, q1, q2, q3, q4, b1, b2, p1, p2, lu, nq, nb]
 rw [LL_for (γ := Unit) X () (fun i _ => [(31, .int .i64 (i : Int))]) (fun _ _ => [boxR ⟨x0, y0, x1, y1⟩, boxR ⟨x0, y0, x1, y1⟩]) (fun _ _ _ => (.exit 0, [(31, undef)], [boxR ⟨x0, y0, x1, y1⟩, boxR ⟨x0, y0, x1, y1⟩])) (fun _ _ => True) (by omega) trivial]
 ·simp -implicitDefEqProofs [k8_18, ret0 m12, ret0 m29, ret0 m11, ret0 m30, ret0 m31, ret0 m32, ret0 m33, ret0 m7, rf1, rf2, r1, r2, a1, a2, h1, h2, e1, e2, qb]
 ·simp -implicitDefEqProofs [k8_18]
 ·rfl
 ·intro nx i c hi _
  simp -implicitDefEqProofs [r8_18, k8_18, lu, hi, trim_le]
 ·intro nx i p rest c hi hv hd hw _ ih
  have ih := ih () trivial
  have hi2 : (i : Int) < (X.length : Int) := by omega
  have ix := iu i hi
  rw [hv] at ix
  have sp := same_rects (some false) (some false) p p Rec.ok_some Rec.ok_some (pb p (by rw [← hv]; exact List.getElem_mem hi))
  rw [decide_eq_true rfl] at sp
  have sp : pureCall E.P (L E) 7 [lst false (rectR.vals p), lst false (rectR.vals p)] = some (.bool true) := sp
  have rp : ∀ h, reify E.P 8 h (lst false (rectR.vals p)) = some (lst false (rectR.vals p)) := fun h => rfl
  have fp := fl p
  generalize lst false (rectR.vals p) = Vp at *
  simp -implicitDefEqProofs [k8_18] at ih
  simp -implicitDefEqProofs [r8_18, k8_18, lu, hi2, ix, fp, ret0 m7, rp, sp, hw, ih, trim_le]
theorem oL_eq (l : List Rect) : lst false (rectR.vals l) = rectR.o (some false) l := rfl
set_option maxHeartbeats 1000000 in
theorem tells06 (a b : List Rect) (x y : Int) : ∃ h', L E 3 [lst false (rectR.vals a), lst false (rectR.vals b), .int .i64 x, .int .i64 y] [] 0 = some (.bool true, h') := by
 rw [oL_eq, oL_eq]
 have sm := small_spec
 have la : ∀ h, lenT .sl h (rectR.o (some false) a) = some (.int .i64 a.length) := fun h => Rec.o_len Rec.ok_some
 have lb : ∀ h, lenT .sl h (rectR.o (some false) b) = some (.int .i64 b.length) := fun h => Rec.o_len Rec.ok_some
 by_cases ha : a.length ≤ 60
 case neg =>
  have g : 60 < (a.length : Int) := by omega
  refine ⟨[], ?_⟩
  rw [L_fn F3 rfl]
  generalize rectR.o (some false) a = VA at *
  generalize rectR.o (some false) b = VB at *
  simp -implicitDefEqProofs [r3, p3, ret0 m4, sm, la, g]
 by_cases hb : b.length ≤ 60
 case neg =>
  have g0 : ¬ 60 < (a.length : Int) := by omega
  have g : 60 < (b.length : Int) := by omega
  refine ⟨[], ?_⟩
  rw [L_fn F3 rfl]
  generalize rectR.o (some false) a = VA at *
  generalize rectR.o (some false) b = VB at *
  simp -implicitDefEqProofs [r3, p3, ret0 m4, sm, la, lb, g0, g]
 have ga : ¬ 60 < (a.length : Int) := by omega
 have gb : ¬ 60 < (b.length : Int) := by omega
 have o1 := of_spec (some false) a Rec.ok_some (by omega)
 have o2 := rof_spec (some false) a Rec.ok_some (by omega)
 have o3 := rof_spec (some false) b Rec.ok_some (by omega)
 rw [resL_eq] at o1 o2 o3
 have t1 := same06 (some false) (some false) a b x y Rec.ok_some Rec.ok_some (by omega) (by omega)
 have t2 := same06 (lvE (ofR a)).1 (lvE (ofR b)).1 (lvE (ofR a)).2 (lvE (ofR b)).2 x y (lvE_ok _) (lvE_ok _) (ofR_len a) (ofR_len b)
 have t2 : pureCall E.P (L E) 8 [lV (ofR a), lV (ofR b), .int .i64 x, .int .i64 y] = some (.bool true) := t2
 have q1 := same_e _ (ofR_len a)
 have fz : ∀ h, frzAll E.P 0 [rectR.o (some false) a] h = some ([rectR.o (some false) a], h) := fun h => frzAll_row (frz_set8 Rec.o_set Rec.o_one)
 have so1 : settled depth (rectR.o (some false) a) = true := Rec.o_set
 have so2 : settled depth (rectR.o (some false) b) = true := Rec.o_set
 have rf1 : ∀ h, reify E.P 8 h (rectR.o (some false) a) = some (rectR.o (some false) a) := fun h => Rec.o_reify
 have rf2 : ∀ h, reify E.P 8 h (rectR.o (some false) b) = some (rectR.o (some false) b) := fun h => Rec.o_reify
 have w1 : ∀ h, reify E.P 8 h (lV (ofR a)) = some (lV (ofR a)) := fun h => Rec.o_reify
 have w2 : ∀ h, reify E.P 8 h (lV (ofR b)) = some (lV (ofR b)) := fun h => Rec.o_reify
 refine ⟨[], ?_⟩
 rw [L_fn F3 rfl]
 generalize rectR.o (some false) a = VA at *
 generalize rectR.o (some false) b = VB at *
 generalize lV (ofR a) = W1 at *
 generalize lV (ofR b) = W2 at *
 generalize evE (ofR a) = z1 at *
 generalize evE (ofR b) = z2 at *
 simp -implicitDefEqProofs [r3, p3, ret0 m4, sm, la, lb, ga, gb, ret4 m5, fz, o1, ret1 m6, so1, so2, o2, o3, ret0 m7, w1, w2, q1, ret0 m8, rf1, rf2, t1, t2]
end Go.Proofs.YtibmcdmlpobanaaGreat.Bm
