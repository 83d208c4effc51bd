/-
 Regions, plain: what the program's operations make of lists of rectangles. Conditions: none. No program in sight.
-/
import Derived.Test.YthkddpgnhaeooaaQT18
import Derived.Test.YthkddpgnhaeooaaQT22
import Derived.Test.YthkddpgnhaeooaaQT19
import Derived.Test.YthkddpgnhaeooaaQT16
namespace Go.Proofs.Ythkddpgnhaeooaa.Bm
open Go Go.RowKit
open Rg (Rect Slab)
def rectR : Rec Rect where
 enc r := [.int .i64 r.x0, .int .i64 r.y0, .int .i64 r.x1, .int .i64 r.y1]
 m := 3
 len _ := rfl
 set _ := rfl
 bel _ _ := rfl
def spanR : Rec (Int × Int) where
 enc := spanV
 m := 1
 len _ := rfl
 set _ := rfl
 bel _ _ := rfl
def colV (c : List (Int × Int)) : Value := lst false (spanR.vals c)
def slabR : Rec Slab where
 enc s := [.int .i64 s.x0, .int .i64 s.x1, colV s.col]
 m := 2
 len _ := rfl
 set _ := rfl
 bel _ _ := rfl
theorem rect_val {r : Rect} : rectR.val r = .agg ⟨[.int .i64 r.x0, .int .i64 r.y0, .int .i64 r.x1, .int .i64 r.y1]⟩ := rfl
theorem span_val {s : Int × Int} : spanR.val s = .agg ⟨[.int .i64 s.1, .int .i64 s.2]⟩ := rfl
theorem slab_val {s : Slab} : slabR.val s = .agg ⟨[.int .i64 s.x0, .int .i64 s.x1, colV s.col]⟩ := rfl
theorem b4_none : buildT (Bl.fs ⟨[.int .i64 0, .int .i64 0, .int .i64 0, .int .i64 0]⟩ ⟨[(0, 1), (1, 1), (2, 1), (3, 1)]⟩) #[] = some (.agg ⟨[.int .i64 0, .int .i64 0, .int .i64 0, .int .i64 0]⟩) := rfl
theorem b4_all {a b c d : Int} : buildT (Bl.fs ⟨[.int .i64 0, .int .i64 0, .int .i64 0, .int .i64 0]⟩ ⟨[(0, 1), (1, 1), (2, 1), (3, 1)]⟩) #[(0, .int .i64 a), (1, .int .i64 b), (2, .int .i64 c), (3, .int .i64 d)] = some (.agg ⟨[.int .i64 a, .int .i64 b, .int .i64 c, .int .i64 d]⟩) := rfl
theorem b2_all {a b : Int} : buildT (Bl.fs ⟨[.int .i64 0, .int .i64 0]⟩ ⟨[(0, 1), (1, 1)]⟩) #[(0, .int .i64 a), (1, .int .i64 b)] = some (.agg ⟨[.int .i64 a, .int .i64 b]⟩) := rfl
def okR (r : Rect) : Bool := decide (0 ≤ r.x0) && decide (r.x0 < r.x1) && decide (r.x1 ≤ 1048576) && decide (0 ≤ r.y0) && decide (r.y0 < r.y1) && decide (r.y1 ≤ 1048576)
theorem right_spec (r : Rect) : pureCall E.P (L E) 30 [rectR.val r] = some (.bool (okR r)) := by
 rw [pureCall_fn F30 rfl]
 simp -implicitDefEqProofs [r30, padS, rect_val]
 unfold okR
 by_cases h1 : 0 ≤ r.x0
 case neg => simp -implicitDefEqProofs [h1]
 by_cases h2 : r.x0 < r.x1
 case neg => simp -implicitDefEqProofs [h1, h2]
 by_cases h3 : r.x1 ≤ 1048576
 case neg => simp -implicitDefEqProofs [h1, h2, h3]
 by_cases h4 : 0 ≤ r.y0
 case neg => simp -implicitDefEqProofs [h1, h2, h3, h4]
 by_cases h5 : r.y0 < r.y1
 case neg => simp -implicitDefEqProofs [h1, h2, h3, h4, h5]
 simp -implicitDefEqProofs [h1, h2, h3, h4, h5]
theorem right_s (r : Rect) : pureCall E.P (L E) 30 [.agg ⟨[.int .i64 r.x0, .int .i64 r.y0, .int .i64 r.x1, .int .i64 r.y1]⟩] = some (.bool (okR r)) := right_spec r
def zeroR : Rect := ⟨0, 0, 0, 0⟩
theorem checked_spec (r : Rect) : pureCall E.P (L E) 56 [rectR.val r] = some (.tuple ⟨[if okR r then rectR.val r else rectR.val zeroR, .bool (okR r)]⟩) := by
 rw [pureCall_fn F56 rfl]
 simp -implicitDefEqProofs [r56, padS, rect_val, ret0 m30, right_s]
 cases h : okR r <;> simp -implicitDefEqProofs [zeroR, b4_none]
theorem checked_s (r : Rect) : pureCall E.P (L E) 56 [.agg ⟨[.int .i64 r.x0, .int .i64 r.y0, .int .i64 r.x1, .int .i64 r.y1]⟩] = some (.tuple ⟨[if okR r then rectR.val r else rectR.val zeroR, .bool (okR r)]⟩) := checked_spec r
theorem okR_iff {r : Rect} : okR r = true ↔ r.inBox 1048576 := by
 unfold okR Rect.inBox
 simp only [Bool.and_eq_true, decide_eq_true_eq]
 omega
theorem area_bound {r : Rect} (h : okR r = true) : 0 ≤ r.area ∧ r.area ≤ 1099511627776 := by
 have := okR_iff.1 h
 unfold Rect.inBox at this
 unfold Rect.area
 have h1 : (r.x1 - r.x0) * (r.y1 - r.y0) ≤ 1048576 * 1048576 := Int.mul_le_mul (by omega) (by omega) (by omega) (by omega)
 have h2 : 0 ≤ (r.x1 - r.x0) * (r.y1 - r.y0) := Int.mul_nonneg (by omega) (by omega)
 omega
theorem area_spec (r : Rect) (h : okR r = true) : pureCall E.P (L E) 39 [rectR.val r] = some (.int .i64 r.area) := by
 have hb := okR_iff.1 h
 unfold Rect.inBox at hb
 have ha := area_bound h
 unfold Rect.area at ha ⊢
 rw [pureCall_fn F39 rfl]
 have w1 : IntKind.i64.wrap (r.x1 - r.x0) = r.x1 - r.x0 := wrap64 (by omega) (by omega)
 have w2 : IntKind.i64.wrap (r.y1 - r.y0) = r.y1 - r.y0 := wrap64 (by omega) (by omega)
 have w3 : IntKind.i64.wrap ((r.x1 - r.x0) * (r.y1 - r.y0)) = (r.x1 - r.x0) * (r.y1 - r.y0) := wrap64 (by omega) (by omega)
 simp -implicitDefEqProofs [r39, padS, rect_val, ret0 m56, checked_s, h, w1, w2, w3]
theorem limited_spec (x : Bool) (l : List Rect) : pureCall E.P (L E) 52 [lst x (rectR.vals l)] = some (if l.length ≤ 200 then .tuple ⟨[lst x (rectR.vals l), .int .i64 0]⟩ else .tuple ⟨[.slice none 0 0, .int .i64 6]⟩) := by
 rw [pureCall_fn F52 rfl]
 simp -implicitDefEqProofs [r52, padS, Rec.vals_len]
 by_cases h : l.length ≤ 200
 ·have h' : ¬ (200 < (l.length : Int)) := by omega
  simp -implicitDefEqProofs [h, h']
 ·have h' : 200 < (l.length : Int) := by omega
  simp -implicitDefEqProofs [h, h']
open Rg (Rect Slab hasS hasS_cons Can canS cellT)
def bs (p : Nat → Bool) (i j : Nat) : Nat := if i < j then if p ((i + j) / 2) then bs p ((i + j) / 2 + 1) j else bs p i ((i + j) / 2) else i
termination_by j - i
decreasing_by all_goals omega
theorem bs_inv {p : Nat → Bool} {n : Nat} : ∀ (d i j : Nat), j - i = d → i ≤ j → j ≤ n → (∀ a b, a ≤ b → b < n → p b = true → p a = true) → (∀ k, k < i → p k = true) → (∀ k, j ≤ k → k < n → p k = false) →
  bs p i j ≤ n ∧ ∀ k, k < n → (k < bs p i j ↔ p k = true) := by
 intro d
 induction d using Nat.strongRecOn with
 | _ d ih =>
  intro i j hd hij hjn hm h1 h2
  rw [bs]
  by_cases h : i < j
  ·rw [if_pos h]
   by_cases hp : p ((i + j) / 2) = true
   ·rw [if_pos hp]
    refine ih (j - ((i + j) / 2 + 1)) (by omega) _ _ rfl (by omega) hjn hm (fun k hk => hm k _ (by omega) (by omega) hp) h2
   ·rw [if_neg hp]
    refine ih ((i + j) / 2 - i) (by omega) _ _ rfl (by omega) (by omega) hm h1 fun k hk hkn => ?_
    cases hpk : p k
    ·rfl
    ·exact absurd (hm _ k hk hkn hpk) hp
  ·rw [if_neg h]
   have : i = j := by omega
   subst this
   refine ⟨hjn, fun k hk => ⟨fun hlt => h1 k hlt, fun hpk => ?_⟩⟩
   apply Classical.byContradiction
   intro hno
   rw [h2 k (by omega) hk] at hpk
   cases hpk
theorem bs_ok {p : Nat → Bool} {n : Nat} (hm : ∀ a b, a ≤ b → b < n → p b = true → p a = true) : bs p 0 n ≤ n ∧ ∀ k, k < n → (k < bs p 0 n ↔ p k = true) :=
 bs_inv n 0 n rfl (Nat.zero_le _) (Nat.le_refl _) hm (fun k hk => by omega) (fun k h1 h2 => by omega)
def pspan (c : List (Int × Int)) (y : Int) (k : Nat) : Bool := decide ((c.getD k (0, 0)).2 ≤ y)
def pslab (c : List (Slab)) (y : Int) (k : Nat) : Bool := decide ((c.getD k ⟨0, 0, []⟩).x1 ≤ y)
open Rg (Rect Slab hasS hasS_cons Can canS cellT gapless)
theorem canS_get : ∀ {c : List (Int × Int)} {b : Int}, canS b c → ∀ i (hi : i < c.length), b < c[i].1 ∧ c[i].1 < c[i].2
 | [], _, _, i, hi => by simp at hi
 | (f, t) :: c, b, h, 0, _ => ⟨h.1, h.2.1⟩
 | (f, t) :: c, b, h, i + 1, hi => by
  have hi' : i < c.length := by simpa using hi
  have := canS_get h.2.2 i hi'
  have h1 := h.1
  have h2 := h.2.1
  have h3 : b < c[i].1 := by omega
  exact ⟨h3, this.2⟩
theorem canS_two : ∀ {c : List (Int × Int)} {b : Int}, canS b c → ∀ i j (hj : j < c.length) (hij : i < j), (c[i]'(by omega)).2 < c[j].1
 | [], _, _, _, j, hj, _ => by simp at hj
 | (f, t) :: c, b, h, 0, 0, _, hij => by omega
 | (f, t) :: c, b, h, 0, j + 1, hj, _ => (canS_get h.2.2 j (by simpa using hj)).1
 | (f, t) :: c, b, h, i + 1, 0, _, hij => by omega
 | (f, t) :: c, b, h, i + 1, j + 1, hj, hij => canS_two h.2.2 i j (by simpa using hj) (by omega)
theorem can_canS {c : List (Int × Int)} (h : Rg.Can c) : ∃ b, canS b c := by
 obtain ⟨b, hb, _⟩ := Rg.low_ex c []
 exact ⟨b, Rg.canS_ex h b hb⟩
theorem hasS_get {c : List (Int × Int)} {y : Int} : hasS c y = true ↔ ∃ i, ∃ hi : i < c.length, c[i].1 ≤ y ∧ y < c[i].2 := by
 unfold hasS
 rw [List.any_eq_true]
 constructor
 ·rintro ⟨s, hs, h⟩
  obtain ⟨i, hi, rfl⟩ := List.mem_iff_getElem.1 hs
  simp only [Bool.and_eq_true, decide_eq_true_eq] at h
  exact ⟨i, hi, h⟩
 ·rintro ⟨i, hi, h⟩
  exact ⟨c[i], List.getElem_mem hi, by simpa using h⟩
def inB (c : List (Int × Int)) (y : Int) : Bool := decide (bs (pspan c y) 0 c.length < c.length) && decide ((c.getD (bs (pspan c y) 0 c.length) (0, 0)).1 ≤ y)
theorem pspan_get {c : List (Int × Int)} {y : Int} {k : Nat} (hk : k < c.length) : pspan c y k = decide (c[k].2 ≤ y) := by
 unfold pspan; rw [List.getD_eq_getElem?_getD, List.getElem?_eq_getElem hk]; rfl
theorem inB_has {c : List (Int × Int)} (h : Rg.Can c) (y : Int) : inB c y = hasS c y := by
 obtain ⟨b, hb⟩ := can_canS h
 have ok := bs_ok (p := pspan c y) (n := c.length) fun i j hij hj hp => by
  rw [pspan_get hj, decide_eq_true_eq] at hp
  rw [pspan_get (by omega), decide_eq_true_eq]
  by_cases e : i = j
  ·subst e; exact hp
  ·have := canS_two hb i j hj (by omega)
   have := (canS_get hb j hj).2
   omega
 unfold inB
 generalize bs (pspan c y) 0 c.length = m at ok ⊢
 obtain ⟨hm, ok⟩ := ok
 rw [Bool.eq_iff_iff, hasS_get]
 simp only [Bool.and_eq_true, decide_eq_true_eq]
 constructor
 ·rintro ⟨h1, h2⟩
  rw [List.getD_eq_getElem?_getD, List.getElem?_eq_getElem h1] at h2
  refine ⟨m, h1, h2, ?_⟩
  have := ok m h1
  rw [pspan_get h1, decide_eq_true_eq] at this
  omega
 ·rintro ⟨k, hk, h1, h2⟩
  have := ok k hk
  rw [pspan_get hk, decide_eq_true_eq] at this
  have hmk : m ≤ k := by omega
  have hlt : m < c.length := by omega
  refine ⟨hlt, ?_⟩
  rw [List.getD_eq_getElem?_getD, List.getElem?_eq_getElem hlt]
  show c[m].1 ≤ y
  by_cases e : m = k
  ·subst e; exact h1
  ·have := canS_two hb m k hk (by omega)
   have := (canS_get hb m hlt).2
   omega
def colL (c : Option (List (Int × Int))) : List (Int × Int) := c.getD []
def atO (T : List Slab) (x : Int) : Option (List (Int × Int)) :=
 if bs (pslab T x) 0 T.length < T.length then if (T.getD (bs (pslab T x) 0 T.length) ⟨0, 0, []⟩).x0 ≤ x then some (T.getD (bs (pslab T x) 0 T.length) ⟨0, 0, []⟩).col else none else none
open Rg (Rect Slab)
theorem neq2 (a b c d : Int) : aBin E.P .neq 131 (.agg ⟨[.int .i64 a, .int .i64 b]⟩) (.agg ⟨[.int .i64 c, .int .i64 d]⟩) = (allOf [some (a == c), some (b == d)]).map fun b => .bool (!b) := by kernel_rfl
theorem neq4 (a b c d a' b' c' d' : Int) : aBin E.P .neq 41 (.agg ⟨[.int .i64 a, .int .i64 b, .int .i64 c, .int .i64 d]⟩) (.agg ⟨[.int .i64 a', .int .i64 b', .int .i64 c', .int .i64 d']⟩) = (allOf [some (a == a'), some (b == b'), some (c == c'), some (d == d')]).map fun b => .bool (!b) := by kernel_rfl
theorem allOf_some (b : Bool) (r : List (Option Bool)) (c : Bool) (h : allOf r = some c) : allOf (some b :: r) = some (b && c) := by cases b <;> simp [allOf, h]
theorem allOf_two (a b : Bool) : allOf [some a, some b] = some (a && (b && true)) := allOf_some _ _ _ (allOf_some _ _ _ rfl)
theorem allOf_four (a b c d : Bool) : allOf [some a, some b, some c, some d] = some (a && (b && (c && (d && true)))) := allOf_some _ _ _ (allOf_some _ _ _ (allOf_some _ _ _ (allOf_some _ _ _ rfl)))
theorem neq_span (s t : Int × Int) : aBin E.P .neq 131 (spanR.val s) (spanR.val t) = some (.bool (decide (s ≠ t))) := by
 obtain ⟨a, b⟩ := s
 obtain ⟨c, d⟩ := t
 rw [span_val, span_val, neq2]
 by_cases h1 : a = c <;> by_cases h2 : b = d <;> simp [allOf_two, h1, h2]
theorem neq_rect (s t : Rect) : aBin E.P .neq 41 (rectR.val s) (rectR.val t) = some (.bool (decide (s ≠ t))) := by
 obtain ⟨a, b, c, d⟩ := s
 obtain ⟨a', b', c', d'⟩ := t
 rw [rect_val, rect_val, neq4]
 by_cases h1 : a = a' <;> by_cases h2 : b = b' <;> by_cases h3 : c = c' <;> by_cases h4 : d = d' <;> simp [allOf_four, h1, h2, h3, h4]
def eqL {α : Type} [DecidableEq α] (a b : List α) : Bool := decide (a = b)
theorem eqL_cons {α : Type} [DecidableEq α] {a b : α} {x y : List α} : eqL (a :: x) (b :: y) = (decide (a = b) && eqL x y) := by
 unfold eqL; simp only [List.cons.injEq, Bool.decide_and]
theorem equal_spans (x y : Bool) (l r : List (Int × Int)) (hl : l.length ≤ 1000000) : pureCall E.P (L E) 75 [lst x (spanR.vals l), lst y (spanR.vals r)] = some (.bool (decide (l = r))) := by
 have ixl : ∀ (i : Nat) (hi : i < l.length), indexAddrT (.sl 131 ⟨some true, some 2⟩) (lst x (spanR.vals l)) (.int .i64 (i : Int)) = some (cptr (spanR.val l[i])) := fun i hi => Rec.index_tree rfl hi
 have ixr : ∀ (i : Nat) (hi : i < r.length), indexAddrT (.sl 131 ⟨some true, some 2⟩) (lst y (spanR.vals r)) (.int .i64 (i : Int)) = some (cptr (spanR.val r[i])) := fun i hi => Rec.index_tree rfl hi
 have fit : ∀ s, fitsTT ⟨some true, some 2⟩ (spanR.val s) = true := fun s => rfl
 have rv : ∀ s h, reify E.P 8 h (spanR.val s) = some (spanR.val s) := fun s h => rfl
 rw [pureCall_fn F75 rfl]
 simp -implicitDefEqProofs [r75, padS, Rec.vals_len]
 by_cases hlen : l.length = r.length
 ·simp -implicitDefEqProofs [hlen, Rec.vals_len]
  rw [LL_for (γ := Unit) l () (fun i _ => [(13, .int .i64 i)]) (fun _ _ => []) (fun i rest _ => if eqL rest (r.drop i) then (.exit 0, [(13, undef)], []) else (.ret, [(4, .bool false), (13, undef)], [])) (fun _ _ => True) (by omega) trivial]
  ·cases h : eqL l r
   ·have : ¬ l = r := of_decide_eq_false h
    simp [this, k75_4, h]
   ·have : l = r := of_decide_eq_true h
    simp [this, k75_4, eqL]
  ·simp [k75_4]
  ·rfl
  ·intro nx i c hi _
   have hd0 : eqL [] (r.drop i) = true := by rw [List.drop_eq_nil_of_le (by omega)]; rfl
   rw [hd0]
   simp -implicitDefEqProofs [r75_4, k75_4, hi, hlen, trim_le]
  ·intro nx i v rest c hi hv hd hw _ ih
   have ih := ih () trivial
   have hi' : i < r.length := by omega
   have hrd : r.drop i = r[i] :: r.drop (i + 1) := List.drop_eq_getElem_cons hi'
   rw [hrd, eqL_cons]
   simp -implicitDefEqProofs [k75_4] at ih
   by_cases he : v = r[i]
   ·simp -implicitDefEqProofs [r75_4, k75_4, hi', ixl i hi, ixr i hi', fit, neq_span, hv, hw, he, trim_le]
    exact ih
   ·simp -implicitDefEqProofs [r75_4, k75_4, hi', ixl i hi, ixr i hi', fit, neq_span, hv, he, trim_le]
 ·have : ¬ l = r := fun e => hlen (by rw [e])
  have hlen' : ¬ ((l.length : Int) = r.length) := by omega
  simp -implicitDefEqProofs [hlen', this]
theorem equal_rects (x y : Option Bool) (l r : List Rect) (hx : Rec.Ok x l) (hy : Rec.Ok y r) (hl : l.length ≤ 1000000) : pureCall E.P (L E) 57 [rectR.o x l, rectR.o y r] = some (.bool (decide (l = r))) := by
 have ixl : ∀ (i : Nat) (hi : i < l.length), indexAddrT (.sl 41 ⟨some true, some 4⟩) (rectR.o x l) (.int .i64 (i : Int)) = some (cptr (rectR.val l[i])) := fun i hi => Rec.o_index (R := rectR) rfl hx hi
 have ixr : ∀ (i : Nat) (hi : i < r.length), indexAddrT (.sl 41 ⟨some true, some 4⟩) (rectR.o y r) (.int .i64 (i : Int)) = some (cptr (rectR.val r[i])) := fun i hi => Rec.o_index (R := rectR) rfl hy hi
 have fit : ∀ s, fitsTT ⟨some true, some 4⟩ (rectR.val s) = true := fun s => rfl
 have rv : ∀ s h, reify E.P 8 h (rectR.val s) = some (rectR.val s) := fun s h => rfl
 rw [pureCall_fn F57 rfl]
 simp -implicitDefEqProofs [r57, padS, Rec.o_len hx, Rec.o_len hy]
 by_cases hlen : l.length = r.length
 ·simp -implicitDefEqProofs [hlen, Rec.o_len hx, Rec.o_len hy]
  rw [LL_for (γ := Unit) l () (fun i _ => [(13, .int .i64 i)]) (fun _ _ => []) (fun i rest _ => if eqL rest (r.drop i) then (.exit 0, [(13, undef)], []) else (.ret, [(4, .bool false), (13, undef)], [])) (fun _ _ => True) (by omega) trivial]
  ·cases h : eqL l r
   ·have : ¬ l = r := of_decide_eq_false h
    simp [this, k57_4, h]
   ·have : l = r := of_decide_eq_true h
    simp [this, k57_4, eqL]
  ·simp [k57_4]
  ·rfl
  ·intro nx i c hi _
   have hd0 : eqL [] (r.drop i) = true := by rw [List.drop_eq_nil_of_le (by omega)]; rfl
   rw [hd0]
   simp -implicitDefEqProofs [r57_4, k57_4, hi, hlen, trim_le]
  ·intro nx i v rest c hi hv hd hw _ ih
   have ih := ih () trivial
   have hi' : i < r.length := by omega
   have hrd : r.drop i = r[i] :: r.drop (i + 1) := List.drop_eq_getElem_cons hi'
   rw [hrd, eqL_cons]
   simp -implicitDefEqProofs [k57_4] at ih
   by_cases he : v = r[i]
   ·simp -implicitDefEqProofs [r57_4, k57_4, hi', ixl i hi, ixr i hi', fit, neq_rect, hv, hw, he, trim_le]
    exact ih
   ·simp -implicitDefEqProofs [r57_4, k57_4, hi', ixl i hi, ixr i hi', fit, neq_rect, hv, he, trim_le]
 ·have : ¬ l = r := fun e => hlen (by rw [e])
  have hlen' : ¬ ((l.length : Int) = r.length) := by omega
  simp -implicitDefEqProofs [hlen', this]
theorem same_rects (x y : Option Bool) (l r : List Rect) (hx : Rec.Ok x l) (hy : Rec.Ok y r) (hl : l.length ≤ 1000000) : pureCall E.P (L E) 11 [rectR.o x l, rectR.o y r] = some (.bool (decide (l = r))) := by
 have ixl : ∀ (i : Nat) (hi : i < l.length), indexAddrT (.sl 41 ⟨some true, some 4⟩) (rectR.o x l) (.int .i64 (i : Int)) = some (cptr (rectR.val l[i])) := fun i hi => Rec.o_index (R := rectR) rfl hx hi
 have ixr : ∀ (i : Nat) (hi : i < r.length), indexAddrT (.sl 41 ⟨some true, some 4⟩) (rectR.o y r) (.int .i64 (i : Int)) = some (cptr (rectR.val r[i])) := fun i hi => Rec.o_index (R := rectR) rfl hy hi
 have fit : ∀ s, fitsTT ⟨some true, some 4⟩ (rectR.val s) = true := fun s => rfl
 have rv : ∀ s h, reify E.P 8 h (rectR.val s) = some (rectR.val s) := fun s h => rfl
 rw [pureCall_fn F11 rfl]
 simp -implicitDefEqProofs [r11, padS, Rec.o_len hx, Rec.o_len hy]
 by_cases hlen : l.length = r.length
 ·simp -implicitDefEqProofs [hlen, Rec.o_len hx, Rec.o_len hy]
  rw [LL_for (γ := Unit) l () (fun i _ => [(5, .int .i64 i)]) (fun _ _ => []) (fun i rest _ => if eqL rest (r.drop i) then (.exit 0, [(5, undef)], []) else (.ret, [(4, .bool false), (5, undef)], [])) (fun _ _ => True) (by omega) trivial]
  ·cases h : eqL l r
   ·have : ¬ l = r := of_decide_eq_false h
    simp [this, k11_4, h]
   ·have : l = r := of_decide_eq_true h
    simp [this, k11_4, eqL]
  ·simp [k11_4]
  ·rfl
  ·intro nx i c hi _
   have hd0 : eqL [] (r.drop i) = true := by rw [List.drop_eq_nil_of_le (by omega)]; rfl
   rw [hd0]
   simp -implicitDefEqProofs [r11_4, k11_4, Rec.o_len hx, Rec.o_len hy, hi, hlen, trim_le]
  ·intro nx i v rest c hi hv hd hw _ ih
   have ih := ih () trivial
   have hi' : i < r.length := by omega
   have hrd : r.drop i = r[i] :: r.drop (i + 1) := List.drop_eq_getElem_cons hi'
   rw [hrd, eqL_cons]
   simp -implicitDefEqProofs [k11_4] at ih
   by_cases he : v = r[i]
   ·simp -implicitDefEqProofs [r11_4, k11_4, Rec.o_len hx, Rec.o_len hy, hi', hlen, ixl i hi, ixr i hi', fit, neq_rect, hv, hw, he, trim_le]
    exact ih
   ·simp -implicitDefEqProofs [r11_4, k11_4, Rec.o_len hx, Rec.o_len hy, hi', hlen, ixl i hi, ixr i hi', fit, neq_rect, hv, he, trim_le]
 ·have : ¬ l = r := fun e => hlen (by rw [e])
  have hlen' : ¬ ((l.length : Int) = r.length) := by omega
  simp -implicitDefEqProofs [hlen', this]
theorem same_spec (x y : Option Bool) (l r : List Rect) (hx : Rec.Ok x l) (hy : Rec.Ok y r) (hl : l.length ≤ 1000000) : pureCall E.P (L E) 55 [rectR.o x l, rectR.o y r] = some (.bool (decide (l = r))) := by
 have key := equal_rects x y l r hx hy hl
 rw [pureCall_fn F55 rfl]
 simp -implicitDefEqProofs [r55, padS, ret0 m57, Rec.o_reify, key]
open Rg (Rect Slab)
theorem cap_nil {h : Heap} : lenT .cap h (.slice none 0 0) = some (.int .i64 0) := rfl
def tot {α : Type} : List (Option Bool × List α) → Nat
 | [] => 0
 | p :: r => p.2.length + tot r
def allP {α : Type} (P : List (Option Bool × List α)) : List α := P.flatMap (·.2)
theorem tot_all {α : Type} : ∀ (P : List (Option Bool × List α)), (allP P).length = tot P
 | [] => rfl
 | p :: r => by
  show (p.2 ++ allP r).length = p.2.length + tot r
  rw [List.length_append, tot_all r]
theorem tot_zero {α : Type} {P : List (Option Bool × List α)} (h : tot P = 0) : ∀ p ∈ P, p.2 = [] := by
 intro p hp
 have h0 : (allP P).length = 0 := by rw [tot_all, h]
 have : allP P = [] := List.eq_nil_of_length_eq_zero h0
 apply List.eq_nil_iff_forall_not_mem.2
 intro a ha
 have : a ∈ allP P := List.mem_flatMap.2 ⟨p, hp, ha⟩
 rw [‹allP P = []›] at this
 cases this
theorem rects_grow (n : Nat) (h : Heap) (lo : Nat) (hn : n ≤ 1000000) : L E 85 [.slice none 0 0, .int .i64 (n : Int)] h lo =
  some (if n = 0 then (.slice none 0 0, h) else (.slice (some ⟨h.length, 0, some (n * 4)⟩) 0 n, h ++ [rectR.row 41 (List.replicate n zeroR)])) := by
 have sn : sliceT (.sl 41 ⟨some true, some 4⟩) h (.slice none 0 0) none (some (.int .i64 0)) none = some (.slice none 0 0) := Rec.slice_none rfl
 have w1 : IntKind.i64.wrap (n : Int) = n := wrap64 (by omega) (by omega)
 have w0 : IntKind.i64.wrap 0 = 0 := rfl
 rw [L_fn F85 rfl]
 simp -implicitDefEqProofs [r85, padS]
 by_cases h0 : n = 0
 ·subst h0
  simp -implicitDefEqProofs [cap_nil, w0]
 ·have h1 : 0 < n := by omega
  have h2 : ¬ ((n : Int) < 0) := by omega
  have ap := Rec.appN (R := rectR) (el := ⟨41, 4, 32, .agg ⟨[.int .i64 0, .int .i64 0, .int .i64 0, .int .i64 0]⟩, ⟨some true, some 4⟩⟩) (h := h) (n := n) (k := .i64) (a := zeroR) rfl rfl h1 (by show n * 32 ≤ 2 ^ 47; omega)
  have sl := Rec.slice_row0 (R := rectR) (e := 41) (t := 41) (g := some true) (h := h ++ [rectR.row 41 (List.replicate n zeroR)]) (b := h.length) (n := n) (l := List.replicate n zeroR) (k := .i64) rfl (by simp) (by simp)
  simp only [show rectR.m + 1 = 4 from rfl] at ap sl
  simp -implicitDefEqProofs [h0, h1, h2, cap_nil, sn, w0, w1, ap, sl]
theorem rects_concat (x : Bool) (P : List (Option Bool × List (Rect))) (hok : ∀ p ∈ P, Rec.Ok p.1 p.2) (hP : P.length ≤ 1000) (ht : tot P ≤ 1000000) :
  pureCall E.P (L E) 76 [lst x (P.map fun p => rectR.o p.1 p.2)] = some (rectR.o (if tot P = 0 then none else some false) (allP P)) := by
 have okI : ∀ (i : Nat) (hi : i < P.length), Rec.Ok (P[i]).1 (P[i]).2 := fun i hi => hok _ (List.getElem_mem hi)
 have ix : ∀ (i : Nat) (hi : i < P.length), indexAddrT (.sl 22 ⟨some false, some 1⟩) (lst x (P.map fun p => rectR.o p.1 p.2)) (.int .i64 (i : Int)) = some (cptr (rectR.o (P[i]).1 (P[i]).2)) := fun i hi => by
  have e : (P.map fun p => rectR.o p.1 p.2)[i]? = some (rectR.o (P[i]).1 (P[i]).2) := by simp [hi]
  rw [index_lst, if_pos (by omega), show ((i : Int)).toNat = i by omega, e, Option.bind_some, if_pos (by rw [Rec.o_fits, Rec.o_cells1]; rfl)]
 have gr := rects_grow (tot P)
 rw [pureCall_fn F76 rfl]
 simp -implicitDefEqProofs [r76, padS]
 rw [LL_for (γ := Nat) P 0 (fun i c => [(3, .int .i64 (c : Int)), (11, .int .i64 i)]) (fun _ _ => []) (fun i rest c => (.exit 0, [(3, .int .i64 ((c + tot rest : Nat) : Int)), (11, undef)], [])) (fun i c => c + tot (P.drop i) ≤ 1000000) (by omega) (by simpa using ht)]
 ·rw [Nat.zero_add]
  simp -implicitDefEqProofs [k76_3, ret2 m85, gr, ht]
  by_cases h0 : tot P = 0
  ·have hz := tot_zero h0
   have ha : allP P = [] := List.eq_nil_of_length_eq_zero (by rw [tot_all, h0])
   simp -implicitDefEqProofs [h0, ha]
   rw [LL_for (γ := Unit) P () (fun i _ => [(27, .int .i64 i)]) (fun _ _ => []) (fun _ _ _ => (.exit 2, [(27, undef)], [])) (fun _ _ => True) (by omega) trivial]
   ·simp -implicitDefEqProofs [k76_11, Rec.o]
   ·simp -implicitDefEqProofs [k76_11]
   ·rfl
   ·intro nx i c hi _
    simp -implicitDefEqProofs [r76_11, k76_11, hi, trim_le]
   ·intro nx i p rest c hi hv hd hw _ ih
    have ih := ih () trivial
    have hp := okI i hi
    have ixi := ix i hi
    rw [hv] at hp ixi
    have hpe := hz p (hv ▸ List.getElem_mem hi)
    have cl : sliceCells [] 4 (rectR.o p.1 p.2) = some ([], 0) := (Rec.o_cells (R := rectR) (s := 4) rfl hp).trans (by rw [hpe]; rfl)
    simp -implicitDefEqProofs [k76_11] at ih
    simp -implicitDefEqProofs [r76_11, k76_11, hi, ixi, Rec.o_fits, append_nil, cl, hw, trim_le]
    exact ih
  ·have h1 : 0 < tot P := by omega
   simp -implicitDefEqProofs [h0]
   rw [LL_for (γ := List (Rect)) P [] (fun i c => [(6, .slice (some ⟨0, 0, some (tot P * 4)⟩) c.length (tot P)), (27, .int .i64 i)]) (fun _ c => [rectR.row 41 (c ++ List.replicate (tot P - c.length) zeroR)])
    (fun _ rest c => (.exit 2, [(6, .slice (some ⟨0, 0, some (tot P * 4)⟩) (c ++ allP rest).length (tot P)), (27, undef)], [rectR.row 41 ((c ++ allP rest) ++ List.replicate (tot P - (c ++ allP rest).length) zeroR)])) (fun i c => c.length + tot (P.drop i) = tot P) (by omega) (by simp)]
   ·have e : [] ++ allP P = allP P := rfl
    have e2 : tot P - (allP P).length = 0 := by rw [tot_all]; omega
    have rr := Rec.reify_row (R := rectR) (P := E.P) (h := [rectR.row 41 (allP P)]) (b := 0) (n := 7) (t := 41) (l := allP P) rfl (by kernel_rfl) (by kernel_rfl)
    rw [e, e2, List.replicate_zero, List.append_nil]
    unfold Rec.sl at rr
    rw [tot_all] at rr ⊢
    simp only [show rectR.m + 1 = 4 from rfl] at rr
    simp -implicitDefEqProofs [k76_11, -reify_slice, rr, Rec.o]
   ·simp -implicitDefEqProofs [k76_11]
   ·simp
   ·intro nx i c hi _
    simp -implicitDefEqProofs [r76_11, k76_11, hi, trim_le, allP]
   ·intro nx i p rest c hi hv hd hw hc ih
    have hr : P.drop (i + 1) = rest := by rw [← List.drop_drop, hd]; rfl
    rw [hd] at hc
    have hc' : c.length + (p.2.length + tot rest) = tot P := hc
    have ih := ih (c ++ p.2) (by rw [hr, List.length_append]; omega)
    have hp := okI i hi
    have ixi := ix i hi
    rw [hv] at hp ixi
    have e : c ++ allP (p :: rest) = c ++ p.2 ++ allP rest := by
     show c ++ (p.2 ++ allP rest) = _
     rw [List.append_assoc]
    have ap := Rec.app_fill (R := rectR) (el := ⟨41, 4, 32, .agg ⟨[.int .i64 0, .int .i64 0, .int .i64 0, .int .i64 0]⟩, ⟨some true, some 4⟩⟩) (h := [rectR.row 41 (c ++ List.replicate (tot P - c.length) zeroR)]) (lo := 0) (b := 0) (n := tot P) (r := tot P - c.length) (t := 41) (acc := c) (m := p.2) (z := zeroR) (u := rectR.o p.1 p.2)
     rfl rfl (by omega) (Rec.o_cells rfl hp) (Nat.le_refl _) (by omega)
    simp only [show rectR.m + 1 = 4 from rfl] at ap
    have e3 : tot P - c.length - p.2.length = tot P - (c ++ p.2).length := by rw [List.length_append]; omega
    rw [e3] at ap
    rw [e]
    simp -implicitDefEqProofs [k76_11, -List.length_append] at ih
    simp -implicitDefEqProofs [r76_11, k76_11, hi, ixi, Rec.o_fits, ap, hw, trim_le, -List.length_append]
    exact ih
 ·simp -implicitDefEqProofs [k76_3]
 ·rfl
 ·intro nx i c hi _
  simp -implicitDefEqProofs [r76_3, k76_3, hi, trim_le, tot]
 ·intro nx i p rest c hi hv hd hw hc ih
  have hr : P.drop (i + 1) = rest := by rw [← List.drop_drop, hd]; rfl
  rw [hd] at hc
  have hc' : c + (p.2.length + tot rest) ≤ 1000000 := hc
  have ih := ih (c + p.2.length) (by rw [hr]; omega)
  have w1 : IntKind.i64.wrap ((c : Int) + (p.2.length : Int)) = ((c + p.2.length : Nat) : Int) := by rw [wrap64 (by omega) (by omega)]; rfl
  have e : c + tot (p :: rest) = c + p.2.length + tot rest := by show c + (p.2.length + tot rest) = _; omega
  have hp := okI i hi
  rw [hv] at hp
  have ixi := ix i hi
  rw [hv] at ixi
  have hneg : ¬ (((c + p.2.length : Nat) : Int) < 0) := by omega
  rw [e]
  simp -implicitDefEqProofs [k76_3, -Int.natCast_add] at ih
  simp -implicitDefEqProofs [r76_3, k76_3, hi, ixi, Rec.o_fits, Rec.o_len hp, w1, hneg, hw, trim_le, -Int.natCast_add]
  exact ih
end Go.Proofs.Ythkddpgnhaeooaa.Bm
namespace Go.Proofs.Ythkddpgnhaeooaa.Rg
open Bm (compG compI sortI)
def gstep (o : List (Int × Int)) (s : Int × Int) : List (Int × Int) := match o.getLast? with
 | some u => if s.1 ≤ u.2 then o.dropLast ++ [(u.1, max u.2 s.2)] else o ++ [s]
 | none => [s]
theorem gstep_snoc (o : List (Int × Int)) (u s : Int × Int) : gstep (o ++ [u]) s = o ++ (if s.1 ≤ u.2 then [(u.1, max u.2 s.2)] else [u, s]) := by
 unfold gstep
 rw [List.getLast?_concat]
 simp only
 split
 ·rw [List.dropLast_concat]
 ·rw [List.append_assoc]; rfl
theorem gstep_glue : ∀ (l : List (Int × Int)) (o : List (Int × Int)) (u : Int × Int), l.foldl gstep (o ++ [u]) = o ++ glue u l
 | [], o, u => rfl
 | s :: l, o, u => by
  rw [List.foldl_cons, gstep_snoc]
  unfold glue
  split
  ·exact gstep_glue l o _
  ·have e : o ++ [u, s] = (o ++ [u]) ++ [s] := by rw [List.append_assoc]; rfl
   rw [e, gstep_glue l (o ++ [u]) s, List.append_assoc]; rfl
theorem gstep_col (l : List (Int × Int)) : l.foldl gstep [] = colF l := by
 cases l with
 | nil => rfl
 | cons s l => exact gstep_glue l [] s
def own (l : List Rect) (x : Int) : List (Int × Int) := (l.filter fun r => decide (r.x0 ≤ x) && decide (x < r.x1)).map fun r => (r.y0, r.y1)
theorem own_cons (r : Rect) (l : List Rect) (x : Int) : own (r :: l) x = (if r.x0 ≤ x ∧ x < r.x1 then [(r.y0, r.y1)] else []) ++ own l x := by
 unfold own
 by_cases h : r.x0 ≤ x ∧ x < r.x1
 ·rw [if_pos h, List.filter_cons_of_pos (by simpa using h)]; rfl
 ·rw [if_neg h, List.filter_cons_of_neg (by simpa using h)]; rfl
theorem own_has (l : List Rect) (x y : Int) : hasS (own l x) y = cell l x y := by
 induction l with
 | nil => rfl
 | cons r l ih =>
  rw [own_cons, hasS_append, ih]
  show _ = (r.has x y || cell l x y)
  congr 1
  unfold Rect.has
  by_cases h : r.x0 ≤ x ∧ x < r.x1
  ·rw [if_pos h]
   simp [hasS, h]
  ·rw [if_neg h, and_no h]
   simp [hasS]
theorem hasS_perm {a b : List (Int × Int)} (h : a.Perm b) (y : Int) : hasS a y = hasS b y := by
 rw [Bool.eq_iff_iff]
 unfold hasS
 simp only [List.any_eq_true]
 exact ⟨fun ⟨s, hs, k⟩ => ⟨s, h.mem_iff.1 hs, k⟩, fun ⟨s, hs, k⟩ => ⟨s, h.mem_iff.2 hs, k⟩⟩
def colC (l : List Rect) (x : Int) : List (Int × Int) := colF (sortS (own l x))
theorem colC_ok {l : List Rect} (hl : ∀ r ∈ l, r.y0 < r.y1) (x : Int) : Can (colC l x) ∧ ∀ y, hasS (colC l x) y = cell l x y := by
 have hp := sortS_sorted (own l x)
 have hs : ∀ u ∈ sortS (own l x), u.1 < u.2 := fun u hu => by
  have hu := (sortS_perm (own l x)).mem_iff.1 hu
  unfold own at hu
  obtain ⟨r, hr, rfl⟩ := List.mem_map.1 hu
  exact hl r (List.mem_filter.1 hr).1
 refine ⟨colF_can hp hs, fun y => ?_⟩
 unfold colC
 rw [colF_has hp hs, hasS_perm (sortS_perm _), own_has]
theorem colC_len (l : List Rect) (x : Int) : (colC l x).length ≤ l.length := by
 have glue_len : ∀ (l : List (Int × Int)) (s : Int × Int), (glue s l).length ≤ l.length + 1 := by
  intro l
  induction l with
  | nil => intro s; exact Nat.le_refl _
  | cons u l ih =>
   intro s
   unfold glue
   split
   ·exact Nat.le_succ_of_le (ih _)
   ·exact Nat.succ_le_succ (ih u)
 have h1 : (sortS (own l x)).length ≤ l.length := by
  rw [(sortS_perm _).length_eq]
  unfold own
  rw [List.length_map]; exact List.length_filter_le _ _
 unfold colC
 cases h : sortS (own l x) with
 | nil => exact Nat.zero_le _
 | cons s m =>
  rw [h] at h1
  exact Nat.le_trans (glue_len m s) h1
theorem compG_mem : ∀ (l : List Int) (p : Option Int) (z : Int), z ∈ compG p l → z ∈ l
 | [], _, _, h => by cases h
 | a :: l, p, z, h => by
  unfold compG at h
  split at h
  ·exact List.mem_cons_of_mem _ (compG_mem l p z h)
  ·rcases List.mem_cons.1 h with rfl | h
   ·exact List.mem_cons_self
   ·exact List.mem_cons_of_mem _ (compG_mem l _ z h)
theorem compG_all : ∀ (l : List Int) (p : Option Int) (z : Int), z ∈ l → z ∈ compG p l ∨ p = some z
 | [], _, _, h => by cases h
 | a :: l, p, z, h => by
  unfold compG
  split
  ·rename_i e
   rcases List.mem_cons.1 h with rfl | h
   ·exact .inr e
   ·exact compG_all l p z h
  ·rcases List.mem_cons.1 h with rfl | h
   ·exact .inl List.mem_cons_self
   ·rcases compG_all l (some a) z h with k | k
    ·exact .inl (List.mem_cons_of_mem _ k)
    ·cases k; exact .inl List.mem_cons_self
theorem compG_asc : ∀ (l : List Int) (p : Option Int), l.Pairwise (· ≤ ·) → (∀ a ∈ p, ∀ z ∈ l, a ≤ z) → (compG p l).Pairwise (· < ·) ∧ ∀ a ∈ p, ∀ z ∈ compG p l, a < z
 | [], _, _, _ => ⟨.nil, fun a _ z h => by cases h⟩
 | b :: l, p, hp, ha => by
  rw [List.pairwise_cons] at hp
  unfold compG
  split
  ·exact compG_asc l p hp.2 fun a h z hz => ha a h z (List.mem_cons_of_mem _ hz)
  ·rename_i hne
   obtain ⟨i1, i2⟩ := compG_asc l (some b) hp.2 fun a h z hz => by cases h; exact hp.1 z hz
   refine ⟨List.pairwise_cons.2 ⟨fun z hz => i2 b rfl z hz, i1⟩, fun a h z hz => ?_⟩
   have hab := ha a h b List.mem_cons_self
   have hne' : a ≠ b := fun e => hne (by rw [← e]; exact h)
   rcases List.mem_cons.1 hz with rfl | hz
   ·omega
   ·have := i2 b rfl z hz; omega
theorem comp_sort (l : List Int) : compI (sortI l) = sortU l := by
 obtain ⟨h1, _⟩ := compG_asc (sortI l) none (Bm.sortI_sorted l) fun a h => by cases h
 refine asc_ext h1 (sortU_asc l) fun z => ?_
 rw [sortU_mem, ← (Bm.sortI_perm l).mem_iff]
 exact ⟨compG_mem _ _ z, fun h => (compG_all _ none z h).resolve_right fun k => by cases k⟩
theorem runs_step {s u : Slab} {T : List Slab} (h : u.col = s.col) : outT (runs s (u :: T)) = outT (runs ⟨s.x0, u.x1, s.col⟩ T) := by
 rw [runs, if_pos h]
theorem emit_nil {s : Slab} (h : s.col = []) : emit s = [] := by unfold emit; rw [h]; rfl
theorem runs_stop {s u : Slab} {T : List Slab} (h : u.col ≠ s.col) : outT (runs s (u :: T)) = emit s ++ outT (runs u T) := by
 rw [runs, if_neg h]
 split
 ·rename_i e; rw [emit_nil e]; rfl
 ·rfl
theorem runs_end {s : Slab} : outT (runs s []) = emit s := by
 rw [runs]
 split
 ·rename_i e; rw [emit_nil e]; rfl
 ·show emit s ++ [] = _; rw [List.append_nil]
end Go.Proofs.Ythkddpgnhaeooaa.Rg
namespace Go.Proofs.Ythkddpgnhaeooaa.Bm
open Go Go.RowKit
open Rg (Rect Slab own own_cons gstep colC)
theorem s59 : szOf E.P 131 = some 2 := by kernel_rfl
theorem a59 : aggT E.P 131 = some true := by kernel_rfl
theorem lit_span (h : Heap) (a b : Int) : buildSliceT (some ⟨131, 2, 16, .agg ⟨[.int .i64 0, .int .i64 0]⟩, ⟨some true, some 2⟩⟩) false h 1 #[(0, .agg ⟨[.int .i64 a, .int .i64 b]⟩)] = some (lst true [.agg ⟨[.int .i64 a, .int .i64 b]⟩], h) :=
 (build_lit' (n := 1) (l := [(0, .agg ⟨[.int .i64 a, .int .i64 b]⟩)]) rfl rfl (by decide) (by decide) (by decide)).trans rfl
theorem app_span {h : Heap} {b : Nat} {c : List (Int × Int)} (u v : Int) (hob : h[b]? = some (spanR.row 131 c)) (hc : c.length ≤ 1000000) :
  appendT (some ⟨131, 2, 16, .agg ⟨[.int .i64 0, .int .i64 0]⟩, ⟨some true, some 2⟩⟩) h 0 false (spanR.sl b c) (lst true [.agg ⟨[.int .i64 u, .int .i64 v]⟩]) = some (spanR.sl b (c ++ [(u, v)]), h.set b (spanR.row 131 (c ++ [(u, v)]))) :=
 Rec.app (R := spanR) (m := [(u, v)]) rfl hob (Rec.cells_tree (R := spanR) rfl [(u, v)]) (Nat.zero_le _) (by show (c.length + 1) * 16 ≤ 2 ^ 47; omega)
theorem set_same {h : Heap} {b : Nat} {o : AObj} (hob : h[b]? = some o) : h.set b o = h := by
 refine List.ext_getElem? fun i => ?_
 rw [List.getElem?_set]
 split
 ·rename_i e; subst e
  split
  ·exact hob.symm
  ·rename_i hlt; rw [List.getElem?_eq_none (by omega)]
 ·rfl
theorem sort_spec {h : Heap} {b lo : Nat} {d : List (Int × Int)} (hob : h[b]? = some (spanR.row 131 d)) (hlo : lo ≤ b) (hd : d.length ≤ 1000000) :
  L E 86 [spanR.sl b d, .func (.func 87) ⟨[]⟩ ⟨[]⟩] h lo = some (.tuple #[], h.set b (spanR.row 131 (sortS d))) := by
 rw [L_orc (g := inC 87 2 sortSF) rfl]
 unfold inC Rec.sl
 simp only
 rw [if_pos ⟨trivial, Nat.le_refl _⟩]
 by_cases h0 : d.length = 0
 ·have : d = [] := List.eq_nil_of_length_eq_zero h0
  subst this
  rw [if_pos h0]
  have e : sortS [] = [] := List.eq_nil_of_length_eq_zero (sortS_perm []).length_eq
  rw [e, set_same hob]
 ·rw [if_neg h0]
  have hob' : h[b]? = some (.cells 131 (spanR.flat d) 2) := hob
  have hl : (spanR.flat d).length = d.length * 2 := Rec.flat_len
  unfold inCR
  simp only [hob']
  have e1 : (spanR.flat d).take (d.length * 2) = d.flatMap spanV := by rw [List.take_of_length_le (by omega)]; rfl
  rw [e1, sortSF_flat, Option.bind_some, if_pos ⟨hlo, by unfold stampOk; rw [hl]; simp [spanR], trivial, by omega, by omega⟩]
  rw [List.drop_of_length_le (by omega), List.append_nil]; rfl
theorem own_len (l : List Rect) (x : Int) : (own l x).length ≤ l.length := by
 unfold own
 rw [List.length_map]; exact List.length_filter_le _ _
theorem gstep_set {o : List (Int × Int)} {m : Nat} (hm : o.length = m + 1) (t : Int × Int) (h : t.1 ≤ (o[m]'(by omega)).2) : gstep o t = o.set m ((o[m]'(by omega)).1, max (o[m]'(by omega)).2 t.2) := by
 have ho : o.getLast? = some (o[m]'(by omega)) := by
  have hl : o.length - 1 = m := by omega
  have hm' : m < o.length := by omega
  rw [List.getLast?_eq_getElem?, hl, List.getElem?_eq_getElem hm']
 unfold gstep
 rw [ho]
 simp only
 rw [if_pos h]
 apply List.ext_getElem?
 intro i
 by_cases e : i = m
 ·subst e
  rw [List.getElem?_append_right (by simp [hm]), List.getElem?_set_self (by omega)]
  simp [hm]
 ·rw [List.getElem?_set_ne (Ne.symm e)]
  by_cases hi : i < m
  ·rw [List.getElem?_append_left (by simp [hm]; omega), List.getElem?_dropLast, if_pos (by omega)]
  ·rw [List.getElem?_eq_none (by simp [hm]; omega), List.getElem?_eq_none (by omega)]
theorem gstep_add {o : List (Int × Int)} {m : Nat} (hm : o.length = m + 1) (t : Int × Int) (h : ¬ t.1 ≤ (o[m]'(by omega)).2) : gstep o t = o ++ [t] := by
 have ho : o.getLast? = some (o[m]'(by omega)) := by
  have hl : o.length - 1 = m := by omega
  have hm' : m < o.length := by omega
  rw [List.getLast?_eq_getElem?, hl, List.getElem?_eq_getElem hm']
 unfold gstep
 rw [ho]
 simp only
 rw [if_neg h]
theorem gstep_len (o : List (Int × Int)) (t : Int × Int) : (gstep o t).length ≤ o.length + 1 := by
 unfold gstep
 split
 ·split
  ·simp
  ·simp
 ·simp
theorem sl_eq {b : Nat} {c d : List (Int × Int)} (h : c.length = d.length) : spanR.sl b c = spanR.sl b d := by unfold Rec.sl; rw [h]
theorem max_int (a b : Int) : aMinMax true [.int .i64 a, .int .i64 b] = some (.int .i64 (max a b)) := by
 show some (Value.int .i64 (if b > a then b else a)) = _
 congr 2
 omega
theorem column_spec (k : Option Bool) (l : List Rect) (x : Int) (hk : Rec.Ok k l) (hl : l.length ≤ 1000) : pureCall E.P (L E) 77 [rectR.o k l, .int .i64 x] = some (colV (colC l x)) := by
 rw [pureCall_fn F77 rfl]
 simp -implicitDefEqProofs [r77, p77, prep_new, newK_nil s59, Rec.o_len hk]
 rw [LL_for (γ := List (Int × Int)) l [] (fun i c => [(5, spanR.sl 0 c), (14, .int .i64 i)]) (fun _ c => [spanR.row 131 c])
  (fun _ rest c => (.exit 0, [(5, spanR.sl 0 (c ++ own rest x)), (14, undef)], [spanR.row 131 (c ++ own rest x)])) (fun i c => c.length ≤ i) (by omega) (Nat.le_refl _)]
 ·rw [List.nil_append]
  have hs := fun h => sort_spec (h := [spanR.row 131 (own l x)] ++ h) (b := 0) (lo := 0) (d := own l x) rfl (Nat.le_refl _) (by have := own_len l x; omega)
  have hs := hs []
  rw [List.append_nil] at hs
  have hse : (own l x).length = (sortS (own l x)).length := (sortS_perm _).length_eq.symm
  have hle := own_len l x
  simp -implicitDefEqProofs [k77_3, ret2 (E := E) (f := 86) rfl, hs, prep_new, newK_nil s59, Rec.sl_len]
  rw [sl_eq (b := 0) hse, hse]
  have hc : colC l x = (sortS (own l x)).foldl gstep [] := (Rg.gstep_col _).symm
  rw [hc]
  rw [hse] at hle
  clear hs hse hc
  generalize sortS (own l x) = s at hle ⊢
  rw [LL_for (γ := List (Int × Int)) s [] (fun i o => [(8, spanR.sl 1 o), (41, .int .i64 i)]) (fun _ o => [spanR.row 131 s, spanR.row 131 o])
   (fun _ rest o => (.exit 2, [(8, spanR.sl 1 (rest.foldl gstep o)), (41, undef)], [spanR.row 131 s, spanR.row 131 (rest.foldl gstep o)])) (fun i o => o.length ≤ i) (by omega) (Nat.le_refl _)]
  ·have rr := Rec.reifyR_row (R := spanR) (P := E.P) (h := [spanR.row 131 s, spanR.row 131 (s.foldl gstep [])]) (b := 1) (t := 131) (l := s.foldl gstep []) rfl s59 a59
   simp -implicitDefEqProofs [k77_11, rr, colV]
  ·simp -implicitDefEqProofs [k77_11, Rec.sl_nil]
  ·rfl
  ·intro nx i o hi _
   simp -implicitDefEqProofs [r77_11, k77_11, hi, trim_le]
  ·intro nx i t rest o hi hv hd hw ho ih
   have ih := ih (gstep o t) (by have := gstep_len o t; omega)
   simp -implicitDefEqProofs [k77_11] at ih
   rw [List.foldl_cons]
   have ixs := Rec.index_row (R := spanR) (h0 := 2) (t := 131) (g := some true) (b := 0) (l := s) (i := i) (k := .i64) rfl hi
   have lds := Rec.load_row (R := spanR) (h := [spanR.row 131 s, spanR.row 131 o]) (b := 0) (n := 2) (t := 131) (l := s) (i := i) rfl rfl hi
   rw [hv, span_val] at lds
   have ap := fun q => app_span (h := [spanR.row 131 s, spanR.row 131 o, q]) (b := 1) (c := o) t.1 t.2 rfl (by omega)
   by_cases h0 : o = []
   ·subst h0
    have e : gstep [] t = [] ++ [(t.1, t.2)] := rfl
    rw [e] at ih ⊢
    simp -implicitDefEqProofs [r77_11, k77_11, hi, ixs, lds, Rec.sl_len, lit_span, ap, hw, trim_cut, Rec.sl_bel, Rec.row_bel, Rec.o_bel]
    simpa using ih
   ·obtain ⟨m, hm⟩ : ∃ m, o.length = m + 1 := ⟨o.length - 1, by have := List.length_pos_iff.2 h0; omega⟩
    have hm' : m < o.length := by omega
    have w1 : IntKind.i64.wrap ((o.length : Int) - 1) = (m : Int) := by rw [wrap64 (by omega) (by omega)]; omega
    have hpos : 0 < o.length := by omega
    have ixo := Rec.index_row (R := spanR) (h0 := 2) (t := 131) (g := some true) (b := 1) (l := o) (i := m) (k := .i64) rfl hm'
    have fdo := Rec.field_row (R := spanR) (b := 1) (n := 0) (f := 1) (l := o) (i := m) (k := ⟨some true, some 2⟩) (g := some false)
    have ldo := fun q => Rec.load_cell (R := spanR) (h := [spanR.row 131 s, spanR.row 131 o, q]) (b := 1) (j := 1) (t := 131) (l := o) (i := m) (sz := some 1) rfl hm' (by decide)
    have e1 : (spanR.enc o[m])[1]? = some (.int .i64 o[m].2) := rfl
    simp only [e1] at ldo
    have sto := fun q (v : Int) => Rec.store_cell (R := spanR) (h := [spanR.row 131 s, spanR.row 131 o, q]) (b := 1) (j := 1) (lo := 0) (t := 131) (l := o) (i := m) (v := .int .i64 v) (a := (o[m].1, v)) rfl rfl (Nat.zero_le _) hm' (by decide) rfl
    by_cases h1 : t.1 ≤ o[m].2
    ·rw [gstep_set hm t h1] at ih ⊢
     have el : spanR.sl 1 (o.set m (o[m].1, max o[m].2 t.2)) = spanR.sl 1 o := sl_eq (by simp)
     rw [el] at ih
     simp -implicitDefEqProofs [r77_11, k77_11, hi, ixs, lds, Rec.sl_len, hpos, w1, ixo, fdo, ldo, sto, h1, max_int, hw, trim_cut, Rec.sl_bel, Rec.row_bel, Rec.o_bel]
     exact ih
    ·rw [gstep_add hm t h1] at ih ⊢
     simp -implicitDefEqProofs [r77_11, k77_11, hi, ixs, lds, Rec.sl_len, hpos, w1, ixo, fdo, ldo, h1, lit_span, ap, hw, trim_cut, Rec.sl_bel, Rec.row_bel, Rec.o_bel]
     exact ih
 ·simp -implicitDefEqProofs [k77_3, Rec.sl_nil]
 ·rfl
 ·intro nx i c hi _
  simp -implicitDefEqProofs [r77_3, k77_3, hi, trim_le, own]
 ·intro nx i r rest c hi hv hd hw hc ih
  have ixi := Rec.o_index (R := rectR) (t := 41) (kk := .i64) (s := 4) rfl hk hi
  rw [hv] at ixi
  have ap := fun o => app_span (h := [spanR.row 131 c, o]) (b := 0) (c := c) r.y0 r.y1 rfl (by omega)
  rw [own_cons]
  by_cases h1 : r.x0 ≤ x
  ·by_cases h2 : x < r.x1
   ·have ih := ih (c ++ [(r.y0, r.y1)]) (by simp; omega)
    rw [if_pos ⟨h1, h2⟩, ← List.append_assoc]
    simp -implicitDefEqProofs [k77_3, -List.append_assoc] at ih
    simp -implicitDefEqProofs [r77_3, k77_3, hi, ixi, rect_val, h1, h2, b2_all, lit_span, ap, hw, trim_cut, Rec.sl_bel, Rec.row_bel, Rec.o_bel, -List.append_assoc]
    exact ih
   ·have ih := ih c (by omega)
    rw [if_neg (fun e => h2 e.2), List.nil_append]
    simp -implicitDefEqProofs [k77_3] at ih
    simp -implicitDefEqProofs [r77_3, k77_3, hi, ixi, rect_val, h1, h2, hw, trim_cut, Rec.sl_bel, Rec.row_bel, Rec.o_bel]
    exact ih
  ·have ih := ih c (by omega)
   rw [if_neg (fun e => h1 e.1), List.nil_append]
   simp -implicitDefEqProofs [k77_3] at ih
   simp -implicitDefEqProofs [r77_3, k77_3, hi, ixi, rect_val, h1, hw, trim_cut, Rec.sl_bel, Rec.row_bel, Rec.o_bel]
   exact ih
def intR : Rec Int where
 enc a := [.int .i64 a]
 m := 0
 len _ := rfl
 set _ := rfl
 bel _ _ := rfl
theorem int_flat (l : List Int) : intR.flat l = l.map (.int .i64) := by
 induction l with
 | nil => rfl
 | cons a l ih => show Value.int .i64 a :: intR.flat l = _; rw [ih]; rfl
theorem lit_two (h : Heap) (a b : Int) : buildSliceT (some ⟨3, 1, 8, .int .i64 0, ⟨some false, some 1⟩⟩) false h 2 #[(0, .int .i64 a), (1, .int .i64 b)] = some (lst true [.int .i64 a, .int .i64 b], h) :=
 (build_lit' (n := 2) (l := [(0, .int .i64 a), (1, .int .i64 b)]) rfl rfl (by decide) (by decide) (by decide)).trans rfl
theorem sortInts {h : Heap} {b lo : Nat} {d : List Int} (hob : h[b]? = some (intR.row 3 d)) (hlo : lo ≤ b) (hd : d.length ≤ 1000000) :
  L E 21 [intR.sl b d] h lo = some (.tuple #[], h.set b (intR.row 3 (sortI d))) := by
 rw [L_orc (g := inG sortI none) rfl]
 by_cases h0 : d.length = 0
 ·have : d = [] := List.eq_nil_of_length_eq_zero h0
  subst this
  have e : h.set b (intR.row 3 (sortI [])) = h := set_same hob
  rw [e]
  rfl
 ·have hob' : h[b]? = some (.cells 3 ((d ++ []).map (.int .i64)) (0 + 1)) := by
   rw [List.append_nil, ← int_flat]; exact hob
  have key := inG_ints (F := sortI) (N := none) (lo := lo) (k := d.length) (n := d.length) (c := d.length) (zs := d) (ys := []) hob' hlo (by simp) rfl h0 (by omega)
  have e1 : intR.sl b d = .slice (some ⟨b, 0, some d.length⟩) d.length d.length := by unfold Rec.sl; simp [intR]
  rw [e1, key]
  congr 2
  unfold Rec.row
  rw [List.append_nil, int_flat]; rfl
def preS (b n : Nat) (e : List Int) : Value := .slice (some ⟨b, 0, some n⟩) e.length n
theorem compInts {h : Heap} {b lo : Nat} {d : List Int} (hob : h[b]? = some (intR.row 3 d)) (hlo : lo ≤ b) (hd : d.length ≤ 1000000) :
  ∃ r, L E 22 [intR.sl b d] h lo = some (preS b d.length (compI d), h.set b (intR.row 3 (compI d ++ r))) ∧ (compI d ++ r).length = d.length := by
 rw [L_orc (g := inG compF (some compN)) rfl]
 by_cases h0 : d.length = 0
 ·have : d = [] := List.eq_nil_of_length_eq_zero h0
  subst this
  refine ⟨[], ?_, rfl⟩
  have e : h.set b (intR.row 3 (compI [] ++ [])) = h := set_same hob
  rw [e]
  rfl
 ·have hob' : h[b]? = some (.cells 3 ((d ++ []).map (.int .i64)) (0 + 1)) := by
   rw [List.append_nil, ← int_flat]; exact hob
  have key := inG_ints (F := compF) (N := some compN) (lo := lo) (k := d.length) (n := d.length) (c := d.length) (zs := d) (ys := []) hob' hlo (by simp) rfl h0 (by omega)
  have e1 : intR.sl b d = .slice (some ⟨b, 0, some d.length⟩) d.length d.length := by unfold Rec.sl; simp [intR]
  refine ⟨List.replicate (d.length - (compI d).length) 0, ?_, compF_len d⟩
  rw [e1, key]
  congr 2
  unfold Rec.row
  rw [List.append_nil, int_flat]; rfl
theorem pre_len {h : Heap} {b n : Nat} {e : List Int} : lenT .sl h (preS b n e) = some (.int .i64 e.length) := rfl
theorem pre_bel {m d b n : Nat} {e : List Int} (h : b < m) : below (d + 1) m (preS b n e) = true := decide_eq_true h
theorem pre_index {t : TypeId} {g : Option Bool} {b n i : Nat} {e : List Int} {k : IntKind} (h1 : i < e.length) : indexAddrT (.sl t ⟨g, some 1⟩) (preS b n e) (.int k (i : Int)) = some (.pointer (some ⟨b, i, some n⟩)) := by
 unfold preS
 rw [index_slice, if_pos ⟨by omega, by omega⟩]
 simp [shift]
theorem pre_load {h : Heap} {b n i : Nat} {e r : List Int} {sz : Option Nat} (hob : h[b]? = some (intR.row 3 (e ++ r))) (hn : (e ++ r).length = n) (h1 : i < e.length) : loadT ⟨some false, sz⟩ h (.pointer (some ⟨b, i, some n⟩)) = some (.int .i64 e[i]) := by
 subst hn
 have key := Rec.load_cell (R := intR) (h := h) (b := b) (j := 0) (t := 3) (l := e ++ r) (i := i) (sz := sz) hob (by rw [List.length_append]; omega) (by decide)
 unfold Rec.at_ at key
 have e1 : (e ++ r)[i]'(by rw [List.length_append]; omega) = e[i] := List.getElem_append_left h1
 simp only [e1, show intR.m + 1 = 1 from rfl, Nat.mul_one, Nat.add_zero] at key
 exact key
open Rg (ends keepS addS sortU)
end Go.Proofs.Ythkddpgnhaeooaa.Bm
namespace Go.Proofs.Ythkddpgnhaeooaa.Rg
open Bm (inB inB_has atO colL pslab bs bs_ok)
def edgesX (l : List Rect) : List Int := sortU (l.flatMap fun r => [r.x0, r.x1])
theorem edgesX_all (l : List Rect) : EdgesX l (edgesX l) := fun r hr => by
 unfold edgesX
 rw [sortU_mem, sortU_mem]
 exact ⟨List.mem_flatMap.2 ⟨r, hr, by simp⟩, List.mem_flatMap.2 ⟨r, hr, by simp⟩⟩
def stripsL (l : List Rect) : List Slab := stripL (colC l) (edgesX l)
def ofL (l : List Rect) : List Rect := outT (runsF (stripsL l))
theorem edgesX_len (l : List Rect) : (edgesX l).length ≤ 2 * l.length := by
 have h : ∀ (z : Int) (m : List Int), (insU z m).length ≤ m.length + 1 := by
  intro z m
  induction m with
  | nil => exact Nat.le_refl _
  | cons a m ih =>
   unfold insU
   split
   ·exact Nat.le_refl _
   ·split
    ·exact Nat.le_succ _
    ·exact Nat.succ_le_succ ih
 have k : ∀ (m : List Int), (sortU m).length ≤ m.length := by
  intro m
  induction m with
  | nil => exact Nat.le_refl _
  | cons a m ih => exact Nat.le_trans (h a _) (Nat.succ_le_succ ih)
 refine Nat.le_trans (k _) ?_
 induction l with
 | nil => exact Nat.le_refl _
 | cons r l ih =>
  have e : ((r :: l).flatMap fun r => [r.x0, r.x1]).length = 2 + (l.flatMap fun r => [r.x0, r.x1]).length := by
   rw [List.flatMap_cons, List.length_append]; rfl
  have e2 : (r :: l).length = l.length + 1 := rfl
  rw [e, e2]; omega
theorem stripL_len (c : Int → List (Int × Int)) : ∀ (xs : List Int), (stripL c xs).length = xs.length - 1
 | [] => rfl
 | [_] => rfl
 | a :: b :: xs => by
  show (stripL c (b :: xs)).length + 1 = _
  rw [stripL_len c (b :: xs)]; simp
theorem ofL_ok {l : List Rect} (hl : ∀ r ∈ l, r.y0 < r.y1) : Form (ofL l) ∧ ∀ x y, cell (ofL l) x y = cell l x y :=
 strips_form (cell_steps l) (sortU_asc _) (edgesX_all l) (colC l) (fun x => (colC_ok hl x).1) fun x _ y => (colC_ok hl x).2 y
theorem hasS_const {c : List (Int × Int)} {y y' : Int} (h : ∀ s ∈ c, (s.1 ≤ y ↔ s.1 ≤ y') ∧ (y < s.2 ↔ y' < s.2)) : hasS c y = hasS c y' := any_ext fun s hs => by
 obtain ⟨h1, h2⟩ := h s hs
 simp only [h1, h2]
theorem hasS_out {c : List (Int × Int)} {y : Int} (h : ∀ s ∈ c, ¬ (s.1 ≤ y ∧ y < s.2)) : hasS c y = false := List.any_eq_false.2 fun s hs => by
 have := h s hs
 simp only [Bool.and_eq_true, decide_eq_true_eq]
 exact this
theorem ends_mem {c : List (Int × Int)} {s : Int × Int} (h : s ∈ c) : s.1 ∈ ends c ∧ s.2 ∈ ends c := ⟨List.mem_flatMap.2 ⟨s, h, by simp⟩, List.mem_flatMap.2 ⟨s, h, by simp⟩⟩
def mergeC (f : Bool → Bool → Bool) (a b : List (Int × Int)) : List (Int × Int) := keepS (fun y => f (inB a y) (inB b y)) [] (sortU (ends (a ++ b)))
theorem mergeC_ok (f : Bool → Bool → Bool) (hf : f false false = false) {a b : List (Int × Int)} (ha : Can a) (hb : Can b) : Can (mergeC f a b) ∧ ∀ y, hasS (mergeC f a b) y = f (hasS a y) (hasS b y) := by
 unfold mergeC
 have hp := sortU_asc (ends (a ++ b))
 have hm : ∀ s, (s ∈ a ∨ s ∈ b) → s.1 ∈ sortU (ends (a ++ b)) ∧ s.2 ∈ sortU (ends (a ++ b)) := fun s hs => by
  rw [sortU_mem, sortU_mem]
  exact ends_mem (List.mem_append.2 hs)
 generalize sortU (ends (a ++ b)) = ys at hp hm
 have ek : (fun y => f (inB a y) (inB b y)) = fun y => f (hasS a y) (hasS b y) := funext fun y => by rw [inB_has ha, inB_has hb]
 rw [ek]
 refine ⟨?_, fun y => keepS_has _ (fun y => f (hasS a y) (hasS b y)) ys hp (fun u v ⟨p, q, e⟩ y hy hyv => ?_) (fun y hy => ?_) (fun y hy => ?_) y⟩
 ·cases ys with
  | nil => trivial
  | cons z ys => exact (keepS_ok _ (z :: ys) [] z hp ⟨trivial, fun s hs => by cases hs⟩ fun b hb => by
    rcases List.mem_cons.1 hb with rfl | hb
    ·exact Int.le_refl _
    ·exact Int.le_of_lt ((List.pairwise_cons.1 hp).1 b hb)).1
 ·have key : ∀ s, (s ∈ a ∨ s ∈ b) → (s.1 ≤ y ↔ s.1 ≤ u) ∧ (y < s.2 ↔ u < s.2) := fun s hs => by
   have q0 := between hp e (hm s hs).1
   have q1 := between hp e (hm s hs).2
   omega
  show f (hasS a y) (hasS b y) = f (hasS a u) (hasS b u)
  rw [hasS_const (fun s hs => key s (.inl hs)), hasS_const (fun s hs => key s (.inr hs))]
 ·show f (hasS a y) (hasS b y) = false
  rw [hasS_out (c := a) fun s hs h => by have := hy _ (hm s (.inl hs)).1; omega, hasS_out (c := b) fun s hs h => by have := hy _ (hm s (.inr hs)).1; omega, hf]
 ·show f (hasS a y) (hasS b y) = false
  rw [hasS_out (c := a) fun s hs h => by have := hy _ (hm s (.inl hs)).2; omega, hasS_out (c := b) fun s hs h => by have := hy _ (hm s (.inr hs)).2; omega, hf]
def opC (f : Bool → Bool → Bool) (a b : List Rect) (x : Int) : List (Int × Int) := mergeC f (colL (atO (stripsL a) x)) (colL (atO (stripsL b) x))
def opL (f : Bool → Bool → Bool) (a b : List Rect) : List Rect := outT (runsF (stripL (opC f a b) (edgesX (a ++ b))))
end Go.Proofs.Ythkddpgnhaeooaa.Rg
