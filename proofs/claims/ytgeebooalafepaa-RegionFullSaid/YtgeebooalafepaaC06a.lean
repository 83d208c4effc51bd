/-
  Chapter 06: rectangles, spans and strips as data; the functions without loops. Conditions: none.
-/
import Derived.Test.YtgeebooalafepaaRc
import Derived.Test.YtgeebooalafepaaRgA
namespace Go.Proofs.Ytgeebooalafepaa.Bm
open Go Go.RowKit
open Rg (Rect Slab)

def rectR : Rec Rect where
  enc r := [.int .i64 r.x0, .int .i64 r.y0, .int .i64 r.x1, .int .i64 r.y1]
  m := 3
  len _ := rfl
  set _ := rfl
  bel _ _ := rfl
def spanR : Rec (Int × Int) where
  enc := spanV
  m := 1
  len _ := rfl
  set _ := rfl
  bel _ _ := rfl
def colV (c : List (Int × Int)) : Value := lst false (spanR.vals c)
def slabR : Rec Slab where
  enc s := [.int .i64 s.x0, .int .i64 s.x1, colV s.col]
  m := 2
  len _ := rfl
  set _ := rfl
  bel _ _ := rfl
theorem rect_val {r : Rect} : rectR.val r = .agg ⟨[.int .i64 r.x0, .int .i64 r.y0, .int .i64 r.x1, .int .i64 r.y1]⟩ := rfl
theorem span_val {s : Int × Int} : spanR.val s = .agg ⟨[.int .i64 s.1, .int .i64 s.2]⟩ := rfl
theorem slab_val {s : Slab} : slabR.val s = .agg ⟨[.int .i64 s.x0, .int .i64 s.x1, colV s.col]⟩ := rfl

/-! ### How they are put together -/
theorem b4_none : buildT (Bl.fs ⟨[.int .i64 0, .int .i64 0, .int .i64 0, .int .i64 0]⟩ ⟨[(0, 1), (1, 1), (2, 1), (3, 1)]⟩) #[] = some (.agg ⟨[.int .i64 0, .int .i64 0, .int .i64 0, .int .i64 0]⟩) := rfl
theorem b4_all {a b c d : Int} : buildT (Bl.fs ⟨[.int .i64 0, .int .i64 0, .int .i64 0, .int .i64 0]⟩ ⟨[(0, 1), (1, 1), (2, 1), (3, 1)]⟩) #[(0, .int .i64 a), (1, .int .i64 b), (2, .int .i64 c), (3, .int .i64 d)] = some (.agg ⟨[.int .i64 a, .int .i64 b, .int .i64 c, .int .i64 d]⟩) := rfl
theorem b2_all {a b : Int} : buildT (Bl.fs ⟨[.int .i64 0, .int .i64 0]⟩ ⟨[(0, 1), (1, 1)]⟩) #[(0, .int .i64 a), (1, .int .i64 b)] = some (.agg ⟨[.int .i64 a, .int .i64 b]⟩) := rfl

/-- A rectangle as the program wants it. -/
def okR (r : Rect) : Bool := decide (0 ≤ r.x0) && decide (r.x0 < r.x1) && decide (r.x1 ≤ 1048576) && decide (0 ≤ r.y0) && decide (r.y0 < r.y1) && decide (r.y1 ≤ 1048576)

theorem right_spec (r : Rect) : pureCall E.P (L E) 24 [rectR.val r] = some (.bool (okR r)) := by
  rw [pureCall_fn F24 rfl]
  simp -implicitDefEqProofs [r24, padS, rect_val]
  unfold okR
  by_cases h1 : 0 ≤ r.x0
  case neg => simp -implicitDefEqProofs [h1]
  by_cases h2 : r.x0 < r.x1
  case neg => simp -implicitDefEqProofs [h1, h2]
  by_cases h3 : r.x1 ≤ 1048576
  case neg => simp -implicitDefEqProofs [h1, h2, h3]
  by_cases h4 : 0 ≤ r.y0
  case neg => simp -implicitDefEqProofs [h1, h2, h3, h4]
  by_cases h5 : r.y0 < r.y1
  case neg => simp -implicitDefEqProofs [h1, h2, h3, h4, h5]
  simp -implicitDefEqProofs [h1, h2, h3, h4, h5]

/-! ### What to keep of two -/
/-- The three functions that say what to keep. -/
theorem union_spec (a b : Bool) : pureCall E.P (L E) 35 [.bool a, .bool b] = some (.bool (a || b)) := by
  rw [pureCall_fn F35 rfl]
  simp -implicitDefEqProofs [r35, padS]
  cases a <;> cases b <;> simp -implicitDefEqProofs
theorem common_spec (a b : Bool) : pureCall E.P (L E) 36 [.bool a, .bool b] = some (.bool (a && b)) := by
  rw [pureCall_fn F36 rfl]
  simp -implicitDefEqProofs [r36, padS]
  cases a <;> cases b <;> simp -implicitDefEqProofs
theorem minus_spec (a b : Bool) : pureCall E.P (L E) 37 [.bool a, .bool b] = some (.bool (a && !b)) := by
  rw [pureCall_fn F37 rfl]
  simp -implicitDefEqProofs [r37, padS]
  cases a <;> cases b <;> simp -implicitDefEqProofs

/-! ### The search in a column -/
theorem inside1_spec (s : Int × Int) (y : Int) : pureCall E.P (L E) 77 [spanR.val s, .int .i64 y] = some (.int .i64 (if s.2 ≤ y then -1 else 1)) := by
  rw [pureCall_fn F77 rfl]
  simp -implicitDefEqProofs [r77, padS, span_val]
  by_cases h : s.2 ≤ y <;> simp -implicitDefEqProofs [h]
theorem at1_spec (s : Slab) (x : Int) : pureCall E.P (L E) 61 [slabR.val s, .int .i64 x] = some (.int .i64 (if s.x1 ≤ x then -1 else 1)) := by
  rw [pureCall_fn F61 rfl]
  simp -implicitDefEqProofs [r61, padS, slab_val]
  by_cases h : s.x1 ≤ x <;> simp -implicitDefEqProofs [h]

/-! ### Areas, and points in rectangles -/
theorem right_s (r : Rect) : pureCall E.P (L E) 24 [.agg ⟨[.int .i64 r.x0, .int .i64 r.y0, .int .i64 r.x1, .int .i64 r.y1]⟩] = some (.bool (okR r)) := right_spec r
def zeroR : Rect := ⟨0, 0, 0, 0⟩
theorem checked_spec (r : Rect) : pureCall E.P (L E) 49 [rectR.val r] = some (.tuple ⟨[if okR r then rectR.val r else rectR.val zeroR, .bool (okR r)]⟩) := by
  rw [pureCall_fn F49 rfl]
  simp -implicitDefEqProofs [r49, padS, rect_val, ret0 m24, right_s]
  cases h : okR r <;> simp -implicitDefEqProofs [zeroR, b4_none]
theorem checked_s (r : Rect) : pureCall E.P (L E) 49 [.agg ⟨[.int .i64 r.x0, .int .i64 r.y0, .int .i64 r.x1, .int .i64 r.y1]⟩] = some (.tuple ⟨[if okR r then rectR.val r else rectR.val zeroR, .bool (okR r)]⟩) := checked_spec r
theorem okR_iff {r : Rect} : okR r = true ↔ r.inBox 1048576 := by
  unfold okR Rect.inBox
  simp only [Bool.and_eq_true, decide_eq_true_eq]
  omega
theorem area_bound {r : Rect} (h : okR r = true) : 0 ≤ r.area ∧ r.area ≤ 1099511627776 := by
  have := okR_iff.1 h
  unfold Rect.inBox at this
  unfold Rect.area
  have h1 : (r.x1 - r.x0) * (r.y1 - r.y0) ≤ 1048576 * 1048576 := Int.mul_le_mul (by omega) (by omega) (by omega) (by omega)
  have h2 : 0 ≤ (r.x1 - r.x0) * (r.y1 - r.y0) := Int.mul_nonneg (by omega) (by omega)
  omega
theorem area_spec (r : Rect) (h : okR r = true) : pureCall E.P (L E) 33 [rectR.val r] = some (.int .i64 r.area) := by
  have hb := okR_iff.1 h
  unfold Rect.inBox at hb
  have ha := area_bound h
  unfold Rect.area at ha ⊢
  rw [pureCall_fn F33 rfl]
  have w1 : IntKind.i64.wrap (r.x1 - r.x0) = r.x1 - r.x0 := wrap64 (by omega) (by omega)
  have w2 : IntKind.i64.wrap (r.y1 - r.y0) = r.y1 - r.y0 := wrap64 (by omega) (by omega)
  have w3 : IntKind.i64.wrap ((r.x1 - r.x0) * (r.y1 - r.y0)) = (r.x1 - r.x0) * (r.y1 - r.y0) := wrap64 (by omega) (by omega)
  simp -implicitDefEqProofs [r33, padS, rect_val, ret0 m49, checked_s, h, w1, w2, w3]
theorem has_spec (r : Rect) (x y : Int) (h : okR r = true) : pureCall E.P (L E) 40 [rectR.val r, .int .i64 x, .int .i64 y] = some (.bool (r.has x y)) := by
  rw [pureCall_fn F40 rfl]
  simp -implicitDefEqProofs [r40, padS, rect_val, ret0 m49, checked_s, h]
  unfold Rect.has
  by_cases h1 : r.x0 ≤ x
  case neg => simp -implicitDefEqProofs [h1]
  by_cases h2 : x < r.x1
  case neg => simp -implicitDefEqProofs [h1, h2]
  by_cases h3 : r.y0 ≤ y
  case neg => simp -implicitDefEqProofs [h1, h2, h3]
  simp -implicitDefEqProofs [h1, h2, h3]
theorem has1_spec (r : Rect) (x y : Int) (h : okR r = true) : pureCall E.P (L E) 39 [rectR.val r, cptr (.int .i64 x), cptr (.int .i64 y)] = some (.bool (r.has x y)) := by
  have key := has_spec r x y h
  rw [rect_val] at key
  rw [pureCall_fn F39 rfl]
  simp -implicitDefEqProofs [r39, padS, rect_val, ret0 m40, key]
theorem limited_spec (x : Bool) (l : List Rect) : pureCall E.P (L E) 25 [lst x (rectR.vals l)] = some (if l.length ≤ 200 then .tuple ⟨[lst x (rectR.vals l), .int .i64 0]⟩ else .tuple ⟨[.slice none 0 0, .int .i64 6]⟩) := by
  rw [pureCall_fn F25 rfl]
  simp -implicitDefEqProofs [r25, padS, Rec.vals_len]
  by_cases h : l.length ≤ 200
  · have h' : ¬ (200 < (l.length : Int)) := by omega
    simp -implicitDefEqProofs [h, h']
  · have h' : 200 < (l.length : Int) := by omega
    simp -implicitDefEqProofs [h, h']
end Go.Proofs.Ytgeebooalafepaa.Bm
namespace Go.Proofs.Ytgeebooalafepaa.Bm
open Go Go.RowKit
open Rg (Rect Slab hasS hasS_cons Can canS cellT)

theorem shr_half {P : Program} {t : TypeId} {m : Nat} : aBin P .shr t (.int .u64 (m : Int)) (.int .u64 1) = some (.int .u64 ((m / 2 : Nat) : Int)) := by
  show (if (1 : Int) < 0 then none else some (Value.int .u64 ((m : Int).fdiv (2 ^ (min (1 : Int).toNat 64))))) = _
  rw [if_neg (by decide)]
  have e : ((2 : Int) ^ (min (1 : Int).toNat 64)) = 2 := by decide
  rw [e, Int.fdiv_eq_ediv_of_nonneg _ (by decide)]
  rfl
theorem wrapU {m : Nat} (h : m < 9223372036854775808) : IntKind.u64.wrap (m : Int) = (m : Int) := by
  unfold IntKind.wrap
  simp [IntKind.bits, IntKind.signed]
  omega

/-- A search by halves. -/
def bs (p : Nat → Bool) (i j : Nat) : Nat := if i < j then if p ((i + j) / 2) then bs p ((i + j) / 2 + 1) j else bs p i ((i + j) / 2) else i
termination_by j - i
decreasing_by all_goals omega
theorem bs_inv {p : Nat → Bool} {n : Nat} : ∀ (d i j : Nat), j - i = d → i ≤ j → j ≤ n → (∀ a b, a ≤ b → b < n → p b = true → p a = true) → (∀ k, k < i → p k = true) → (∀ k, j ≤ k → k < n → p k = false) →
    bs p i j ≤ n ∧ ∀ k, k < n → (k < bs p i j ↔ p k = true) := by
  intro d
  induction d using Nat.strongRecOn with
  | _ d ih =>
    intro i j hd hij hjn hm h1 h2
    rw [bs]
    by_cases h : i < j
    · rw [if_pos h]
      by_cases hp : p ((i + j) / 2) = true
      · rw [if_pos hp]
        refine ih (j - ((i + j) / 2 + 1)) (by omega) _ _ rfl (by omega) hjn hm (fun k hk => hm k _ (by omega) (by omega) hp) h2
      · rw [if_neg hp]
        refine ih ((i + j) / 2 - i) (by omega) _ _ rfl (by omega) (by omega) hm h1 fun k hk hkn => ?_
        cases hpk : p k
        · rfl
        · exact absurd (hm _ k hk hkn hpk) hp
    · rw [if_neg h]
      have : i = j := by omega
      subst this
      refine ⟨hjn, fun k hk => ⟨fun hlt => h1 k hlt, fun hpk => ?_⟩⟩
      apply Classical.byContradiction
      intro hno
      rw [h2 k (by omega) hk] at hpk
      cases hpk
theorem bs_ok {p : Nat → Bool} {n : Nat} (hm : ∀ a b, a ≤ b → b < n → p b = true → p a = true) : bs p 0 n ≤ n ∧ ∀ k, k < n → (k < bs p 0 n ↔ p k = true) :=
  bs_inv n 0 n rfl (Nat.zero_le _) (Nat.le_refl _) hm (fun k hk => by omega) (fun k h1 h2 => by omega)
theorem bs_le {p : Nat → Bool} {n : Nat} : ∀ (d i j : Nat), j - i = d → i ≤ j → j ≤ n → bs p i j ≤ n := by
  intro d
  induction d using Nat.strongRecOn with
  | _ d ih =>
    intro i j hd hij hjn
    rw [bs]
    by_cases h : i < j
    · rw [if_pos h]
      split
      · exact ih (j - ((i + j) / 2 + 1)) (by omega) _ _ rfl (by omega) hjn
      · exact ih ((i + j) / 2 - i) (by omega) _ _ rfl (by omega) (by omega)
    · rw [if_neg h]; omega

def pspan (c : List (Int × Int)) (y : Int) (k : Nat) : Bool := decide ((c.getD k (0, 0)).2 ≤ y)
theorem span_loop (c : List (Int × Int)) (y : Int) (hc : c.length ≤ 1000000) :
    pureCall E.P (L E) 76 [lst false (spanR.vals c), .int .i64 y, .func (.func 77) ⟨[]⟩ ⟨[]⟩] = some (.tuple ⟨[.int .i64 ((bs (pspan c y) 0 c.length : Nat) : Int), .bool false]⟩) := by
  have i1 := fun s => inside1_spec s y
  have ix : ∀ (i : Nat) (hi : i < c.length), indexAddrT (.sl 59 ⟨some true, some 2⟩) (lst false (spanR.vals c)) (.int .i64 (i : Int)) = some (cptr (spanR.val c[i])) := fun i hi => Rec.index_tree rfl hi
  have fit : ∀ s, fitsTT ⟨some true, some 2⟩ (spanR.val s) = true := fun s => rfl
  have sv : ∀ s, settled 8 (spanR.val s) = true := fun s => rfl
  have rv : ∀ s h, reify E.P 8 h (spanR.val s) = some (spanR.val s) := fun s h => by rw [span_val]; rfl
  have ud : ∀ (k : Nat) (hk : k < c.length), pspan c y k = decide ((c[k]).2 ≤ y) := fun k hk => by unfold pspan; rw [List.getD_eq_getElem?_getD, List.getElem?_eq_getElem hk]; rfl
  rw [pureCall_fn F76 rfl]
  simp -implicitDefEqProofs [r76, padS, Rec.vals_len]
  rw [LL_rec (α := Nat × Nat) (0, c.length) (fun a => [(9, .int .i64 a.1), (10, .int .i64 a.2)]) (fun a => []) (fun a => (.exit 0, [(9, .int .i64 ((bs (pspan c y) a.1 a.2 : Nat) : Int)), (10, undef)], [])) (fun a => a.1 ≤ a.2 ∧ a.2 ≤ c.length) (fun a => a.2 - a.1)]
  · have hle := bs_le (p := pspan c y) (n := c.length) _ 0 c.length rfl (Nat.zero_le _) (Nat.le_refl _)
    generalize bs (pspan c y) 0 c.length = m at hle ⊢
    simp -implicitDefEqProofs [k76_3]
    by_cases hm : m < c.length
    · have e : ¬ (m = c.length) := by omega
      simp -implicitDefEqProofs [hm, ix m hm, fit, rv, ret0 m77, i1]
      by_cases hv : (c[m]).2 ≤ y <;> simp -implicitDefEqProofs [hv]
    · simp -implicitDefEqProofs [hm]
  · exact ⟨Nat.zero_le _, Nat.le_refl _⟩
  · simp [k76_3]
  · rfl
  · intro nx a ha ih
    obtain ⟨i, j⟩ := a
    simp -implicitDefEqProofs [k76_3] at ha ih
    simp -implicitDefEqProofs [r76_3, k76_3]
    rw [bs]
    by_cases hij : i < j
    · have hh : (i + j) / 2 < c.length := by omega
      have w1 : IntKind.i64.wrap ((i : Int) + (j : Int)) = ((i + j : Nat) : Int) := by rw [wrap64 (by omega) (by omega)]; rfl
      have w2 : IntKind.u64.wrap ((i + j : Nat) : Int) = ((i + j : Nat) : Int) := wrapU (by omega)
      have w3 : IntKind.i64.wrap (((i + j) / 2 : Nat) : Int) = (((i + j) / 2 : Nat) : Int) := wrap64 (by omega) (by omega)
      have w4 : IntKind.i64.wrap ((((i + j) / 2 : Nat) : Int) + 1) = (((i + j) / 2 + 1 : Nat) : Int) := by rw [wrap64 (by omega) (by omega)]; rfl
      simp -implicitDefEqProofs [hij, w1, w2, shr_half, w3, ix _ hh, fit, rv, ret0 m77, i1, -Int.natCast_add, -Int.natCast_ediv, -Int.natCast_emod]
      rw [ud _ hh]
      by_cases hv : (c[(i + j) / 2]).2 ≤ y
      · have := ih ((i + j) / 2 + 1) j (by omega) (by omega) (by omega)
        simp -implicitDefEqProofs [hv, w4, trim_le, -Int.natCast_add, -Int.natCast_ediv, -Int.natCast_emod] at this ⊢
        exact this
      · have := ih i ((i + j) / 2) (by omega) (by omega) (by omega)
        simp -implicitDefEqProofs [hv, trim_le, -Int.natCast_add, -Int.natCast_ediv, -Int.natCast_emod] at this ⊢
        exact this
    · simp -implicitDefEqProofs [hij, trim_le]

def pslab (c : List (Slab)) (y : Int) (k : Nat) : Bool := decide ((c.getD k ⟨0, 0, []⟩).x1 ≤ y)
theorem slab_loop (c : List (Slab)) (y : Int) (hc : c.length ≤ 1000000) :
    pureCall E.P (L E) 60 [lst false (slabR.vals c), .int .i64 y, .func (.func 61) ⟨[]⟩ ⟨[]⟩] = some (.tuple ⟨[.int .i64 ((bs (pslab c y) 0 c.length : Nat) : Int), .bool false]⟩) := by
  have i1 := fun s => at1_spec s y
  have ix : ∀ (i : Nat) (hi : i < c.length), indexAddrT (.sl 61 ⟨some true, some 3⟩) (lst false (slabR.vals c)) (.int .i64 (i : Int)) = some (cptr (slabR.val c[i])) := fun i hi => Rec.index_tree rfl hi
  have fit : ∀ s, fitsTT ⟨some true, some 3⟩ (slabR.val s) = true := fun s => rfl
  have sv : ∀ s, settled 8 (slabR.val s) = true := fun s => rfl
  have rv : ∀ s h, reify E.P 8 h (slabR.val s) = some (slabR.val s) := fun s h => by rw [slab_val]; rfl
  have ud : ∀ (k : Nat) (hk : k < c.length), pslab c y k = decide ((c[k]).x1 ≤ y) := fun k hk => by unfold pslab; rw [List.getD_eq_getElem?_getD, List.getElem?_eq_getElem hk]; rfl
  rw [pureCall_fn F60 rfl]
  simp -implicitDefEqProofs [r60, padS, Rec.vals_len]
  rw [LL_rec (α := Nat × Nat) (0, c.length) (fun a => [(9, .int .i64 a.1), (10, .int .i64 a.2)]) (fun a => []) (fun a => (.exit 0, [(9, .int .i64 ((bs (pslab c y) a.1 a.2 : Nat) : Int)), (10, undef)], [])) (fun a => a.1 ≤ a.2 ∧ a.2 ≤ c.length) (fun a => a.2 - a.1)]
  · have hle := bs_le (p := pslab c y) (n := c.length) _ 0 c.length rfl (Nat.zero_le _) (Nat.le_refl _)
    generalize bs (pslab c y) 0 c.length = m at hle ⊢
    simp -implicitDefEqProofs [k60_3]
    by_cases hm : m < c.length
    · have e : ¬ (m = c.length) := by omega
      simp -implicitDefEqProofs [hm, ix m hm, fit, rv, ret0 m61, i1]
      by_cases hv : (c[m]).x1 ≤ y <;> simp -implicitDefEqProofs [hv]
    · simp -implicitDefEqProofs [hm]
  · exact ⟨Nat.zero_le _, Nat.le_refl _⟩
  · simp [k60_3]
  · rfl
  · intro nx a ha ih
    obtain ⟨i, j⟩ := a
    simp -implicitDefEqProofs [k60_3] at ha ih
    simp -implicitDefEqProofs [r60_3, k60_3]
    rw [bs]
    by_cases hij : i < j
    · have hh : (i + j) / 2 < c.length := by omega
      have w1 : IntKind.i64.wrap ((i : Int) + (j : Int)) = ((i + j : Nat) : Int) := by rw [wrap64 (by omega) (by omega)]; rfl
      have w2 : IntKind.u64.wrap ((i + j : Nat) : Int) = ((i + j : Nat) : Int) := wrapU (by omega)
      have w3 : IntKind.i64.wrap (((i + j) / 2 : Nat) : Int) = (((i + j) / 2 : Nat) : Int) := wrap64 (by omega) (by omega)
      have w4 : IntKind.i64.wrap ((((i + j) / 2 : Nat) : Int) + 1) = (((i + j) / 2 + 1 : Nat) : Int) := by rw [wrap64 (by omega) (by omega)]; rfl
      simp -implicitDefEqProofs [hij, w1, w2, shr_half, w3, ix _ hh, fit, rv, ret0 m61, i1, -Int.natCast_add, -Int.natCast_ediv, -Int.natCast_emod]
      rw [ud _ hh]
      by_cases hv : (c[(i + j) / 2]).x1 ≤ y
      · have := ih ((i + j) / 2 + 1) j (by omega) (by omega) (by omega)
        simp -implicitDefEqProofs [hv, w4, trim_le, -Int.natCast_add, -Int.natCast_ediv, -Int.natCast_emod] at this ⊢
        exact this
      · have := ih i ((i + j) / 2) (by omega) (by omega) (by omega)
        simp -implicitDefEqProofs [hv, trim_le, -Int.natCast_add, -Int.natCast_ediv, -Int.natCast_emod] at this ⊢
        exact this
    · simp -implicitDefEqProofs [hij, trim_le]
end Go.Proofs.Ytgeebooalafepaa.Bm
namespace Go.Proofs.Ytgeebooalafepaa.Bm
open Go Go.RowKit
open Rg (Rect Slab hasS hasS_cons Can canS cellT gapless)

/-! ### Columns -/
theorem canS_get : ∀ {c : List (Int × Int)} {b : Int}, canS b c → ∀ i (hi : i < c.length), b < c[i].1 ∧ c[i].1 < c[i].2
  | [], _, _, i, hi => by simp at hi
  | (f, t) :: c, b, h, 0, _ => ⟨h.1, h.2.1⟩
  | (f, t) :: c, b, h, i + 1, hi => by
    have hi' : i < c.length := by simpa using hi
    have := canS_get h.2.2 i hi'
    have h1 := h.1
    have h2 := h.2.1
    have h3 : b < c[i].1 := by omega
    exact ⟨h3, this.2⟩
theorem canS_two : ∀ {c : List (Int × Int)} {b : Int}, canS b c → ∀ i j (hj : j < c.length) (hij : i < j), (c[i]'(by omega)).2 < c[j].1
  | [], _, _, _, j, hj, _ => by simp at hj
  | (f, t) :: c, b, h, 0, 0, _, hij => by omega
  | (f, t) :: c, b, h, 0, j + 1, hj, _ => (canS_get h.2.2 j (by simpa using hj)).1
  | (f, t) :: c, b, h, i + 1, 0, _, hij => by omega
  | (f, t) :: c, b, h, i + 1, j + 1, hj, hij => canS_two h.2.2 i j (by simpa using hj) (by omega)
theorem can_canS {c : List (Int × Int)} (h : Rg.Can c) : ∃ b, canS b c := by
  obtain ⟨b, hb, _⟩ := Rg.low_ex c []
  exact ⟨b, Rg.canS_ex h b hb⟩
theorem hasS_get {c : List (Int × Int)} {y : Int} : hasS c y = true ↔ ∃ i, ∃ hi : i < c.length, c[i].1 ≤ y ∧ y < c[i].2 := by
  unfold hasS
  rw [List.any_eq_true]
  constructor
  · rintro ⟨s, hs, h⟩
    obtain ⟨i, hi, rfl⟩ := List.mem_iff_getElem.1 hs
    simp only [Bool.and_eq_true, decide_eq_true_eq] at h
    exact ⟨i, hi, h⟩
  · rintro ⟨i, hi, h⟩
    exact ⟨c[i], List.getElem_mem hi, by simpa using h⟩
def inB (c : List (Int × Int)) (y : Int) : Bool := decide (bs (pspan c y) 0 c.length < c.length) && decide ((c.getD (bs (pspan c y) 0 c.length) (0, 0)).1 ≤ y)
theorem pspan_get {c : List (Int × Int)} {y : Int} {k : Nat} (hk : k < c.length) : pspan c y k = decide (c[k].2 ≤ y) := by
  unfold pspan; rw [List.getD_eq_getElem?_getD, List.getElem?_eq_getElem hk]; rfl
theorem inB_has {c : List (Int × Int)} (h : Rg.Can c) (y : Int) : inB c y = hasS c y := by
  obtain ⟨b, hb⟩ := can_canS h
  have ok := bs_ok (p := pspan c y) (n := c.length) fun i j hij hj hp => by
    rw [pspan_get hj, decide_eq_true_eq] at hp
    rw [pspan_get (by omega), decide_eq_true_eq]
    by_cases e : i = j
    · subst e; exact hp
    · have := canS_two hb i j hj (by omega)
      have := (canS_get hb j hj).2
      omega
  unfold inB
  generalize bs (pspan c y) 0 c.length = m at ok ⊢
  obtain ⟨hm, ok⟩ := ok
  rw [Bool.eq_iff_iff, hasS_get]
  simp only [Bool.and_eq_true, decide_eq_true_eq]
  constructor
  · rintro ⟨h1, h2⟩
    rw [List.getD_eq_getElem?_getD, List.getElem?_eq_getElem h1] at h2
    refine ⟨m, h1, h2, ?_⟩
    have := ok m h1
    rw [pspan_get h1, decide_eq_true_eq] at this
    omega
  · rintro ⟨k, hk, h1, h2⟩
    have := ok k hk
    rw [pspan_get hk, decide_eq_true_eq] at this
    have hmk : m ≤ k := by omega
    have hlt : m < c.length := by omega
    refine ⟨hlt, ?_⟩
    rw [List.getD_eq_getElem?_getD, List.getElem?_eq_getElem hlt]
    show c[m].1 ≤ y
    by_cases e : m = k
    · subst e; exact h1
    · have := canS_two hb m k hk (by omega)
      have := (canS_get hb m hlt).2
      omega

/-! ### Columns that may be wanting -/
def colX : Option (List (Int × Int)) → Value
  | none => .slice none 0 0
  | some c => lst false (spanR.vals c)
def colL (c : Option (List (Int × Int))) : List (Int × Int) := c.getD []

theorem inside_some (c : List (Int × Int)) (y : Int) (hc : c.length ≤ 1000000) : pureCall E.P (L E) 59 [lst false (spanR.vals c), .int .i64 y] = some (.bool (inB c y)) := by
  have key := span_loop c y hc
  have hle := bs_le (p := pspan c y) (n := c.length) _ 0 c.length rfl (Nat.zero_le _) (Nat.le_refl _)
  have ix : ∀ (i : Nat) (hi : i < c.length), indexAddrT (.sl 59 ⟨some true, some 2⟩) (lst false (spanR.vals c)) (.int .i64 (i : Int)) = some (cptr (spanR.val c[i])) := fun i hi => Rec.index_tree rfl hi
  unfold inB
  rw [pureCall_fn F59 rfl]
  generalize bs (pspan c y) 0 c.length = m at key hle ⊢
  simp -implicitDefEqProofs [r59, padS, ret0 m76, key, Rec.vals_len]
  by_cases hm : m < c.length
  · simp -implicitDefEqProofs [hm, ix m hm, span_val]
  · have : m = c.length := by omega
    simp -implicitDefEqProofs [hm]
theorem span_none (y : Int) : pureCall E.P (L E) 76 [.slice none 0 0, .int .i64 y, .func (.func 77) ⟨[]⟩ ⟨[]⟩] = some (.tuple ⟨[.int .i64 0, .bool false]⟩) := by
  rw [pureCall_fn F76 rfl]
  simp -implicitDefEqProofs [r76, padS]
  rw [LL_rec (α := Unit) () (fun a => []) (fun a => []) (fun a => (.exit 0, [(10, undef)], [])) (fun a => True) (fun a => 0)]
  · simp -implicitDefEqProofs [k76_3]
  · trivial
  · simp
  · rfl
  · intro nx a _ ih
    simp -implicitDefEqProofs [r76_3, k76_3, trim_le]
theorem inside_spec (c : Option (List (Int × Int))) (y : Int) (hc : (colL c).length ≤ 1000000) : pureCall E.P (L E) 59 [colX c, .int .i64 y] = some (.bool (inB (colL c) y)) := by
  cases c with
  | some c => exact inside_some c y hc
  | none =>
    have key := span_none y
    rw [pureCall_fn F59 rfl]
    simp -implicitDefEqProofs [r59, padS, colX, ret0 m76, key]
    simp [inB, colL]

/-! ### Strips -/
def atO (T : List Slab) (x : Int) : Option (List (Int × Int)) :=
  if bs (pslab T x) 0 T.length < T.length then if (T.getD (bs (pslab T x) 0 T.length) ⟨0, 0, []⟩).x0 ≤ x then some (T.getD (bs (pslab T x) 0 T.length) ⟨0, 0, []⟩).col else none else none
theorem at_spec (T : List Slab) (x : Int) (hT : T.length ≤ 1000000) : pureCall E.P (L E) 51 [lst false (slabR.vals T), .int .i64 x] = some (colX (atO T x)) := by
  have key := slab_loop T x hT
  have hle := bs_le (p := pslab T x) (n := T.length) _ 0 T.length rfl (Nat.zero_le _) (Nat.le_refl _)
  have ix : ∀ (i : Nat) (hi : i < T.length), indexAddrT (.sl 61 ⟨some true, some 3⟩) (lst false (slabR.vals T)) (.int .i64 (i : Int)) = some (cptr (slabR.val T[i])) := fun i hi => Rec.index_tree rfl hi
  unfold atO
  rw [pureCall_fn F51 rfl]
  generalize bs (pslab T x) 0 T.length = m at key hle ⊢
  simp -implicitDefEqProofs [r51, padS, ret0 m60, key, Rec.vals_len]
  by_cases hm : m < T.length
  · simp -implicitDefEqProofs [hm, ix m hm, slab_val, colV]
    by_cases hx : T[m].x0 ≤ x <;> simp -implicitDefEqProofs [hx, colX, ix m hm, slab_val, colV]
  · simp -implicitDefEqProofs [hm, colX]
end Go.Proofs.Ytgeebooalafepaa.Bm
