/-
 Lists of records that may be nil, and rows filled from their beginning on (slices.Grow, slices.Concat). Conditions: none.
-/
import Derived.Test.YtibmcdmlpobanaaGreatQT18
import Derived.Test.YtibmcdmlpobanaaGreatQT19
import Derived.Test.YtibmcdmlpobanaaGreatQT16
import Derived.Test.YtibmcdmlpobanaaGreatChecked
import Derived.Shelf.Sort.Plain
import Derived.Shelf.Slices.In.SortNone
import Derived.Shelf.Slices.CompactI
import Derived.Shelf.SlSortCmp.WholeK
import Derived.Shelf.SlSortCmp.NoneTotal
import Derived.Test.YtibmcdmlpobanaaGreatQT17
import Derived.Shelf.RegionOpenPlain
import Derived.WalkKit
import Derived.Deep.LoopGhost
import Derived.Lib.Walk
import Derived.Lib.SliceRun
import Derived.Test.YtibmcdmlpobanaaGreatRows
namespace Go.Proofs.YtibmcdmlpobanaaGreat.Bm
open Go Go.RowKit
open Rg (Rect Slab)
def rectR : Rec Rect where
 enc r := [.int .i64 r.x0, .int .i64 r.y0, .int .i64 r.x1, .int .i64 r.y1]
 m := 3
 len _ := rfl
 set _ := rfl
 bel _ _ := rfl
def spanR : Rec (Int × Int) where
 enc := spanV
 m := 1
 len _ := rfl
 set _ := rfl
 bel _ _ := rfl
def colV (c : List (Int × Int)) : Value := lst false (spanR.vals c)
def slabR : Rec Slab where
 enc s := [.int .i64 s.x0, .int .i64 s.x1, colV s.col]
 m := 2
 len _ := rfl
 set _ := rfl
 bel _ _ := rfl
theorem rect_val {r : Rect} : rectR.val r = .agg ⟨[.int .i64 r.x0, .int .i64 r.y0, .int .i64 r.x1, .int .i64 r.y1]⟩ := rfl
theorem span_val {s : Int × Int} : spanR.val s = .agg ⟨[.int .i64 s.1, .int .i64 s.2]⟩ := rfl
theorem slab_val {s : Slab} : slabR.val s = .agg ⟨[.int .i64 s.x0, .int .i64 s.x1, colV s.col]⟩ := rfl
theorem b4_none : buildT (Bl.fs ⟨[.int .i64 0, .int .i64 0, .int .i64 0, .int .i64 0]⟩ ⟨[(0, 1), (1, 1), (2, 1), (3, 1)]⟩) #[] = some (.agg ⟨[.int .i64 0, .int .i64 0, .int .i64 0, .int .i64 0]⟩) := rfl
theorem b4_all {a b c d : Int} : buildT (Bl.fs ⟨[.int .i64 0, .int .i64 0, .int .i64 0, .int .i64 0]⟩ ⟨[(0, 1), (1, 1), (2, 1), (3, 1)]⟩) #[(0, .int .i64 a), (1, .int .i64 b), (2, .int .i64 c), (3, .int .i64 d)] = some (.agg ⟨[.int .i64 a, .int .i64 b, .int .i64 c, .int .i64 d]⟩) := rfl
theorem b2_all {a b : Int} : buildT (Bl.fs ⟨[.int .i64 0, .int .i64 0]⟩ ⟨[(0, 1), (1, 1)]⟩) #[(0, .int .i64 a), (1, .int .i64 b)] = some (.agg ⟨[.int .i64 a, .int .i64 b]⟩) := rfl
def okR (r : Rect) : Bool := decide (0 ≤ r.x0) && decide (r.x0 < r.x1) && decide (r.x1 ≤ 1048576) && decide (0 ≤ r.y0) && decide (r.y0 < r.y1) && decide (r.y1 ≤ 1048576)
theorem right_spec (r : Rect) : pureCall E.P (L E) 13 [rectR.val r] = some (.bool (okR r)) := by
 rw [pureCall_fn F13 rfl]
 simp -implicitDefEqProofs [r13, padS, rect_val]
 unfold okR
 by_cases h1 : 0 ≤ r.x0
 case neg => simp -implicitDefEqProofs [h1]
 by_cases h2 : r.x0 < r.x1
 case neg => simp -implicitDefEqProofs [h1, h2]
 by_cases h3 : r.x1 ≤ 1048576
 case neg => simp -implicitDefEqProofs [h1, h2, h3]
 by_cases h4 : 0 ≤ r.y0
 case neg => simp -implicitDefEqProofs [h1, h2, h3, h4]
 by_cases h5 : r.y0 < r.y1
 case neg => simp -implicitDefEqProofs [h1, h2, h3, h4, h5]
 simp -implicitDefEqProofs [h1, h2, h3, h4, h5]
theorem union_spec (a b : Bool) : pureCall E.P (L E) 51 [.bool a, .bool b] = some (.bool (a || b)) := by
 rw [pureCall_fn F51 rfl]
 simp -implicitDefEqProofs [r51, padS]
 cases a <;> cases b <;> simp -implicitDefEqProofs
theorem common_spec (a b : Bool) : pureCall E.P (L E) 53 [.bool a, .bool b] = some (.bool (a && b)) := by
 rw [pureCall_fn F53 rfl]
 simp -implicitDefEqProofs [r53, padS]
 cases a <;> cases b <;> simp -implicitDefEqProofs
theorem minus_spec (a b : Bool) : pureCall E.P (L E) 35 [.bool a, .bool b] = some (.bool (a && !b)) := by
 rw [pureCall_fn F35 rfl]
 simp -implicitDefEqProofs [r35, padS]
 cases a <;> cases b <;> simp -implicitDefEqProofs
theorem inside1_spec (s : Int × Int) (y : Int) : pureCall E.P (L E) 91 [spanR.val s, .int .i64 y] = some (.int .i64 (if s.2 ≤ y then -1 else 1)) := by
 rw [pureCall_fn F91 rfl]
 simp -implicitDefEqProofs [r91, padS, span_val]
 by_cases h : s.2 ≤ y <;> simp -implicitDefEqProofs [h]
theorem at1_spec (s : Slab) (x : Int) : pureCall E.P (L E) 75 [slabR.val s, .int .i64 x] = some (.int .i64 (if s.x1 ≤ x then -1 else 1)) := by
 rw [pureCall_fn F75 rfl]
 simp -implicitDefEqProofs [r75, padS, slab_val]
 by_cases h : s.x1 ≤ x <;> simp -implicitDefEqProofs [h]
theorem right_s (r : Rect) : pureCall E.P (L E) 13 [.agg ⟨[.int .i64 r.x0, .int .i64 r.y0, .int .i64 r.x1, .int .i64 r.y1]⟩] = some (.bool (okR r)) := right_spec r
def zeroR : Rect := ⟨0, 0, 0, 0⟩
theorem checked_spec (r : Rect) : pureCall E.P (L E) 64 [rectR.val r] = some (.tuple ⟨[if okR r then rectR.val r else rectR.val zeroR, .bool (okR r)]⟩) := by
 rw [pureCall_fn F64 rfl]
 simp -implicitDefEqProofs [r64, padS, rect_val, ret0 m13, right_s]
 cases h : okR r <;> simp -implicitDefEqProofs [zeroR, b4_none]
theorem checked_s (r : Rect) : pureCall E.P (L E) 64 [.agg ⟨[.int .i64 r.x0, .int .i64 r.y0, .int .i64 r.x1, .int .i64 r.y1]⟩] = some (.tuple ⟨[if okR r then rectR.val r else rectR.val zeroR, .bool (okR r)]⟩) := checked_spec r
theorem okR_iff {r : Rect} : okR r = true ↔ r.inBox 1048576 := by
 unfold okR Rect.inBox
 simp only [Bool.and_eq_true, decide_eq_true_eq]
 omega
theorem area_bound {r : Rect} (h : okR r = true) : 0 ≤ r.area ∧ r.area ≤ 1099511627776 := by
 have := okR_iff.1 h
 unfold Rect.inBox at this
 unfold Rect.area
 have h1 : (r.x1 - r.x0) * (r.y1 - r.y0) ≤ 1048576 * 1048576 := Int.mul_le_mul (by omega) (by omega) (by omega) (by omega)
 have h2 : 0 ≤ (r.x1 - r.x0) * (r.y1 - r.y0) := Int.mul_nonneg (by omega) (by omega)
 omega
theorem area_spec (r : Rect) (h : okR r = true) : pureCall E.P (L E) 40 [rectR.val r] = some (.int .i64 r.area) := by
 have hb := okR_iff.1 h
 unfold Rect.inBox at hb
 have ha := area_bound h
 unfold Rect.area at ha ⊢
 rw [pureCall_fn F40 rfl]
 have w1 : IntKind.i64.wrap (r.x1 - r.x0) = r.x1 - r.x0 := wrap64 (by omega) (by omega)
 have w2 : IntKind.i64.wrap (r.y1 - r.y0) = r.y1 - r.y0 := wrap64 (by omega) (by omega)
 have w3 : IntKind.i64.wrap ((r.x1 - r.x0) * (r.y1 - r.y0)) = (r.x1 - r.x0) * (r.y1 - r.y0) := wrap64 (by omega) (by omega)
 simp -implicitDefEqProofs [r40, padS, rect_val, ret0 m64, checked_s, h, w1, w2, w3]
theorem has_spec (r : Rect) (x y : Int) (h : okR r = true) : pureCall E.P (L E) 59 [rectR.val r, .int .i64 x, .int .i64 y] = some (.bool (r.has x y)) := by
 rw [pureCall_fn F59 rfl]
 simp -implicitDefEqProofs [r59, padS, rect_val, ret0 m64, checked_s, h]
 unfold Rect.has
 by_cases h1 : r.x0 ≤ x
 case neg => simp -implicitDefEqProofs [h1]
 by_cases h2 : x < r.x1
 case neg => simp -implicitDefEqProofs [h1, h2]
 by_cases h3 : r.y0 ≤ y
 case neg => simp -implicitDefEqProofs [h1, h2, h3]
 simp -implicitDefEqProofs [h1, h2, h3]
theorem limited_spec (x : Bool) (l : List Rect) : pureCall E.P (L E) 14 [lst x (rectR.vals l)] = some (if l.length ≤ 200 then .tuple ⟨[lst x (rectR.vals l), .int .i64 0]⟩ else .tuple ⟨[.slice none 0 0, .int .i64 6]⟩) := by
 rw [pureCall_fn F14 rfl]
 simp -implicitDefEqProofs [r14, padS, Rec.vals_len]
 by_cases h : l.length ≤ 200
 ·have h' : ¬ (200 < (l.length : Int)) := by omega
  simp -implicitDefEqProofs [h, h']
 ·have h' : 200 < (l.length : Int) := by omega
  simp -implicitDefEqProofs [h, h']
end Go.Proofs.YtibmcdmlpobanaaGreat.Bm
namespace Go.Proofs.YtibmcdmlpobanaaGreat.Bm
open Go Go.RowKit
open Rg (Rect Slab hasS hasS_cons Can canS cellT)
theorem shr_half {P : Program} {t : TypeId} {m : Nat} : aBin P .shr t (.int .u64 (m : Int)) (.int .u64 1) = some (.int .u64 ((m / 2 : Nat) : Int)) := by
 show (if (1 : Int) < 0 then none else some (Value.int .u64 ((m : Int).fdiv (2 ^ (min (1 : Int).toNat 64))))) = _
 rw [if_neg (by decide)]
 have e : ((2 : Int) ^ (min (1 : Int).toNat 64)) = 2 := by decide
 rw [e, Int.fdiv_eq_ediv_of_nonneg _ (by decide)]
 rfl
theorem wrapU {m : Nat} (h : m < 9223372036854775808) : IntKind.u64.wrap (m : Int) = (m : Int) := by
 unfold IntKind.wrap
 simp [IntKind.bits, IntKind.signed]
 omega
def bs (p : Nat → Bool) (i j : Nat) : Nat := if i < j then if p ((i + j) / 2) then bs p ((i + j) / 2 + 1) j else bs p i ((i + j) / 2) else i
termination_by j - i
decreasing_by all_goals omega
theorem bs_inv {p : Nat → Bool} {n : Nat} : ∀ (d i j : Nat), j - i = d → i ≤ j → j ≤ n → (∀ a b, a ≤ b → b < n → p b = true → p a = true) → (∀ k, k < i → p k = true) → (∀ k, j ≤ k → k < n → p k = false) →
  bs p i j ≤ n ∧ ∀ k, k < n → (k < bs p i j ↔ p k = true) := by
 intro d
 induction d using Nat.strongRecOn with
 | _ d ih =>
  intro i j hd hij hjn hm h1 h2
  rw [bs]
  by_cases h : i < j
  ·rw [if_pos h]
   by_cases hp : p ((i + j) / 2) = true
   ·rw [if_pos hp]
    refine ih (j - ((i + j) / 2 + 1)) (by omega) _ _ rfl (by omega) hjn hm (fun k hk => hm k _ (by omega) (by omega) hp) h2
   ·rw [if_neg hp]
    refine ih ((i + j) / 2 - i) (by omega) _ _ rfl (by omega) (by omega) hm h1 fun k hk hkn => ?_
    cases hpk : p k
    ·rfl
    ·exact absurd (hm _ k hk hkn hpk) hp
  ·rw [if_neg h]
   have : i = j := by omega
   subst this
   refine ⟨hjn, fun k hk => ⟨fun hlt => h1 k hlt, fun hpk => ?_⟩⟩
   apply Classical.byContradiction
   intro hno
   rw [h2 k (by omega) hk] at hpk
   cases hpk
theorem bs_ok {p : Nat → Bool} {n : Nat} (hm : ∀ a b, a ≤ b → b < n → p b = true → p a = true) : bs p 0 n ≤ n ∧ ∀ k, k < n → (k < bs p 0 n ↔ p k = true) :=
 bs_inv n 0 n rfl (Nat.zero_le _) (Nat.le_refl _) hm (fun k hk => by omega) (fun k h1 h2 => by omega)
theorem bs_le {p : Nat → Bool} {n : Nat} : ∀ (d i j : Nat), j - i = d → i ≤ j → j ≤ n → bs p i j ≤ n := by
 intro d
 induction d using Nat.strongRecOn with
 | _ d ih =>
  intro i j hd hij hjn
  rw [bs]
  by_cases h : i < j
  ·rw [if_pos h]
   split
   ·exact ih (j - ((i + j) / 2 + 1)) (by omega) _ _ rfl (by omega) hjn
   ·exact ih ((i + j) / 2 - i) (by omega) _ _ rfl (by omega) (by omega)
  ·rw [if_neg h]; omega
def pspan (c : List (Int × Int)) (y : Int) (k : Nat) : Bool := decide ((c.getD k (0, 0)).2 ≤ y)
theorem span_loop (c : List (Int × Int)) (y : Int) (hc : c.length ≤ 1000000) :
  pureCall E.P (L E) 90 [lst false (spanR.vals c), .int .i64 y, .func (.func 91) ⟨[]⟩ ⟨[]⟩] = some (.tuple ⟨[.int .i64 ((bs (pspan c y) 0 c.length : Nat) : Int), .bool false]⟩) := by
 have i1 := fun s => inside1_spec s y
 have ix : ∀ (i : Nat) (hi : i < c.length), indexAddrT (.sl 54 ⟨some true, some 2⟩) (lst false (spanR.vals c)) (.int .i64 (i : Int)) = some (cptr (spanR.val c[i])) := fun i hi => Rec.index_tree rfl hi
 have fit : ∀ s, fitsTT ⟨some true, some 2⟩ (spanR.val s) = true := fun s => rfl
 have sv : ∀ s, settled 8 (spanR.val s) = true := fun s => rfl
 have rv : ∀ s h, reify E.P 8 h (spanR.val s) = some (spanR.val s) := fun s h => by rw [span_val]; rfl
 have ud : ∀ (k : Nat) (hk : k < c.length), pspan c y k = decide ((c[k]).2 ≤ y) := fun k hk => by unfold pspan; rw [List.getD_eq_getElem?_getD, List.getElem?_eq_getElem hk]; rfl
 rw [pureCall_fn F90 rfl]
 simp -implicitDefEqProofs [r90, padS, Rec.vals_len]
 rw [LL_rec (α := Nat × Nat) (0, c.length) (fun a => [(9, .int .i64 a.1), (10, .int .i64 a.2)]) (fun a => []) (fun a => (.exit 0, [(9, .int .i64 ((bs (pspan c y) a.1 a.2 : Nat) : Int)), (10, undef)], [])) (fun a => a.1 ≤ a.2 ∧ a.2 ≤ c.length) (fun a => a.2 - a.1)]
 ·have hle := bs_le (p := pspan c y) (n := c.length) _ 0 c.length rfl (Nat.zero_le _) (Nat.le_refl _)
  generalize bs (pspan c y) 0 c.length = m at hle ⊢
  simp -implicitDefEqProofs [k90_3]
  by_cases hm : m < c.length
  ·have e : ¬ (m = c.length) := by omega
   simp -implicitDefEqProofs [hm, ix m hm, fit, rv, ret0 m91, i1]
   by_cases hv : (c[m]).2 ≤ y <;> simp -implicitDefEqProofs [hv]
  ·simp -implicitDefEqProofs [hm]
 ·exact ⟨Nat.zero_le _, Nat.le_refl _⟩
 ·simp [k90_3]
 ·rfl
 ·intro nx a ha ih
  obtain ⟨i, j⟩ := a
  simp -implicitDefEqProofs [k90_3] at ha ih
  simp -implicitDefEqProofs [r90_3, k90_3]
  rw [bs]
  by_cases hij : i < j
  ·have hh : (i + j) / 2 < c.length := by omega
   have w1 : IntKind.i64.wrap ((i : Int) + (j : Int)) = ((i + j : Nat) : Int) := by rw [wrap64 (by omega) (by omega)]; rfl
   have w2 : IntKind.u64.wrap ((i + j : Nat) : Int) = ((i + j : Nat) : Int) := wrapU (by omega)
   have w3 : IntKind.i64.wrap (((i + j) / 2 : Nat) : Int) = (((i + j) / 2 : Nat) : Int) := wrap64 (by omega) (by omega)
   have w4 : IntKind.i64.wrap ((((i + j) / 2 : Nat) : Int) + 1) = (((i + j) / 2 + 1 : Nat) : Int) := by rw [wrap64 (by omega) (by omega)]; rfl
   simp -implicitDefEqProofs [hij, w1, w2, shr_half, w3, ix _ hh, fit, rv, ret0 m91, i1, -Int.natCast_add, -Int.natCast_ediv, -Int.natCast_emod]
   rw [ud _ hh]
   by_cases hv : (c[(i + j) / 2]).2 ≤ y
   ·have := ih ((i + j) / 2 + 1) j (by omega) (by omega) (by omega)
    simp -implicitDefEqProofs [hv, w4, trim_le, -Int.natCast_add, -Int.natCast_ediv, -Int.natCast_emod] at this ⊢
    exact this
   ·have := ih i ((i + j) / 2) (by omega) (by omega) (by omega)
    simp -implicitDefEqProofs [hv, trim_le, -Int.natCast_add, -Int.natCast_ediv, -Int.natCast_emod] at this ⊢
    exact this
  ·simp -implicitDefEqProofs [hij, trim_le]
def pslab (c : List (Slab)) (y : Int) (k : Nat) : Bool := decide ((c.getD k ⟨0, 0, []⟩).x1 ≤ y)
theorem slab_loop (c : List (Slab)) (y : Int) (hc : c.length ≤ 1000000) :
  pureCall E.P (L E) 74 [lst false (slabR.vals c), .int .i64 y, .func (.func 75) ⟨[]⟩ ⟨[]⟩] = some (.tuple ⟨[.int .i64 ((bs (pslab c y) 0 c.length : Nat) : Int), .bool false]⟩) := by
 have i1 := fun s => at1_spec s y
 have ix : ∀ (i : Nat) (hi : i < c.length), indexAddrT (.sl 56 ⟨some true, some 3⟩) (lst false (slabR.vals c)) (.int .i64 (i : Int)) = some (cptr (slabR.val c[i])) := fun i hi => Rec.index_tree rfl hi
 have fit : ∀ s, fitsTT ⟨some true, some 3⟩ (slabR.val s) = true := fun s => rfl
 have sv : ∀ s, settled 8 (slabR.val s) = true := fun s => rfl
 have rv : ∀ s h, reify E.P 8 h (slabR.val s) = some (slabR.val s) := fun s h => by rw [slab_val]; rfl
 have ud : ∀ (k : Nat) (hk : k < c.length), pslab c y k = decide ((c[k]).x1 ≤ y) := fun k hk => by unfold pslab; rw [List.getD_eq_getElem?_getD, List.getElem?_eq_getElem hk]; rfl
 rw [pureCall_fn F74 rfl]
 simp -implicitDefEqProofs [r74, padS, Rec.vals_len]
 rw [LL_rec (α := Nat × Nat) (0, c.length) (fun a => [(9, .int .i64 a.1), (10, .int .i64 a.2)]) (fun a => []) (fun a => (.exit 0, [(9, .int .i64 ((bs (pslab c y) a.1 a.2 : Nat) : Int)), (10, undef)], [])) (fun a => a.1 ≤ a.2 ∧ a.2 ≤ c.length) (fun a => a.2 - a.1)]
 ·have hle := bs_le (p := pslab c y) (n := c.length) _ 0 c.length rfl (Nat.zero_le _) (Nat.le_refl _)
  generalize bs (pslab c y) 0 c.length = m at hle ⊢
  simp -implicitDefEqProofs [k74_3]
  by_cases hm : m < c.length
  ·have e : ¬ (m = c.length) := by omega
   simp -implicitDefEqProofs [hm, ix m hm, fit, rv, ret0 m75, i1]
   by_cases hv : (c[m]).x1 ≤ y <;> simp -implicitDefEqProofs [hv]
  ·simp -implicitDefEqProofs [hm]
 ·exact ⟨Nat.zero_le _, Nat.le_refl _⟩
 ·simp [k74_3]
 ·rfl
 ·intro nx a ha ih
  obtain ⟨i, j⟩ := a
  simp -implicitDefEqProofs [k74_3] at ha ih
  simp -implicitDefEqProofs [r74_3, k74_3]
  rw [bs]
  by_cases hij : i < j
  ·have hh : (i + j) / 2 < c.length := by omega
   have w1 : IntKind.i64.wrap ((i : Int) + (j : Int)) = ((i + j : Nat) : Int) := by rw [wrap64 (by omega) (by omega)]; rfl
   have w2 : IntKind.u64.wrap ((i + j : Nat) : Int) = ((i + j : Nat) : Int) := wrapU (by omega)
   have w3 : IntKind.i64.wrap (((i + j) / 2 : Nat) : Int) = (((i + j) / 2 : Nat) : Int) := wrap64 (by omega) (by omega)
   have w4 : IntKind.i64.wrap ((((i + j) / 2 : Nat) : Int) + 1) = (((i + j) / 2 + 1 : Nat) : Int) := by rw [wrap64 (by omega) (by omega)]; rfl
   simp -implicitDefEqProofs [hij, w1, w2, shr_half, w3, ix _ hh, fit, rv, ret0 m75, i1, -Int.natCast_add, -Int.natCast_ediv, -Int.natCast_emod]
   rw [ud _ hh]
   by_cases hv : (c[(i + j) / 2]).x1 ≤ y
   ·have := ih ((i + j) / 2 + 1) j (by omega) (by omega) (by omega)
    simp -implicitDefEqProofs [hv, w4, trim_le, -Int.natCast_add, -Int.natCast_ediv, -Int.natCast_emod] at this ⊢
    exact this
   ·have := ih i ((i + j) / 2) (by omega) (by omega) (by omega)
    simp -implicitDefEqProofs [hv, trim_le, -Int.natCast_add, -Int.natCast_ediv, -Int.natCast_emod] at this ⊢
    exact this
  ·simp -implicitDefEqProofs [hij, trim_le]
end Go.Proofs.YtibmcdmlpobanaaGreat.Bm
namespace Go.Proofs.YtibmcdmlpobanaaGreat.Bm
open Go Go.RowKit
open Rg (Rect Slab hasS hasS_cons Can canS cellT gapless)
theorem canS_get : ∀ {c : List (Int × Int)} {b : Int}, canS b c → ∀ i (hi : i < c.length), b < c[i].1 ∧ c[i].1 < c[i].2
 | [], _, _, i, hi => by simp at hi
 | (f, t) :: c, b, h, 0, _ => ⟨h.1, h.2.1⟩
 | (f, t) :: c, b, h, i + 1, hi => by
  have hi' : i < c.length := by simpa using hi
  have := canS_get h.2.2 i hi'
  have h1 := h.1
  have h2 := h.2.1
  have h3 : b < c[i].1 := by omega
  exact ⟨h3, this.2⟩
theorem canS_two : ∀ {c : List (Int × Int)} {b : Int}, canS b c → ∀ i j (hj : j < c.length) (hij : i < j), (c[i]'(by omega)).2 < c[j].1
 | [], _, _, _, j, hj, _ => by simp at hj
 | (f, t) :: c, b, h, 0, 0, _, hij => by omega
 | (f, t) :: c, b, h, 0, j + 1, hj, _ => (canS_get h.2.2 j (by simpa using hj)).1
 | (f, t) :: c, b, h, i + 1, 0, _, hij => by omega
 | (f, t) :: c, b, h, i + 1, j + 1, hj, hij => canS_two h.2.2 i j (by simpa using hj) (by omega)
theorem can_canS {c : List (Int × Int)} (h : Rg.Can c) : ∃ b, canS b c := by
 obtain ⟨b, hb, _⟩ := Rg.low_ex c []
 exact ⟨b, Rg.canS_ex h b hb⟩
theorem hasS_get {c : List (Int × Int)} {y : Int} : hasS c y = true ↔ ∃ i, ∃ hi : i < c.length, c[i].1 ≤ y ∧ y < c[i].2 := by
 unfold hasS
 rw [List.any_eq_true]
 constructor
 ·rintro ⟨s, hs, h⟩
  obtain ⟨i, hi, rfl⟩ := List.mem_iff_getElem.1 hs
  simp only [Bool.and_eq_true, decide_eq_true_eq] at h
  exact ⟨i, hi, h⟩
 ·rintro ⟨i, hi, h⟩
  exact ⟨c[i], List.getElem_mem hi, by simpa using h⟩
def inB (c : List (Int × Int)) (y : Int) : Bool := decide (bs (pspan c y) 0 c.length < c.length) && decide ((c.getD (bs (pspan c y) 0 c.length) (0, 0)).1 ≤ y)
theorem pspan_get {c : List (Int × Int)} {y : Int} {k : Nat} (hk : k < c.length) : pspan c y k = decide (c[k].2 ≤ y) := by
 unfold pspan; rw [List.getD_eq_getElem?_getD, List.getElem?_eq_getElem hk]; rfl
theorem inB_has {c : List (Int × Int)} (h : Rg.Can c) (y : Int) : inB c y = hasS c y := by
 obtain ⟨b, hb⟩ := can_canS h
 have ok := bs_ok (p := pspan c y) (n := c.length) fun i j hij hj hp => by
  rw [pspan_get hj, decide_eq_true_eq] at hp
  rw [pspan_get (by omega), decide_eq_true_eq]
  by_cases e : i = j
  ·subst e; exact hp
  ·have := canS_two hb i j hj (by omega)
   have := (canS_get hb j hj).2
   omega
 unfold inB
 generalize bs (pspan c y) 0 c.length = m at ok ⊢
 obtain ⟨hm, ok⟩ := ok
 rw [Bool.eq_iff_iff, hasS_get]
 simp only [Bool.and_eq_true, decide_eq_true_eq]
 constructor
 ·rintro ⟨h1, h2⟩
  rw [List.getD_eq_getElem?_getD, List.getElem?_eq_getElem h1] at h2
  refine ⟨m, h1, h2, ?_⟩
  have := ok m h1
  rw [pspan_get h1, decide_eq_true_eq] at this
  omega
 ·rintro ⟨k, hk, h1, h2⟩
  have := ok k hk
  rw [pspan_get hk, decide_eq_true_eq] at this
  have hmk : m ≤ k := by omega
  have hlt : m < c.length := by omega
  refine ⟨hlt, ?_⟩
  rw [List.getD_eq_getElem?_getD, List.getElem?_eq_getElem hlt]
  show c[m].1 ≤ y
  by_cases e : m = k
  ·subst e; exact h1
  ·have := canS_two hb m k hk (by omega)
   have := (canS_get hb m hlt).2
   omega
def colX : Option (List (Int × Int)) → Value
 | none => .slice none 0 0
 | some c => lst false (spanR.vals c)
def colL (c : Option (List (Int × Int))) : List (Int × Int) := c.getD []
theorem inside_some (c : List (Int × Int)) (y : Int) (hc : c.length ≤ 1000000) : pureCall E.P (L E) 73 [lst false (spanR.vals c), .int .i64 y] = some (.bool (inB c y)) := by
 have key := span_loop c y hc
 have hle := bs_le (p := pspan c y) (n := c.length) _ 0 c.length rfl (Nat.zero_le _) (Nat.le_refl _)
 have ix : ∀ (i : Nat) (hi : i < c.length), indexAddrT (.sl 54 ⟨some true, some 2⟩) (lst false (spanR.vals c)) (.int .i64 (i : Int)) = some (cptr (spanR.val c[i])) := fun i hi => Rec.index_tree rfl hi
 unfold inB
 rw [pureCall_fn F73 rfl]
 generalize bs (pspan c y) 0 c.length = m at key hle ⊢
 simp -implicitDefEqProofs [r73, padS, ret0 m90, key, Rec.vals_len]
 by_cases hm : m < c.length
 ·simp -implicitDefEqProofs [hm, ix m hm, span_val]
 ·have : m = c.length := by omega
  simp -implicitDefEqProofs [hm]
theorem span_none (y : Int) : pureCall E.P (L E) 90 [.slice none 0 0, .int .i64 y, .func (.func 91) ⟨[]⟩ ⟨[]⟩] = some (.tuple ⟨[.int .i64 0, .bool false]⟩) := by
 rw [pureCall_fn F90 rfl]
 simp -implicitDefEqProofs [r90, padS]
 rw [LL_rec (α := Unit) () (fun a => []) (fun a => []) (fun a => (.exit 0, [(10, undef)], [])) (fun a => True) (fun a => 0)]
 ·simp -implicitDefEqProofs [k90_3]
 ·trivial
 ·simp
 ·rfl
 ·intro nx a _ ih
  simp -implicitDefEqProofs [r90_3, k90_3, trim_le]
theorem inside_spec (c : Option (List (Int × Int))) (y : Int) (hc : (colL c).length ≤ 1000000) : pureCall E.P (L E) 73 [colX c, .int .i64 y] = some (.bool (inB (colL c) y)) := by
 cases c with
 | some c => exact inside_some c y hc
 | none =>
  have key := span_none y
  rw [pureCall_fn F73 rfl]
  simp -implicitDefEqProofs [r73, padS, colX, ret0 m90, key]
  simp [inB, colL]
def atO (T : List Slab) (x : Int) : Option (List (Int × Int)) :=
 if bs (pslab T x) 0 T.length < T.length then if (T.getD (bs (pslab T x) 0 T.length) ⟨0, 0, []⟩).x0 ≤ x then some (T.getD (bs (pslab T x) 0 T.length) ⟨0, 0, []⟩).col else none else none
theorem at_spec (T : List Slab) (x : Int) (hT : T.length ≤ 1000000) : pureCall E.P (L E) 61 [lst false (slabR.vals T), .int .i64 x] = some (colX (atO T x)) := by
 have key := slab_loop T x hT
 have hle := bs_le (p := pslab T x) (n := T.length) _ 0 T.length rfl (Nat.zero_le _) (Nat.le_refl _)
 have ix : ∀ (i : Nat) (hi : i < T.length), indexAddrT (.sl 56 ⟨some true, some 3⟩) (lst false (slabR.vals T)) (.int .i64 (i : Int)) = some (cptr (slabR.val T[i])) := fun i hi => Rec.index_tree rfl hi
 unfold atO
 rw [pureCall_fn F61 rfl]
 generalize bs (pslab T x) 0 T.length = m at key hle ⊢
 simp -implicitDefEqProofs [r61, padS, ret0 m74, key, Rec.vals_len]
 by_cases hm : m < T.length
 ·simp -implicitDefEqProofs [hm, ix m hm, slab_val, colV]
  by_cases hx : T[m].x0 ≤ x <;> simp -implicitDefEqProofs [hx, colX, ix m hm, slab_val, colV]
 ·simp -implicitDefEqProofs [hm, colX]
end Go.Proofs.YtibmcdmlpobanaaGreat.Bm
namespace Go.Proofs.YtibmcdmlpobanaaGreat
open Go Go.RowKit Go.Shelf Go.Sort
def lays189_ren : Go.Shelf.Ren := ⟨fun | 189 => 44 | 125 => 67 | 257 => 66 | 128 => 85 | 129 => 86 | 294 => 76 | 295 => 77 | 296 => 78 | 297 => 79 | 298 => 80 | 299 => 81 | 216 => 82 | 300 => 83 | 301 => 84 | 328 => 92 | 329 => 93 | 330 => 94 | 331 => 95 | 332 => 96 | 215 => 88 | 343 => 105 | n => n, fun | 28 => 58 | 3 => 3 | 46 => 80 | 0 => 0 | 51 => 98 | 53 => 100 | 4 => 4 | 183 => 91 | 182 => 90 | 131 => 86 | 5 => 5 | 9 => 9 | 218 => 107 | 222 => 111 | 228 => 118 | 229 => 74 | n => n, fun | n => n⟩
theorem lays189 : Go.Proofs.Lays.n189 Tryz.prog lays189_ren := {
 mixed := by kernel_rfl
 f125 := Tryz.func67.trans (congrArg some (by kernel_rfl))
 f128 := Tryz.func85.trans (congrArg some (by kernel_rfl))
 f129 := Tryz.func86.trans (congrArg some (by kernel_rfl))
 f189 := Tryz.func44.trans (congrArg some (by kernel_rfl))
 f215 := Tryz.func88.trans (congrArg some (by kernel_rfl))
 f216 := Tryz.func82.trans (congrArg some (by kernel_rfl))
 f257 := Tryz.func66.trans (congrArg some (by kernel_rfl))
 f294 := Tryz.func76.trans (congrArg some (by kernel_rfl))
 f295 := Tryz.func77.trans (congrArg some (by kernel_rfl))
 f296 := Tryz.func78.trans (congrArg some (by kernel_rfl))
 f297 := Tryz.func79.trans (congrArg some (by kernel_rfl))
 f298 := Tryz.func80.trans (congrArg some (by kernel_rfl))
 f299 := Tryz.func81.trans (congrArg some (by kernel_rfl))
 f300 := Tryz.func83.trans (congrArg some (by kernel_rfl))
 f301 := Tryz.func84.trans (congrArg some (by kernel_rfl))
 f328 := Tryz.func92.trans (congrArg some (by kernel_rfl))
 f329 := Tryz.func93.trans (congrArg some (by kernel_rfl))
 f330 := Tryz.func94.trans (congrArg some (by kernel_rfl))
 f331 := Tryz.func95.trans (congrArg some (by kernel_rfl))
 f332 := Tryz.func96.trans (congrArg some (by kernel_rfl))
 f343 := Tryz.func105.trans (congrArg some (by kernel_rfl))
 t0 := Tryz.underlying0
 a0 := Tryz.isAgg0
 z0 := Tryz.sizeOf0
 v0 := Tryz.zeroValue0
 t3 := Tryz.underlying3
 a3 := Tryz.isAgg3
 z3 := Tryz.sizeOf3
 v3 := Tryz.zeroValue3
 t4 := Tryz.underlying4
 a4 := Tryz.isAgg4
 z4 := Tryz.sizeOf4
 v4 := Tryz.zeroValue4
 t5 := Tryz.underlying5
 a5 := Tryz.isAgg5
 z5 := Tryz.sizeOf5
 v5 := Tryz.zeroValue5
 t9 := Tryz.underlying9
 a9 := Tryz.isAgg9
 z9 := Tryz.sizeOf9
 v9 := Tryz.zeroValue9
 t28 := Tryz.underlying58
 a28 := Tryz.isAgg58
 z28 := Tryz.sizeOf58
 v28 := Tryz.zeroValue58
 t46 := Tryz.underlying80
 a46 := Tryz.isAgg80
 z46 := Tryz.sizeOf80
 v46 := Tryz.zeroValue80
 t51 := Tryz.underlying98
 a51 := Tryz.isAgg98
 z51 := Tryz.sizeOf98
 v51 := Tryz.zeroValue98
 t53 := Tryz.underlying100
 a53 := Tryz.isAgg100
 z53 := Tryz.sizeOf100
 v53 := Tryz.zeroValue100
 t131 := Tryz.underlying86
 a131 := Tryz.isAgg86
 z131 := Tryz.sizeOf86
 v131 := Tryz.zeroValue86
 t182 := Tryz.underlying90
 a182 := Tryz.isAgg90
 z182 := Tryz.sizeOf90
 v182 := Tryz.zeroValue90
 t183 := Tryz.underlying91
 a183 := Tryz.isAgg91
 z183 := Tryz.sizeOf91
 v183 := Tryz.zeroValue91
 t218 := Tryz.underlying107
 a218 := Tryz.isAgg107
 z218 := Tryz.sizeOf107
 v218 := Tryz.zeroValue107
 t222 := Tryz.underlying111
 a222 := Tryz.isAgg111
 z222 := Tryz.sizeOf111
 v222 := Tryz.zeroValue111
 t228 := Tryz.underlying118
 a228 := Tryz.isAgg118
 z228 := Tryz.sizeOf118
 v228 := Tryz.zeroValue118
 t229 := Tryz.underlying74
 a229 := Tryz.isAgg74
 z229 := Tryz.sizeOf74
 v229 := Tryz.zeroValue74 }
theorem conSort : Bm.SortCon Tryz.prog 44 Bm.sortI none where
 row blk off cap zs w hH hblk hsz _ := by
  rw [← Bm.sortI_eq]
  exact Any.slices_Sort_int lays189 blk off cap zs w hH hblk hsz
 none p cap w := Any.slices_Sort_int_none lays189 p cap w
 dfd := ⟨_, Tryz.func44, rfl⟩
 len := Bm.sortI_len
 cut := fun _ h => by cases h
end Go.Proofs.YtibmcdmlpobanaaGreat
namespace Go.Proofs.YtibmcdmlpobanaaGreat
open Go Go.RowKit Go.Shelf Go.Sort
def laysNm220_ren : Go.Shelf.Ren := ⟨fun | 20 => 45 | n => n, fun | 22 => 58 | 3 => 3 | 4 => 4 | 0 => 0 | n => n, fun | n => n⟩
theorem laysNm220 : Go.Proofs.Lays2.n20 Tryz.prog laysNm220_ren := {
 mixed := by kernel_rfl
 f20 := Tryz.func45.trans (congrArg some (by kernel_rfl))
 t0 := Tryz.underlying0
 a0 := Tryz.isAgg0
 z0 := Tryz.sizeOf0
 v0 := Tryz.zeroValue0
 t3 := Tryz.underlying3
 a3 := Tryz.isAgg3
 z3 := Tryz.sizeOf3
 v3 := Tryz.zeroValue3
 t4 := Tryz.underlying4
 a4 := Tryz.isAgg4
 z4 := Tryz.sizeOf4
 v4 := Tryz.zeroValue4
 t22 := Tryz.underlying58
 a22 := Tryz.isAgg58
 z22 := Tryz.sizeOf58
 v22 := Tryz.zeroValue58
 i3 := by kernel_rfl }
theorem conComp : Bm.SortCon Tryz.prog 45 Bm.compF (some Bm.compN) where
 row blk off cap zs w hH hblk hsz hc := (Any.slices_Compact_int laysNm220 blk off cap zs w hH (by omega) hc).mono fun e w' h => by
  rw [Bm.compact_eq] at h
  exact ⟨h.1, h.2.imp fun n k => ⟨#[], by rw [k]; exact (grow_empty _).symm⟩⟩
 none p cap w := Any.slices_Compact_int_empty laysNm220 p cap w
 dfd := ⟨_, Tryz.func45, rfl⟩
 len := Bm.compF_len
 cut := fun m h zs => by cases h; exact Bm.compG_len zs none
end Go.Proofs.YtibmcdmlpobanaaGreat
namespace Go.Proofs.YtibmcdmlpobanaaGreat
open Go Go.RowKit Go.Shelf Go.Sort
def laysSpan_ren : Go.Shelf.Ren := ⟨fun | 6 => 68 | 15 => 67 | 14 => 87 | 28 => 85 | 29 => 86 | 20 => 97 | 21 => 98 | 22 => 99 | 23 => 100 | 24 => 101 | 25 => 102 | 26 => 103 | 27 => 104 | 46 => 106 | 47 => 93 | 48 => 94 | 49 => 107 | 50 => 108 | 57 => 109 | n => n, fun | 22 => 52 | 24 => 54 | 25 => 83 | 3 => 3 | 39 => 80 | 0 => 0 | 53 => 98 | 55 => 100 | 4 => 4 | 46 => 91 | 45 => 90 | 50 => 86 | 5 => 5 | 9 => 9 | 66 => 107 | 70 => 111 | 76 => 118 | 77 => 74 | n => n, fun | n => n⟩
theorem laysSpan : Go.Proofs.SlLaysF0.n6 Tryz.prog laysSpan_ren := {
 mixed := by kernel_rfl
 f6 := ⟨Tryz.f68.name, by decide, Tryz.func68.trans (congrArg some (by kernel_rfl))⟩
 f14 := ⟨Tryz.f87.name, by decide, Tryz.func87.trans (congrArg some (by kernel_rfl))⟩
 f15 := Tryz.func67.trans (congrArg some (by kernel_rfl))
 f20 := ⟨Tryz.f97.name, by decide, Tryz.func97.trans (congrArg some (by kernel_rfl))⟩
 f21 := ⟨Tryz.f98.name, by decide, Tryz.func98.trans (congrArg some (by kernel_rfl))⟩
 f22 := ⟨Tryz.f99.name, by decide, Tryz.func99.trans (congrArg some (by kernel_rfl))⟩
 f23 := ⟨Tryz.f100.name, by decide, Tryz.func100.trans (congrArg some (by kernel_rfl))⟩
 f24 := ⟨Tryz.f101.name, by decide, Tryz.func101.trans (congrArg some (by kernel_rfl))⟩
 f25 := ⟨Tryz.f102.name, by decide, Tryz.func102.trans (congrArg some (by kernel_rfl))⟩
 f26 := ⟨Tryz.f103.name, by decide, Tryz.func103.trans (congrArg some (by kernel_rfl))⟩
 f27 := ⟨Tryz.f104.name, by decide, Tryz.func104.trans (congrArg some (by kernel_rfl))⟩
 f28 := Tryz.func85.trans (congrArg some (by kernel_rfl))
 f29 := Tryz.func86.trans (congrArg some (by kernel_rfl))
 f46 := ⟨Tryz.f106.name, by decide, Tryz.func106.trans (congrArg some (by kernel_rfl))⟩
 f47 := Tryz.func93.trans (congrArg some (by kernel_rfl))
 f48 := Tryz.func94.trans (congrArg some (by kernel_rfl))
 f49 := ⟨Tryz.f107.name, by decide, Tryz.func107.trans (congrArg some (by kernel_rfl))⟩
 f50 := ⟨Tryz.f108.name, by decide, Tryz.func108.trans (congrArg some (by kernel_rfl))⟩
 f57 := ⟨Tryz.f109.name, by decide, Tryz.func109.trans (congrArg some (by kernel_rfl))⟩
 t0 := Tryz.underlying0
 a0 := Tryz.isAgg0
 z0 := Tryz.sizeOf0
 v0 := Tryz.zeroValue0
 t3 := Tryz.underlying3
 a3 := Tryz.isAgg3
 z3 := Tryz.sizeOf3
 v3 := Tryz.zeroValue3
 t4 := Tryz.underlying4
 a4 := Tryz.isAgg4
 z4 := Tryz.sizeOf4
 v4 := Tryz.zeroValue4
 t5 := Tryz.underlying5
 a5 := Tryz.isAgg5
 z5 := Tryz.sizeOf5
 v5 := Tryz.zeroValue5
 t9 := Tryz.underlying9
 a9 := Tryz.isAgg9
 z9 := Tryz.sizeOf9
 v9 := Tryz.zeroValue9
 t22 := Tryz.underlying52
 a22 := Tryz.isAgg52
 z22 := Tryz.sizeOf52
 v22 := Tryz.zeroValue52
 t25 := Tryz.underlying83
 a25 := Tryz.isAgg83
 z25 := Tryz.sizeOf83
 v25 := Tryz.zeroValue83
 t39 := Tryz.underlying80
 a39 := Tryz.isAgg80
 z39 := Tryz.sizeOf80
 v39 := Tryz.zeroValue80
 t45 := Tryz.underlying90
 a45 := Tryz.isAgg90
 z45 := Tryz.sizeOf90
 v45 := Tryz.zeroValue90
 t46 := Tryz.underlying91
 a46 := Tryz.isAgg91
 z46 := Tryz.sizeOf91
 v46 := Tryz.zeroValue91
 t50 := Tryz.underlying86
 a50 := Tryz.isAgg86
 z50 := Tryz.sizeOf86
 v50 := Tryz.zeroValue86
 t53 := Tryz.underlying98
 a53 := Tryz.isAgg98
 z53 := Tryz.sizeOf98
 v53 := Tryz.zeroValue98
 t55 := Tryz.underlying100
 a55 := Tryz.isAgg100
 z55 := Tryz.sizeOf100
 v55 := Tryz.zeroValue100
 t66 := Tryz.underlying107
 a66 := Tryz.isAgg107
 z66 := Tryz.sizeOf107
 v66 := Tryz.zeroValue107
 t70 := Tryz.underlying111
 a70 := Tryz.isAgg111
 z70 := Tryz.sizeOf111
 v70 := Tryz.zeroValue111
 t76 := Tryz.underlying118
 a76 := Tryz.isAgg118
 z76 := Tryz.sizeOf118
 v76 := Tryz.zeroValue118
 t77 := Tryz.underlying74
 a77 := Tryz.isAgg74
 z77 := Tryz.sizeOf74
 v77 := Tryz.zeroValue74 }
set_option maxHeartbeats 1000000 in
theorem nan_walk (x : Int) (W : World) : Calls Tryz.prog 88 #[.int .i64 x] W fun e w' => e = .returned (.bool false) ∧ w' = W := by
 go_enter Tryz.func88, Tryz.ntmps88
 go_wp2
 go_ret
 exact ⟨rfl, rfl⟩
set_option maxHeartbeats 1000000 in
theorem compare_walk (x y : Int) (W : World) : Calls Tryz.prog 70 #[.int .i64 x, .int .i64 y] W fun e w' => e = .returned (.int .i64 (cmpI x y)) ∧ w' = W := by
 unfold cmpI
 have h1 := fun x W => nan_walk x W
 go_enter Tryz.func70, Tryz.ntmps70
 by_cases hxy : x < y
 ·rw [if_pos hxy]
  go_wp2_with (go_at_call 88; refine (h1 _ _).mono ?_; rintro e w' ⟨rfl, rfl⟩)
  go_ret
  exact ⟨rfl, rfl⟩
 ·rw [if_neg hxy]
  by_cases hyx : y < x
  ·rw [if_pos hyx]
   go_wp2_with (go_at_call 88; refine (h1 _ _).mono ?_; rintro e w' ⟨rfl, rfl⟩)
   go_ret
   exact ⟨rfl, rfl⟩
  ·rw [if_neg hyx]
   go_wp2_with (go_at_call 88; refine (h1 _ _).mono ?_; rintro e w' ⟨rfl, rfl⟩)
   go_ret
   exact ⟨rfl, rfl⟩
set_option maxHeartbeats 1000000 in
theorem closure_walk (x y : Int × Int) (W : World) : Calls Tryz.prog 69 #[.agg #[.int .i64 x.1, .int .i64 x.2], .agg #[.int .i64 y.1, .int .i64 y.2]] W fun e w' => e = .returned (.int .i64 (cmpS x y)) ∧ ∃ q os', w' = grow (W.drewN q) os' := by
 have hcon := fun W' => compare_walk x.1 y.1 W'
 unfold cmpS
 generalize cmpI x.1 y.1 = r at hcon ⊢
 go_enter Tryz.func69, Tryz.ntmps69
 go_wp2_with (go_at_call 70; refine (hcon _).mono ?_; rintro e w' ⟨rfl, rfl⟩)
 go_ret
 exact ⟨rfl, 0, _, by rw [alloc_eq_grow, alloc_eq_grow, grow_grow]; rfl⟩
theorem conSpan : Bm.CellCon Tryz.prog 68 69 2 sortSF where
 row blk off cap n c d w hF hc hH hblk h0 hn hcap := by
  unfold sortSF at hF
  cases e : spanD c with
  | none => rw [e] at hF; cases hF
  | some l =>
   rw [e] at hF; cases hF
   have ec := spanD_some e
   subst ec
   have hl : l.toArray.size = n := by
    rw [flat_len] at hc
    simp; omega
   have eg : ∀ args w, (callFunc 69 args).run Tryz.prog w = .ok (.enter 69 args) w := enters_of Tryz.func69 (by kernel_rfl) rfl
   have con := AnyQ.slices_SortFunc_eq laysSpan 2 Tryz.isAgg54 Tryz.sizeOf54 spanV (fun _ => rfl) (fun x v hv => by simp [spanV] at hv; rcases hv with rfl | rfl <;> rfl) cmpS swoS 69 #[] blk off cap l.toArray w eg (fun _ _ _ _ x y => closure_walk x y _) (by unfold HoldsK; rw [flatK_flat]; exact hH) hblk (by rw [hl]; exact hn)
   change Calls Tryz.prog 68 _ _ _ at con
   rw [hl] at con
   refine con.mono fun e w' he => ⟨he.1, ?_⟩
   obtain ⟨m, os, rfl⟩ := he.2
   refine ⟨m, os, ?_⟩
   unfold sortWorldK putRowK
   rw [flatK_flat]
   show _ = grow (putRow id (Sort.ahead w m) blk off ((sortS l).flatMap spanV).toArray) os
   unfold sortS
   rw [hl]
 none p cap w := AnyF.slices_SortFunc_none laysSpan p cap _ w
 dfd := ⟨_, Tryz.func68, rfl⟩
 len c d h := by
  unfold sortSF at h
  cases e : spanD c with
  | none => rw [e] at h; cases h
  | some l =>
   rw [e] at h; cases h
   rw [spanD_some e, flat_len, flat_len, (sortS_perm l).length_eq]
 atoms c d h := by
  unfold sortSF at h
  cases e : spanD c with
  | none => rw [e] at h; cases h
  | some l =>
   rw [e] at h; cases h
   have key : ∀ l : List (Int × Int), (l.flatMap spanV).all Bm.atom = true := by
    intro l
    induction l with
    | nil => rfl
    | cons x l ih => rw [List.flatMap_cons, List.all_append, ih]; rfl
   exact ⟨by rw [spanD_some e]; exact key _, key _⟩
 pos := by decide
end Go.Proofs.YtibmcdmlpobanaaGreat
namespace Go.Proofs.YtibmcdmlpobanaaGreat.Bm
open Go Go.RowKit Go.Lib
theorem iRc : ∃ i, Tryz.prog.info? 30 = some i ∧ i.zero = some (.agg #[.int .i64 0, .int .i64 0, .int .i64 0, .int .i64 0]) ∧ i.size = 4 ∧ i.bytes = 32 := by
 have h : (Tryz.prog.info? 30).map (fun i => (i.zero, i.size, i.bytes)) = some (some (.agg #[.int .i64 0, .int .i64 0, .int .i64 0, .int .i64 0]), 4, 32) := by kernel_rfl
 obtain ⟨i, h1, h2⟩ := Option.map_eq_some_iff.1 h
 simp only [Prod.mk.injEq] at h2
 exact ⟨i, h1, h2.1, h2.2.1, h2.2.2⟩
theorem tRc : Tryz.prog.underlying 22 = some (.slice 30) := by kernel_rfl
set_option maxHeartbeats 2000000 in
set_option maxRecDepth 100000 in
theorem clone_zeroRc (a : Addr) (c : Nat) (w : World) :
  Calls Tryz.prog 36 #[.slice (some a) 0 c] w fun e w' => ∃ a' c', e = .returned (.slice (some a') 0 c') ∧ Below w.heap.size w w' := by
 obtain ⟨i0, hi, hz0, hz1, hz2⟩ := iRc
 have q22 : ∀ (w : World) (a : Option Addr) (n c n' c' : Nat), (binOp .eql 22 (.slice a n c) (.slice none n' c')).run Tryz.prog w = .ok (.bool a.isNone) w := fun w a n c n' c' => Lib.run_eql_slice_nil w _ _ a n c n' c' tRc
 have u22 : ∀ w, Sem.run Tryz.prog (underlying 22) w = .ok (TypeDesc.slice 30) w := run_underlying tRc
 go_enter Tryz.func36, Tryz.ntmps36
 go_wp2_with (at_builtin; refine wpList_append_own _ rfl _ _ 22 rfl w.heap.size 30 i0 (.agg #[.int .i64 0, .int .i64 0, .int .i64 0, .int .i64 0]) 4 32 tRc hi hz0 hz1 hz2 rfl (by decide) _ _ _ rfl (World.ownsRow_made w #[] 0 (Nat.le_refl _) (Nat.zero_le _) rfl) a 0 c [] rfl rfl (by intro j u hj; simp at hj) (by intro u hu; cases hu) (by unfold maxLen; omega) (by omega) (by simp) ?_)
 intro v' w1 hown hgrow hnil
 go_wp2
 go_ret
 have hne : v' ≠ .slice none 0 0 := by first | exact hnil | (intro e; exact absurd (hnil.1 e).1 (by simp))
 have hbel : Below w.heap.size w w1 := ((Below.refl _ w).alloc (Nat.le_refl _) _).grown hgrow (by simp) (by intro k hk; simp [Value.ownBlock] at hk; omega)
 rcases hown.2 with ⟨e, _⟩ | ⟨g, cap, cur, e, _⟩
 ·exact absurd e hne
 ·exact ⟨_, cap, by rw [e]; rfl, hbel⟩
theorem clone_nilRc (w : World) : Calls Tryz.prog 36 #[.slice none 0 0] w fun e w' => e = .returned (.slice none 0 0) ∧ w' = w := by
 have q22 : ∀ (w : World) (a : Option Addr) (n c n' c' : Nat), (binOp .eql 22 (.slice a n c) (.slice none n' c')).run Tryz.prog w = .ok (.bool a.isNone) w := fun w a n c n' c' => Lib.run_eql_slice_nil w _ _ a n c n' c' tRc
 go_enter Tryz.func36, Tryz.ntmps36
 go_wp2
 go_ret
 exact ⟨rfl, rfl⟩
theorem conCloRc : CloCon Tryz.prog 36 := ⟨⟨_, Tryz.func36, rfl⟩, clone_zeroRc, clone_nilRc⟩
end Go.Proofs.YtibmcdmlpobanaaGreat.Bm
namespace Go.Proofs.YtibmcdmlpobanaaGreat.Bm
open Go Go.RowKit
open Rg (Rect)
theorem okE : OkProg E.P := okProg_of (by kernel_rfl) (by kernel_rfl)
theorem laidE : laidOutB E.P = true := by kernel_rfl
theorem mapsE : mapsRowed E.P = true := by kernel_rfl
noncomputable def tlE : List TypeId := closeT E.P 6 [22, 3]
theorem closedE : closedT E.P tlE = true := by kernel_rfl
theorem in22 : 22 ∈ tlE := List.contains_iff_mem.1 (by kernel_rfl)
theorem in3 : 3 ∈ tlE := List.contains_iff_mem.1 (by kernel_rfl)
theorem ui : E.P.underlying 3 = some (.int .i64) := by kernel_rfl
theorem u4 : E.P.underlying 4 = some .bool := by kernel_rfl
theorem uRs : E.P.underlying 22 = some (.slice 30) := by kernel_rfl
theorem fR : fsOf E.P 30 = some [(0, 3), (1, 3), (2, 3), (3, 3)] := by kernel_rfl
theorem nR : E.P.cellsOf 30 = 4 := by kernel_rfl
theorem ni : E.P.cellsOf 3 = 1 := by kernel_rfl
theorem gR : aggT E.P 30 = some true := by kernel_rfl
theorem gRs : aggT E.P 22 = some false := by kernel_rfl
theorem gi : aggT E.P 3 = some false := by kernel_rfl
def i64ok (z : Int) : Prop := -9223372036854775808 ≤ z ∧ z ≤ 9223372036854775807
def RectI (r : Rect) : Prop := i64ok r.x0 ∧ i64ok r.y0 ∧ i64ok r.x1 ∧ i64ok r.y1
theorem rect_of {n : Nat} {c : List Value} (h : Wt E.P n 30 c) : ∃ r : Rect, c = rectR.enc r ∧ RectI r := by
 obtain ⟨hl, hf⟩ := wt_struct fR h
 rw [nR] at hl
 obtain ⟨a0, c, rfl⟩ := List.exists_cons_of_length_eq_add_one hl; have hl := Nat.succ.inj hl
 obtain ⟨a1, c, rfl⟩ := List.exists_cons_of_length_eq_add_one hl; have hl := Nat.succ.inj hl
 obtain ⟨a2, c, rfl⟩ := List.exists_cons_of_length_eq_add_one hl; have hl := Nat.succ.inj hl
 obtain ⟨a3, c, rfl⟩ := List.exists_cons_of_length_eq_add_one hl; have hl := Nat.succ.inj hl
 obtain rfl := List.eq_nil_of_length_eq_zero hl
 obtain ⟨m0, q0⟩ := hf (0, 3) (by simp)
 replace q0 : Wt E.P m0 3 [a0] := by simpa [ni] using q0
 obtain ⟨m1, q1⟩ := hf (1, 3) (by simp)
 replace q1 : Wt E.P m1 3 [a1] := by simpa [ni] using q1
 obtain ⟨m2, q2⟩ := hf (2, 3) (by simp)
 replace q2 : Wt E.P m2 3 [a2] := by simpa [ni] using q2
 obtain ⟨m3, q3⟩ := hf (3, 3) (by simp)
 replace q3 : Wt E.P m3 3 [a3] := by simpa [ni] using q3
 obtain ⟨z0, e, h0⟩ := wt_int ui q0; obtain rfl := List.singleton_inj.1 e
 obtain ⟨z1, e, h1⟩ := wt_int ui q1; obtain rfl := List.singleton_inj.1 e
 obtain ⟨z2, e, h2⟩ := wt_int ui q2; obtain rfl := List.singleton_inj.1 e
 obtain ⟨z3, e, h3⟩ := wt_int ui q3; obtain rfl := List.singleton_inj.1 e
 exact ⟨⟨z0, z1, z2, z3⟩, rfl, i64_wf h0, i64_wf h1, i64_wf h2, i64_wf h3⟩
theorem rects_of {n : Nat} {c : List Value} (h : Wt E.P n 22 c) : ∃ l : List Rect, c = [lst false (rectR.vals l)] ∧ l.length ≤ maxLen ∧ ∀ r ∈ l, RectI r := by
 obtain ⟨ls, rfl, h2, h3⟩ := wt_slice uRs h
 obtain ⟨rs, rfl, k2⟩ := choose_list (cells := rectR.enc) (Q := RectI) ls fun x hx => by
  obtain ⟨m, hm⟩ := h3 x hx
  exact rect_of hm
 refine ⟨rs, ?_, by simpa using h2, k2⟩
 have e : ∀ l : List Rect, (l.map rectR.enc).map (elemV E.P 30) = rectR.vals l := by
  intro l
  induction l with
  | nil => rfl
  | cons r l ih =>
   rw [List.map_cons, List.map_cons, ih]
   unfold elemV
   rw [if_pos gR]
   rfl
 rw [e]
theorem rectsV {n : Nat} {c : List Value} (h : Wt E.P n 22 c) : ∃ l : List Rect, elemV E.P 22 c = lst false (rectR.vals l) ∧ l.length ≤ maxLen ∧ ∀ r ∈ l, RectI r := by
 obtain ⟨l, rfl, hl⟩ := rects_of h
 exact ⟨l, by simp [elemV, gRs], hl⟩
theorem intV {n : Nat} {c : List Value} (h : Wt E.P n 3 c) : ∃ z : Int, elemV E.P 3 c = .int .i64 z ∧ i64ok z := by
 obtain ⟨z, rfl, hz⟩ := wt_int ui h
 exact ⟨z, by simp [elemV, gi], i64_wf hz⟩
theorem orcE : OrcSound E := by
 have h00 : ∀ f, E0.orc f = none := fun _ => rfl
 have key : ∀ g k, E.orc g = some k → (∃ F N, k = inG F N ∧ SortCon E.P g F N) ∨ (∃ q m F, k = inC q m F ∧ CellCon E.P g q m F) ∨ (k = cloG E0 g ∧ CloCon E.P g) := fun g k h => by
  rw [E_orc] at h
  by_cases h0 : g = 36
  ·subst h0; simp only [if_true, Option.some.injEq] at h; exact .inr (.inr ⟨h.symm, conCloRc⟩)
  ·by_cases h1 : g = 44
   ·subst h1; simp only [h0, if_false, if_true, Option.some.injEq] at h; exact .inl ⟨_, _, h.symm, conSort⟩
   ·by_cases h2 : g = 45
    ·subst h2; simp only [h0, h1, if_false, if_true, Option.some.injEq] at h; exact .inl ⟨_, _, h.symm, conComp⟩
    ·by_cases h3 : g = 68
     ·subst h3; simp only [h0, h1, h2, if_false, if_true, Option.some.injEq] at h; exact .inr (.inl ⟨_, _, _, h.symm, conSpan⟩)
     ·simp only [h0, h1, h2, h3, if_false] at h; cases h
 refine ⟨fun g k hg args h lo r _ => ?_, fun g k hg args h lo v h' hr hlo B M w args' hs hv => ?_, fun g k hg args h lo v h' hr hlo => ?_⟩
 ·rcases key g k hg with ⟨F, N, _, hC⟩ | ⟨q, m, F, _, hC⟩ | ⟨_, hC⟩
  ·exact hC.dfd
  ·exact hC.dfd
  ·exact hC.dfd
 ·rcases key g k hg with ⟨F, N, rfl, hC⟩ | ⟨q, m, F, rfl, hC⟩ | ⟨rfl, hC⟩
  ·exact in_sound hC hr hlo args' hs hv
  ·exact inC_sound hC hr hlo args' hs hv
  ·exact cloG_sound (E₀ := E0) okE rfl rfl h00 hC hr hlo args' hs hv
 ·rcases key g k hg with ⟨F, N, rfl, _⟩ | ⟨q, m, F, rfl, _⟩ | ⟨rfl, _⟩
  ·exact inG_keep hr
  ·exact inC_keep hr
  ·exact cloG_keep h00 hr hlo
end Go.Proofs.YtibmcdmlpobanaaGreat.Bm
namespace Go.Proofs.YtibmcdmlpobanaaGreat.Bm
open Go Go.RowKit
namespace Rec
variable {α : Type} {R : Rec α}
def o (R : Rec α) (k : Option Bool) (l : List α) : Value := match k with | none => .slice none 0 0 | some b => lst b (R.vals l)
def Ok (k : Option Bool) (l : List α) : Prop := k = none → l = []
theorem ok_some {b : Bool} {l : List α} : Ok (some b) l := fun h => by cases h
section
variable {k : Option Bool} {l : List α} {h : Heap}
theorem o_len (hk : Ok k l) : lenT .sl h (R.o k l) = some (.int .i64 l.length) := by
 cases k with
 | none => have := hk rfl; subst this; rfl
 | some b => exact tree_len
theorem o_one : one (R.o k l) = true := by cases k <;> rfl
theorem o_set {n : Nat} : settled (n + 1) (R.o k l) = true := by cases k <;> rfl
theorem o_bel {d n : Nat} : below (d + 1) n (R.o k l) = true := by cases k <;> rfl
theorem o_fits {sz : Option Nat} : fitsTT ⟨some false, sz⟩ (R.o k l) = true := by cases k <;> rfl
theorem o_reify {P : Program} {n : Nat} : reify P (n + 1) h (R.o k l) = some (R.o k l) := by cases k <;> rfl
theorem o_cells1 : cellsL (R.o k l) = [R.o k l] := by cases k <;> rfl
theorem o_cells {s : Nat} (hs : s = R.m + 1) (hk : Ok k l) : sliceCells h s (R.o k l) = some (R.flat l, l.length) := by
 cases k with
 | none => have := hk rfl; subst this; rfl
 | some b => exact cells_tree hs l
theorem o_index {s i : Nat} {t : TypeId} {kk : IntKind} (hs : s = R.m + 1) (hk : Ok k l) (h1 : i < l.length) : indexAddrT (.sl t ⟨some true, some s⟩) (R.o k l) (.int kk (i : Int)) = some (cptr (R.val l[i])) := by
 cases k with
 | none => have := hk rfl; subst this; simp at h1
 | some b => exact index_tree hs h1
end
theorem app_fill {el : El} {h : Heap} {lo b n r : Nat} {t : TypeId} {acc m : List α} {z : α} {u : Value} (hel : el.size = R.m + 1) (hob : h[b]? = some (R.row t (acc ++ List.replicate r z))) (hn : n = acc.length + r)
  (hu : sliceCells h el.size u = some (R.flat m, m.length)) (hlo : lo ≤ b) (hm : m.length ≤ r) :
  appendT (some el) h lo false (.slice (some ⟨b, 0, some (n * (R.m + 1))⟩) acc.length n) u = some (.slice (some ⟨b, 0, some (n * (R.m + 1))⟩) (acc ++ m).length n, h.set b (R.row t ((acc ++ m) ++ List.replicate (r - m.length) z))) := by
 have hl : (acc ++ List.replicate r z).length = n := by rw [List.length_append, List.length_replicate, hn]
 have key := app_room (i := acc.length) hel hob hu hlo (by rw [hl, hn]; omega)
 rw [hl] at key
 rw [key]
 have e1 : (acc ++ List.replicate r z).take acc.length = acc := by simp
 have e2 : (acc ++ List.replicate r z).drop (acc.length + m.length) = List.replicate (r - m.length) z := by
  rw [List.drop_append, List.drop_of_length_le (by omega)]; simp
 rw [e1, e2, List.length_append]
theorem slice_none {ix : TypeId} {g : TI} {s : Nat} {h : Heap} {k : IntKind} (hs : g.sz = some s) : sliceT (.sl ix g) h (.slice none 0 0) none (some (.int k 0)) none = some (.slice none 0 0) := by
 unfold sliceT
 simp [hs, bound]
theorem slice_row0 {e t : TypeId} {g : Option Bool} {h : Heap} {b n s : Nat} {l : List α} {k : IntKind} (hs : s = R.m + 1) (hob : h[b]? = some (R.row t l)) (hn : n = l.length) :
  sliceT (.sl e ⟨g, some s⟩) h (.slice (some ⟨b, 0, some (n * (R.m + 1))⟩) n n) none (some (.int k 0)) none = some (.slice (some ⟨b, 0, some (n * (R.m + 1))⟩) 0 n) := by
 subst hs; subst hn
 have hob' : h[b]? = some (.cells t (R.flat l) (R.m + 1)) := hob
 have hf : fitsRow h ⟨b, 0, some (l.length * (R.m + 1))⟩ (R.m + 1) = true := by
  unfold fitsRow
  show (match h[b]? with | some (.cells _ c g) => _ | _ => false) = true
  rw [hob']
  simp [stampOk, flat_len]
 unfold sliceT
 simp [hf, bound, rowSl, shift]
end Rec
end Go.Proofs.YtibmcdmlpobanaaGreat.Bm
