/-
  Chapter 06: the searches in columns and strips. Conditions: lists that are not too long.
-/
import Derived.Test.YtgeebooalafepaaC06a
namespace Go.Proofs.Ytgeebooalafepaa.Bm
open Go Go.RowKit
open Rg (Rect Slab hasS hasS_cons Can canS cellT)

theorem shr_half {P : Program} {t : TypeId} {m : Nat} : aBin P .shr t (.int .u64 (m : Int)) (.int .u64 1) = some (.int .u64 ((m / 2 : Nat) : Int)) := by
  show (if (1 : Int) < 0 then none else some (Value.int .u64 ((m : Int).fdiv (2 ^ (min (1 : Int).toNat 64))))) = _
  rw [if_neg (by decide)]
  have e : ((2 : Int) ^ (min (1 : Int).toNat 64)) = 2 := by decide
  rw [e, Int.fdiv_eq_ediv_of_nonneg _ (by decide)]
  rfl
theorem wrapU {m : Nat} (h : m < 9223372036854775808) : IntKind.u64.wrap (m : Int) = (m : Int) := by
  unfold IntKind.wrap
  simp [IntKind.bits, IntKind.signed]
  omega

/-- A search by halves. -/
def bs (p : Nat → Bool) (i j : Nat) : Nat := if i < j then if p ((i + j) / 2) then bs p ((i + j) / 2 + 1) j else bs p i ((i + j) / 2) else i
termination_by j - i
decreasing_by all_goals omega
theorem bs_inv {p : Nat → Bool} {n : Nat} : ∀ (d i j : Nat), j - i = d → i ≤ j → j ≤ n → (∀ a b, a ≤ b → b < n → p b = true → p a = true) → (∀ k, k < i → p k = true) → (∀ k, j ≤ k → k < n → p k = false) →
    bs p i j ≤ n ∧ ∀ k, k < n → (k < bs p i j ↔ p k = true) := by
  intro d
  induction d using Nat.strongRecOn with
  | _ d ih =>
    intro i j hd hij hjn hm h1 h2
    rw [bs]
    by_cases h : i < j
    · rw [if_pos h]
      by_cases hp : p ((i + j) / 2) = true
      · rw [if_pos hp]
        refine ih (j - ((i + j) / 2 + 1)) (by omega) _ _ rfl (by omega) hjn hm (fun k hk => hm k _ (by omega) (by omega) hp) h2
      · rw [if_neg hp]
        refine ih ((i + j) / 2 - i) (by omega) _ _ rfl (by omega) (by omega) hm h1 fun k hk hkn => ?_
        cases hpk : p k
        · rfl
        · exact absurd (hm _ k hk hkn hpk) hp
    · rw [if_neg h]
      have : i = j := by omega
      subst this
      refine ⟨hjn, fun k hk => ⟨fun hlt => h1 k hlt, fun hpk => ?_⟩⟩
      apply Classical.byContradiction
      intro hno
      rw [h2 k (by omega) hk] at hpk
      cases hpk
theorem bs_ok {p : Nat → Bool} {n : Nat} (hm : ∀ a b, a ≤ b → b < n → p b = true → p a = true) : bs p 0 n ≤ n ∧ ∀ k, k < n → (k < bs p 0 n ↔ p k = true) :=
  bs_inv n 0 n rfl (Nat.zero_le _) (Nat.le_refl _) hm (fun k hk => by omega) (fun k h1 h2 => by omega)
theorem bs_le {p : Nat → Bool} {n : Nat} : ∀ (d i j : Nat), j - i = d → i ≤ j → j ≤ n → bs p i j ≤ n := by
  intro d
  induction d using Nat.strongRecOn with
  | _ d ih =>
    intro i j hd hij hjn
    rw [bs]
    by_cases h : i < j
    · rw [if_pos h]
      split
      · exact ih (j - ((i + j) / 2 + 1)) (by omega) _ _ rfl (by omega) hjn
      · exact ih ((i + j) / 2 - i) (by omega) _ _ rfl (by omega) (by omega)
    · rw [if_neg h]; omega

def pspan (c : List (Int × Int)) (y : Int) (k : Nat) : Bool := decide ((c.getD k (0, 0)).2 ≤ y)
theorem span_loop (c : List (Int × Int)) (y : Int) (hc : c.length ≤ 1000000) :
    pureCall E.P (L E) 76 [lst false (spanR.vals c), .int .i64 y, .func (.func 77) ⟨[]⟩ ⟨[]⟩] = some (.tuple ⟨[.int .i64 ((bs (pspan c y) 0 c.length : Nat) : Int), .bool false]⟩) := by
  have i1 := fun s => inside1_spec s y
  have ix : ∀ (i : Nat) (hi : i < c.length), indexAddrT (.sl 59 ⟨some true, some 2⟩) (lst false (spanR.vals c)) (.int .i64 (i : Int)) = some (cptr (spanR.val c[i])) := fun i hi => Rec.index_tree rfl hi
  have fit : ∀ s, fitsTT ⟨some true, some 2⟩ (spanR.val s) = true := fun s => rfl
  have sv : ∀ s, settled 8 (spanR.val s) = true := fun s => rfl
  have rv : ∀ s h, reify E.P 8 h (spanR.val s) = some (spanR.val s) := fun s h => by rw [span_val]; rfl
  have ud : ∀ (k : Nat) (hk : k < c.length), pspan c y k = decide ((c[k]).2 ≤ y) := fun k hk => by unfold pspan; rw [List.getD_eq_getElem?_getD, List.getElem?_eq_getElem hk]; rfl
  rw [pureCall_fn F76 rfl]
  simp -implicitDefEqProofs [r76, padS, Rec.vals_len]
  rw [LL_rec (α := Nat × Nat) (0, c.length) (fun a => [(9, .int .i64 a.1), (10, .int .i64 a.2)]) (fun a => []) (fun a => (.exit 0, [(9, .int .i64 ((bs (pspan c y) a.1 a.2 : Nat) : Int)), (10, undef)], [])) (fun a => a.1 ≤ a.2 ∧ a.2 ≤ c.length) (fun a => a.2 - a.1)]
  · have hle := bs_le (p := pspan c y) (n := c.length) _ 0 c.length rfl (Nat.zero_le _) (Nat.le_refl _)
    generalize bs (pspan c y) 0 c.length = m at hle ⊢
    simp -implicitDefEqProofs [k76_3]
    by_cases hm : m < c.length
    · have e : ¬ (m = c.length) := by omega
      simp -implicitDefEqProofs [hm, ix m hm, fit, rv, ret0 m77, i1]
      by_cases hv : (c[m]).2 ≤ y <;> simp -implicitDefEqProofs [hv]
    · simp -implicitDefEqProofs [hm]
  · exact ⟨Nat.zero_le _, Nat.le_refl _⟩
  · simp [k76_3]
  · rfl
  · intro nx a ha ih
    obtain ⟨i, j⟩ := a
    simp -implicitDefEqProofs [k76_3] at ha ih
    simp -implicitDefEqProofs [r76_3, k76_3]
    rw [bs]
    by_cases hij : i < j
    · have hh : (i + j) / 2 < c.length := by omega
      have w1 : IntKind.i64.wrap ((i : Int) + (j : Int)) = ((i + j : Nat) : Int) := by rw [wrap64 (by omega) (by omega)]; rfl
      have w2 : IntKind.u64.wrap ((i + j : Nat) : Int) = ((i + j : Nat) : Int) := wrapU (by omega)
      have w3 : IntKind.i64.wrap (((i + j) / 2 : Nat) : Int) = (((i + j) / 2 : Nat) : Int) := wrap64 (by omega) (by omega)
      have w4 : IntKind.i64.wrap ((((i + j) / 2 : Nat) : Int) + 1) = (((i + j) / 2 + 1 : Nat) : Int) := by rw [wrap64 (by omega) (by omega)]; rfl
      simp -implicitDefEqProofs [hij, w1, w2, shr_half, w3, ix _ hh, fit, rv, ret0 m77, i1, -Int.natCast_add, -Int.natCast_ediv, -Int.natCast_emod]
      rw [ud _ hh]
      by_cases hv : (c[(i + j) / 2]).2 ≤ y
      · have := ih ((i + j) / 2 + 1) j (by omega) (by omega) (by omega)
        simp -implicitDefEqProofs [hv, w4, trim_le, -Int.natCast_add, -Int.natCast_ediv, -Int.natCast_emod] at this ⊢
        exact this
      · have := ih i ((i + j) / 2) (by omega) (by omega) (by omega)
        simp -implicitDefEqProofs [hv, trim_le, -Int.natCast_add, -Int.natCast_ediv, -Int.natCast_emod] at this ⊢
        exact this
    · simp -implicitDefEqProofs [hij, trim_le]

def pslab (c : List (Slab)) (y : Int) (k : Nat) : Bool := decide ((c.getD k ⟨0, 0, []⟩).x1 ≤ y)
theorem slab_loop (c : List (Slab)) (y : Int) (hc : c.length ≤ 1000000) :
    pureCall E.P (L E) 60 [lst false (slabR.vals c), .int .i64 y, .func (.func 61) ⟨[]⟩ ⟨[]⟩] = some (.tuple ⟨[.int .i64 ((bs (pslab c y) 0 c.length : Nat) : Int), .bool false]⟩) := by
  have i1 := fun s => at1_spec s y
  have ix : ∀ (i : Nat) (hi : i < c.length), indexAddrT (.sl 61 ⟨some true, some 3⟩) (lst false (slabR.vals c)) (.int .i64 (i : Int)) = some (cptr (slabR.val c[i])) := fun i hi => Rec.index_tree rfl hi
  have fit : ∀ s, fitsTT ⟨some true, some 3⟩ (slabR.val s) = true := fun s => rfl
  have sv : ∀ s, settled 8 (slabR.val s) = true := fun s => rfl
  have rv : ∀ s h, reify E.P 8 h (slabR.val s) = some (slabR.val s) := fun s h => by rw [slab_val]; rfl
  have ud : ∀ (k : Nat) (hk : k < c.length), pslab c y k = decide ((c[k]).x1 ≤ y) := fun k hk => by unfold pslab; rw [List.getD_eq_getElem?_getD, List.getElem?_eq_getElem hk]; rfl
  rw [pureCall_fn F60 rfl]
  simp -implicitDefEqProofs [r60, padS, Rec.vals_len]
  rw [LL_rec (α := Nat × Nat) (0, c.length) (fun a => [(9, .int .i64 a.1), (10, .int .i64 a.2)]) (fun a => []) (fun a => (.exit 0, [(9, .int .i64 ((bs (pslab c y) a.1 a.2 : Nat) : Int)), (10, undef)], [])) (fun a => a.1 ≤ a.2 ∧ a.2 ≤ c.length) (fun a => a.2 - a.1)]
  · have hle := bs_le (p := pslab c y) (n := c.length) _ 0 c.length rfl (Nat.zero_le _) (Nat.le_refl _)
    generalize bs (pslab c y) 0 c.length = m at hle ⊢
    simp -implicitDefEqProofs [k60_3]
    by_cases hm : m < c.length
    · have e : ¬ (m = c.length) := by omega
      simp -implicitDefEqProofs [hm, ix m hm, fit, rv, ret0 m61, i1]
      by_cases hv : (c[m]).x1 ≤ y <;> simp -implicitDefEqProofs [hv]
    · simp -implicitDefEqProofs [hm]
  · exact ⟨Nat.zero_le _, Nat.le_refl _⟩
  · simp [k60_3]
  · rfl
  · intro nx a ha ih
    obtain ⟨i, j⟩ := a
    simp -implicitDefEqProofs [k60_3] at ha ih
    simp -implicitDefEqProofs [r60_3, k60_3]
    rw [bs]
    by_cases hij : i < j
    · have hh : (i + j) / 2 < c.length := by omega
      have w1 : IntKind.i64.wrap ((i : Int) + (j : Int)) = ((i + j : Nat) : Int) := by rw [wrap64 (by omega) (by omega)]; rfl
      have w2 : IntKind.u64.wrap ((i + j : Nat) : Int) = ((i + j : Nat) : Int) := wrapU (by omega)
      have w3 : IntKind.i64.wrap (((i + j) / 2 : Nat) : Int) = (((i + j) / 2 : Nat) : Int) := wrap64 (by omega) (by omega)
      have w4 : IntKind.i64.wrap ((((i + j) / 2 : Nat) : Int) + 1) = (((i + j) / 2 + 1 : Nat) : Int) := by rw [wrap64 (by omega) (by omega)]; rfl
      simp -implicitDefEqProofs [hij, w1, w2, shr_half, w3, ix _ hh, fit, rv, ret0 m61, i1, -Int.natCast_add, -Int.natCast_ediv, -Int.natCast_emod]
      rw [ud _ hh]
      by_cases hv : (c[(i + j) / 2]).x1 ≤ y
      · have := ih ((i + j) / 2 + 1) j (by omega) (by omega) (by omega)
        simp -implicitDefEqProofs [hv, w4, trim_le, -Int.natCast_add, -Int.natCast_ediv, -Int.natCast_emod] at this ⊢
        exact this
      · have := ih i ((i + j) / 2) (by omega) (by omega) (by omega)
        simp -implicitDefEqProofs [hv, trim_le, -Int.natCast_add, -Int.natCast_ediv, -Int.natCast_emod] at this ⊢
        exact this
    · simp -implicitDefEqProofs [hij, trim_le]
end Go.Proofs.Ytgeebooalafepaa.Bm
