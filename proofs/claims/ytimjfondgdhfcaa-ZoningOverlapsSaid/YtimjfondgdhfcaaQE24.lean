/-
  The reference of polygons, plain: when corners are right, and the edges over a column. Conditions: none. No program in sight.
-/
import Derived.Test.YtimjfondgdhfcaaQE23
import Derived.Test.YtimjfondgdhfcaaQE19
import Derived.Test.YtimjfondgdhfcaaQE20
namespace Go.Proofs.Ytimjfondgdhfcaa.Bm
open Go Go.RowKit
open Rg (swp)
def odd (i : Nat) : Bool := decide (((i % 2 : Nat) : Int) = 1)
theorem odd_succ (i : Nat) : odd (i + 1) = !odd i := by
  unfold odd
  by_cases h : i % 2 = 1
  · have h' : (i + 1) % 2 = 0 := by omega
    rw [h, h']; rfl
  · have h0 : i % 2 = 0 := by omega
    have h' : (i + 1) % 2 = 1 := by omega
    rw [h0, h']; rfl
theorem swp_left (f : Bool → Bool → Bool) {a b : List Int} {i k : Nat} (hi : i < a.length) (hk : b.length ≤ k ∨ ∃ h : k < b.length, a[i] < b[k]) (w : Bool) :
    swp f (a.drop i) (b.drop k) (odd i) (odd k) w = (if f (odd (i + 1)) (odd k) = w then [] else [a[i]]) ++ swp f (a.drop (i + 1)) (b.drop k) (odd (i + 1)) (odd k) (f (odd (i + 1)) (odd k)) := by
  rw [List.drop_eq_getElem_cons hi, odd_succ]
  rcases hk with hk | ⟨hk, hlt⟩
  · rw [List.drop_of_length_le hk, swp]
  · rw [List.drop_eq_getElem_cons hk, swp, if_pos hlt]
theorem swp_right (f : Bool → Bool → Bool) {a b : List Int} {i k : Nat} (hk : k < b.length) (hi : a.length ≤ i ∨ ∃ h : i < a.length, b[k] < a[i]) (w : Bool) :
    swp f (a.drop i) (b.drop k) (odd i) (odd k) w = (if f (odd i) (odd (k + 1)) = w then [] else [b[k]]) ++ swp f (a.drop i) (b.drop (k + 1)) (odd i) (odd (k + 1)) (f (odd i) (odd (k + 1))) := by
  rw [List.drop_eq_getElem_cons hk, odd_succ]
  rcases hi with hi | ⟨hi, hlt⟩
  · rw [List.drop_of_length_le hi, swp]
  · rw [List.drop_eq_getElem_cons hi, swp, if_neg (by omega), if_pos hlt]
theorem swp_both (f : Bool → Bool → Bool) {a b : List Int} {i k : Nat} (hi : i < a.length) (hk : k < b.length) (he : a[i] = b[k]) (w : Bool) :
    swp f (a.drop i) (b.drop k) (odd i) (odd k) w = (if f (odd (i + 1)) (odd (k + 1)) = w then [] else [a[i]]) ++ swp f (a.drop (i + 1)) (b.drop (k + 1)) (odd (i + 1)) (odd (k + 1)) (f (odd (i + 1)) (odd (k + 1))) := by
  rw [List.drop_eq_getElem_cons hi, List.drop_eq_getElem_cons hk, odd_succ, odd_succ, swp, if_neg (by omega), if_neg (by omega)]
set_option maxHeartbeats 4000000 in
theorem rcombine_spec (a b : List Int) (z : Int) (f : Bool → Bool → Bool) (hz : (z = 0 ∧ f = orF) ∨ (z = 1 ∧ f = andF) ∨ (z = 2 ∧ f = subF)) (ha : a.length ≤ 100000) (hb : b.length ≤ 100000) :
    pureCall E.P (L E) 44 [iT a, iT b, .int .i64 z] = some (iT (swp f a b false false false)) := by
  have ub : E.P.underlying 4 = some .bool := by kernel_rfl
  have bne : ∀ p q, aBin E.P .neq 4 (.bool p) (.bool q) = some (.bool (!(p == q))) := fun p q => bin_neq_bool ub
  rw [pureCall_fn F44 rfl]
  simp -implicitDefEqProofs [r44, p44, prep_new, newK_nil s3]
  rw [LL_rec (α := Nat × Nat × Bool × List Int) (0, 0, false, []) (fun s => [(7, intR.sl 0 s.2.2.2), (8, .int .i64 (s.1 : Int)), (9, .int .i64 (s.2.1 : Int)), (10, .bool s.2.2.1)]) (fun s => [intR.row 3 s.2.2.2])
    (fun s => (.exit 0, [(7, intR.sl 0 (s.2.2.2 ++ swp f (a.drop s.1) (b.drop s.2.1) (odd s.1) (odd s.2.1) s.2.2.1)), (8, undef), (9, undef), (10, undef)], [intR.row 3 (s.2.2.2 ++ swp f (a.drop s.1) (b.drop s.2.1) (odd s.1) (odd s.2.1) s.2.2.1)]))
    (fun s => s.1 ≤ a.length ∧ s.2.1 ≤ b.length ∧ s.2.2.2.length ≤ s.1 + s.2.1) (fun s => (a.length - s.1) + (b.length - s.2.1))]
  · have rr := int_reifyR (h := [intR.row 3 (swp f a b false false false)]) (b := 0) (l := swp f a b false false false) rfl
    have o0 : odd 0 = false := rfl
    simp -implicitDefEqProofs [k44_5, o0, rr]
  · exact ⟨Nat.zero_le _, Nat.zero_le _, Nat.zero_le _⟩
  · simp -implicitDefEqProofs [k44_5, Rec.sl_nil]
  · rfl
  · intro nx s hI ih
    obtain ⟨i, k, w, out⟩ := s
    obtain ⟨h1, h2, h3⟩ := hI
    simp only at h1 h2 h3 ih ⊢
    have wi : IntKind.i64.wrap ((i : Int) + 1) = ((i + 1 : Nat) : Int) := wrap64 (by omega) (by omega)
    have wk : IntKind.i64.wrap ((k : Int) + 1) = ((k + 1 : Nat) : Int) := wrap64 (by omega) (by omega)
    have rem2 : ∀ m : Nat, aBin E.P .rem 3 (.int .i64 (m : Int)) (.int .i64 2) = some (.int .i64 ((m % 2 : Nat) : Int)) := fun m => rem_nat (m := m) (n := 2) (by omega)
    have ap := fun (y : Int) => app_num (h := [intR.row 3 out]) (b := 0) (lo := 0) (c := out) y rfl (Nat.le_refl _) (by omega)
    have wl : 0 < b.length → IntKind.i64.wrap ((b.length : Int) - 1) = ((b.length - 1 : Nat) : Int) := fun h => (wrap64 (by omega) (by omega)).trans (by omega)
    by_cases hi : i < a.length
    · have hii : (i : Int) < (a.length : Int) := by omega
      have ixi := iT_index hi
      by_cases hk : k < b.length
      · have hkk : (k : Int) < (b.length : Int) := by omega
        have ixk := iT_index hk
        have hkn : ¬ ((b.length : Int) ≤ (k : Int)) := by omega
        have mn : min (k : Int) ((b.length - 1 : Nat) : Int) = (k : Int) := by omega
        have wl := wl (by omega)
        rcases Int.lt_trichotomy a[i] b[k] with hab | hab | hab
        · skip
          rw [swp_left f hi (.inr ⟨hk, hab⟩) w]
          have ih := fun out' (hl : out'.length ≤ out.length + 1) => ih (i + 1, k, f (odd (i + 1)) (odd (k)), out') (by simp only; omega) (by simp only; omega)
          simp only at ih
          have ri := rem2 (i + 1)
          have rk := rem2 (k)
          have oi : decide ((((i + 1) % 2 : Nat) : Int) = 1) = odd (i + 1) := rfl
          have ok : decide ((((k) % 2 : Nat) : Int) = 1) = odd (k) := rfl
          generalize ((((i + 1) % 2 : Nat)) : Int) = mi at ri oi
          generalize ((((k) % 2 : Nat)) : Int) = mk at rk ok
          generalize odd (i + 1) = p at *
          generalize odd (k) = q at *
          have hle : a[i] ≤ b[k] := by omega
          have hne : ¬ (b[k] = a[i]) := by omega
          simp -implicitDefEqProofs [k44_5, -List.append_assoc, -Int.natCast_add] at ih
          rw [← List.append_assoc]
          rcases hz with ⟨rfl, rfl⟩ | ⟨rfl, rfl⟩ | ⟨rfl, rfl⟩
          · cases p <;> cases q <;> cases w <;>
              simp -implicitDefEqProofs [r44_5, k44_5, orF, iT_len, hii, hkk, hkn, wl, mn, min_int, ixi, ixk, hle, hne, wi, ri, rk, oi, ok, bne, lit_num, ap, trim_le, -Int.natCast_add, -List.append_assoc] <;>
              first
              | exact ih out (Nat.le_succ _)
              | exact ih (out ++ [a[i]]) (by simp)
          · cases p <;> cases q <;> cases w <;>
              simp -implicitDefEqProofs [r44_5, k44_5, andF, iT_len, hii, hkk, hkn, wl, mn, min_int, ixi, ixk, hle, hne, wi, ri, rk, oi, ok, bne, lit_num, ap, trim_le, -Int.natCast_add, -List.append_assoc] <;>
              first
              | exact ih out (Nat.le_succ _)
              | exact ih (out ++ [a[i]]) (by simp)
          · cases p <;> cases q <;> cases w <;>
              simp -implicitDefEqProofs [r44_5, k44_5, subF, iT_len, hii, hkk, hkn, wl, mn, min_int, ixi, ixk, hle, hne, wi, ri, rk, oi, ok, bne, lit_num, ap, trim_le, -Int.natCast_add, -List.append_assoc] <;>
              first
              | exact ih out (Nat.le_succ _)
              | exact ih (out ++ [a[i]]) (by simp)
        · skip
          rw [swp_both f hi hk hab w]
          have ih := fun out' (hl : out'.length ≤ out.length + 1) => ih (i + 1, k + 1, f (odd (i + 1)) (odd (k + 1)), out') (by simp only; omega) (by simp only; omega)
          simp only at ih
          have ri := rem2 (i + 1)
          have rk := rem2 (k + 1)
          have oi : decide ((((i + 1) % 2 : Nat) : Int) = 1) = odd (i + 1) := rfl
          have ok : decide ((((k + 1) % 2 : Nat) : Int) = 1) = odd (k + 1) := rfl
          generalize ((((i + 1) % 2 : Nat)) : Int) = mi at ri oi
          generalize ((((k + 1) % 2 : Nat)) : Int) = mk at rk ok
          generalize odd (i + 1) = p at *
          generalize odd (k + 1) = q at *
          have hle : b[k] ≤ b[k] := Int.le_refl _
          rw [hab] at ixi ⊢
          simp -implicitDefEqProofs [k44_5, -List.append_assoc, -Int.natCast_add] at ih
          rw [← List.append_assoc]
          rcases hz with ⟨rfl, rfl⟩ | ⟨rfl, rfl⟩ | ⟨rfl, rfl⟩
          · cases p <;> cases q <;> cases w <;>
              simp -implicitDefEqProofs [r44_5, k44_5, orF, iT_len, hii, hkk, hkn, wl, mn, min_int, ixi, ixk, wi, wk, ri, rk, oi, ok, bne, lit_num, ap, trim_le, -Int.natCast_add, -List.append_assoc] <;>
              first
              | exact ih out (Nat.le_succ _)
              | exact ih (out ++ [b[k]]) (by simp)
          · cases p <;> cases q <;> cases w <;>
              simp -implicitDefEqProofs [r44_5, k44_5, andF, iT_len, hii, hkk, hkn, wl, mn, min_int, ixi, ixk, wi, wk, ri, rk, oi, ok, bne, lit_num, ap, trim_le, -Int.natCast_add, -List.append_assoc] <;>
              first
              | exact ih out (Nat.le_succ _)
              | exact ih (out ++ [b[k]]) (by simp)
          · cases p <;> cases q <;> cases w <;>
              simp -implicitDefEqProofs [r44_5, k44_5, subF, iT_len, hii, hkk, hkn, wl, mn, min_int, ixi, ixk, wi, wk, ri, rk, oi, ok, bne, lit_num, ap, trim_le, -Int.natCast_add, -List.append_assoc] <;>
              first
              | exact ih out (Nat.le_succ _)
              | exact ih (out ++ [b[k]]) (by simp)
        · skip
          rw [swp_right f hk (.inr ⟨hi, hab⟩) w]
          have ih := fun out' (hl : out'.length ≤ out.length + 1) => ih (i, k + 1, f (odd (i)) (odd (k + 1)), out') (by simp only; omega) (by simp only; omega)
          simp only at ih
          have ri := rem2 (i)
          have rk := rem2 (k + 1)
          have oi : decide ((((i) % 2 : Nat) : Int) = 1) = odd (i) := rfl
          have ok : decide ((((k + 1) % 2 : Nat) : Int) = 1) = odd (k + 1) := rfl
          generalize ((((i) % 2 : Nat)) : Int) = mi at ri oi
          generalize ((((k + 1) % 2 : Nat)) : Int) = mk at rk ok
          generalize odd (i) = p at *
          generalize odd (k + 1) = q at *
          have hle : ¬ (a[i] ≤ b[k]) := by omega
          have hne : ¬ (a[i] = b[k]) := by omega
          simp -implicitDefEqProofs [k44_5, -List.append_assoc, -Int.natCast_add] at ih
          rw [← List.append_assoc]
          rcases hz with ⟨rfl, rfl⟩ | ⟨rfl, rfl⟩ | ⟨rfl, rfl⟩
          · cases p <;> cases q <;> cases w <;>
              simp -implicitDefEqProofs [r44_5, k44_5, orF, iT_len, hii, hkk, hkn, wl, mn, min_int, ixi, ixk, hle, hne, wk, ri, rk, oi, ok, bne, lit_num, ap, trim_le, -Int.natCast_add, -List.append_assoc] <;>
              first
              | exact ih out (Nat.le_succ _)
              | exact ih (out ++ [b[k]]) (by simp)
          · cases p <;> cases q <;> cases w <;>
              simp -implicitDefEqProofs [r44_5, k44_5, andF, iT_len, hii, hkk, hkn, wl, mn, min_int, ixi, ixk, hle, hne, wk, ri, rk, oi, ok, bne, lit_num, ap, trim_le, -Int.natCast_add, -List.append_assoc] <;>
              first
              | exact ih out (Nat.le_succ _)
              | exact ih (out ++ [b[k]]) (by simp)
          · cases p <;> cases q <;> cases w <;>
              simp -implicitDefEqProofs [r44_5, k44_5, subF, iT_len, hii, hkk, hkn, wl, mn, min_int, ixi, ixk, hle, hne, wk, ri, rk, oi, ok, bne, lit_num, ap, trim_le, -Int.natCast_add, -List.append_assoc] <;>
              first
              | exact ih out (Nat.le_succ _)
              | exact ih (out ++ [b[k]]) (by simp)
      · have hkn : (b.length : Int) ≤ (k : Int) := by omega
        have hkn' : b.length ≤ k := by omega
        · skip
          rw [swp_left f hi (.inl hkn') w]
          have ih := fun out' (hl : out'.length ≤ out.length + 1) => ih (i + 1, k, f (odd (i + 1)) (odd (k)), out') (by simp only; omega) (by simp only; omega)
          simp only at ih
          have ri := rem2 (i + 1)
          have rk := rem2 (k)
          have oi : decide ((((i + 1) % 2 : Nat) : Int) = 1) = odd (i + 1) := rfl
          have ok : decide ((((k) % 2 : Nat) : Int) = 1) = odd (k) := rfl
          generalize ((((i + 1) % 2 : Nat)) : Int) = mi at ri oi
          generalize ((((k) % 2 : Nat)) : Int) = mk at rk ok
          generalize odd (i + 1) = p at *
          generalize odd (k) = q at *
          have hkk : ¬ ((k : Int) < (b.length : Int)) := by omega
          simp -implicitDefEqProofs [k44_5, -List.append_assoc, -Int.natCast_add] at ih
          rw [← List.append_assoc]
          rcases hz with ⟨rfl, rfl⟩ | ⟨rfl, rfl⟩ | ⟨rfl, rfl⟩
          · cases p <;> cases q <;> cases w <;>
              simp -implicitDefEqProofs [r44_5, k44_5, orF, iT_len, hii, hkk, hkn, ixi, wi, ri, rk, oi, ok, bne, lit_num, ap, trim_le, -Int.natCast_add, -List.append_assoc] <;>
              first
              | exact ih out (Nat.le_succ _)
              | exact ih (out ++ [a[i]]) (by simp)
          · cases p <;> cases q <;> cases w <;>
              simp -implicitDefEqProofs [r44_5, k44_5, andF, iT_len, hii, hkk, hkn, ixi, wi, ri, rk, oi, ok, bne, lit_num, ap, trim_le, -Int.natCast_add, -List.append_assoc] <;>
              first
              | exact ih out (Nat.le_succ _)
              | exact ih (out ++ [a[i]]) (by simp)
          · cases p <;> cases q <;> cases w <;>
              simp -implicitDefEqProofs [r44_5, k44_5, subF, iT_len, hii, hkk, hkn, ixi, wi, ri, rk, oi, ok, bne, lit_num, ap, trim_le, -Int.natCast_add, -List.append_assoc] <;>
              first
              | exact ih out (Nat.le_succ _)
              | exact ih (out ++ [a[i]]) (by simp)
    · have hii : ¬ ((i : Int) < (a.length : Int)) := by omega
      by_cases hk : k < b.length
      · have hkk : (k : Int) < (b.length : Int) := by omega
        have ixk := iT_index hk
        · skip
          rw [swp_right f hk (.inl (by omega)) w]
          have ih := fun out' (hl : out'.length ≤ out.length + 1) => ih (i, k + 1, f (odd (i)) (odd (k + 1)), out') (by simp only; omega) (by simp only; omega)
          simp only at ih
          have ri := rem2 (i)
          have rk := rem2 (k + 1)
          have oi : decide ((((i) % 2 : Nat) : Int) = 1) = odd (i) := rfl
          have ok : decide ((((k + 1) % 2 : Nat) : Int) = 1) = odd (k + 1) := rfl
          generalize ((((i) % 2 : Nat)) : Int) = mi at ri oi
          generalize ((((k + 1) % 2 : Nat)) : Int) = mk at rk ok
          generalize odd (i) = p at *
          generalize odd (k + 1) = q at *
          skip
          simp -implicitDefEqProofs [k44_5, -List.append_assoc, -Int.natCast_add] at ih
          rw [← List.append_assoc]
          rcases hz with ⟨rfl, rfl⟩ | ⟨rfl, rfl⟩ | ⟨rfl, rfl⟩
          · cases p <;> cases q <;> cases w <;>
              simp -implicitDefEqProofs [r44_5, k44_5, orF, iT_len, hii, hkk, ixk, wk, ri, rk, oi, ok, bne, lit_num, ap, trim_le, -Int.natCast_add, -List.append_assoc] <;>
              first
              | exact ih out (Nat.le_succ _)
              | exact ih (out ++ [b[k]]) (by simp)
          · cases p <;> cases q <;> cases w <;>
              simp -implicitDefEqProofs [r44_5, k44_5, andF, iT_len, hii, hkk, ixk, wk, ri, rk, oi, ok, bne, lit_num, ap, trim_le, -Int.natCast_add, -List.append_assoc] <;>
              first
              | exact ih out (Nat.le_succ _)
              | exact ih (out ++ [b[k]]) (by simp)
          · cases p <;> cases q <;> cases w <;>
              simp -implicitDefEqProofs [r44_5, k44_5, subF, iT_len, hii, hkk, ixk, wk, ri, rk, oi, ok, bne, lit_num, ap, trim_le, -Int.natCast_add, -List.append_assoc] <;>
              first
              | exact ih out (Nat.le_succ _)
              | exact ih (out ++ [b[k]]) (by simp)
      · have e1 : a.drop i = [] := List.drop_of_length_le (by omega)
        have e2 : b.drop k = [] := List.drop_of_length_le (by omega)
        rw [e1, e2]
        simp -implicitDefEqProofs [r44_5, k44_5, iT_len, hi, hk, swp, trim_le]
end Go.Proofs.Ytimjfondgdhfcaa.Bm
namespace Go.Proofs.Ytimjfondgdhfcaa.Bm
open Go Go.RowKit
open Rg (Rect Slab runs runsF outT emit stripL mergeC colC edgesX ends swp cell)
def refC (f : Bool → Bool → Bool) (a b : List Rect) (x : Int) : List (Int × Int) := mergeC f (colC a x) (colC b x)
def refL (f : Bool → Bool → Bool) (a b : List Rect) : List Rect := outT (runsF (stripL (refC f a b) (edgesX (a ++ b))))
theorem refC_ok (f : Bool → Bool → Bool) (hf : f false false = false) {a b : List Rect} (ha : ∀ r ∈ a, r.y0 < r.y1) (hb : ∀ r ∈ b, r.y0 < r.y1) (x : Int) : Rg.Can (refC f a b x) ∧ ∀ y, Rg.hasS (refC f a b x) y = f (cell a x y) (cell b x y) := by
  obtain ⟨h1, h2⟩ := Rg.mergeC_ok f hf (Rg.colC_ok ha x).1 (Rg.colC_ok hb x).1
  refine ⟨h1, fun y => ?_⟩
  rw [show Rg.hasS (refC f a b x) y = _ from h2 y, (Rg.colC_ok ha x).2, (Rg.colC_ok hb x).2]
theorem refL_ok (f : Bool → Bool → Bool) (hf : f false false = false) {a b : List Rect} (ha : ∀ r ∈ a, r.y0 < r.y1) (hb : ∀ r ∈ b, r.y0 < r.y1) : Rg.Form (refL f a b) ∧ ∀ x y, cell (refL f a b) x y = f (cell a x y) (cell b x y) := by
  have h1 : Rg.Steps (a ++ b) (cell a) := (Rg.cell_steps a).mono fun r hr => List.mem_append_left _ hr
  have h2 : Rg.Steps (a ++ b) (cell b) := (Rg.cell_steps b).mono fun r hr => List.mem_append_right _ hr
  exact Rg.strips_form (h1.op h2 f hf) (Rg.sortU_asc _) (Rg.edgesX_all _) (refC f a b) (fun x => (refC_ok f hf ha hb x).1) fun x _ y => (refC_ok f hf ha hb x).2 y
theorem next_run {x0 x1 : Int} {w : List (Int × Int)} {s : Slab} {T : List Slab} (h : s.col = [] ∨ s.col ≠ w) : outT (runs ⟨x0, x1, w⟩ (s :: T)) = emit ⟨x0, x1, w⟩ ++ outT (runs s T) := by
  by_cases e : s.col = w
  · have h0 : s.col = [] := h.resolve_right fun h => h e
    have hw : w = [] := by rw [← e, h0]
    subst hw
    rw [Rg.runs_none (s := ⟨x0, x1, []⟩) rfl, Rg.emit_nil (s := ⟨x0, x1, []⟩) rfl]; rfl
  · exact Rg.runs_stop (s := ⟨x0, x1, w⟩) e
theorem stripL_get (c : Int → List (Int × Int)) : ∀ (xs : List Int) (i : Nat) (h : i + 1 < xs.length), ∃ hs : i < (stripL c xs).length, (stripL c xs)[i] = ⟨xs[i], xs[i + 1], c xs[i]⟩
  | [], i, h => by simp at h
  | [_], i, h => by simp at h
  | a :: b :: xs, 0, _ => ⟨Nat.succ_pos _, rfl⟩
  | a :: b :: xs, i + 1, h => by
    obtain ⟨hs, e⟩ := stripL_get c (b :: xs) i (by simpa using h)
    exact ⟨Nat.succ_lt_succ hs, e⟩
theorem emit_len (s : Slab) : (emit s).length = s.col.length := List.length_map _
theorem emit_app (x0 x1 : Int) (c d : List (Int × Int)) : emit ⟨x0, x1, c ++ d⟩ = emit ⟨x0, x1, c⟩ ++ emit ⟨x0, x1, d⟩ := List.map_append
theorem ends_even : ∀ {c : List (Int × Int)} {j : Nat} (hj : j < c.length), (ends c)[2 * j]? = some c[j].1 ∧ (ends c)[2 * j + 1]? = some c[j].2
  | [], j, hj => by simp at hj
  | s :: c, 0, _ => ⟨rfl, rfl⟩
  | s :: c, j + 1, hj => ends_even (c := c) (j := j) (by simpa using hj)
theorem ends_at {c : List (Int × Int)} {j : Nat} (hj : j < c.length) : ∃ (h1 : 2 * j < (ends c).length) (h2 : 2 * j + 1 < (ends c).length), (ends c)[2 * j] = c[j].1 ∧ (ends c)[2 * j + 1] = c[j].2 := by
  have hl := Rg.ends_len c
  obtain ⟨e1, e2⟩ := ends_even hj
  refine ⟨by omega, by omega, ?_, ?_⟩
  · rw [List.getElem?_eq_getElem (by omega)] at e1; exact Option.some.inj e1
  · rw [List.getElem?_eq_getElem (by omega)] at e2; exact Option.some.inj e2
theorem out_get {P : List Rect} {x0 x1 x2 : Int} {c : List (Int × Int)} {j : Nat} (hj : j < c.length) :
    (P ++ (emit ⟨x0, x2, c.take j⟩ ++ emit ⟨x0, x1, c.drop j⟩))[P.length + j]? = some ⟨x0, c[j].1, x1, c[j].2⟩ := by
  rw [List.getElem?_append_right (by omega), Nat.add_sub_cancel_left, List.getElem?_append_right (by rw [emit_len]; simp; omega)]
  have e : (emit ⟨x0, x2, c.take j⟩).length = j := by rw [emit_len]; simp; omega
  rw [e, Nat.sub_self, List.drop_eq_getElem_cons hj]; rfl
theorem out_set {P : List Rect} {x0 x1 x2 : Int} {c : List (Int × Int)} {j : Nat} (hj : j < c.length) :
    (P ++ (emit ⟨x0, x2, c.take j⟩ ++ emit ⟨x0, x1, c.drop j⟩)).set (P.length + j) ⟨x0, c[j].1, x2, c[j].2⟩ = P ++ (emit ⟨x0, x2, c.take (j + 1)⟩ ++ emit ⟨x0, x1, c.drop (j + 1)⟩) := by
  have e : (emit ⟨x0, x2, c.take j⟩).length = j := by rw [emit_len]; simp; omega
  rw [List.set_append_right _ _ (by omega), Nat.add_sub_cancel_left, List.set_append_right _ _ (by omega), e, Nat.sub_self, List.drop_eq_getElem_cons hj, List.take_succ_eq_append_getElem hj, emit_app, List.append_assoc]
  rfl
theorem out_len {P : List Rect} {x0 x1 x2 : Int} {c : List (Int × Int)} {j : Nat} : (P ++ (emit ⟨x0, x2, c.take j⟩ ++ emit ⟨x0, x1, c.drop j⟩)).length = P.length + c.length := by
  rw [List.length_append, List.length_append, emit_len, emit_len, ← List.length_append]
  simp only [List.take_append_drop]
theorem rect_sl {b : Nat} {c d : List Rect} (h : c.length = d.length) : rectR.sl b c = rectR.sl b d := by unfold Rec.sl; rw [h]
structure FS where
  i : Nat
  P : List Rect
  x0 : Int
  w : List (Int × Int)
def FS.out (s : FS) (xs : List Int) : List Rect := if s.i = 0 then [] else s.P ++ emit ⟨s.x0, xs.getD s.i 0, s.w⟩
def FS.was (s : FS) : Value := if s.i = 0 then .slice none 0 0 else iT (ends s.w)
def bnd (i : Nat) : Nat := (i + 1) * 5000
theorem bnd_succ (i : Nat) : bnd (i + 1) = bnd i + 5000 := by unfold bnd; omega
theorem bnd_le {i : Nat} (h : i ≤ 2000) : bnd i ≤ 100000000 := by unfold bnd; omega
def FS.ok (s : FS) (xs : List Int) (S : List Slab) (F : List Rect) : Prop := s.i ≤ S.length ∧ (s.i = 0 → s.P = []) ∧ (s.i ≠ 0 → s.P ++ outT (runs ⟨s.x0, xs.getD s.i 0, s.w⟩ (S.drop s.i)) = F) ∧ s.P.length + s.w.length ≤ bnd s.i ∧ s.w.length ≤ 5000
theorem swp_len (f : Bool → Bool → Bool) : ∀ (A B : List Int) (p q w : Bool), (swp f A B p q w).length ≤ A.length + B.length
  | [], [], _, _, _ => by simp [swp]
  | a :: A, [], p, q, w => by
    have := swp_len f A [] (!p) q (f (!p) q)
    rw [swp, List.length_append]
    split <;> simp at * <;> omega
  | [], b :: B, p, q, w => by
    have := swp_len f [] B p (!q) (f p (!q))
    rw [swp, List.length_append]
    split <;> simp at * <;> omega
  | a :: A, b :: B, p, q, w => by
    have h1 := swp_len f A (b :: B) (!p) q (f (!p) q)
    have h2 := swp_len f (a :: A) B p (!q) (f p (!q))
    have h3 := swp_len f A B (!p) (!q) (f (!p) (!q))
    rw [swp]
    split
    · rw [List.length_append]; split <;> simp at * <;> omega
    · split
      · rw [List.length_append]; split <;> simp at * <;> omega
      · rw [List.length_append]; split <;> simp at * <;> omega
termination_by A B => A.length + B.length
set_option maxHeartbeats 4000000 in
theorem form_L (k m : Option Bool) (a b : List Rect) (z : Int) (f : Bool → Bool → Bool) (hz : (z = 0 ∧ f = orF) ∨ (z = 1 ∧ f = andF) ∨ (z = 2 ∧ f = subF)) (hk : Rec.Ok k a) (hm : Rec.Ok m b) (hab : a.length + b.length ≤ 1000) (hya : ∀ r ∈ a, r.y0 < r.y1) (hyb : ∀ r ∈ b, r.y0 < r.y1)
    (h : Heap) (lo : Nat) (hlo0 : lo ≤ h.length) :
    L E 22 [rectR.o k a, rectR.o m b, .int .i64 z] h lo = some (rectR.sl h.length (refL f a b), h ++ [rectR.row 55 (refL f a b)]) := by
  have ha : a.length ≤ 1000 := by omega
  have hb : b.length ≤ 1000 := by omega
  have hl1 : ∀ x : AObj, (h ++ [x]).length = h.length + 1 := fun x => by simp
  have hf : f false false = false := by rcases hz with ⟨_, rfl⟩ | ⟨_, rfl⟩ | ⟨_, rfl⟩ <;> rfl
  have ed := edges_spec k m a b hk hm (by omega) (by omega)
  have col : ∀ x, ∃ ca cb, pureCall E.P (L E) 45 [rectR.o k a, .int .i64 x] = some (iT ca) ∧ pureCall E.P (L E) 45 [rectR.o m b, .int .i64 x] = some (iT cb) ∧ pureCall E.P (L E) 44 [iT ca, iT cb, .int .i64 z] = some (iT (ends (refC f a b x))) ∧ (refC f a b x).length ≤ 2000 := fun x => by
    have c1 := rcolumn_spec k a x hk (by omega)
    have c2 := rcolumn_spec m b x hm (by omega)
    rw [ref_col hya] at c1
    rw [ref_col hyb] at c2
    have l1 := Rg.colC_len a x
    have l2 := Rg.colC_len b x
    have l3 := Rg.ends_len (colC a x)
    have l4 := Rg.ends_len (colC b x)
    have c3 := rcombine_spec (ends (colC a x)) (ends (colC b x)) z f hz (by omega) (by omega)
    obtain ⟨q1, q2⟩ := Rg.mergeC_ok f hf (Rg.colC_ok hya x).1 (Rg.colC_ok hyb x).1
    have e := Rg.swp_col f hf (Rg.colC_ok hya x).1 (Rg.colC_ok hyb x).1 q1 q2
    have ll := swp_len f (ends (colC a x)) (ends (colC b x)) false false false
    rw [e] at c3 ll
    rw [Rg.ends_len] at ll
    exact ⟨_, _, c1, c2, c3, by show (mergeC f (colC a x) (colC b x)).length ≤ 2000; omega⟩
  have hxs : (edgesX (a ++ b)).length ≤ 2000 := by
    have := Rg.edgesX_len (a ++ b)
    rw [List.length_append] at this; omega
  have so : ∀ k l, settled depth (rectR.o k l) = true := fun k l => Rec.o_set
  have so2 : ∀ l, settled depth (iT l) = true := fun _ => rfl
  have so3 : ∀ z, settled depth (.int .i64 z) = true := fun _ => rfl
  rw [L_fn F22 rfl]
  simp -implicitDefEqProofs [r22, p22, prep_new, newK_nil s32, ret1 m43, so, ed]
  unfold refL
  generalize hxe : edgesX (a ++ b) = xs at hxs ⊢
  have hSl := Rg.stripL_len (refC f a b) xs
  have hSg := stripL_get (refC f a b) xs
  generalize hSe : stripL (refC f a b) xs = S at hSl hSg ⊢
  generalize hFe : outT (runsF S) = F
  rw [LL_rec (α := FS) ⟨0, [], 0, []⟩ (fun s => [(7, rectR.sl h.length (s.out xs)), (9, s.was), (10, .int .i64 (s.P.length : Int)), (11, .int .i64 (s.i : Int))]) (fun s => (h ++ [rectR.row 55 (s.out xs)]))
    (fun _ => (.exit 0, [(7, rectR.sl h.length F), (9, undef), (10, undef), (11, undef)], (h ++ [rectR.row 55 F]))) (fun s => s.ok xs S F) (fun s => S.length - s.i)]
  · simp -implicitDefEqProofs [k22_6]
  · exact ⟨Nat.zero_le _, fun _ => rfl, fun h => absurd rfl h, Nat.zero_le _, Nat.zero_le _⟩
  · simp -implicitDefEqProofs [k22_6, FS.out, FS.was, Rec.sl_nil]
  · rfl
  · intro nx s hI ih
    obtain ⟨i, P, x0, w⟩ := s
    obtain ⟨h1, h2, h3, h4, h5⟩ := hI
    simp only at h1 h2 h3 h4 h5
    have hS2 : S.length ≤ 2000 := by omega
    have hgx : ∀ j (hj : j < xs.length), xs.getD j 0 = xs[j] := fun j hj => by rw [List.getD_eq_getElem?_getD, List.getElem?_eq_getElem hj]; rfl
    by_cases hi : i + 1 < xs.length
    · obtain ⟨hs, eS⟩ := hSg i hi
      have hdS : S.drop i = ⟨xs[i], xs[i + 1], refC f a b xs[i]⟩ :: S.drop (i + 1) := by rw [List.drop_eq_getElem_cons hs, eS]
      obtain ⟨ca, cb, q1, q2, q3, q4⟩ := col xs[i]
      generalize refC f a b xs[i] = c at q3 q4 hdS
      have w1 : IntKind.i64.wrap ((i : Int) + 1) = ((i + 1 : Nat) : Int) := wrap64 (by omega) (by omega)
      have hii : ((i + 1 : Nat) : Int) < (xs.length : Int) := by omega
      have ix0 := iT_index (l := xs) (i := i) (by omega)
      have ix1 := iT_index (l := xs) (i := i + 1) hi
      have hel := Rg.ends_len c
      have gx0 := hgx i (by omega)
      have gx1 := hgx (i + 1) hi
      by_cases hmg : i ≠ 0 ∧ c ≠ [] ∧ c = w
      · obtain ⟨hi0, hc0, hcw⟩ := hmg
        subst hcw
        have h3 := h3 hi0
        rw [hdS, Rg.runs_step (s := ⟨x0, xs.getD i 0, c⟩) (u := ⟨xs[i], xs[i + 1], c⟩) rfl] at h3
        have h4' : P.length + c.length ≤ bnd (i + 1) := by rw [bnd_succ]; omega
        have ih := ih ⟨i + 1, P, x0, c⟩ (by show S.length - (i + 1) < S.length - i; omega) ⟨by show i + 1 ≤ S.length; omega, fun h => absurd h (Nat.succ_ne_zero i), fun _ => by show P ++ outT (runs ⟨x0, xs.getD (i + 1) 0, c⟩ (S.drop (i + 1))) = F; rw [gx1]; exact h3, h4', h5⟩
        have eo : FS.out ⟨i, P, x0, c⟩ xs = P ++ emit ⟨x0, xs[i], c⟩ := by unfold FS.out; rw [if_neg hi0, gx0]
        have eo1 : FS.out ⟨i + 1, P, x0, c⟩ xs = P ++ emit ⟨x0, xs[i + 1], c⟩ := by unfold FS.out; rw [if_neg (Nat.succ_ne_zero i), gx1]
        have ew : FS.was ⟨i, P, x0, c⟩ = iT (ends c) := if_neg hi0
        have ew1 : FS.was ⟨i + 1, P, x0, c⟩ = iT (ends c) := if_neg (Nat.succ_ne_zero i)
        simp only [eo1, ew1] at ih
        simp only [eo, ew]
        have hipos : (0 : Int) < (i : Int) := by omega
        have hiposN : 0 < i := by omega
        have hcpos : 0 < c.length := List.length_pos_iff.2 hc0
        have hepos : 0 < (ends c).length := by omega
        have hepos' : (0 : Int) < ((ends c).length : Int) := by omega
        have ci := ints_spec (ends c) (ends c) (by omega)
        rw [decide_eq_true rfl] at ci
        have hlo : (P ++ emit ⟨x0, xs[i], c⟩).length = P.length + c.length := by rw [List.length_append, emit_len]
        simp -implicitDefEqProofs [k22_6] at ih
        simp -implicitDefEqProofs [r22_6, k22_6, iT_len, w1, hii, ix0, ret1 m45, ret1 m44, so, so2, so3, q1, q2, q3, hiposN, hepos, ret0 m46, iT_reify, ci, -Int.natCast_add]
        rw [LL_rec (α := Nat) 0 (fun j => [(13, .int .i64 ((P.length + j : Nat) : Int))]) (fun j => (h ++ [rectR.row 55 (P ++ (emit ⟨x0, xs[i + 1], c.take j⟩ ++ emit ⟨x0, xs[i], c.drop j⟩))]))
          (fun _ => (.exit 2, [(13, undef)], (h ++ [rectR.row 55 (P ++ emit ⟨x0, xs[i + 1], c⟩)]))) (fun j => j ≤ c.length) (fun j => c.length - j)]
        · have esl : rectR.sl h.length (P ++ emit ⟨x0, xs[i + 1], c⟩) = rectR.sl h.length (P ++ emit ⟨x0, xs[i], c⟩) := rect_sl (by rw [List.length_append, List.length_append, emit_len, emit_len])
          rw [esl] at ih
          simp -implicitDefEqProofs [k22_11, w1, trim_le, -Int.natCast_add]
          exact ih
        · exact Nat.zero_le _
        · simp -implicitDefEqProofs [k22_11]
        · rfl
        · intro nx j hj ih
          by_cases hjc : j < c.length
          · have ih := ih (j + 1) (by omega) (by omega)
            have hgt : P.length + j < (P ++ (emit ⟨x0, xs[i + 1], c.take j⟩ ++ emit ⟨x0, xs[i], c.drop j⟩)).length := by rw [out_len]; omega
            have eg : (P ++ (emit ⟨x0, xs[i + 1], c.take j⟩ ++ emit ⟨x0, xs[i], c.drop j⟩))[P.length + j] = ⟨x0, c[j].1, xs[i], c[j].2⟩ := by
              have := out_get (P := P) (x0 := x0) (x1 := xs[i]) (x2 := xs[i + 1]) hjc
              rw [List.getElem?_eq_getElem hgt] at this
              exact Option.some.inj this
            have es := out_set (P := P) (x0 := x0) (x1 := xs[i]) (x2 := xs[i + 1]) hjc
            have esl : rectR.sl h.length (P ++ emit ⟨x0, xs[i], c⟩) = rectR.sl h.length (P ++ (emit ⟨x0, xs[i + 1], c.take j⟩ ++ emit ⟨x0, xs[i], c.drop j⟩)) := rect_sl (by rw [out_len, hlo])
            have w2 : IntKind.i64.wrap (((P.length + j : Nat) : Int) + 1) = ((P.length + (j + 1) : Nat) : Int) := by
              have := bnd_le (i := i) (by omega)
              exact (wrap64 (by omega) (by omega)).trans (by omega)
            have hlt : ((P.length + j : Nat) : Int) < ((P.length + c.length : Nat) : Int) := by omega
            have hltN : P.length + j < P.length + c.length := by omega
            have ixr := Rec.index_row (R := rectR) (h0 := 4) (t := 55) (g := some true) (b := h.length) (l := P ++ (emit ⟨x0, xs[i + 1], c.take j⟩ ++ emit ⟨x0, xs[i], c.drop j⟩)) (i := P.length + j) (k := .i64) rfl hgt
            rw [← esl] at ixr
            have fdr := Rec.field_row (R := rectR) (b := h.length) (n := 0) (f := 2) (l := P ++ (emit ⟨x0, xs[i + 1], c.take j⟩ ++ emit ⟨x0, xs[i], c.drop j⟩)) (i := P.length + j) (k := ⟨some true, some 4⟩) (g := some false)
            have str := Rec.store_cell (R := rectR) (h := (h ++ [rectR.row 55 (P ++ (emit ⟨x0, xs[i + 1], c.take j⟩ ++ emit ⟨x0, xs[i], c.drop j⟩))])) (b := h.length) (j := 2) (lo := lo) (t := 55) (l := P ++ (emit ⟨x0, xs[i + 1], c.take j⟩ ++ emit ⟨x0, xs[i], c.drop j⟩)) (i := P.length + j) (v := .int .i64 xs[i + 1]) (a := ⟨x0, c[j].1, xs[i + 1], c[j].2⟩) rfl end0 hlo0 hgt (by decide) (by rw [eg]; rfl)
            rw [es] at str
            generalize P ++ (emit ⟨x0, xs[i + 1], c.take j⟩ ++ emit ⟨x0, xs[i], c.drop j⟩) = oj at *
            generalize P ++ (emit ⟨x0, xs[i + 1], c.take (j + 1)⟩ ++ emit ⟨x0, xs[i], c.drop (j + 1)⟩) = oj1 at *
            generalize hQ : ((P.length + j : Nat) : Int) = Q at *
            generalize hQ1 : ((P.length + (j + 1) : Nat) : Int) = Q1 at *
            simp -implicitDefEqProofs [k22_11] at ih
            simp -implicitDefEqProofs [r22_11, k22_11, Rec.sl_len, hlo, hlt, w1, w2, ix1, ixr, fdr, str, hl1, trim_le, -Int.natCast_add, -List.length_append]
            exact ih
          · have e1 : c.take j = c := List.take_of_length_le (by omega)
            have e2 : c.drop j = [] := List.drop_of_length_le (by omega)
            have e3 : emit ⟨x0, xs[i], []⟩ = [] := rfl
            have hlt : ¬ (((P.length + j : Nat) : Int) < ((P.length + c.length : Nat) : Int)) := by omega
            have hltN : ¬ (P.length + j < P.length + c.length) := by omega
            rw [e1, e2, e3, List.append_nil]
            simp -implicitDefEqProofs [r22_11, k22_11, Rec.sl_len, hlo, hlt, hl1, trim_le, -Int.natCast_add, -List.length_append]
      · have hnx : c = [] ∨ (i ≠ 0 → c ≠ w) := by
          by_cases h0 : c = []
          · exact .inl h0
          · exact .inr fun hi0 he => hmg ⟨hi0, h0, he⟩
        obtain ⟨o, ho⟩ : ∃ o, o = FS.out ⟨i, P, x0, w⟩ xs := ⟨_, rfl⟩
        have hol : o.length ≤ bnd i := by
          rw [ho]; unfold FS.out
          split
          · exact Nat.zero_le _
          · rw [List.length_append, emit_len]; exact h4
        have hbi := bnd_le (i := i) (by omega)
        have h4' : o.length + c.length ≤ bnd (i + 1) := by rw [bnd_succ]; omega
        have hnew : o ++ outT (runs ⟨xs[i], xs[i + 1], c⟩ (S.drop (i + 1))) = F := by
          rw [ho]; unfold FS.out
          by_cases hi0 : i = 0
          · rw [if_pos hi0, List.nil_append, ← hFe]
            subst hi0
            rw [List.drop_zero] at hdS
            rw [hdS]; rfl
          · rw [if_neg hi0]
            have h3 := h3 hi0
            rw [hdS, next_run (s := ⟨xs[i], xs[i + 1], c⟩) (by rcases hnx with h | h; exact .inl h; exact .inr (h hi0)), ← List.append_assoc] at h3
            exact h3
        have ih := ih ⟨i + 1, o, xs[i], c⟩ (by show S.length - (i + 1) < S.length - i; omega) ⟨by show i + 1 ≤ S.length; omega, fun h => absurd h (Nat.succ_ne_zero i), fun _ => by show o ++ outT (runs ⟨xs[i], xs.getD (i + 1) 0, c⟩ (S.drop (i + 1))) = F; rw [gx1]; exact hnew, h4', by show c.length ≤ 5000; omega⟩
        have eo1 : FS.out ⟨i + 1, o, xs[i], c⟩ xs = o ++ emit ⟨xs[i], xs[i + 1], c⟩ := by unfold FS.out; rw [if_neg (Nat.succ_ne_zero i), gx1]
        have ew1 : FS.was ⟨i + 1, o, xs[i], c⟩ = iT (ends c) := if_neg (Nat.succ_ne_zero i)
        simp only [eo1, ew1] at ih
        simp only [← ho]
        simp -implicitDefEqProofs [k22_6, -Int.natCast_add] at ih
        have three : i = 0 ∨ (i ≠ 0 ∧ c = []) ∨ (i ≠ 0 ∧ c ≠ [] ∧ c ≠ w) := by
          by_cases hi0 : i = 0
          · exact .inl hi0
          · by_cases hc0 : c = []
            · exact .inr (.inl ⟨hi0, hc0⟩)
            · exact .inr (.inr ⟨hi0, hc0, fun e => hmg ⟨hi0, hc0, e⟩⟩)
        have hG : (0 < i ∧ 0 < (ends c).length → FS.was ⟨i, P, x0, w⟩ = iT (ends w) ∧ decide (ends c = ends w) = false) := fun ⟨h, h'⟩ => by
          have hi0 : i ≠ 0 := by omega
          refine ⟨if_neg hi0, decide_eq_false fun e => ?_⟩
          have ecw : c = w := by rw [← Rg.pairs_ends c, e, Rg.pairs_ends]
          rcases hnx with h0 | h0
          · subst h0; simp [ends] at h'
          · exact h0 hi0 ecw
        have cw := ints_spec (ends c) (ends w) (by omega)
        generalize FS.was ⟨i, P, x0, w⟩ = wv at hG ⊢
        by_cases gi : 0 < i
        · by_cases gc : 0 < (ends c).length
          · obtain ⟨ew, ed⟩ := hG ⟨gi, gc⟩
            rw [ed] at cw
            subst ew
            simp -implicitDefEqProofs [r22_6, k22_6, iT_len, w1, hii, ix0, ret1 m45, ret1 m44, so, so2, so3, q1, q2, q3, gi, gc, ret0 m46, iT_reify, cw, Rec.sl_len, -Int.natCast_add]
            have st17 := fun (o' : List Rect) (j : Nat) (hj : j < c.length) (ho : o'.length ≤ 200000000) => app_rect (h := (h ++ [rectR.row 55 o'])) (b := h.length) (lo := lo) (c := o') ⟨xs[i], c[j].1, xs[i + 1], c[j].2⟩ end0 hlo0 (by omega)
            rw [LL_for (γ := List Rect) c o (fun j o' => [(7, rectR.sl h.length o'), (14, .int .i64 ((2 * j : Nat) : Int))]) (fun _ o' => (h ++ [rectR.row 55 o']))
              (fun _ rest o' => (.exit 4, [(7, rectR.sl h.length (o' ++ emit ⟨xs[i], xs[i + 1], rest⟩)), (14, undef)], (h ++ [rectR.row 55 (o' ++ emit ⟨xs[i], xs[i + 1], rest⟩)]))) (fun j o' => o'.length = o.length + j) (by omega) rfl]
            · simp -implicitDefEqProofs [k22_17, w1, trim_le, -Int.natCast_add]
              exact ih
            · simp -implicitDefEqProofs [k22_17]
            · rfl
            · intro nx j o' hj _
              have e0 : emit ⟨xs[i], xs[i + 1], []⟩ = [] := rfl
              have w2 : IntKind.i64.wrap (((2 * j : Nat) : Int) + 1) = ((2 * j + 1 : Nat) : Int) := wrap64 (by omega) (by omega)
              have hjn : ¬ (((2 * j + 1 : Nat) : Int) < ((ends c).length : Int)) := by omega
              have hjn' : ¬ (2 * j + 1 < (ends c).length) := by omega
              simp -implicitDefEqProofs [r22_17, k22_17, iT_len, w2, hjn, e0, trim_le, -Int.natCast_add, -Int.natCast_mul]
            · intro nx j s rest o' hj hv hd hw ho ih
              obtain ⟨g1, g2, g3, g4⟩ := ends_at hj
              have st := st17 o' j hj (by omega)
              rw [hv] at g3 g4 st
              have w2 : IntKind.i64.wrap (((2 * j : Nat) : Int) + 1) = ((2 * j + 1 : Nat) : Int) := wrap64 (by omega) (by omega)
              have w3 : IntKind.i64.wrap (((2 * j : Nat) : Int) + 2) = ((2 * (j + 1) : Nat) : Int) := (wrap64 (by omega) (by omega)).trans (by omega)
              have hjn : ((2 * j + 1 : Nat) : Int) < ((ends c).length : Int) := by omega
              have ixa := iT_index (l := ends c) (i := 2 * j) g1
              have ixb := iT_index (l := ends c) (i := 2 * j + 1) g2
              rw [g3] at ixa
              rw [g4] at ixb
              have ih := ih (o' ++ [⟨xs[i], s.1, xs[i + 1], s.2⟩]) (by rw [List.length_append]; show o'.length + 1 = _; omega)
              rw [emit_cons, ← List.append_assoc]
              simp -implicitDefEqProofs [k22_17, -List.append_assoc, -Int.natCast_add, -Int.natCast_mul] at ih
              simp -implicitDefEqProofs [r22_17, k22_17, iT_len, w1, w2, w3, hjn, ix0, ix1, ixa, ixb, b4_all, lit_rect, st, hl1, trim_le, -List.append_assoc, -Int.natCast_add, -Int.natCast_mul]
              exact ih
          · simp -implicitDefEqProofs [r22_6, k22_6, iT_len, w1, hii, ix0, ret1 m45, ret1 m44, so, so2, so3, q1, q2, q3, gi, gc, Rec.sl_len, -Int.natCast_add]
            have st17 := fun (o' : List Rect) (j : Nat) (hj : j < c.length) (ho : o'.length ≤ 200000000) => app_rect (h := (h ++ [rectR.row 55 o'])) (b := h.length) (lo := lo) (c := o') ⟨xs[i], c[j].1, xs[i + 1], c[j].2⟩ end0 hlo0 (by omega)
            rw [LL_for (γ := List Rect) c o (fun j o' => [(7, rectR.sl h.length o'), (14, .int .i64 ((2 * j : Nat) : Int))]) (fun _ o' => (h ++ [rectR.row 55 o']))
              (fun _ rest o' => (.exit 4, [(7, rectR.sl h.length (o' ++ emit ⟨xs[i], xs[i + 1], rest⟩)), (14, undef)], (h ++ [rectR.row 55 (o' ++ emit ⟨xs[i], xs[i + 1], rest⟩)]))) (fun j o' => o'.length = o.length + j) (by omega) rfl]
            · simp -implicitDefEqProofs [k22_17, w1, trim_le, -Int.natCast_add]
              exact ih
            · simp -implicitDefEqProofs [k22_17]
            · rfl
            · intro nx j o' hj _
              have e0 : emit ⟨xs[i], xs[i + 1], []⟩ = [] := rfl
              have w2 : IntKind.i64.wrap (((2 * j : Nat) : Int) + 1) = ((2 * j + 1 : Nat) : Int) := wrap64 (by omega) (by omega)
              have hjn : ¬ (((2 * j + 1 : Nat) : Int) < ((ends c).length : Int)) := by omega
              have hjn' : ¬ (2 * j + 1 < (ends c).length) := by omega
              simp -implicitDefEqProofs [r22_17, k22_17, iT_len, w2, hjn, e0, trim_le, -Int.natCast_add, -Int.natCast_mul]
            · intro nx j s rest o' hj hv hd hw ho ih
              obtain ⟨g1, g2, g3, g4⟩ := ends_at hj
              have st := st17 o' j hj (by omega)
              rw [hv] at g3 g4 st
              have w2 : IntKind.i64.wrap (((2 * j : Nat) : Int) + 1) = ((2 * j + 1 : Nat) : Int) := wrap64 (by omega) (by omega)
              have w3 : IntKind.i64.wrap (((2 * j : Nat) : Int) + 2) = ((2 * (j + 1) : Nat) : Int) := (wrap64 (by omega) (by omega)).trans (by omega)
              have hjn : ((2 * j + 1 : Nat) : Int) < ((ends c).length : Int) := by omega
              have ixa := iT_index (l := ends c) (i := 2 * j) g1
              have ixb := iT_index (l := ends c) (i := 2 * j + 1) g2
              rw [g3] at ixa
              rw [g4] at ixb
              have ih := ih (o' ++ [⟨xs[i], s.1, xs[i + 1], s.2⟩]) (by rw [List.length_append]; show o'.length + 1 = _; omega)
              rw [emit_cons, ← List.append_assoc]
              simp -implicitDefEqProofs [k22_17, -List.append_assoc, -Int.natCast_add, -Int.natCast_mul] at ih
              simp -implicitDefEqProofs [r22_17, k22_17, iT_len, w1, w2, w3, hjn, ix0, ix1, ixa, ixb, b4_all, lit_rect, st, hl1, trim_le, -List.append_assoc, -Int.natCast_add, -Int.natCast_mul]
              exact ih
        · simp -implicitDefEqProofs [r22_6, k22_6, iT_len, w1, hii, ix0, ret1 m45, ret1 m44, so, so2, so3, q1, q2, q3, gi, Rec.sl_len, -Int.natCast_add]
          have st17 := fun (o' : List Rect) (j : Nat) (hj : j < c.length) (ho : o'.length ≤ 200000000) => app_rect (h := (h ++ [rectR.row 55 o'])) (b := h.length) (lo := lo) (c := o') ⟨xs[i], c[j].1, xs[i + 1], c[j].2⟩ end0 hlo0 (by omega)
          rw [LL_for (γ := List Rect) c o (fun j o' => [(7, rectR.sl h.length o'), (14, .int .i64 ((2 * j : Nat) : Int))]) (fun _ o' => (h ++ [rectR.row 55 o']))
            (fun _ rest o' => (.exit 4, [(7, rectR.sl h.length (o' ++ emit ⟨xs[i], xs[i + 1], rest⟩)), (14, undef)], (h ++ [rectR.row 55 (o' ++ emit ⟨xs[i], xs[i + 1], rest⟩)]))) (fun j o' => o'.length = o.length + j) (by omega) rfl]
          · simp -implicitDefEqProofs [k22_17, w1, trim_le, -Int.natCast_add]
            exact ih
          · simp -implicitDefEqProofs [k22_17]
          · rfl
          · intro nx j o' hj _
            have e0 : emit ⟨xs[i], xs[i + 1], []⟩ = [] := rfl
            have w2 : IntKind.i64.wrap (((2 * j : Nat) : Int) + 1) = ((2 * j + 1 : Nat) : Int) := wrap64 (by omega) (by omega)
            have hjn : ¬ (((2 * j + 1 : Nat) : Int) < ((ends c).length : Int)) := by omega
            have hjn' : ¬ (2 * j + 1 < (ends c).length) := by omega
            simp -implicitDefEqProofs [r22_17, k22_17, iT_len, w2, hjn, e0, trim_le, -Int.natCast_add, -Int.natCast_mul]
          · intro nx j s rest o' hj hv hd hw ho ih
            obtain ⟨g1, g2, g3, g4⟩ := ends_at hj
            have st := st17 o' j hj (by omega)
            rw [hv] at g3 g4 st
            have w2 : IntKind.i64.wrap (((2 * j : Nat) : Int) + 1) = ((2 * j + 1 : Nat) : Int) := wrap64 (by omega) (by omega)
            have w3 : IntKind.i64.wrap (((2 * j : Nat) : Int) + 2) = ((2 * (j + 1) : Nat) : Int) := (wrap64 (by omega) (by omega)).trans (by omega)
            have hjn : ((2 * j + 1 : Nat) : Int) < ((ends c).length : Int) := by omega
            have ixa := iT_index (l := ends c) (i := 2 * j) g1
            have ixb := iT_index (l := ends c) (i := 2 * j + 1) g2
            rw [g3] at ixa
            rw [g4] at ixb
            have ih := ih (o' ++ [⟨xs[i], s.1, xs[i + 1], s.2⟩]) (by rw [List.length_append]; show o'.length + 1 = _; omega)
            rw [emit_cons, ← List.append_assoc]
            simp -implicitDefEqProofs [k22_17, -List.append_assoc, -Int.natCast_add, -Int.natCast_mul] at ih
            simp -implicitDefEqProofs [r22_17, k22_17, iT_len, w1, w2, w3, hjn, ix0, ix1, ixa, ixb, b4_all, lit_rect, st, hl1, trim_le, -List.append_assoc, -Int.natCast_add, -Int.natCast_mul]
            exact ih
    · have hfin : i = S.length := by omega
      have hout : FS.out ⟨i, P, x0, w⟩ xs = F := by
        unfold FS.out
        by_cases hi0 : i = 0
        · rw [if_pos hi0, ← hFe]
          have : S = [] := List.eq_nil_of_length_eq_zero (by omega)
          rw [this]; rfl
        · rw [if_neg hi0]
          have h3 := h3 hi0
          rw [List.drop_of_length_le (by omega), Rg.runs_end] at h3
          exact h3
      have w1 : IntKind.i64.wrap ((i : Int) + 1) = ((i + 1 : Nat) : Int) := wrap64 (by omega) (by omega)
      have hii : ¬ (((i + 1 : Nat) : Int) < (xs.length : Int)) := by omega
      rw [hout]
      simp -implicitDefEqProofs [r22_6, k22_6, iT_len, w1, hii, trim_le, -Int.natCast_add]
theorem form_spec2 (k m : Option Bool) (a b : List Rect) (z : Int) (f : Bool → Bool → Bool) (hz : (z = 0 ∧ f = orF) ∨ (z = 1 ∧ f = andF) ∨ (z = 2 ∧ f = subF)) (hk : Rec.Ok k a) (hm : Rec.Ok m b) (hab : a.length + b.length ≤ 1000) (hya : ∀ r ∈ a, r.y0 < r.y1) (hyb : ∀ r ∈ b, r.y0 < r.y1)
    (h : Heap) (lo : Nat) (hlo : lo ≤ h.length) :
    retCall E (L E) lo false 22 [rectR.o k a, rectR.o m b, .int .i64 z] h = some (rectR.sl h.length (refL f a b), h ++ [rectR.row 55 (refL f a b)]) := by
  rw [ret3 m22]
  show ((L E 22 [rectR.o k a, rectR.o m b, .int .i64 z] h lo).map _) = _
  rw [form_L k m a b z f hz hk hm hab hya hyb h lo hlo]
  show some (_, trim _ _ _) = _
  rw [trim_no]
  have hn : ¬ (h.length < h.length) := Nat.lt_irrefl _
  exact decide_eq_false hn
theorem form_spec (k m : Option Bool) (a b : List Rect) (z : Int) (f : Bool → Bool → Bool) (hz : (z = 0 ∧ f = orF) ∨ (z = 1 ∧ f = andF) ∨ (z = 2 ∧ f = subF)) (hk : Rec.Ok k a) (hm : Rec.Ok m b) (ha : a.length ≤ 500) (hb : b.length ≤ 500) (hya : ∀ r ∈ a, r.y0 < r.y1) (hyb : ∀ r ∈ b, r.y0 < r.y1)
    (h : Heap) (lo : Nat) (hlo : lo ≤ h.length) :
    retCall E (L E) lo false 22 [rectR.o k a, rectR.o m b, .int .i64 z] h = some (rectR.sl h.length (refL f a b), h ++ [rectR.row 55 (refL f a b)]) :=
  form_spec2 k m a b z f hz hk hm (by omega) hya hyb h lo hlo
end Go.Proofs.Ytimjfondgdhfcaa.Bm
namespace Go.Proofs.Ytimjfondgdhfcaa.Bm
open Go Go.RowKit
open Rg (Rect cell ofL opL)
end Go.Proofs.Ytimjfondgdhfcaa.Bm
namespace Go.Proofs.Ytimjfondgdhfcaa.Bm
open Go Go.RowKit
open Rg (Rect Pt Zn rightP polyL comA comP Once cell opL)
theorem reg_box {a : List Rect} (h : regB a = true) : ∀ r ∈ a, r.inBox 1048576 := fun r hr => okR_iff.1 ((reg_ok h).1 r hr)
theorem reg_form {a : List Rect} (h : regB a = true) : Rg.Form a := (regB_iff.1 h).2.2
end Go.Proofs.Ytimjfondgdhfcaa.Bm
namespace Go.Proofs.Ytimjfondgdhfcaa.Bm
open Go Go.RowKit
open Rg (Rect Pt Zn rightP polyL comA comP Once cell opL bestW isO namesF noBet inL)
end Go.Proofs.Ytimjfondgdhfcaa.Bm
namespace Go.Proofs.Ytimjfondgdhfcaa.Rg
open Bm (sortI sortI_perm sortI_sorted sortI_len)
def lowN : List Int → Int → Nat
  | [], _ => 0
  | a :: l, z => if a < z then lowN l z + 1 else 0
theorem lowN_le : ∀ (l : List Int) (z : Int), lowN l z ≤ l.length
  | [], _ => Nat.le_refl _
  | a :: l, z => by
    have ih := lowN_le l z
    unfold lowN
    split
    · rw [List.length_cons]; omega
    · exact Nat.zero_le _
def ins7 (o : List Int) (z : Int) : List Int := if lowN o z < o.length ∧ o.getD (lowN o z) 0 = z then o else putAt o (lowN o z) z
theorem ins7_eq (z : Int) : ∀ o : List Int, ins7 o z = insU z o
  | [] => rfl
  | a :: o => by
    have ih := ins7_eq z o
    unfold ins7 at ih ⊢
    unfold insU lowN
    by_cases h : a < z
    · rw [if_pos h, if_neg (show ¬ z < a by omega), if_neg (show ¬ z = a by omega), ← ih]
      have e : (a :: o).getD (lowN o z + 1) 0 = o.getD (lowN o z) 0 := by simp
      rw [e, List.length_cons]
      by_cases q : lowN o z < o.length ∧ o.getD (lowN o z) 0 = z
      · rw [if_pos q, if_pos ⟨by omega, q.2⟩]
      · rw [if_neg q, if_neg fun k => q ⟨by omega, k.2⟩]; rfl
    · rw [if_neg h]
      have e : (a :: o).getD 0 0 = a := rfl
      rw [e]
      by_cases q : z = a
      · subst q
        rw [if_pos ⟨Nat.zero_lt_succ _, rfl⟩, if_neg (show ¬ z < z by omega), if_pos rfl]
      · rw [if_neg fun k => q k.2.symm, if_pos (show z < a by omega)]; rfl
theorem ins7_sortU (l : List Int) : l.foldl ins7 [] = sortU l := by
  have key : ∀ (l o : List Int), o.Pairwise (· < ·) → (l.foldl ins7 o).Pairwise (· < ·) ∧ ∀ w, w ∈ l.foldl ins7 o ↔ w ∈ l ∨ w ∈ o := by
    intro l
    induction l with
    | nil => exact fun o h => ⟨h, fun w => by simp⟩
    | cons z l ih =>
      intro o h
      obtain ⟨h2, h3⟩ := ih (ins7 o z) (by rw [ins7_eq]; exact insU_asc h)
      refine ⟨h2, fun w => ?_⟩
      rw [List.foldl_cons, h3, ins7_eq, insU_mem, List.mem_cons]
      exact ⟨fun h => h.elim (fun h => .inl (.inr h)) fun h => h.elim (fun h => .inl (.inl h)) .inr, fun h => h.elim (fun h => h.elim (fun h => .inr (.inl h)) .inl) fun h => .inr (.inr h)⟩
  obtain ⟨h1, h2⟩ := key l [] .nil
  refine asc_ext h1 (sortU_asc l) fun w => ?_
  rw [h2, sortU_mem]; simp
def corn7 (p : List Pt) (i : Nat) : Bool := onB (sd p i).1 && (decide ((sd p i).1.1 = (sd p i).2.1) != decide ((sd p i).1.2 = (sd p i).2.2)) && (upS (sd p i) != upS (sd p ((i + 1) % p.length)))
theorem sd_pts {p : List Pt} {i : Nat} (h : i < p.length) : sd p i = (p.getD i (0, 0), p.getD ((i + 1) % p.length) (0, 0)) := by
  have hm : (i + 1) % p.length < p.length := Nat.mod_lt _ (by omega)
  rw [sd_get (by rw [sides_len]; exact h), sides_get h, List.getD_eq_getElem?_getD, List.getD_eq_getElem?_getD, List.getElem?_eq_getElem h, List.getElem?_eq_getElem hm]; rfl
theorem corn7_pts {p : List Pt} {i : Nat} (h : i < p.length) {a b c : Pt} (ha : p.getD i (0, 0) = a) (hb : p.getD ((i + 1) % p.length) (0, 0) = b) (hc : p.getD ((i + 2) % p.length) (0, 0) = c) :
    corn7 p i = (onB a && (decide (a.1 = b.1) != decide (a.2 = b.2)) && (decide (a.1 = b.1) != decide (b.1 = c.1))) := by
  have hm : (i + 1) % p.length < p.length := Nat.mod_lt _ (by omega)
  unfold corn7 upS
  rw [sd_pts h, sd_pts hm, ha, hb]
  have e : ((i + 1) % p.length + 1) % p.length = (i + 2) % p.length := by rw [Nat.mod_add_mod]
  rw [e, hc]
def meet7 (p : List Pt) (i k : Nat) : Bool := !(decide ((k + 1) % p.length ≠ i) && crossB (sd p i) (sd p k))
def row7 (p : List Pt) (i : Nat) : Bool := (decide (i = 0) || ltP (p.getD 0 (0, 0)) (p.getD i (0, 0))) && allFr (meet7 p i) (i + 2) (p.length - (i + 2))
def right7 (p : List Pt) : Bool := decide (4 ≤ p.length) && decide (p.length ≤ 60) && allFr (corn7 p) 0 p.length && decide ((sd p 0).1.2 = (sd p 0).2.2) && allFr (row7 p) 0 p.length
theorem right7_eq (p : List Pt) : right7 p = rightP p := by
  unfold right7 rightP
  by_cases hl : 4 ≤ p.length
  · have e1 : allFr (row7 p) 0 p.length = (allFr (fun i => decide (i = 0) || ltP (p.getD 0 (0, 0)) (p.getD i (0, 0))) 0 p.length && allFr (crI p) 0 p.length) := by
      rw [← allFr_and]
      refine allFr_congr fun i _ hi => ?_
      unfold row7 crI
      congr 1
      refine allFr_congr fun k h1 h2 => ?_
      unfold meet7 crJ
      congr 2
      rw [decide_eq_decide]
      have hk : k < p.length := by omega
      by_cases hk1 : k + 1 < p.length
      · rw [Nat.mod_eq_of_lt hk1]; omega
      · have : k + 1 = p.length := by omega
        rw [this, Nat.mod_self]; omega
    have e2 : allFr (okI p) 0 p.length = (allFr (corn7 p) 0 p.length && allFr (fun i => decide (i = 0) || ltP (p.getD 0 (0, 0)) (p.getD i (0, 0))) 0 p.length) := by
      rw [← allFr_and]
      refine allFr_congr fun i _ hi => ?_
      unfold okI okJ corn7
      simp only [Bool.and_assoc]
    rw [e1, e2]
    cases hc : allFr (corn7 p) 0 p.length
    · simp only [Bool.and_false, Bool.false_and]
    · have h0 : corn7 p 0 = true := allFr_true.1 hc 0 (Nat.le_refl _) (by omega)
      unfold corn7 at h0
      rw [Bool.and_eq_true, Bool.and_eq_true] at h0
      have h1 := h0.1.2
      have e3 : (!upS (sd p 0)) = decide ((sd p 0).1.2 = (sd p 0).2.2) := by
        unfold upS
        cases hx : decide ((sd p 0).1.1 = (sd p 0).2.1) <;> cases hy : decide ((sd p 0).1.2 = (sd p 0).2.2) <;> rw [hx, hy] at h1 <;> first | rfl | exact absurd h1 (by decide)
      rw [e3]
      cases decide (4 ≤ p.length) <;> cases decide (p.length ≤ 60) <;> cases decide ((sd p 0).1.2 = (sd p 0).2.2) <;> cases allFr (fun i => decide (i = 0) || ltP (p.getD 0 (0, 0)) (p.getD i (0, 0))) 0 p.length <;> cases allFr (crI p) 0 p.length <;> rfl
  · rw [decide_eq_false hl]; rfl
def in7 (x : Int) (s : Pt × Pt) : Bool := decide (s.1.2 = s.2.2) && hB x s
def rows7 (p : List Pt) (x : Int) : List Int := ((sidesP p).filter (in7 x)).map fun s => s.1.2
theorem rows7_eq {p : List Pt} (h : Poly p) (x : Int) : rows7 p x = ysP p x := by
  unfold rows7 ysP
  congr 1
  refine List.filter_congr fun s hs => ?_
  unfold in7
  by_cases hu : s.1.1 = s.2.1
  · have : hB x s = false := by
      rw [Bool.eq_false_iff]
      intro q
      rw [hB_iff] at q
      omega
    rw [this, Bool.and_false]
  · rw [decide_eq_true (h.flat hs hu), Bool.true_and]
theorem sortU_strict {l : List Int} (h : l.Pairwise (· ≠ ·)) : sortU l = sortI l := by
  refine asc_ext (sortU_asc l) (strict (sortI_sorted l) ((sortI_perm l).symm.pairwise h fun h => Ne.symm h)) fun w => ?_
  rw [sortU_mem, (sortI_perm l).mem_iff]
theorem rows7_sort {p : List Pt} (h : Poly p) (x : Int) : sortU (rows7 p x) = sortI (ysP p x) := by
  rw [rows7_eq h, sortU_strict (h.ys_nodup x)]
end Go.Proofs.Ytimjfondgdhfcaa.Rg
