/-
  Loops over the elements of a list, in order: one rule for all of them. Conditions: the list is not too long for an index.
-/
import Derived.Test.YtgeebooalafepaaBmLit
namespace Go.Proofs.Ytgeebooalafepaa.Bm
open Go Go.RowKit

/-- A loop over a list: what it does from place 'i' on, where 'rest' is still to come. -/
theorem LL_for {k : List Nat × List Nat} {b : Body} {σ₀ : Slots} {h₀ : Heap} {β γ : Type} (l : List β) (c₀ : γ) (up : Nat → γ → List (Nat × Value)) (H : Nat → γ → Heap)
    (R : Nat → List β → γ → Exit × List (Nat × Value) × Heap) (I : Nat → γ → Prop) (hb : l.length ≤ 9223372036854775807)
    (hI : I 0 c₀) (e0 : sets (up 0 c₀) (forget k.1 σ₀) = forget k.1 σ₀) (e1 : H 0 c₀ = h₀)
    (stop : ∀ (nx : Body) i c, i = l.length → I i c → lopK k.1 k.2 nx (H i c).length (b (forget k.1 (sets (up i c) (forget k.1 σ₀))) (H i c)) = fin (forget k.1 σ₀) (R i [] c))
    (step : ∀ (nx : Body) i v rest c (hi : i < l.length), l[i] = v → l.drop i = v :: rest → IntKind.i64.wrap ((i : Int) + 1) = (i : Int) + 1 → I i c →
      (∀ c', I (i + 1) c' → nx (sets (up (i + 1) c') (forget k.1 σ₀)) (H (i + 1) c') = fin (forget k.1 σ₀) (R (i + 1) rest c')) →
      lopK k.1 k.2 nx (H i c).length (b (forget k.1 (sets (up i c) (forget k.1 σ₀))) (H i c)) = fin (forget k.1 σ₀) (R i (v :: rest) c)) :
    LL k b σ₀ h₀ = fin (forget k.1 σ₀) (R 0 l c₀) := by
  have key := LL_rec (k := k) (b := b) (σ₀ := σ₀) (h₀ := h₀) (α := Nat × γ) (0, c₀) (fun a => up a.1 a.2) (fun a => H a.1 a.2) (fun a => R a.1 (l.drop a.1) a.2) (fun a => a.1 ≤ l.length ∧ I a.1 a.2) (fun a => l.length - a.1)
    ⟨Nat.zero_le _, hI⟩ e0 e1 fun nx a ⟨h1, h2⟩ ih => ?_
  · simpa using key
  · obtain ⟨i, c⟩ := a
    simp only at h1 h2 ih ⊢
    by_cases hi : i < l.length
    · have hd : l.drop i = l[i] :: l.drop (i + 1) := List.drop_eq_getElem_cons hi
      rw [hd]
      refine step nx i l[i] (l.drop (i + 1)) c hi rfl hd (wrap64 (by omega) (by omega)) h2 fun c' hc' => ?_
      exact ih (i + 1, c') (by simp; omega) ⟨hi, hc'⟩
    · have : i = l.length := by omega
      rw [List.drop_eq_nil_of_le (by omega)]
      exact stop nx i c this h2

end Go.Proofs.Ytgeebooalafepaa.Bm
