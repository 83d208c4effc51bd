/-
  Chapter 36: the machine that knows what Why yields, and what was shown of the other functions. Conditions: none.
-/
import Derived.Test.YtbadgapficfbpaaC36h
import Derived.Test.YtbadgapficfbpaaBmTop
namespace Go.Proofs.Ytbadgapficfbpaa.Bm
open Go Go.RowKit

noncomputable def orc1 (f : FuncId) : Option (List Value → Heap → Nat → Res) := if f = 21 then some whyO else E.orc f
noncomputable def E1 : Env := topE E orc1

theorem orc1_le : ∀ f k, E.orc f = some k → ∃ k', orc1 f = some k' ∧ ∀ args h lo r, k args h lo = some r → k' args h lo = some r := fun f k hk => by
  unfold orc1
  by_cases hf : f = 21
  · subst hf
    have : k = noO := by
      rw [E_orc] at hk
      simp at hk
      exact hk.symm
    subst this
    exact ⟨whyO, by simp, fun args h lo r hr => by cases hr⟩
  · exact ⟨k, by rw [if_neg hf]; exact hk, fun _ _ _ _ hr => hr⟩
theorem orc1_none : ∀ f, E.orc f = none → orc1 f = none := fun f hf => by
  unfold orc1
  by_cases h : f = 21
  · subst h
    rw [E_orc] at hf
    simp at hf
  · rw [if_neg h]; exact hf

theorem lift {f : FuncId} {args : List Value} {r : Value} (h : pureCall E.P (L E) f args = some r) : pureCall E1.P (L E1) f args = some r := top_pure orc1_le orc1_none h
theorem fn1 {f : FuncId} {R : RFn} (h : rfnOf E f = some R) : rfnOf E1 f = some R := by
  unfold E1; rw [top_fn]; exact h
theorem frzAll_lst {P : Program} {lo : Nat} {x : Bool} {l : List Value} {h : Heap} : frzAll P lo [lst x l] h = some ([lst x l], h) := rfl

theorem ilist_inj {k k' : Option Bool} {l l' : List Int} (h : IOk k l) (h' : IOk k' l') (e : ilist k l = ilist k' l') : l = l' := by
  have hinj : ∀ {l l' : List Int}, l.map (Value.int .i64) = l'.map (.int .i64) → l = l' := fun {l l'} e => List.map_inj_right (fun a b h => by cases h; rfl) |>.1 e
  cases k with
  | none =>
    cases k' with
    | none => rw [h rfl, h' rfl]
    | some b => simp [ilist, lst] at e
  | some b =>
    cases k' with
    | none => simp [ilist, lst] at e
    | some b' =>
      simp only [ilist, lst, Value.func.injEq, Array.mk.injEq] at e
      exact hinj (by simpa using e.2.2)
theorem atts_inj : ∀ {l l' : List Claim}, CaseOk l → CaseOk l' → l.map Claim.val = l'.map Claim.val → atts l = atts l'
  | [], [], _, _, _ => rfl
  | [], _ :: _, _, _, e => by simp at e
  | _ :: _, [], _, _, e => by simp at e
  | a :: l, b :: l', hc, hc', e => by
    rw [List.map_cons, List.map_cons, List.cons.injEq] at e
    have ea : a.att = b.att := by
      have := e.1
      simp only [Claim.val, Claim.cells, Value.agg.injEq, Array.mk.injEq, List.cons.injEq] at this
      exact ilist_inj (hc a (by simp)).1 (hc' b (by simp)).1 this.2.2.1
    show a.att :: atts l = b.att :: atts l'
    rw [ea, atts_inj (fun c h => hc c (by simp [h])) (fun c h => hc' c (by simp [h])) e.2]
theorem case_inj {v : Value} {A A' : List (List Int)} (h : IsCase v A) (h' : IsCase v A') : A = A' := by
  obtain ⟨x, l, rfl, hc, _, rfl⟩ := h
  obtain ⟨x', l', e, hc', _, rfl⟩ := h'
  refine atts_inj hc hc' ?_
  simp only [lst, Value.func.injEq, Array.mk.injEq] at e
  simpa using e.2.2

theorem why_spec (x : Bool) (l : List Claim) (c : Int) (hc : CaseOk l) (hl : l.length ≤ maxLen) : pureCall E1.P (L E1) 21 [lst x (l.map Claim.val), .int .i64 c] = some (whyV (whyF (atts l) c)) := by
  have hk : ∃ A, IsCase (lst x (l.map Claim.val)) A := ⟨_, x, l, rfl, hc, hl, rfl⟩
  have : L E1 21 [lst x (l.map Claim.val), .int .i64 c] [] 0 = some (whyV (whyF (atts l) c), []) := by
    rw [L_orc (g := whyO) (by show orc1 21 = _; unfold orc1; rw [if_pos rfl])]
    simp only [whyO]
    rw [dif_pos hk, case_inj hk.choose_spec ⟨x, l, rfl, hc, hl, rfl⟩]
  unfold pureCall
  rw [this]
  unfold whyV
  split <;> rfl

end Go.Proofs.Ytbadgapficfbpaa.Bm
