/-
  More is known of some functions: what the machine did before it does still. Conditions: what was known is known.
-/
import Derived.Test.YtbadgapficfbpaaBmAll
namespace Go.Proofs.Ytbadgapficfbpaa.Bm
open Go Go.RowKit

/-- The same machine, with more functions of which it is known what they do. -/
def topE (E : Env) (g : FuncId → Option (List Value → Heap → Nat → Res)) : Env := { E with orc := g }

section
variable {E : Env} {g : FuncId → Option (List Value → Heap → Nat → Res)}

theorem top_aop {C : Callee} {lo : Nat} {st : Bool} {op : Op} {ρ : Operand → Value} {h : Heap} : aop (topE E g) C lo st op ρ h = aop E C lo st op ρ h := rfl
theorem top_eval {σ : Slots} {x : Operand} : evalA (topE E g) σ x = evalA E σ x := by cases x <;> rfl
theorem top_evalA {σ : Slots} : evalA (topE E g) σ = evalA E σ := funext fun _ => top_eval
theorem top_cls {op : Op} : clsOf (topE E g) op = clsOf E op := rfl
theorem top_strict {ops : Array Oper} {b : Array Nat} {i : Nat} {o : Oper} : strictAt (topE E g) ops b i o = strictAt E ops b i o := rfl
theorem top_with {draw : Bool} {ops : Array Oper} : withStrict (topE E g) draw ops = withStrict E draw ops := rfl
theorem top_run {C : Callee} {lo : Nat} {ops : Array Oper} : ∀ (l : List (Oper × Bool)) (σ : Slots) (h : Heap), runOps (topE E g) C lo ops l σ h = runOps E C lo ops l σ h
  | [], _, _ => rfl
  | (o, st) :: rest, σ, h => by
    simp only [runOps, top_aop, top_evalA, top_run rest]
theorem top_evG {f : FuncId} {C : Callee} {Lp : List Nat × List Nat → Body → Body} {lo : Nat} : ∀ (c : Code), evG (topE E g) f C Lp lo c = evG E f C Lp lo c := by
  intro c
  induction c with
  | seq a b iha ihb => funext σ h; simp only [evG, iha, ihb]
  | cond x a b iha ihb => funext σ h; simp only [evG, iha, ihb, top_eval]
  | block i a ih => funext σ h; simp only [evG, ih]
  | loop a ih => funext σ h; simp only [evG, ih]; rfl
  | scope a ih => funext σ h; simp only [evG, ih]
  | region id ops draw => funext σ h; simp only [evG, top_run, top_with]; rfl
  | _ => rfl
theorem top_ret {fn : Func} {σ : Slots} {h : Heap} : retA (topE E g) fn σ h = retA E fn σ h := rfl
theorem top_body {C : Callee} {Lp : List Nat × List Nat → Body → Body} {f : FuncId} {args : List Value} {h : Heap} {lo : Nat} : evBody (topE E g) C Lp f args h lo = evBody E C Lp f args h lo := by
  simp only [evBody, top_evG, top_ret]; rfl

theorem top_le (hg : ∀ f k, E.orc f = some k → ∃ k', g f = some k' ∧ ∀ args h lo r, k args h lo = some r → k' args h lo = some r) (hn : ∀ f, E.orc f = none → g f = none) : ∀ n, LeC (evF E n) (evF (topE E g) n)
  | 0 => fun _ _ _ _ _ h => by simp [evF] at h
  | n + 1 => by
    have ih := top_le hg hn n
    intro f args h lo r hr
    simp only [evF, evCall] at hr ⊢
    cases ho : E.orc f with
    | some k =>
      rw [ho] at hr
      obtain ⟨k', h1, h2⟩ := hg f k ho
      have e : (topE E g).orc f = some k' := h1
      simp only [e]
      exact h2 _ _ _ _ hr
    | none =>
      rw [ho] at hr
      have e : (topE E g).orc f = none := hn f ho
      simp only [e]
      rw [top_body]
      have := evCall_le (E := E) ih (Lp := evLoop n) (Lp' := evLoop n) (fun k b b' hb => evLoop_le k hb n n (Nat.le_refl _)) f args h lo r (by unfold evCall; rw [ho]; exact hr)
      unfold evCall at this
      rw [ho] at this
      exact this
theorem top_L (hg : ∀ f k, E.orc f = some k → ∃ k', g f = some k' ∧ ∀ args h lo r, k args h lo = some r → k' args h lo = some r) (hn : ∀ f, E.orc f = none → g f = none) : LeC (L E) (L (topE E g)) := fun f args h lo r hr => by
  obtain ⟨n, h1⟩ := L_some.1 hr
  exact L_some.2 ⟨n, top_le hg hn n _ _ _ _ _ h1⟩
theorem top_pure (hg : ∀ f k, E.orc f = some k → ∃ k', g f = some k' ∧ ∀ args h lo r, k args h lo = some r → k' args h lo = some r) (hn : ∀ f, E.orc f = none → g f = none) {f : FuncId} {args : List Value} {r : Value}
    (h : pureCall E.P (L E) f args = some r) : pureCall E.P (L (topE E g)) f args = some r := pureCall_le (top_L hg hn) h

theorem top_rc {f : FuncId} : ∀ (c : Code), rcOf (topE E g) f c = rcOf E f c := by
  intro c
  induction c with
  | seq a b iha ihb => simp only [rcOf, iha, ihb]
  | cond x a b iha ihb => simp only [rcOf, iha, ihb]
  | block i a ih => simp only [rcOf, ih]
  | loop a ih => simp only [rcOf, ih]; rfl
  | scope a ih => simp only [rcOf, ih]
  | region id ops draw => simp only [rcOf, top_with]; rfl
  | _ => rfl
theorem top_fn {f : FuncId} : rfnOf (topE E g) f = rfnOf E f := by
  simp only [rfnOf, top_rc]; rfl
end

end Go.Proofs.Ytbadgapficfbpaa.Bm
