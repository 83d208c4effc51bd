/-
  Chapter 21: the reference's Apply, Next and May. Conditions: lists that are not too long.
-/
import Derived.Test.YtippkkkddhnmhaaC21e
import Derived.Test.YtippkkkddhnmhaaC21p
namespace Go.Proofs.Ytippkkkddhnmhaa.Bm
open Go Go.RowKit

theorem apply_ref (x y : Bool) (p : Plan) (zones : List ByteArray) (day : Int) (hp : p.rules.length ≤ 1000000) (hr : okRules p.rules) (hz : zones.length ≤ maxLen) :
    pureCall E.P (L E) 14 [p.val x, lst y (zones.map .string), .int .i64 day] = some (lst false ((applyF zones day p.rules 0).map (.int .i64))) := by
  rw [pureCall_fn F14 rfl]
  simp -implicitDefEqProofs [r14, padS, Plan.val, prep1, s3, Plan.cells]
  rw [LL_rec (α := Nat × List Int) (0, []) (fun a => [(7, .slice (some ⟨1, 0, some a.2.length⟩) a.2.length a.2.length), (8, .int .i64 a.1)]) (fun a => [.cells 30 (p.cells x) 0, .cells 3 (a.2.map (.int .i64)) 1])
    (fun a => let o := a.2 ++ applyF zones day (p.rules.drop a.1) a.1
      (.exit 0, [(7, .slice (some ⟨1, 0, some o.length⟩) o.length o.length), (8, undef)], [.cells 30 (p.cells x) 0, .cells 3 (o.map (.int .i64)) 1]))
    (fun a => a.1 ≤ p.rules.length ∧ a.2.length ≤ a.1) (fun a => p.rules.length - a.1)]
  · simp -implicitDefEqProofs [k14_3, s3, elems_one a3 s3]
    by_cases he : applyF zones day p.rules 0 = []
    · simp [he]
    · simp -implicitDefEqProofs [he]
      rw [List.take_of_length_le (by simp), reifyC_set (by simp -implicitDefEqProofs [List.all_eq_true])]
      simp
  · simp
  · simp -implicitDefEqProofs [k14_3]
  · rfl
  · intro nx a ⟨hi, ho⟩ ih
    obtain ⟨i, out⟩ := a
    simp only at hi ho
    simp only [k14_3] at ih
    simp -implicitDefEqProofs [r14_3, k14_3, Plan.cells]
    by_cases h : i < p.rules.length
    · have hd : p.rules.drop i = p.rules[i] :: p.rules.drop (i + 1) := List.drop_eq_getElem_cons h
      obtain ⟨q1, q2⟩ := hr p.rules[i] (List.getElem_mem h)
      have hw := wrap64 (z := (i : Int) + 1) (by omega) (by omega)
      simp -implicitDefEqProofs [h]
      generalize p.rules[i] = r at *
      have cs := applies_spec y r zones day q1 q2 hz
      simp only [Rule.val, Rule.cells] at cs
      have ap : applyF zones day (p.rules.drop i) i = if applies zones day r then (i : Int) :: applyF zones day (p.rules.drop (i + 1)) (i + 1) else applyF zones day (p.rules.drop (i + 1)) (i + 1) := by rw [hd]; rfl
      rw [ap]
      have ih1 := ih (i + 1, out) (by simp; omega) ⟨by simp; omega, by simp; omega⟩
      have ih2 := ih (i + 1, out ++ [(i : Int)]) (by simp; omega) ⟨by simp; omega, by simp; omega⟩
      simp -implicitDefEqProofs [Plan.cells] at ih1 ih2
      clear ih
      have hbd : (out.length + 1) * 8 ≤ 140737488355328 := by omega
      cases hc : applies zones day r
      · rw [hc] at cs
        simp -implicitDefEqProofs [Rule.val, Rule.cells, ret0 m24, cs, hw, trim_le]
        exact ih1
      · rw [hc] at cs
        simp -implicitDefEqProofs [Rule.val, Rule.cells, ret0 m24, cs, hw, trim_cut, build_one', appS_grown, Value.cells, hbd]
        exact ih2
    · have hd : p.rules.drop i = [] := List.drop_eq_nil_of_le (by omega)
      simp -implicitDefEqProofs [h, hd, applyF, trim_le]

def mayB (p : Plan) (day choice : Int) : Bool := p.rules.any (fun r => newB day r && decide (r.fr - 1 = choice)) || decide (choice = day)
theorem may_ref (x : Bool) (p : Plan) (day choice : Int) (hp : p.rules.length ≤ maxLen) (hd : day ≤ 9223372036854775807) (hf : ∀ r ∈ p.rules, r.fr ≤ 9223372036854775807) :
    pureCall E.P (L E) 18 [p.val x, .int .i64 day, .int .i64 choice] = some (.bool (mayB p day choice)) := by
  unfold maxLen at hp
  rw [pureCall_fn F18 rfl]
  unfold mayB
  simp -implicitDefEqProofs [r18, padS, Plan.val, Plan.cells]
  rw [LL_rec (α := Nat) 0 (fun i => [(7, .int .i64 i)]) (fun _ => [.cells 30 (p.cells x) 0]) (fun i => if (p.rules.drop i).any (fun r => newB day r && decide (r.fr - 1 = choice)) then (.ret, [(6, .bool true), (7, undef)], [.cells 30 (p.cells x) 0]) else (.exit 0, [(7, undef)], [.cells 30 (p.cells x) 0])) (fun i => i ≤ p.rules.length) (fun i => p.rules.length - i)]
  · cases h : p.rules.any (fun r => newB day r && decide (r.fr - 1 = choice)) <;> simp -implicitDefEqProofs only [List.drop_zero, h, Bool.false_eq_true, if_true, if_false, Bool.true_or, Bool.false_or]
    · simp -implicitDefEqProofs [k18_2]
    · simp -implicitDefEqProofs [k18_2]
  · simp
  · simp -implicitDefEqProofs [k18_2]
  · rfl
  · intro nx i hi ih
    simp only [k18_2] at ih
    simp -implicitDefEqProofs [r18_2, k18_2, Plan.cells, -List.any_eq_true]
    by_cases h : i < p.rules.length
    · have hdr : (p.rules.drop i).any (fun r => newB day r && decide (r.fr - 1 = choice)) = ((newB day p.rules[i] && decide (p.rules[i].fr - 1 = choice)) || (p.rules.drop (i + 1)).any (fun r => newB day r && decide (r.fr - 1 = choice))) := by rw [List.drop_eq_getElem_cons h]; rfl
      have hb := hf p.rules[i] (List.getElem_mem h)
      have hw := wrap64 (z := (i : Int) + 1) (by omega) (by omega)
      have ns := new_spec p.rules[i] day hd
      have ih := ih (i + 1) (by omega) (by omega)
      simp -implicitDefEqProofs [Plan.cells, -List.any_eq_true] at ih
      simp only [Rule.val, Rule.cells] at ns
      cases hn : newB day p.rules[i]
      · rw [hn] at ns hdr
        simp -implicitDefEqProofs [-List.any_eq_true] at hdr
        simp -implicitDefEqProofs [h, Rule.val, Rule.cells, ret0 m28, ns, hw, hdr, trim_le, ih, -List.any_eq_true]
      · have h1 : 1 ≤ p.rules[i].fr := by unfold newB at hn; simp at hn; exact hn.1
        have hw2 := wrap64 (z := p.rules[i].fr - 1) (by omega) (by omega)
        rw [hn] at ns hdr
        by_cases hc : p.rules[i].fr - 1 = choice
        · rw [hc] at hw2
          simp -implicitDefEqProofs [hc, -List.any_eq_true] at hdr
          simp -implicitDefEqProofs [h, Rule.val, Rule.cells, ret0 m28, ns, hw2, hc, hdr, trim_le, -List.any_eq_true]
        · simp -implicitDefEqProofs [hc, -List.any_eq_true] at hdr
          simp -implicitDefEqProofs [h, Rule.val, Rule.cells, ret0 m28, ns, hw, hw2, hc, hdr, trim_le, ih, -List.any_eq_true]
    · have hd : p.rules.drop i = [] := List.drop_eq_nil_of_le (by omega)
      simp -implicitDefEqProofs [h, hd, trim_le]

end Go.Proofs.Ytippkkkddhnmhaa.Bm
