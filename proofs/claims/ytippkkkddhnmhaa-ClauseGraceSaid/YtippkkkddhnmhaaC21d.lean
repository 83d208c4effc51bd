/-
  Chapter 21: the law on days between which nothing changes. Conditions: integers within their kinds.
-/
import Derived.Test.YtippkkkddhnmhaaC21p
import Derived.Test.YtippkkkddhnmhaaC21s
namespace Go.Proofs.Ytippkkkddhnmhaa.Bm
open Go Go.RowKit

def i64ok (z : Int) : Prop := -9223372036854775808 ≤ z ∧ z ≤ 9223372036854775807
structure PlanOk (p : Plan) : Prop where
  len : p.rules.length ≤ maxLen
  names : okRules p.rules
  ints : ∀ r ∈ p.rules, i64ok r.fr ∧ i64ok r.un ∧ i64ok r.gr

def hits (n : Int) (r : Rule) : Bool := decide (r.fr = n) || (!decide (n = 0) && decide (r.un = n))

set_option maxHeartbeats 4000000 in
theorem stable_spec (x y : Bool) (p : Plan) (zones : List ByteArray) (day more : Int) (hp : PlanOk p) (hz : zones.length ≤ maxLen) (hd : i64ok day) (hm : 0 ≤ more ∧ more ≤ 65535) :
    ∃ h', L E 5 [p.val x, lst y (zones.map .string), .int .i64 day, .int .u16 more] [] 0 = some (.bool true, h') := by
  have few := few_spec x y p zones hp.len hp.names hz
  have nxt := next_spec x p day hp.len
  simp only [Plan.val, Plan.cells] at few nxt
  rw [L_fn F5 rfl]
  cases hf : fewB p zones
  · rw [hf] at few
    simp -implicitDefEqProofs [r5, padS, Plan.val, Plan.cells, ret0 m8, small_spec, ret0 m9, few]
  · rw [hf] at few
    have h20 : p.rules.length ≤ 20 := by
      unfold fewB at hf
      simp at hf
      exact hf.1.1
    by_cases h40 : 1099511627776 < day
    · simp -implicitDefEqProofs [r5, padS, Plan.val, Plan.cells, ret0 m8, small_spec, ret0 m9, few, h40]
    · unfold i64ok at hd
      have hw1 : IntKind.i64.wrap more = more := wrap64 (by omega) (by omega)
      have hw2 : IntKind.i64.wrap (day + more) = day + more := wrap64 (by omega) (by omega)
      have N := next_inv p day
      have ap := fun d => apply_spec x y p zones d (by omega) hp.names hz
      simp only [Plan.val, Plan.cells] at ap
      have il : (applyF zones day p.rules 0).length ≤ maxLen := Nat.le_trans (applyF_len _ _ _ _) hp.len
      have ints := fun d => ints_spec false false (applyF zones day p.rules 0) (applyF zones d p.rules 0) il
      have same : ∀ later, day ≤ later → ((nextN p day).2 = true → later < (nextN p day).1) → applyF zones day p.rules 0 = applyF zones later p.rules 0 := fun later h1 h2 =>
        apply_congr p.rules 0 fun r hr => by unfold applies; rw [force_same h1 h2 hr]
      have hany : (nextN p day).2 = true → p.rules.any (hits (nextN p day).1) = true := by
        intro hok
        obtain ⟨_, h2, _⟩ := N.yes hok
        obtain ⟨r, hr, e⟩ := mem_vals.1 h2
        refine List.any_eq_true.2 ⟨r, hr, ?_⟩
        unfold hits
        rcases e with e | ⟨e0, e⟩
        · simp [e]
        · simp [e, e0]
      have hfin : (!(nextN p day).2 || p.rules.any (hits (nextN p day).1)) = true := by
        cases hok : (nextN p day).2 with
        | false => rfl
        | true => rw [hany hok]; rfl
      have hlen := hp.len
      unfold maxLen at hlen
      have goal : ∀ (later : Int), day ≤ later → ((nextN p day).2 = true → later < (nextN p day).1) → applyF zones day p.rules 0 = applyF zones later p.rules 0 := same
      generalize hn : (nextN p day).1 = n at *
      generalize hok : (nextN p day).2 = ok at *
      cases ok
      · have e := same (day + more) (by omega) (by simp)
        have i1 := ints (day + more)
        rw [e] at i1
        simp -implicitDefEqProofs [r5, padS, Plan.val, Plan.cells, ret0 m8, small_spec, ret0 m9, few, h40, ret0 m10, nxt, hw1, hw2, ret1s m13, ap, ret0 m12, i1, e]
        rw [LL_rec (α := Nat × Bool) (0, true) (fun a => [(13, .bool a.2), (14, .int .i64 a.1)]) (fun _ => [.cells 30 (p.cells x) 0])
          (fun a => (.exit 0, [(13, .bool (a.2 || (p.rules.drop a.1).any (hits n))), (14, undef)], [.cells 30 (p.cells x) 0])) (fun a => a.1 ≤ p.rules.length) (fun a => p.rules.length - a.1)]
        · simp -implicitDefEqProofs [k5_12, -List.any_eq_true]
          try simpa using hfin
        · simp
        · simp -implicitDefEqProofs [k5_12]
        · rfl
        · intro nx a hi ih
          obtain ⟨i, f⟩ := a
          simp only at hi
          simp only [k5_12] at ih
          simp -implicitDefEqProofs [r5_12, k5_12, Plan.cells, -List.any_eq_true]
          by_cases h : i < p.rules.length
          · have hd : p.rules.drop i = p.rules[i] :: p.rules.drop (i + 1) := List.drop_eq_getElem_cons h
            have ha : (p.rules.drop i).any (hits n) = (hits n p.rules[i] || (p.rules.drop (i + 1)).any (hits n)) := by rw [hd]; rfl
            have hw := wrap64 (z := (i : Int) + 1) (by omega) (by omega)
            have ih := ih (i + 1, f || hits n p.rules[i]) (by simp; omega) (by simp; omega)
            simp -implicitDefEqProofs [Plan.cells, -List.any_eq_true] at ih
            rw [ha, ← Bool.or_assoc]
            cases f
            · by_cases h1 : p.rules[i].fr = n
              · have hh : hits n p.rules[i] = true := by simp [hits, h1]
                rw [hh] at ih ⊢
                simp -implicitDefEqProofs [-List.any_eq_true] at ih
                simp -implicitDefEqProofs [h, h1, Rule.val, Rule.cells, hw, trim_le, ih, -List.any_eq_true]
              · by_cases h2 : n = 0
                · subst h2
                  have hh : hits 0 p.rules[i] = false := by simp [hits, h1]
                  rw [hh] at ih ⊢
                  simp -implicitDefEqProofs [-List.any_eq_true] at ih
                  simp -implicitDefEqProofs [h, h1, Rule.val, Rule.cells, hw, trim_le, ih, -List.any_eq_true]
                · by_cases h3 : p.rules[i].un = n
                  · have hh : hits n p.rules[i] = true := by simp [hits, h1, h2, h3]
                    rw [hh] at ih ⊢
                    simp -implicitDefEqProofs [-List.any_eq_true] at ih
                    simp -implicitDefEqProofs [h, h1, h2, h3, Rule.val, Rule.cells, hw, trim_le, ih, -List.any_eq_true]
                  · have hh : hits n p.rules[i] = false := by simp [hits, h1, h2, h3]
                    rw [hh] at ih ⊢
                    simp -implicitDefEqProofs [-List.any_eq_true] at ih
                    simp -implicitDefEqProofs [h, h1, h2, h3, Rule.val, Rule.cells, hw, trim_le, ih, -List.any_eq_true]
            · simp -implicitDefEqProofs [-List.any_eq_true] at ih
              simp -implicitDefEqProofs [h, hw, trim_le, ih, -List.any_eq_true]
          · have hd : p.rules.drop i = [] := List.drop_eq_nil_of_le (by omega)
            simp -implicitDefEqProofs [h, hd, trim_le]
      · have hlt : day < n := by have := (N.yes hok).1; omega
        have hle : ¬ n ≤ day := by omega
        have hnb : n ≤ 9223372036854775807 := by
          obtain ⟨_, h2, _⟩ := N.yes hok
          rw [hn] at h2
          obtain ⟨r, hr, e⟩ := mem_vals.1 h2
          have := hp.ints r hr
          unfold i64ok at this
          rcases e with e | ⟨_, e⟩ <;> omega
        have hw3 : IntKind.i64.wrap (n - 1) = n - 1 := wrap64 (by omega) (by omega)
        by_cases hl : n ≤ day + more
        · have e := same (n - 1) (by omega) (fun _ => by omega)
          have i1 := ints (n - 1)
          rw [e] at i1
          simp -implicitDefEqProofs [r5, padS, Plan.val, Plan.cells, ret0 m8, small_spec, ret0 m9, few, h40, ret0 m10, nxt, hw1, hw2, hw3, hl, hle, ret1s m13, ap, ret0 m12, i1, e]
          rw [LL_rec (α := Nat × Bool) (0, false) (fun a => [(13, .bool a.2), (14, .int .i64 a.1)]) (fun _ => [.cells 30 (p.cells x) 0])
            (fun a => (.exit 0, [(13, .bool (a.2 || (p.rules.drop a.1).any (hits n))), (14, undef)], [.cells 30 (p.cells x) 0])) (fun a => a.1 ≤ p.rules.length) (fun a => p.rules.length - a.1)]
          · simp -implicitDefEqProofs [k5_12, -List.any_eq_true]
            try simpa using hfin
          · simp
          · simp -implicitDefEqProofs [k5_12]
          · rfl
          · intro nx a hi ih
            obtain ⟨i, f⟩ := a
            simp only at hi
            simp only [k5_12] at ih
            simp -implicitDefEqProofs [r5_12, k5_12, Plan.cells, -List.any_eq_true]
            by_cases h : i < p.rules.length
            · have hd : p.rules.drop i = p.rules[i] :: p.rules.drop (i + 1) := List.drop_eq_getElem_cons h
              have ha : (p.rules.drop i).any (hits n) = (hits n p.rules[i] || (p.rules.drop (i + 1)).any (hits n)) := by rw [hd]; rfl
              have hw := wrap64 (z := (i : Int) + 1) (by omega) (by omega)
              have ih := ih (i + 1, f || hits n p.rules[i]) (by simp; omega) (by simp; omega)
              simp -implicitDefEqProofs [Plan.cells, -List.any_eq_true] at ih
              rw [ha, ← Bool.or_assoc]
              cases f
              · by_cases h1 : p.rules[i].fr = n
                · have hh : hits n p.rules[i] = true := by simp [hits, h1]
                  rw [hh] at ih ⊢
                  simp -implicitDefEqProofs [-List.any_eq_true] at ih
                  simp -implicitDefEqProofs [h, h1, Rule.val, Rule.cells, hw, trim_le, ih, -List.any_eq_true]
                · by_cases h2 : n = 0
                  · subst h2
                    have hh : hits 0 p.rules[i] = false := by simp [hits, h1]
                    rw [hh] at ih ⊢
                    simp -implicitDefEqProofs [-List.any_eq_true] at ih
                    simp -implicitDefEqProofs [h, h1, Rule.val, Rule.cells, hw, trim_le, ih, -List.any_eq_true]
                  · by_cases h3 : p.rules[i].un = n
                    · have hh : hits n p.rules[i] = true := by simp [hits, h1, h2, h3]
                      rw [hh] at ih ⊢
                      simp -implicitDefEqProofs [-List.any_eq_true] at ih
                      simp -implicitDefEqProofs [h, h1, h2, h3, Rule.val, Rule.cells, hw, trim_le, ih, -List.any_eq_true]
                    · have hh : hits n p.rules[i] = false := by simp [hits, h1, h2, h3]
                      rw [hh] at ih ⊢
                      simp -implicitDefEqProofs [-List.any_eq_true] at ih
                      simp -implicitDefEqProofs [h, h1, h2, h3, Rule.val, Rule.cells, hw, trim_le, ih, -List.any_eq_true]
              · simp -implicitDefEqProofs [-List.any_eq_true] at ih
                simp -implicitDefEqProofs [h, hw, trim_le, ih, -List.any_eq_true]
            · have hd : p.rules.drop i = [] := List.drop_eq_nil_of_le (by omega)
              simp -implicitDefEqProofs [h, hd, trim_le]
        · have e := same (day + more) (by omega) (fun _ => by omega)
          have i1 := ints (day + more)
          rw [e] at i1
          simp -implicitDefEqProofs [r5, padS, Plan.val, Plan.cells, ret0 m8, small_spec, ret0 m9, few, h40, ret0 m10, nxt, hw1, hw2, hl, hle, ret1s m13, ap, ret0 m12, i1, e]
          rw [LL_rec (α := Nat × Bool) (0, false) (fun a => [(13, .bool a.2), (14, .int .i64 a.1)]) (fun _ => [.cells 30 (p.cells x) 0])
            (fun a => (.exit 0, [(13, .bool (a.2 || (p.rules.drop a.1).any (hits n))), (14, undef)], [.cells 30 (p.cells x) 0])) (fun a => a.1 ≤ p.rules.length) (fun a => p.rules.length - a.1)]
          · simp -implicitDefEqProofs [k5_12, -List.any_eq_true]
            try simpa using hfin
          · simp
          · simp -implicitDefEqProofs [k5_12]
          · rfl
          · intro nx a hi ih
            obtain ⟨i, f⟩ := a
            simp only at hi
            simp only [k5_12] at ih
            simp -implicitDefEqProofs [r5_12, k5_12, Plan.cells, -List.any_eq_true]
            by_cases h : i < p.rules.length
            · have hd : p.rules.drop i = p.rules[i] :: p.rules.drop (i + 1) := List.drop_eq_getElem_cons h
              have ha : (p.rules.drop i).any (hits n) = (hits n p.rules[i] || (p.rules.drop (i + 1)).any (hits n)) := by rw [hd]; rfl
              have hw := wrap64 (z := (i : Int) + 1) (by omega) (by omega)
              have ih := ih (i + 1, f || hits n p.rules[i]) (by simp; omega) (by simp; omega)
              simp -implicitDefEqProofs [Plan.cells, -List.any_eq_true] at ih
              rw [ha, ← Bool.or_assoc]
              cases f
              · by_cases h1 : p.rules[i].fr = n
                · have hh : hits n p.rules[i] = true := by simp [hits, h1]
                  rw [hh] at ih ⊢
                  simp -implicitDefEqProofs [-List.any_eq_true] at ih
                  simp -implicitDefEqProofs [h, h1, Rule.val, Rule.cells, hw, trim_le, ih, -List.any_eq_true]
                · by_cases h2 : n = 0
                  · subst h2
                    have hh : hits 0 p.rules[i] = false := by simp [hits, h1]
                    rw [hh] at ih ⊢
                    simp -implicitDefEqProofs [-List.any_eq_true] at ih
                    simp -implicitDefEqProofs [h, h1, Rule.val, Rule.cells, hw, trim_le, ih, -List.any_eq_true]
                  · by_cases h3 : p.rules[i].un = n
                    · have hh : hits n p.rules[i] = true := by simp [hits, h1, h2, h3]
                      rw [hh] at ih ⊢
                      simp -implicitDefEqProofs [-List.any_eq_true] at ih
                      simp -implicitDefEqProofs [h, h1, h2, h3, Rule.val, Rule.cells, hw, trim_le, ih, -List.any_eq_true]
                    · have hh : hits n p.rules[i] = false := by simp [hits, h1, h2, h3]
                      rw [hh] at ih ⊢
                      simp -implicitDefEqProofs [-List.any_eq_true] at ih
                      simp -implicitDefEqProofs [h, h1, h2, h3, Rule.val, Rule.cells, hw, trim_le, ih, -List.any_eq_true]
              · simp -implicitDefEqProofs [-List.any_eq_true] at ih
                simp -implicitDefEqProofs [h, hw, trim_le, ih, -List.any_eq_true]
            · have hd : p.rules.drop i = [] := List.drop_eq_nil_of_le (by omega)
              simp -implicitDefEqProofs [h, hd, trim_le]

end Go.Proofs.Ytippkkkddhnmhaa.Bm
