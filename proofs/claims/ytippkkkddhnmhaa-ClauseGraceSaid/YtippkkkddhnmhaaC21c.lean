/-
  Chapter 21: the small examples, what is few, and the next day. Conditions: lists that are not too long.
-/
import Derived.Test.YtippkkkddhnmhaaC21b
namespace Go.Proofs.Ytippkkkddhnmhaa.Bm
open Go Go.RowKit

def fewR (r : Rule) : Bool := shortB r.zones && shortB r.exc
def fewB (p : Plan) (zones : List ByteArray) : Bool := decide (p.rules.length ≤ 20) && p.rules.all fewR && shortB zones

theorem few_spec (x y : Bool) (p : Plan) (zones : List ByteArray) (hp : p.rules.length ≤ maxLen) (hr : okRules p.rules) (hz : zones.length ≤ maxLen) :
    pureCall E.P (L E) 9 [p.val x, lst y (zones.map .string)] = some (.bool (fewB p zones)) := by
  unfold maxLen at hp
  have sz := short_spec y zones hz
  unfold fewB
  rw [pureCall_fn F9 rfl]
  by_cases h20 : p.rules.length ≤ 20
  · have h20' : ¬ (20 : Int) < p.rules.length := by omega
    simp -implicitDefEqProofs [r9, padS, Plan.val, Plan.cells, h20, h20']
    rw [LL_rec (α := Nat) 0 (fun i => [(5, .int .i64 i)]) (fun _ => [.cells 30 (p.cells x) 0]) (fun i => if (p.rules.drop i).all fewR = true then (.exit 0, [(5, undef)], [.cells 30 (p.cells x) 0]) else (.ret, [(4, .bool false), (5, undef)], [.cells 30 (p.cells x) 0])) (fun i => i ≤ p.rules.length) (fun i => p.rules.length - i)]
    · cases h : p.rules.all fewR <;> simp -implicitDefEqProofs only [List.drop_zero, h, Bool.false_eq_true, if_true, if_false, Bool.true_and, Bool.false_and]
      · simp -implicitDefEqProofs [k9_4]
      · simp -implicitDefEqProofs [k9_4, ret0 m21, sz]
    · simp
    · simp -implicitDefEqProofs [k9_4]
    · rfl
    · intro nx i hi ih
      simp only [k9_4] at ih
      simp -implicitDefEqProofs [r9_4, k9_4, -List.all_eq_true, Plan.cells]
      by_cases h : i < p.rules.length
      · obtain ⟨q1, q2⟩ := hr p.rules[i] (List.getElem_mem h)
        have hd : p.rules.drop i = p.rules[i] :: p.rules.drop (i + 1) := List.drop_eq_getElem_cons h
        have hw := wrap64 (z := (i : Int) + 1) (by omega) (by omega)
        have ih := ih (i + 1) (by omega) (by omega)
        simp -implicitDefEqProofs [h, -List.all_eq_true]
        have hm : (p.rules.drop i).all fewR = (fewR p.rules[i] && (p.rules.drop (i + 1)).all fewR) := by rw [hd]; rfl
        have s1 := short_spec false p.rules[i].zones q1
        have s2 := short_spec false p.rules[i].exc q2
        simp -implicitDefEqProofs [-List.all_eq_true, Plan.cells] at ih
        cases e1 : shortB p.rules[i].zones
        · simp -implicitDefEqProofs [hm, fewR, e1, Rule.val, Rule.cells, ret0 m21, s1, trim_le, -List.all_eq_true]
        · cases e2 : shortB p.rules[i].exc
          · simp -implicitDefEqProofs [h, hm, fewR, e1, e2, Rule.val, Rule.cells, ret0 m21, s1, s2, trim_le, -List.all_eq_true]
          · simp -implicitDefEqProofs [h, hm, fewR, e1, e2, Rule.val, Rule.cells, ret0 m21, s1, s2, trim_le, hw, ih, -List.all_eq_true]
            done
      · have hd : p.rules.drop i = [] := List.drop_eq_nil_of_le (by omega)
        simp -implicitDefEqProofs [h, hd, trim_le]
  · have h20' : (20 : Int) < p.rules.length := by omega
    simp -implicitDefEqProofs [r9, padS, Plan.val, Plan.cells, h20, h20']

/-! ### Next -/

def tryN (day : Int) (s : Int × Bool) (n : Int) : Int × Bool := if day < n ∧ (s.2 = false ∨ n < s.1) then (n, true) else s
def nextR1 (day : Int) (s : Int × Bool) (r : Rule) : Int × Bool := if r.un = 0 then tryN day s r.fr else tryN day (tryN day s r.fr) r.un
def nextN (p : Plan) (day : Int) : Int × Bool := p.rules.foldl (nextR1 day) (0, false)

theorem try_spec (day n nx : Int) (f : Bool) (o0 o4 : AObj) :
    L E 22 [.int .i64 n, .pointer (some ⟨1, 0, none⟩), .pointer (some ⟨3, 0, none⟩), .pointer (some ⟨2, 0, none⟩)] [o0, .cells 3 [.int .i64 day] 0, .cells 3 [.int .i64 nx] 0, .cells 4 [.bool f] 0, o4] 0 =
      some (.tuple #[], [o0, .cells 3 [.int .i64 day] 0, .cells 3 [.int .i64 (tryN day (nx, f) n).1] 0, .cells 4 [.bool (tryN day (nx, f) n).2] 0, o4]) := by
  rw [L_fn F22 rfl]
  unfold tryN
  by_cases h1 : day < n
  · cases f
    · simp -implicitDefEqProofs [r22, padS, h1]
    · by_cases h2 : n < nx
      · simp -implicitDefEqProofs [r22, padS, h1, h2]
      · simp -implicitDefEqProofs [r22, padS, h1, h2]
  · simp -implicitDefEqProofs [r22, padS, h1]

theorem next_spec (x : Bool) (p : Plan) (day : Int) (hp : p.rules.length ≤ maxLen) :
    pureCall E.P (L E) 10 [p.val x, .int .i64 day] = some (.tuple #[.int .i64 (nextN p day).1, .bool (nextN p day).2]) := by
  unfold maxLen at hp
  rw [pureCall_fn F10 rfl]
  simp -implicitDefEqProofs [r10, padS, Plan.val, Plan.cells]
  rw [LL_rec (α := Nat × Int × Bool) (0, 0, false) (fun a => [(15, .int .i64 a.1)]) (fun a => [.cells 30 (p.cells x) 0, .cells 3 [.int .i64 day] 0, .cells 3 [.int .i64 a.2.1] 0, .cells 4 [.bool a.2.2] 0])
    (fun a => let s := (p.rules.drop a.1).foldl (nextR1 day) a.2
      (.exit 0, [(15, undef)], [.cells 30 (p.cells x) 0, .cells 3 [.int .i64 day] 0, .cells 3 [.int .i64 s.1] 0, .cells 4 [.bool s.2] 0]))
    (fun a => a.1 ≤ p.rules.length) (fun a => p.rules.length - a.1)]
  · simp -implicitDefEqProofs [k10_4, nextN]
  · simp
  · simp -implicitDefEqProofs [k10_4]
  · rfl
  · intro nx a hi ih
    obtain ⟨i, n, f⟩ := a
    simp only at hi
    simp only [k10_4] at ih
    simp -implicitDefEqProofs [r10_4, k10_4, Plan.cells]
    by_cases h : i < p.rules.length
    · have hd : p.rules.drop i = p.rules[i] :: p.rules.drop (i + 1) := List.drop_eq_getElem_cons h
      have hw := wrap64 (z := (i : Int) + 1) (by omega) (by omega)
      have ih := ih (i + 1, nextR1 day (n, f) p.rules[i]) (by simp; omega) (by simp; omega)
      have hf : (p.rules.drop i).foldl (nextR1 day) (n, f) = (p.rules.drop (i + 1)).foldl (nextR1 day) (nextR1 day (n, f) p.rules[i]) := by rw [hd]; rfl
      rw [hf]
      simp -implicitDefEqProofs [Plan.cells] at ih
      unfold nextR1 at ih ⊢
      by_cases hu : p.rules[i].un = 0
      · simp -implicitDefEqProofs [hu] at ih
        simp -implicitDefEqProofs [h, hu, Rule.val, Rule.cells, ret2 m22, try_spec, trim_cut, hw]
        exact ih
      · simp -implicitDefEqProofs [hu] at ih
        simp -implicitDefEqProofs [h, hu, Rule.val, Rule.cells, ret2 m22, try_spec, trim_cut, hw]
        exact ih
    · have hd : p.rules.drop i = [] := List.drop_eq_nil_of_le (by omega)
      simp -implicitDefEqProofs [h, hd, trim_le]

end Go.Proofs.Ytippkkkddhnmhaa.Bm
